/-
  Texts of one claim, merged: 13 parts.
-/
import Derived.Test.YtigmojilaadbhaaGreatDoorMug
import Derived.Test.YtigmojilaadbhaaGreatDoorRows
import Derived.Test.YtigmojilaadbhaaGreatDoorMua
import Derived.Test.YtigmojilaadbhaaGreatDoorMuf
import Derived.Lib.AppendIntMem
import Derived.Lib.Fields
import Derived.Lib.LaidTab
import Derived.LaidSub
import Derived.LaidMore
import Derived.LaidHandle
import Derived.Stop.Joined
import Derived.Lib.Bytealg
import Derived.Test.YtigmojilaadbhaaGreatDoorMuc
import Derived.Lib.Overlaps
set_option maxHeartbeats 16000000
/- . -/
namespace Go.Pln
open Go Go.Lib
theorem qcc {nodes groups : Int} {a : ActM} (h : mayAct nodes groups a = true) : 1 ≤ a.kind ∧ a.kind ≤ 13 := by
 unfold mayAct at h
 split at h
 ·
  omega
 split at h
 ·
  omega
 split at h
 ·
  omega
 split at h
 ·
  omega
 split at h
 ·
  omega
 split at h
 ·
  omega
 split at h
 ·
  omega
 ·
  cases h
theorem qgb : ∀ i : Fin 13, (kword (i.val + 1)).all okC = true ∧ kword (i.val + 1) ≠ [] ∧ ∀ j : Fin 13, kword (j.val + 1) = kword (i.val + 1) → j = i := by decide +kernel
theorem qfl {k : Int} (h : 1 ≤ k ∧ k ≤ 13) : (kword k).all okC = true := by
 have := (qgb ⟨(k - 1).toNat, by omega⟩).1
 simp only at this
 rw [show (((k - 1).toNat : Nat) : Int) + 1 = k from by omega] at this
 exact this
theorem qfL {i j : Nat} (hi : i < 13) (hj : j < 13) (h : kword ((i : Int) + 1) = kword ((j : Int) + 1)) : i = j := by
 have := (qgb ⟨j, hj⟩).2.2 ⟨i, hi⟩ h
 exact congrArg Fin.val this
theorem askW_ok (a : AskM) : ∀ w ∈ askW a, w.all okC = true := by
 intro w hw
 unfold askW at hw
 have hw1 := fun b => (qgC b).1
 have hi := fun n => (qcI n).1
 split at hw
 ·
  simp only [List.mem_cons, List.not_mem_nil, or_false] at hw
  rcases hw with rfl | rfl
  ·
   decide
  ·
   exact hw1 _
 split at hw
 ·
  simp only [List.mem_cons, List.not_mem_nil, or_false] at hw
  rcases hw with rfl | rfl
  ·
   decide
  ·
   exact hw1 _
 split at hw
 ·
  simp only [List.mem_cons, List.not_mem_nil, or_false] at hw
  rcases hw with rfl | rfl | rfl
  ·
   decide
  ·
   exact hw1 _
  ·
   exact hw1 _
 split at hw
 ·
  simp only [List.mem_cons, List.not_mem_nil, or_false] at hw
  rcases hw with rfl | rfl | rfl | rfl
  ·
   decide
  ·
   exact hw1 _
  ·
   exact hw1 _
  ·
   exact hi _
 split at hw
 ·
  simp only [List.mem_cons, List.not_mem_nil, or_false] at hw
  rcases hw with rfl | rfl | rfl
  ·
   decide
  ·
   exact hw1 _
  ·
   exact hw1 _
 ·
  simp only [List.mem_cons, List.not_mem_nil, or_false] at hw
  rcases hw with rfl | rfl | rfl | rfl
  ·
   decide
  ·
   exact hw1 _
  ·
   exact hw1 _
  ·
   exact hw1 _
theorem planW_ok (c : CmdM) : ∀ w ∈ planW c, w.all okC = true := by
 intro w hw
 unfold planW at hw
 have hw1 := fun b => (qgC b).1
 split at hw
 ·
  simp only [List.mem_cons, List.not_mem_nil, or_false] at hw
  rcases hw with rfl | rfl
  ·
   decide
  ·
   exact hw1 _
 split at hw
 ·
  simp only [List.mem_cons, List.not_mem_nil, or_false] at hw
  rcases hw with rfl | rfl
  ·
   decide
  ·
   exact hw1 _
 ·
  simp only [List.mem_cons, List.not_mem_nil, or_false] at hw
  rcases hw with rfl | rfl | rfl
  ·
   decide
  ·
   exact hw1 _
  ·
   exact (qcI _).1
theorem qbV : ∀ {l : List (Bytes × Int)}, keepOk l = true → ∀ x ∈ l, nameOk x.1 = true ∧ 0 ≤ x.2 ∧ x.2 ≤ 2147483647
 | x :: l, h, y, hy => by
  simp only [keepOk, Bool.and_eq_true, decide_eq_true_iff] at h
  obtain ⟨⟨⟨h1, h2⟩, _⟩, h4⟩ := h
  rcases List.mem_cons.1 hy with rfl | hy
  ·
   exact ⟨h1, h2⟩
  ·
   exact qbV h4 y hy
theorem keepW_ok {l : List (Bytes × Int)} (h : keepOk l = true) : ∀ w ∈ keepW l, w.all okC = true := by
 intro w hw
 obtain ⟨x, hx, hw⟩ := List.mem_flatMap.1 hw
 simp only [List.mem_cons, List.not_mem_nil, or_false] at hw
 rcases hw with rfl | rfl
 ·
  exact (name_ok (qbV h x hx).1).1
 ·
  exact (qcI _).1
theorem qgQ {nodes groups : Int} {a : ActM} (h : mayAct nodes groups a = true) (hk : a.kind = 12) : keepOk a.keep = true := by
 unfold mayAct at h
 rw [if_neg (by omega), if_neg (by omega), if_neg (by omega), if_neg (by omega), if_neg (by omega), if_neg (by omega), if_pos hk] at h
 exact (of_decide_eq_true h).2.2.2.1
theorem qhB {nodes groups : Int} {a : ActM} (h : mayAct nodes groups a = true) : ∀ w ∈ restW a, w.all okC = true := by
 intro w hw
 have hi := fun n => (qcI n).1
 unfold restW at hw
 split at hw
 ·
  simp only [List.mem_cons, List.not_mem_nil, or_false] at hw; subst hw; exact hi _
 split at hw
 ·
  simp only [List.mem_cons, List.not_mem_nil, or_false] at hw; subst hw; exact hi _
 split at hw
 ·
  rcases List.mem_cons.1 hw with rfl | hw
  ·
   exact hi _
  ·
   exact planW_ok _ w hw
 split at hw
 ·
  simp only [List.mem_cons] at hw
  rcases hw with rfl | rfl | rfl | hw
  ·
   exact hi _
  ·
   exact hi _
  ·
   exact hi _
  ·
   exact askW_ok _ w hw
 split at hw
 ·
  simp only [List.mem_cons, List.not_mem_nil, or_false] at hw
  rcases hw with rfl | rfl | rfl <;> exact hi _
 split at hw
 ·
  rename_i hk
  rcases List.mem_cons.1 hw with rfl | hw
  ·
   exact hi _
  ·
   exact keepW_ok (qgQ h hk) w hw
 ·
  simp only [List.mem_cons, List.not_mem_nil, or_false] at hw
  rcases hw with rfl | rfl <;> exact hi _
def unlineP (s : Bytes) : Option ActM :=
 ((List.range 13).find? fun i : Nat => kword ((i : Int) + 1) == (cutS s).1).bind fun i =>
  if mayAct 5 5 (readS ((i : Int) + 1) (cutS s).2) = true ∧ lineM (readS ((i : Int) + 1) (cutS s).2) = s then some (readS ((i : Int) + 1) (cutS s).2) else none
theorem qdb {k : Int} (h : 1 ≤ k ∧ k ≤ 13) : ((List.range 13).find? fun i : Nat => kword ((i : Int) + 1) == kword k) = some (k - 1).toNat := by
 have hk : (((k - 1).toNat : Nat) : Int) + 1 = k := by omega
 have hs : ((List.range 13).find? fun i : Nat => kword ((i : Int) + 1) == kword k).isSome = true := by
  rw [List.find?_isSome]
  exact ⟨(k - 1).toNat, by simp; omega, by rw [hk]; simp⟩
 obtain ⟨i, hi⟩ := Option.isSome_iff_exists.1 hs
 rw [hi]
 have h1 := List.find?_some hi
 have h2 := List.mem_of_find?_eq_some hi
 simp only [beq_iff_eq] at h1
 rw [← hk] at h1
 have := qfL (by simpa using h2) (by omega) h1
 rw [this]
theorem qbW (s : Bytes) (a : ActM) : unlineP s = some a ↔ mayAct 5 5 a = true ∧ lineM a = s := by
 constructor
 ·
  intro h
  unfold unlineP at h
  obtain ⟨i, _, h⟩ := Option.bind_eq_some_iff.1 h
  split at h
  ·
   rename_i h1
   cases h
   exact h1
  ·
   cases h
 ·
  rintro ⟨h1, rfl⟩
  have hk := qcc h1
  have hc : cutS (lineM a) = (kword a.kind, joinW (restW a)) := qb3 (qfl hk)
  unfold unlineP
  rw [hc]
  simp only
  rw [qdb hk]
  simp only [Option.bind_some]
  rw [show (((a.kind - 1).toNat : Nat) : Int) + 1 = a.kind from by omega, readS_line (by decide) (by decide) h1, if_pos ⟨h1, rfl⟩]
def kindI (w : Bytes) : Int := match (List.range 13).find? fun i : Nat => kword ((i : Int) + 1) == w with
 | some i => (i : Int) + 1
 | none => 0
theorem qe6 {k : Int} (h : 1 ≤ k ∧ k ≤ 13) : kindI (kword k) = k := by
 unfold kindI
 rw [qdb h]
 simp only
 omega
def unlineR (s : Bytes) : Option ActM :=
 let w := wordsS s
 let x := readI (kindI ((w[0]?).getD [])) w
 if x.2 = true ∧ mayAct 5 5 x.1 = true ∧ lineM x.1 = s then some x.1 else none
theorem qa8 (b : Bytes) (l : List Bytes) (i : Nat) (h : l[i]? = some (wordM b)) : wordI l i = some b := by
 unfold wordI
 rw [h]
 exact unR_word b
theorem qbi {n : Int} (h0 : 0 ≤ n) (h1 : n ≤ 2147483647) (l : List Bytes) (i : Nat) (h : l[i]? = some (itoa n)) : numI l i = n := by
 unfold numI
 rw [h]
 exact qe5 h0 h1
theorem qhj {c : CmdM} (h : mayPlan c = true) (p q : Bytes) : planI (p :: q :: planW c) = (c, true) := by
 unfold mayPlan at h
 split at h
 ·
  rename_i hk
  obtain ⟨_, _, hc⟩ := of_decide_eq_true h
  rcases hk with hk | hk
  ·
   have e : planW c = [wSplit, wordM c.key] := by unfold planW; rw [if_pos hk]
   rw [e]
   unfold planI
   rw [if_neg (by simp), qa8 c.key _ 3 rfl]
   rw [hk] at hc
   show (if wSplit = wSplit then _ else _, true) = _
   rw [if_pos rfl]
   exact congrArg (·, true) hc.symm
  ·
   have e : planW c = [wUnion, wordM c.key] := by unfold planW; rw [if_neg (by omega), if_pos hk]
   rw [e]
   unfold planI
   rw [if_neg (by simp), qa8 c.key _ 3 rfl]
   rw [hk] at hc
   show (if wUnion = wSplit then _ else if wUnion = wUnion then _ else _, true) = _
   rw [if_neg (by decide), if_pos rfl]
   exact congrArg (·, true) hc.symm
 ·
  split at h
  ·
   rename_i hk
   obtain ⟨_, h1, h2, hc⟩ := of_decide_eq_true h
   have e : planW c = [wMove, wordM c.key, itoa c.group] := by unfold planW; rw [if_neg (by omega), if_neg (by omega)]
   rw [e]
   unfold planI
   rw [if_neg (by simp), qa8 c.key _ 3 rfl, qbi (n := c.group) (by omega) (by omega) _ 4 rfl]
   rw [hk] at hc
   show (if wMove = wSplit then _ else if wMove = wUnion then _ else if wMove = wMove then _ else _, true) = _
   rw [if_neg (by decide), if_neg (by decide), if_pos rfl]
   exact congrArg (·, true) hc.symm
  ·
   cases h
theorem askI_words {a : AskM} (h : mayAsk a = true) (p q r u : Bytes) : askI (p :: q :: r :: u :: askW a) 4 = (a, true) := by
 obtain ⟨kind, key, «to», value, was, none, most⟩ := a
 unfold mayAsk at h
 simp only at h
 split at h
 ·
  rename_i hk
  obtain ⟨_, _, rfl, rfl, rfl, rfl, rfl⟩ := of_decide_eq_true h
  rcases hk with rfl | rfl
  ·
   show askI [p, q, r, u, wGet, wordM key] 4 = _
   unfold askI
   rw [if_neg (by simp), qa8 key _ 5 rfl]
   rfl
  ·
   show askI [p, q, r, u, wDelete, wordM key] 4 = _
   unfold askI
   rw [if_neg (by simp), qa8 key _ 5 rfl]
   rfl
 ·
  split at h
  ·
   rename_i hk
   subst hk
   obtain ⟨_, _, rfl, rfl, rfl, rfl, _⟩ := of_decide_eq_true h
   show askI [p, q, r, u, wPut, wordM key, wordM value] 4 = _
   unfold askI
   rw [if_neg (by simp), qa8 key _ 5 rfl, qa8 value _ 6 rfl]
   rfl
  ·
   split at h
   ·
    rename_i hk
    subst hk
    obtain ⟨_, _, _, _, hnw, rfl, rfl⟩ := of_decide_eq_true h
    cases none with
    | true =>
     obtain rfl : was = [] := by
      cases was with
      | nil => rfl
      | cons x y => exact absurd ⟨rfl, by simp⟩ hnw
     show askI [p, q, r, u, wFresh, wordM key, wordM value] 4 = _
     unfold askI
     rw [if_neg (by simp), qa8 key _ 5 rfl, qa8 value _ 6 rfl]
     rfl
    | false =>
     show askI [p, q, r, u, wSwap, wordM key, wordM value, wordM was] 4 = _
     unfold askI
     rw [if_neg (by simp), qa8 key _ 5 rfl, qa8 value _ 6 rfl, qa8 was _ 7 rfl]
     rfl
   ·
    split at h
    ·
     rename_i hk
     subst hk
     obtain ⟨_, _, h1, h2, rfl, rfl, rfl⟩ := of_decide_eq_true h
     show askI [p, q, r, u, wScan, wordM key, wordM «to», itoa most] 4 = _
     unfold askI
     rw [if_neg (by simp), qa8 key _ 5 rfl, qa8 «to» _ 6 rfl, qbi (n := most) (by omega) (by omega) _ 7 rfl]
     rfl
    ·
     cases h
theorem readI_line {nodes groups : Int} (hn : nodes ≤ 2147483648) (hg : groups ≤ 2147483648) {a : ActM} (h : mayAct nodes groups a = true) (w0 : Bytes) : readI a.kind (w0 :: restW a) = (a, true) := by
 obtain ⟨kind, node, group, client, n, ask, cmd, keep⟩ := a
 unfold mayAct at h
 simp only at h
 split at h
 ·
  rename_i hk
  obtain ⟨h1, h2, h3, h4, e⟩ := of_decide_eq_true h
  have hr : restW ⟨kind, node, group, client, n, ask, cmd, keep⟩ = [itoa node, itoa group] := by
   unfold restW
   simp only
   rw [if_neg (by omega), if_neg (by omega), if_neg (by omega), if_neg (by omega), if_neg (by omega), if_neg (by omega)]
  rw [hr]
  unfold readI
  simp only
  rw [if_neg (by omega), if_neg (by omega), if_neg (by omega), if_neg (by omega), if_neg (by omega), if_neg (by omega), qbi (n := node) (by omega) (by omega) _ 1 rfl, qbi (n := group) (by omega) (by omega) _ 2 rfl, decide_eq_true (by omega : 0 < kind)]
  exact congrArg (·, true) e.symm
 split at h
 ·
  rename_i hk
  obtain ⟨h1, h2, e⟩ := of_decide_eq_true h
  have hr : restW ⟨kind, node, group, client, n, ask, cmd, keep⟩ = [itoa n] := by
   unfold restW
   simp only
   rw [if_pos hk]
  rw [hr]
  unfold readI
  simp only
  rw [if_pos hk, qbi (n := n) h1 h2 _ 1 rfl]
  exact congrArg (·, true) e.symm
 split at h
 ·
  rename_i hk
  obtain ⟨h1, h2, e⟩ := of_decide_eq_true h
  have hr : restW ⟨kind, node, group, client, n, ask, cmd, keep⟩ = [itoa node] := by
   unfold restW
   simp only
   rw [if_neg (by omega), if_pos hk]
  rw [hr]
  unfold readI
  simp only
  rw [if_neg (by omega), if_neg (by omega), if_neg (by omega), if_neg (by omega), if_neg (by omega), if_pos hk, qbi (n := node) (by omega) (by omega) _ 1 rfl]
  exact congrArg (·, true) e.symm
 split at h
 ·
  rename_i hk
  obtain ⟨h1, h2, h3, e⟩ := of_decide_eq_true h
  have hr : restW ⟨kind, node, group, client, n, ask, cmd, keep⟩ = itoa node :: planW cmd := by
   unfold restW
   simp only
   rw [if_neg (by omega), if_neg (by omega), if_pos hk]
  rw [hr]
  unfold readI
  simp only
  rw [if_neg (by omega), if_pos hk, qbi (n := node) (by omega) (by omega) _ 1 rfl, qhj h3]
  exact congrArg (·, true) e.symm
 split at h
 ·
  rename_i hk
  obtain ⟨h1, h2, h3, h4, h5, h6, h7, e⟩ := of_decide_eq_true h
  have hr : restW ⟨kind, node, group, client, n, ask, cmd, keep⟩ = itoa client :: itoa node :: itoa group :: askW ask := by
   unfold restW
   simp only
   rw [if_neg (by omega), if_neg (by omega), if_neg (by omega), if_pos hk]
  rw [hr]
  unfold readI
  simp only
  rw [if_neg (by omega), if_neg (by omega), if_pos hk, qbi (n := client) (by omega) (by omega) _ 1 rfl, qbi (n := node) (by omega) (by omega) _ 2 rfl, qbi (n := group) (by omega) (by omega) _ 3 rfl, askI_words h7]
  exact congrArg (·, true) e.symm
 split at h
 ·
  rename_i hk
  obtain ⟨h1, h2, h3, h4, h5, h6, e⟩ := of_decide_eq_true h
  have hr : restW ⟨kind, node, group, client, n, ask, cmd, keep⟩ = [itoa client, itoa node, itoa group] := by
   unfold restW
   simp only
   rw [if_neg (by omega), if_neg (by omega), if_neg (by omega), if_neg (by omega), if_pos hk]
  rw [hr]
  unfold readI
  simp only
  rw [if_neg (by omega), if_neg (by omega), if_neg (by omega), if_pos hk, qbi (n := client) (by omega) (by omega) _ 1 rfl, qbi (n := node) (by omega) (by omega) _ 2 rfl, qbi (n := group) (by omega) (by omega) _ 3 rfl]
  exact congrArg (·, true) e.symm
 split at h
 ·
  rename_i hk
  obtain ⟨h1, h2, h3, h4, e⟩ := of_decide_eq_true h
  have hr : restW ⟨kind, node, group, client, n, ask, cmd, keep⟩ = itoa node :: keepW keep := by
   unfold restW
   simp only
   rw [if_neg (by omega), if_neg (by omega), if_neg (by omega), if_neg (by omega), if_neg (by omega), if_pos hk]
  rw [hr]
  unfold readI
  simp only
  rw [if_neg (by omega), if_neg (by omega), if_neg (by omega), if_neg (by omega), if_pos hk, qbi (n := node) (by omega) (by omega) _ 1 rfl]
  rw [show (w0 :: itoa node :: keepW keep).drop 2 = keepW keep from rfl, qen 129 keep (by omega) h4]
  exact congrArg (·, true) e.symm
 ·
  cases h
theorem qg6 (s : Bytes) (a : ActM) : unlineR s = some a ↔ mayAct 5 5 a = true ∧ lineM a = s := by
 constructor
 ·
  intro h
  unfold unlineR at h
  simp only at h
  split at h
  ·
   rename_i h1
   cases h
   exact h1.2
  ·
   cases h
 ·
  rintro ⟨h1, rfl⟩
  have hk := qcc h1
  have hw : wordsS (lineM a) = kword a.kind :: restW a := qcv (by simp) fun w hw => by
   rcases List.mem_cons.1 hw with rfl | hw
   ·
    exact qfl hk
   ·
    exact qhB h1 w hw
  unfold unlineR
  rw [hw]
  simp only [List.getElem?_cons_zero, Option.getD_some]
  rw [qe6 hk, readI_line (by decide) (by decide) h1]
  simp only
  simp [h1]
theorem unline_eq (s : Bytes) : unlineP s = unlineR s := by
 apply Option.ext
 intro a
 rw [qbW, qg6]
structure SetM where
 nodes : Int
 groups : List (List Int)
 disk : Int
 memory : Int
 level : Int
 deriving DecidableEq
structure ScrM where
 setup : SetM
 acts : List ActM
 deriving DecidableEq
def set0 : SetM := ⟨0, [], 0, 0, 0⟩
def scr0 : ScrM := ⟨set0, []⟩
def sizesM (s : SetM) : Bool :=
 decide (1 ≤ s.nodes ∧ s.nodes ≤ 5 ∧ 1024 ≤ s.disk ∧ s.disk ≤ 1048576 ∧ 64 ≤ s.memory ∧ s.memory ≤ 4096 ∧ 256 ≤ s.level ∧ s.level ≤ 65536)
def riseM (nodes : Int) : Int → List Int → Bool
 | _, [] => true
 | p, n :: l => decide (p < n ∧ n < nodes) && riseM nodes n l
def mayGroup (nodes : Int) (l : List Int) : Bool := riseM nodes (-1) l && decide (1 ≤ l.length ∧ l.length ≤ 3)
def maySet (s : SetM) : Bool := sizesM s && decide (2 ≤ s.groups.length ∧ s.groups.length ≤ 5) && s.groups.all (mayGroup s.nodes)
def mayIn (s : SetM) (a : ActM) : Bool := maySet s && mayAct s.nodes s.groups.length a
def wGroup : Bytes := [103, 114, 111, 117, 112]
def wSetup : Bytes := [115, 101, 116, 117, 112]
def groupL (l : List Int) : Bytes := joinW (wGroup :: l.map itoa)
def firstL (s : SetM) : Bytes := joinW [wSetup, itoa s.nodes, itoa s.disk, itoa s.memory, itoa s.level]
def headsM (s : SetM) : List Bytes := firstL s :: s.groups.map groupL
def catN (l : List Bytes) : Bytes := l.flatMap fun s => s ++ [10]
def textM (s : ScrM) : Bytes := catN (headsM s.setup ++ s.acts.map lineM)
def checkM (s : ScrM) : Int × Int :=
 if maySet s.setup then
  match s.acts.findIdx? fun a => !mayIn s.setup a with
  | some i => ((i : Int), 2)
  | none => if 65536 < s.acts.length then (0, 3) else (0, 0)
 else (0, 2)
def firstV (r : Bytes) : SetM :=
 let a := numS r
 let b := numS a.2
 let c := numS b.2
 let d := numS c.2
 ⟨a.1, [], b.1, c.1, d.1⟩
def firstP (s : Bytes) : SetM × Bool :=
 let x := firstV (cutS s).2
 (x, sizesM x && decide (firstL x = s))
def firstR (s : Bytes) : SetM × Bool :=
 match wordsS s with
 | [w, a, b, c, d] => if w = wSetup then let x : SetM := ⟨numR a, [], numR b, numR c, numR d⟩; (x, sizesM x && decide (firstL x = s)) else (set0, false)
 | _ => (set0, false)
def membersV : Nat → Bytes → List Int
 | 0, _ => []
 | f + 1, s => if s = [] then [] else (numS s).1 :: membersV f (numS s).2
def membersP (s : Bytes) : List Int × Bool :=
 let l := membersV 4 (cutS s).2
 (l, decide (groupL l = s))
def ungroupR (s : Bytes) : List Int × Bool :=
 let w := wordsS s
 if w.head? = some wGroup ∧ 2 ≤ w.length ∧ w.length ≤ 4 then let l := (w.drop 1).map numR; (l, mayGroup 5 l) else ([], false)
def layP (s : ScrM) (line : Bytes) : Option ScrM :=
 if (membersP line).2 then
  if s.acts = [] ∧ s.setup.groups.length < 5 ∧ mayGroup s.setup.nodes (membersP line).1 = true then some { s with setup := { s.setup with groups := s.setup.groups ++ [(membersP line).1] } } else none
 else match unlineP line with
  | some a => if mayIn s.setup a = true ∧ s.acts.length < 65536 then some { s with acts := s.acts ++ [a] } else none
  | none => none
def layR (s : ScrM) (line : Bytes) : Option ScrM :=
 if (ungroupR line).2 = true ∧ mayGroup s.setup.nodes (ungroupR line).1 = true ∧ s.setup.groups.length < 5 ∧ s.acts = [] then some { s with setup := { s.setup with groups := s.setup.groups ++ [(ungroupR line).1] } }
 else match unlineR line with
  | some a => if mayIn s.setup a = true ∧ s.acts.length < 65536 then some { s with acts := s.acts ++ [a] } else none
  | none => none
theorem qdi {nodes : Int} : ∀ {l : List Int} {p : Int}, -1 ≤ p → riseM nodes p l = true → ∀ n ∈ l, 0 ≤ n ∧ n < nodes
 | [], _, _, _ => fun n h => by cases h
 | m :: l, p, hp, h => by
  unfold riseM at h
  rw [Bool.and_eq_true, decide_eq_true_iff] at h
  obtain ⟨⟨h1, h2⟩, h3⟩ := h
  intro n hn
  rcases List.mem_cons.1 hn with rfl | hn
  ·
   omega
  ·
   exact qdi (by omega) h3 n hn
theorem qgf {a b : Int} (hab : a ≤ b) : ∀ {l : List Int} {p : Int}, riseM a p l = true → riseM b p l = true
 | [], _, _ => rfl
 | m :: l, p, h => by
  unfold riseM at h ⊢
  rw [Bool.and_eq_true, decide_eq_true_iff] at h ⊢
  exact ⟨by omega, qgf hab h.2⟩
theorem qhg {nodes : Int} (hn : nodes ≤ 5) {l : List Int} (h : mayGroup nodes l = true) : (∀ n ∈ l, 0 ≤ n ∧ n ≤ 2147483647) ∧ 1 ≤ l.length ∧ l.length ≤ 3 ∧ mayGroup 5 l = true := by
 unfold mayGroup at h ⊢
 rw [Bool.and_eq_true, decide_eq_true_iff] at h
 refine ⟨fun n hn' => ?_, h.2.1, h.2.2, ?_⟩
 ·
  have := qdi (by decide) h.1 n hn'
  omega
 ·
  rw [Bool.and_eq_true, decide_eq_true_iff]
  exact ⟨qgf hn h.1, h.2⟩
theorem itoas_ok (l : List Int) : ∀ w ∈ l.map itoa, w.all okC = true := by
 intro w hw
 obtain ⟨n, _, rfl⟩ := List.mem_map.1 hw
 exact (qcI n).1
theorem qf7 : wGroup.all okC = true := by decide
theorem wSetup_ok : wSetup.all okC = true := by decide
theorem qgZ (l : List Int) : wordsS (groupL l) = wGroup :: l.map itoa :=
 qcv (by simp) fun w hw => by
  rcases List.mem_cons.1 hw with rfl | hw
  ·
   exact qf7
  ·
   exact itoas_ok l w hw
theorem firstP_iff (s : Bytes) (x : SetM) : firstP s = (x, true) ↔ sizesM x = true ∧ x.groups = [] ∧ firstL x = s := by
 constructor
 ·
  intro h
  unfold firstP at h
  simp only [Prod.mk.injEq, Bool.and_eq_true, decide_eq_true_iff] at h
  obtain ⟨rfl, h1, h2⟩ := h
  exact ⟨h1, rfl, h2⟩
 ·
  rintro ⟨h1, h2, h3⟩
  subst h3
  have h4 := of_decide_eq_true h1
  have hv : firstV (cutS (firstL x)).2 = x := by
   unfold firstL
   rw [qb3 wSetup_ok]
   unfold firstV
   simp only
   rw [qa0 (n := x.nodes) (by omega) (by omega), qa0 (n := x.disk) (by omega) (by omega), qa0 (n := x.memory) (by omega) (by omega), qa0 (n := x.level) (by omega) (by omega)]
   cases x
   simp only at h2
   subst h2
   rfl
  unfold firstP
  simp only
  rw [hv, h1]
  simp
theorem qcD : ∀ (f : Nat) (l : List Int), l.length ≤ f → (∀ n ∈ l, 0 ≤ n ∧ n ≤ 2147483647) → membersV f (joinW (l.map itoa)) = l
 | 0, [], _, _ => rfl
 | f + 1, [], _, _ => by simp [membersV, joinW]
 | f + 1, n :: l, h, hl => by
  have h0 := hl n List.mem_cons_self
  rw [List.map_cons]
  unfold membersV
  rw [if_neg (join_ne (qcI n).2), qa0 h0.1 h0.2]
  simp only
  rw [qcD f l (by simpa using h) fun m hm => hl m (List.mem_cons_of_mem n hm)]
theorem qeC {nodes : Int} (hn : nodes ≤ 5) {l : List Int} (h : mayGroup nodes l = true) : membersP (groupL l) = (l, true) := by
 obtain ⟨h1, _, h3, _⟩ := qhg hn h
 have hv : membersV 4 (cutS (groupL l)).2 = l := by
  unfold groupL
  rw [qb3 qf7]
  exact qcD 4 l (by omega) h1
 unfold membersP
 simp only
 rw [hv]
 simp
theorem qcP {s : Bytes} (h : (membersP s).2 = true) : groupL (membersP s).1 = s := by
 unfold membersP at h ⊢
 exact of_decide_eq_true h
theorem qhY : ∀ (s : Bytes), wordsS s ≠ []
 | [] => by simp [wordsS]
 | c :: s => by
  rw [wordsS]
  split
  ·
   simp
  ·
   split <;> simp
theorem qhm : ∀ i : Fin 13, kword ((i.val : Int) + 1) ≠ wGroup := by decide +kernel
theorem line_words {nodes groups : Int} {a : ActM} (h : mayAct nodes groups a = true) : wordsS (lineM a) = kword a.kind :: restW a :=
 qcv (by simp) fun w hw => by
  rcases List.mem_cons.1 hw with rfl | hw
  ·
   exact qfl (qcc h)
  ·
   exact qhB h w hw
theorem line_group {nodes groups : Int} {a : ActM} (h : mayAct nodes groups a = true) {l : List Int} : lineM a ≠ groupL l := by
 intro e
 have h1 := line_words h
 rw [e, qgZ] at h1
 have h2 := (List.cons.inj h1).1
 have h3 := qcc h
 have h4 := qhm ⟨(a.kind - 1).toNat, by omega⟩
 rw [show (((⟨(a.kind - 1).toNat, by omega⟩ : Fin 13).val : Nat) : Int) + 1 = a.kind by simp only; omega] at h4
 exact h4 h2.symm
def Lays (s : ScrM) (line : Bytes) (t : ScrM) : Prop :=
 (∃ g, groupL g = line ∧ mayGroup s.setup.nodes g = true ∧ s.setup.groups.length < 5 ∧ s.acts = [] ∧ t = { s with setup := { s.setup with groups := s.setup.groups ++ [g] } }) ∨
 (∃ a, mayAct 5 5 a = true ∧ lineM a = line ∧ mayIn s.setup a = true ∧ s.acts.length < 65536 ∧ t = { s with acts := s.acts ++ [a] })
theorem layP_iff {s : ScrM} (hn : s.setup.nodes ≤ 5) (line : Bytes) (t : ScrM) : layP s line = some t ↔ Lays s line t := by
 constructor
 ·
  intro h
  unfold layP at h
  split at h
  ·
   rename_i hm
   split at h
   ·
    rename_i hc
    exact .inl ⟨_, qcP hm, hc.2.2, hc.2.1, hc.1, (Option.some.inj h).symm⟩
   ·
    cases h
  ·
   split at h
   ·
    rename_i a ha
    split at h
    ·
     rename_i hc
     have h1 := (qbW line a).1 ha
     exact .inr ⟨a, h1.1, h1.2, hc.1, hc.2, (Option.some.inj h).symm⟩
    ·
     cases h
   ·
    cases h
 ·
  rintro (⟨g, rfl, h1, h2, h3, rfl⟩ | ⟨a, h1, rfl, h2, h3, rfl⟩)
  ·
   unfold layP
   rw [qeC hn h1]
   rw [if_pos rfl, if_pos ⟨h3, h2, h1⟩]
  ·
   unfold layP
   have hm : ¬ (membersP (lineM a)).2 = true := fun hm => line_group h1 (qcP hm).symm
   rw [if_neg hm, (qbW (lineM a) a).2 ⟨h1, rfl⟩]
   simp only
   rw [if_pos ⟨h2, h3⟩]
theorem lays_nodes {s t : ScrM} {line : Bytes} (h : Lays s line t) : t.setup.nodes = s.setup.nodes := by
 rcases h with ⟨g, _, _, _, _, rfl⟩ | ⟨a, _, _, _, _, rfl⟩ <;> rfl
def cutN : Bytes → Bytes × Bytes × Bool
 | [] => ([], [], false)
 | c :: s => if c = 10 then ([], s, true) else (c :: (cutN s).1, (cutN s).2.1, (cutN s).2.2)
def splitN : Bytes → List Bytes × Bytes
 | [] => ([], [])
 | c :: s => if c = 10 then ([] :: (splitN s).1, (splitN s).2) else match (splitN s).1 with
  | [] => ([], c :: (splitN s).2)
  | x :: l => ((c :: x) :: l, (splitN s).2)
def noN (s : Bytes) : Bool := s.all fun c => c != 10
theorem qcr : ∀ (s : Bytes), splitN s = if (cutN s).2.2 then ((cutN s).1 :: (splitN (cutN s).2.1).1, (splitN (cutN s).2.1).2) else ([], s)
 | [] => rfl
 | c :: s => by
  have ih := qcr s
  rw [splitN, cutN]
  split
  ·
   rename_i hc
   simp
  ·
   simp only
   by_cases hw : (cutN s).2.2 = true
   ·
    rw [if_pos hw] at ih ⊢
    rw [ih]
   ·
    rw [if_neg hw] at ih ⊢
    rw [ih]
theorem qg3 : ∀ {s : Bytes}, (cutN s).2.2 = true → (cutN s).2.1.length < s.length
 | [], h => by cases h
 | c :: s, h => by
  rw [cutN] at h ⊢
  split at h
  ·
   rename_i hc
   rw [if_pos hc]
   simp
  ·
   rename_i hc
   rw [if_neg hc]
   simp only
   have := qg3 (s := s) h
   rw [List.length_cons]
   omega
def layAll (lay : ScrM → Bytes → Option ScrM) : ScrM → Nat → List Bytes → Option ScrM × Nat
 | s, n, [] => (some s, n)
 | s, n, x :: l => match lay s x with
  | some t => layAll lay t (n + 1) l
  | none => (none, n)
def parseW (first : Bytes → SetM × Bool) (lay : ScrM → Bytes → Option ScrM) (text : Bytes) : ScrM × Int × Int :=
 if 1048576 < text.length then (scr0, 0, 3)
 else match (splitN text).1 with
  | [] => (scr0, 0, 4)
  | x :: l => if (first x).2 then match layAll lay ⟨(first x).1, []⟩ 1 l with
    | (some s, n) => if (splitN text).2 ≠ [] ∨ s.setup.groups.length < 2 then (scr0, (n : Int), 4) else (s, 0, 0)
    | (none, n) => (scr0, (n : Int), 4)
   else (scr0, 0, 4)
def parseR (text : Bytes) : ScrM × Int × Int := parseW firstR layR text
def parseP (text : Bytes) : ScrM × Int × Int := parseW firstP layP text
theorem qfR {x : Bytes} (h : (firstP x).2 = true) : (firstP x).1.nodes ≤ 5 ∧ sizesM (firstP x).1 = true ∧ (firstP x).1.groups = [] ∧ firstL (firstP x).1 = x := by
 have h1 := (firstP_iff x (firstP x).1).1 (Prod.ext rfl h)
 have h2 := of_decide_eq_true h1.1
 exact ⟨h2.2.1, h1⟩
theorem qd2 : ∀ (l : List Bytes) (n : Nat) {s t : ScrM} {m : Nat}, s.setup.nodes ≤ 5 → layAll layP s n l = (some t, m) →
  ∃ gs avs, t = ⟨{ s.setup with groups := s.setup.groups ++ gs }, s.acts ++ avs⟩ ∧ l = gs.map groupL ++ avs.map lineM ∧ (s.acts ≠ [] → gs = []) ∧ (∀ g ∈ gs, mayGroup s.setup.nodes g = true) ∧
   (s.setup.groups.length ≤ 5 → t.setup.groups.length ≤ 5) ∧ (∀ a ∈ avs, mayIn t.setup a = true) ∧ (s.acts.length ≤ 65536 → t.acts.length ≤ 65536)
 | [], n, s, t, m, _, h => by
  rw [layAll] at h
  obtain ⟨rfl, _⟩ := Prod.mk.inj h |>.imp Option.some.inj id
  refine ⟨[], [], ?_, rfl, fun _ => rfl, fun g hg => (by cases hg), id, fun a ha => (by cases ha), id⟩
  cases s with
  | mk u avs => cases u; simp
 | x :: l, n, s, t, m, hs, h => by
  rw [layAll] at h
  cases hx : layP s x with
  | none =>
   rw [hx] at h
   cases h
  | some u =>
   rw [hx] at h
   simp only at h
   have hl := (layP_iff hs x u).1 hx
   obtain ⟨gs, avs, h1, h2, h3, h4, h5, h6, h7⟩ := qd2 l (n + 1) (lays_nodes hl ▸ hs) h
   rcases hl with ⟨g, e, g1, g2, g3, rfl⟩ | ⟨a, a1, e, a2, a3, rfl⟩
   ·
    refine ⟨g :: gs, avs, ?_, ?_, fun hc => absurd g3 hc, ?_, ?_, h6, h7⟩
    ·
     rw [h1]
     simp
    ·
     rw [h2, ← e]
     rfl
    ·
     intro y hy
     rcases List.mem_cons.1 hy with rfl | hy
     ·
      exact g1
     ·
      exact h4 y hy
    ·
     intro _
     exact h5 (by simp only [List.length_append, List.length_cons, List.length_nil]; omega)
   ·
    have hg : gs = [] := h3 (by simp)
    subst hg
    have ht : t.setup = s.setup := by
     rw [h1]
     simp only [List.append_nil]
    refine ⟨[], a :: avs, ?_, ?_, fun _ => rfl, fun g hg => (by cases hg), ?_, ?_, ?_⟩
    ·
     rw [h1]
     simp
    ·
     rw [h2, ← e]
     rfl
    ·
     rw [ht]
     exact id
    ·
     intro y hy
     rcases List.mem_cons.1 hy with rfl | hy
     ·
      rw [ht]
      exact a2
     ·
      exact h6 y hy
    ·
     intro _
     exact h7 (by simp only [List.length_append, List.length_cons, List.length_nil]; omega)
theorem qc3 (lay : ScrM → Bytes → Option ScrM) : ∀ (l r : List Bytes) (n : Nat) {s t : ScrM} {m : Nat}, layAll lay s n l = (some t, m) → layAll lay s n (l ++ r) = layAll lay t m r
 | [], r, n, s, t, m, h => by
  rw [layAll] at h
  cases h
  rfl
 | x :: l, r, n, s, t, m, h => by
  rw [layAll] at h
  rw [List.cons_append, layAll]
  cases hx : lay s x with
  | none =>
   rw [hx] at h
   cases h
  | some u =>
   rw [hx] at h
   exact qc3 lay l r (n + 1) h
end Go.Pln
/- . -/
namespace Go.Proofs.YtigmojilaadbhaaGreatDoor
open Go Go.Eng Go.Pln Go.Lib
abbrev powG : Nat := 3
abbrev spaceG : Nat := 0
abbrev synG : Nat := 4
abbrev rngG : Nat := 5
structure Tabs (h : Heap) : Prop where
 pow : h.get powG = some (tabB .u64 Lib.pow10Tab)
 space : h.get spaceG = some (tabB .u8 Lib.asciiSpaceTab)
 syn : h.get synG = some (errB 262)
 rng : h.get rngG = some (errB 262)
theorem Tabs.ext {h h' : Heap} (t : Tabs h) (hx : Ext h h') : Tabs h' := ⟨hx.c _ _ t.pow, hx.c _ _ t.space, hx.c _ _ t.syn, hx.c _ _ t.rng⟩
theorem pow_n : Tryz.prog.globalNamed "internal/strconv.uint64pow10" = some powG := by kernel_rfl
theorem qgK : Tryz.prog.globalNamed "strings.asciiSpace" = some spaceG := by kernel_rfl
theorem globals_n : 7 < Tryz.prog.globals.size := by decide +kernel
theorem qhz (n : Int) (h : Heap) (t : Tabs h) (h0 : -9223372036854775808 ≤ n) (h1 : n ≤ 9223372036854775807) : ACalls Tryz.prog 92 [.int .i64 n] h fun u h' => u = .string (bstr (Lib.itoa n)) ∧ h' = h := by
 refine ACalls.of_sim rfl rfl fun φ w s => ?_
 refine (Tryz.strconv_Itoa n h0 h1 w (s.tab pow_n (by decide +kernel) t.pow)).mono fun e w' ⟨he, k, os, hw⟩ => ⟨he, ?_⟩
 subst hw
 exact below_grow w.heap.size w (Nat.le_refl _) k os
theorem qbC (s : List UInt8) : (bstr s).data.toList = s := by simp [bstr]
theorem bstr_size (s : List UInt8) : (bstr s).size = s.length := by
 show (bstr s).data.size = _
 simp [bstr]
abbrev errT : TypeId := 241
theorem atoi_c (s : List UInt8) (h : Heap) (t : Tabs h) (hl : s.length ≤ 1000000000) : ACalls Tryz.prog 129 [.string (bstr s)] h fun u h' => h' = h ∧ ∃ (z : Int) (e : Value), u = .tuple #[.int .i64 z, e] ∧
  ((e = .nilIface ∧ Lib.atoiAll s = .ok z) ∨ (e = .iface errT undef ∧ ∀ v, Lib.atoiAll s ≠ .ok v)) := by
 have hsz := bstr_size s
 have rel : ∀ (z : Int) (φ : Ren) (p : Value), VRel φ h.next (.tuple #[.int .i64 z, .iface errT undef]) (.tuple #[.int .i64 z, .iface errT p]) := fun z φ p => by
  refine .tuple _ _ rfl fun k x y hx hy => ?_
  match k, hx, hy with
  | 0, hx, hy => cases hx; cases hy; exact .int _ _
  | 1, hx, hy => cases hx; cases hy; exact .iface _ _ _ (.und p)
 have rel0 : ∀ (z : Int) (φ : Ren), VRel φ h.next (.tuple #[.int .i64 z, .nilIface]) (.tuple #[.int .i64 z, .nilIface]) := fun z φ => by
  refine .tuple _ _ rfl fun k x y hx hy => ?_
  match k, hx, hy with
  | 0, hx, hy => cases hx; cases hy; exact .int _ _
  | 1, hx, hy => cases hx; cases hy; exact .nilIface
 rcases ha : Lib.atoiAll s with v | _ | _
 ·
  refine (ACalls.of_rel (v := .tuple #[.int .i64 v, .nilIface]) fun φ w cargs s' va => ?_).mono fun u h' ⟨e1, e2⟩ => ⟨e2, v, _, e1, .inl ⟨rfl, rfl⟩⟩
  rw [va.solid_inv rfl]
  refine (Tryz.strconv_Atoi_ok (bstr s) (by omega) v (by rw [qbC]; exact ha) w).mono fun e w' ⟨he, hw⟩ => ⟨_, he, rel0 v φ, ?_⟩
  rcases hw with rfl | ⟨t, rfl⟩
  ·
   exact Go.RowKit.Below.refl _ _
  ·
   exact Lib.bytesWorld_below w 5 t
 ·
  refine (ACalls.of_rel (v := .tuple #[.int .i64 0, .iface errT undef]) fun φ w cargs s' va => ?_).mono fun u h' ⟨e1, e2⟩ => ⟨e2, 0, _, e1, .inr ⟨rfl, fun v hv => by cases hv⟩⟩
  rw [va.solid_inv rfl]
  obtain ⟨c, hc, hv⟩ := s'.cell t.syn (k := 0) rfl
  obtain ⟨⟨e1, e2⟩, _⟩ := s'.glob synG (by decide +kernel)
  rw [e1, e2] at hc
  cases hv with
  | iface _ _ v' _ =>
   refine (Tryz.strconv_Atoi_syntax (bstr s) (by omega) (by rw [qbC]; exact ha) _ w hc (.inr ⟨_, _, rfl⟩)).mono fun e w' ⟨N, he, _, _, hb⟩ => ⟨_, he, rel 0 φ _, hb⟩
 ·
  refine (ACalls.of_rel (v := .tuple #[.int .i64 (Lib.atoiSat s), .iface errT undef]) fun φ w cargs s' va => ?_).mono fun u h' ⟨e1, e2⟩ => ⟨e2, Lib.atoiSat s, _, e1, .inr ⟨rfl, fun v hv => by cases hv⟩⟩
  rw [va.solid_inv rfl]
  obtain ⟨c, hc, hv⟩ := s'.cell t.rng (k := 0) rfl
  obtain ⟨⟨e1, e2⟩, _⟩ := s'.glob rngG (by decide +kernel)
  rw [e1, e2] at hc
  cases hv with
  | iface _ _ v' _ =>
   refine (Tryz.strconv_Atoi_range (bstr s) (by omega) (by rw [qbC]; exact ha) _ w hc (.inr ⟨_, _, rfl⟩)).mono fun e w' ⟨N, he, _, _, hb⟩ => ⟨_, he, ?_, hb⟩
   rw [qbC]
   exact rel _ φ _
theorem fields_c (s : List UInt8) (h : Heap) (t : Tabs h) (hl : s.length ≤ 1000000000) (hn : (Lib.fields s).length ≤ 1000000000) (ha : ∀ (j : Nat) b, s[j]? = some b → b.toNat < 128) : ACalls Tryz.prog 96 [.string (bstr s)] h fun u h' => u = .slice (some ⟨h.next, 0, none⟩) (Lib.fields s).length (Lib.fields s).length ∧
  h' = h.alloc ⟨(Lib.fields s).map fun l => .string (bstr l), 9, true⟩ := by
 intro φ w cargs s' va
 rw [va.solid_inv rfl]
 have hsz := bstr_size s
 have hc := Tryz.strings_Fields (bstr s) w (by omega) (by rw [qbC]; exact ha) (s'.tab qgK (by decide +kernel) t.space)
 rw [qbC] at hc
 refine hc.mono fun e w' ⟨he, hw⟩ => ?_
 subst he
 subst hw
 obtain ⟨q1, q2⟩ := s'.alloc ((Lib.fields s).map fun l => .string (bstr l)) ((Lib.fields s).map fun l => Value.string (bstr l)).toArray 9 (0, 0) (.inl rfl) (by simp) (fun k v hk => ⟨v, by simpa using hk, by
  obtain ⟨l, _, rfl⟩ := List.mem_map.1 (List.mem_of_getElem? hk)
  exact .string _⟩)
 refine ⟨_, _, _, ⟨rfl, rfl⟩, ?_, q1, q2⟩
 have hp : (Ren.put φ h.next ⟨w.heap.size, 0, ((Lib.fields s).map fun l => Value.string (bstr l)).toArray.size⟩) h.next = ⟨w.heap.size, 0, ((Lib.fields s).map fun l => Value.string (bstr l)).toArray.size⟩ := Ren.put_at
 refine .slice _ _ _ _ _ _ _ (by show h.next < h.next + 1; omega) (Nat.le_refl _) (Nat.le_refl _) ⟨fun _ => rfl, fun e => by omega⟩ (.inl (by rw [hp])) (by unfold maxLen; omega) (fun t ht => by cases ht)
theorem join_eq : ∀ (ws : List Bytes), Lib.join ws [32] = joinW ws
 | [] => rfl
 | [w] => by simp [Lib.join, List.intercalate, joinW]
 | w :: v :: ws => by
  have ih := join_eq (v :: ws)
  unfold Lib.join List.intercalate at ih ⊢
  rw [joinW, ← ih]
  simp
theorem join_c (v : Value) (L : List Bytes) (h : Heap) (r : RS h v (L.map fun s => .string (bstr s))) (hl : (joinW L).length ≤ 100000000000) (hn : L.length ≤ 100000000000) : ACalls Tryz.prog 94 [v, .string (bstr [32])] h fun u h' => u = .string (bstr (joinW L)) ∧ h' = h := by
 refine ACalls.of_conc rfl fun φ w cargs s va => ?_
 cases va with
 | cons v1 va =>
  cases va with
  | cons v2 va =>
   cases va
   rw [v2.string_inv]
   obtain ⟨a, cap, rfl, h1, h2, h3⟩ := r.conc (List.all_eq_true.2 fun x hx => by obtain ⟨b, _, rfl⟩ := List.mem_map.1 hx; rfl) s v1
   rw [List.length_map] at h1
   rcases h3 with h3 | ⟨b, o, rfl, hb, h3⟩
   ·
    have hL : L = [] := List.map_eq_nil_iff.1 h3
    subst hL
    refine (Tryz.strings_Join_none a cap (bstr [32]) w).mono fun e w' ⟨he, hw⟩ => ⟨he, ?_⟩
    rw [hw]
    exact Go.RowKit.Below.refl _ _
   ·
    have hj := Tryz.strings_Join b o cap (L.map bstr) (bstr [32]) w (fun j x hx => by
     obtain ⟨s0, hs0, rfl⟩ : ∃ s0, L[j]? = some s0 ∧ bstr s0 = x := by
      rw [List.getElem?_map] at hx
      exact Option.map_eq_some_iff.1 hx
     exact h3 j _ (by rw [List.getElem?_map, hs0]; rfl)) hb (by rw [List.length_map]; omega) (by rw [List.length_map]; exact h1)
    have hm : (L.map bstr).map (fun x : ByteArray => x.data.toList) = L := by
     rw [List.map_map]
     exact (List.map_congr_left fun x _ => qbC x).trans (List.map_id L)
    rw [hm, qbC, join_eq, List.length_map] at hj
    rw [List.length_map]
    exact hj (by omega)
end Go.Proofs.YtigmojilaadbhaaGreatDoor
/- . -/
namespace Go.Eng
open Go
section
variable {P : Program} {W : World} {H : Type} {enc : TypeId × Value → H}
theorem qcJ {f : FuncId} {n : Nat} {ts : List TypeId} {args : Array Value} {ds : List (DataW H)} {ps : List MemPlace} {r : Reach} {base : Nat} {held : Bool} (T : List (Nat × Blk)) (hT : (T.map (·.1)).Nodup)
  (ht : ∀ x ∈ T, Told P W x.1 x.2) (h0 : DataW.TrodAll enc P W 0 (fun _ => true) held ts args.toList ds ps)
  (hp : ∀ t ∈ ts, plainT P (n + 1) t = true) (hk : ∀ (j : Nat) t v, ts[j]? = some t → args.toList[j]? = some v → Value.okWide P W r base t v) (hs : (DataW.weightsEach P ts ds).all (· ≤ reachBytes) = true)
  (p : ∀ h avs, P.globals.size ≤ h.next → avs.length = ts.length → (∀ (j : Nat) t a, ts[j]? = some t → avs[j]? = some a → RdV P h (n + 1) t a) → (∀ x ∈ T, h.get x.1 = some x.2) → ACalls P f avs h fun v _ => v = .bool true) :
  Calls P f args W fun e W' => e = .returned (.bool true) ∧ Go.RowKit.Below W.heap.size W W' := by
 obtain ⟨bs, avs, r1, v1, d1⟩ := qeZ (G := P.globals.size) (n := n) (fun _ => rfl) ts args.toList ds ps h0 hp hk hs []
 rw [List.nil_append] at r1 v1 d1
 have hlen : args.toList.length = ts.length := qdQ h0
 obtain ⟨h', q1, q2, q3, q4, q5⟩ := tells T (roSim r1) qg8 (fun x hx => by
  have a := ht x hx
  exact ⟨a, by simp only [roHeap]; rw [if_pos a.isg]⟩) hT
 have hn : P.globals.size ≤ h'.next := by
  rw [q3]
  show P.globals.size ≤ P.globals.size + bs.length
  omega
 have := law_free (args := avs) (cargs := args.toList) q1 q2 (q3 ▸ v1) (p _ avs hn (by rw [v1.length, hlen]) (fun j t a hj hja => (d1 j t a hj hja).ext q4) q5)
 simpa using this
end
end Go.Eng
/- . -/
namespace Go.Proofs.YtigmojilaadbhaaGreatDoor
open Go Go.Eng Go.Lib
noncomputable abbrev laidL : List (String × DataW Unit) := Rows.scriptUnlinesRow.laid
def tabsT : List (Nat × Blk) := [(powG, tabB .u64 Lib.pow10Tab), (spaceG, tabB .u8 Lib.asciiSpaceTab), (synG, errB 262), (rngG, errB 262)]
theorem qg1 : (tabsT.map (·.1)).Nodup := by decide
theorem star : "*" ++ "errors.errorString" = "*errors.errorString" := by decide
theorem star_row (u : TypeId) (h : Tryz.prog.typeName? 3 u = some "*errors.errorString") : u = 262 :=
 typeName_ptr_named (nm := "errors.errorString") (by rw [star]; kernel_rfl) (by kernel_rfl) (by decide) u (by rw [star]; exact h)
theorem laid_plain {W : World} (h : laidMetH Tryz.prog laidL W) : laidMet Tryz.prog laidL W := by
 rwa [MakeChecks.laidMetH_plain _ _ _ (by kernel_rfl)] at h
theorem qem {W : World} {name : String} {g : Nat} {k : IntKind} {zs : List Int} (hn : Tryz.prog.globalNamed name = some g) (hg : g < Tryz.prog.globals.size) (h : TabIs Tryz.prog W name k zs) : Go.Eng.Told Tryz.prog W g (tabB k zs) := by
 unfold TabIs World.var? at h
 rw [hn] at h
 simp only [Option.bind_some] at h
 cases hw : W.heap[g]? with
 | none => rw [hw] at h; cases h
 | some o =>
  rw [hw] at h
  cases o <;> try (cases h; done)
  rename_i cs t fr
  cases h
  exact told_tab (t := t) (fr := fr) hg hw
theorem qd6 {W : World} {name : String} {g : Nat} {d : DataW Unit} {rest : List (String × DataW Unit)} (hn : Tryz.prog.globalNamed name = some g) (hg : g < Tryz.prog.globals.size) (hty : (Tryz.prog.globals[g]?).map (·.type) = some 131)
  (h : laidMet Tryz.prog ((name, .iface "*errors.errorString" d) :: rest) W) : Go.Eng.Told Tryz.prog W g (errB 262) := by
 obtain ⟨ps, ⟨g', t', cs, fuel, p, q, hg', ht', hvar, hd, _, _⟩, _⟩ := h
 obtain rfl := Option.some.inj (hn.symm.trans hg')
 obtain rfl := Option.some.inj (hty.symm.trans ht')
 obtain ⟨_, u, v, hcs, hu, _⟩ := iface_of_trod Tryz.underlying131 hd
 obtain rfl := star_row u hu
 refine told_err (v := v) hg ?_
 have := World.var?_cell hn hvar 0
 rw [Array.eq_one_of_toList hcs] at this
 simpa using this
theorem told_tabs {W : World} (h : laidMetH Tryz.prog laidL W) : ∀ x ∈ tabsT, Go.Eng.Told Tryz.prog W x.1 x.2 := by
 have hp := laid_plain h
 have h1 := hp.filter fun x => x.1 == "internal/strconv.uint64pow10"
 have h2 := hp.filter fun x => x.1 == "strings.asciiSpace"
 have h3 := hp.filter fun x => x.1 == "strconv.ErrSyntax"
 have h4 := hp.filter fun x => x.1 == "strconv.ErrRange"
 rw [show laidL.filter (fun x => x.1 == "internal/strconv.uint64pow10") = [("internal/strconv.uint64pow10", Lib.tabData .u64 Lib.pow10Tab)] by kernel_rfl] at h1
 rw [show laidL.filter (fun x => x.1 == "strings.asciiSpace") = [("strings.asciiSpace", Lib.tabData .u8 Lib.asciiSpaceTab)] by kernel_rfl] at h2
 rw [show laidL.filter (fun x => x.1 == "strconv.ErrSyntax") = [("strconv.ErrSyntax", Rows.laid_strconv_ErrSyntax)] by kernel_rfl] at h3
 rw [show laidL.filter (fun x => x.1 == "strconv.ErrRange") = [("strconv.ErrRange", Rows.laid_strconv_ErrRange)] by kernel_rfl] at h4
 intro x hx
 simp only [tabsT, List.mem_cons, List.not_mem_nil, or_false] at hx
 rcases hx with rfl | rfl | rfl | rfl
 ·
  exact qem pow_n (by decide +kernel) (tabIs_of_head pow_n (t := 252) (e := 221) (n := 20) (by kernel_rfl) Tryz.underlying252 Tryz.underlying221 (by kernel_rfl) (by kernel_rfl) h1)
 ·
  exact qem qgK (by decide +kernel) (tabIs_of_head qgK (t := 184) (e := 5) (n := 256) (by kernel_rfl) Tryz.underlying184 Tryz.underlying5 (by kernel_rfl) (by kernel_rfl) h2)
 ·
  exact qd6 (name := "strconv.ErrSyntax") (by kernel_rfl) (by decide +kernel) (by kernel_rfl) h3
 ·
  exact qd6 (name := "strconv.ErrRange") (by kernel_rfl) (by decide +kernel) (by kernel_rfl) h4
theorem tabs_of {h : Heap} (ht : ∀ x ∈ tabsT, h.get x.1 = some x.2) : Tabs h :=
 ⟨ht (powG, tabB .u64 Lib.pow10Tab) (by simp [tabsT]), ht (spaceG, tabB .u8 Lib.asciiSpaceTab) (by simp [tabsT]), ht (synG, errB 262) (by simp [tabsT]), ht (rngG, errB 262) (by simp [tabsT])⟩
theorem door_met (os : Os) (args : Array Value) : laidMetH Tryz.prog laidL ((World.doorLaid Tryz.prog 86 os).forCall (fun _ _ => 0) ⟨#[], args, []⟩).memory :=
 laidMetH_of_parts3 (fuel := 8) (laidMet_of_run' 8 (by kernel_rfl) (by kernel_rfl)) (by kernel_rfl) (by kernel_rfl)
theorem qho (os : Os) (args : Array Value) : ((World.doorLaid Tryz.prog 86 os).forCall (fun _ _ => 0) ⟨#[], args, []⟩).Shaped Tryz.prog := World.shaped_of_RefB (by kernel_rfl) (by kernel_rfl)
end Go.Proofs.YtigmojilaadbhaaGreatDoor
/- . -/
namespace Go.Eng
open Go
section
variable {P : Program} {h : Heap} {K : Value → Heap → Prop} {ρ : Operand → Value} {dst : Option Tmp} {ty : TypeId} {pos : String} {aft : Array Edge} {g : Option (Nat × Bool)}
theorem qfs {t : TypeId} {ms : Array (String × TypeId)} [td : TyD P t (.interface ms)] (w : World) (d : Nat) : (Op.equalIn (d + 1) t .nilIface .nilIface).run P w = .ok true w := by
 simp [Op.equalIn, td.run]
theorem qft {t : TypeId} {ms : Array (String × TypeId)} [td : TyD P t (.interface ms)] (u : TypeId) (v : Value) (w : World) (d : Nat) : (Op.equalIn (d + 1) t (.iface u v) .nilIface).run P w = .ok false w := by
 simp [Op.equalIn, td.run]
theorem qfc {t t' : TypeId} {x : Operand} {ms : Array (String × TypeId)} [td : TyD P t (.interface ms)] (hx : ρ x = .nilIface) (kk : K (.bool false) h) : AOp P ⟨dst, .binOp .neq t x (.const .nilIface) t', ty, pos, aft, g⟩ ρ h K :=
 .of_pure kk fun φ ac w r => by
  have e1 := (hx ▸ r.ev x (by simp [Op.operands])).nilIface_inv
  have e2 : ac.eval (.const .nilIface) = .nilIface := rfl
  have e4 : (Op.equal t .nilIface .nilIface).run P w = .ok true w := qfs w 9999
  exact ⟨.bool false, by simp [execOp, e1, e2, eqGuard, binOp, e4], .bool _⟩
theorem qhE {t t' u : TypeId} {v : Value} {x : Operand} {ms : Array (String × TypeId)} [td : TyD P t (.interface ms)] (hx : ρ x = .iface u v) (kk : K (.bool true) h) : AOp P ⟨dst, .binOp .neq t x (.const .nilIface) t', ty, pos, aft, g⟩ ρ h K :=
 .of_pure kk fun φ ac w r => by
  obtain ⟨v', e1⟩ : ∃ v', ac.eval x = .iface u v' := by
   have := hx ▸ r.ev x (by simp [Op.operands])
   generalize ac.eval x = c at this
   cases this with
   | iface _ _ v' _ => exact ⟨v', rfl⟩
  have e2 : ac.eval (.const .nilIface) = .nilIface := rfl
  have e4 : (Op.equal t (.iface u v') .nilIface).run P w = .ok false w := qft u v' w 9999
  exact ⟨.bool true, by simp [execOp, e1, e2, eqGuard, binOp, e4], .bool _⟩
def notIf : TypeDesc → Bool
 | .interface _ => false
 | _ => true
theorem qba {t : TypeId} {x : Operand} {v : Value} {d : TypeDesc} [td : TyD P t d] (hd : notIf d = true) (hx : ρ x = v) (kk : K (.iface t v) h) : AOp P ⟨dst, .makeInterface t x, ty, pos, aft, g⟩ ρ h K :=
 .of_pure kk fun φ ac w r => by
  have e1 := hx ▸ r.ev x (by simp [Op.operands])
  refine ⟨.iface t (ac.eval x), ?_, .iface _ _ _ e1⟩
  cases d <;> first | (cases hd; done) | simp [execOp, Instr.makeInterface, run_underlying td.eq]
theorem op_taY {t xt : TypeId} {x : Operand} {v : Value} {d : TypeDesc} [td : TyD P t d] (hd : notIf d = true) (hx : ρ x = .iface t v) (kk : K (.tuple #[v, .bool true]) h) : AOp P ⟨dst, .typeAssert x xt t true, ty, pos, aft, g⟩ ρ h K :=
 .of_pure kk fun φ ac w r => by
  have e1 := hx ▸ r.ev x (by simp [Op.operands])
  generalize he : ac.eval x = c at e1
  cases e1 with
  | iface _ _ v' hv =>
   refine ⟨.tuple #[v', .bool true], ?_, .tuple _ _ rfl fun k a b ha hb => ?_⟩
   ·
    cases d <;> first | (cases hd; done) | simp [execOp, Instr.typeAssert, run_underlying td.eq, he]
   ·
    match k, ha, hb with
    | 0, ha, hb => cases ha; cases hb; exact hv
    | 1, ha, hb => cases ha; cases hb; exact .bool _
theorem op_taN {t xt u : TypeId} {sz by_ : Nat} {z : Value} {x : Operand} {v : Value} {d : TypeDesc} [td : TyD P t d] [ti : TyI P t sz by_ z] (hd : notIf d = true) (hz : plainV z = true) (hx : ρ x = .iface u v) (hne : u ≠ t) (kk : K (.tuple #[z, .bool false]) h) : AOp P ⟨dst, .typeAssert x xt t true, ty, pos, aft, g⟩ ρ h K :=
 .of_pure kk fun φ ac w r => by
  have e1 := hx ▸ r.ev x (by simp [Op.operands])
  generalize he : ac.eval x = c at e1
  cases e1 with
  | iface _ _ v' hv =>
   refine ⟨.tuple #[z, .bool false], ?_, .tuple _ _ rfl fun k a b ha hb => ?_⟩
   ·
    cases d <;> first | (cases hd; done) | simp [execOp, Instr.typeAssert, run_underlying td.eq, he, hne, ti.zero]
   ·
    match k, ha, hb with
    | 0, ha, hb => cases ha; cases hb; exact .of_plain hz
    | 1, ha, hb => cases ha; cases hb; exact .bool _
end
end Go.Eng
/- . -/
namespace Go.Pln
open Go Go.Lib
def cutC (c : UInt8) : Bytes → Bytes × Bytes × Bool
 | [] => ([], [], false)
 | b :: s => if b = c then ([], s, true) else (b :: (cutC c s).1, (cutC c s).2.1, (cutC c s).2.2)
theorem cutN_eq : ∀ s : Bytes, cutN s = cutC 10 s
 | [] => rfl
 | b :: s => by rw [cutN, cutC, cutN_eq s]
theorem cutS_eq : ∀ s : Bytes, cutS s = ((cutC 32 s).1, (cutC 32 s).2.1)
 | [] => rfl
 | b :: s => by
  rw [cutS, cutC, cutS_eq s]
  split <;> rfl
theorem qhD {c : UInt8} : ∀ {s : Bytes}, (cutC c s).2.2 = true → indexByte s c = (cutC c s).1.length ∧ s = (cutC c s).1 ++ c :: (cutC c s).2.1
 | [], h => by cases h
 | b :: s, h => by
  rw [cutC] at h ⊢
  rw [indexByte]
  by_cases hb : b = c
  ·
   subst hb
   simp
  ·
   rw [if_neg hb] at h ⊢
   obtain ⟨h1, h2⟩ := qhD (s := s) h
   rw [h1, if_neg (by simpa using hb), if_neg (by simp)]
   simp only [List.length_cons, List.cons_append]
   exact ⟨by omega, congrArg (b :: ·) h2⟩
theorem cutC_no {c : UInt8} : ∀ {s : Bytes}, (cutC c s).2.2 = false → indexByte s c = -1 ∧ cutC c s = (s, [], false)
 | [], _ => ⟨rfl, rfl⟩
 | b :: s, h => by
  rw [cutC] at h ⊢
  rw [indexByte]
  by_cases hb : b = c
  ·
   rw [if_pos hb] at h
   cases h
  ·
   rw [if_neg hb] at h ⊢
   obtain ⟨h1, h2⟩ := cutC_no (s := s) h
   rw [h1, h2, if_neg (by simpa using hb), if_pos (by rfl)]
   exact ⟨rfl, rfl⟩
end Go.Pln
/- . -/
namespace Go.Proofs.YtigmojilaadbhaaGreatDoor
open Go Go.Eng Go.Pln Go.Lib
attribute [local irreducible] AWp AL DAL AOp
instance i_TyD_int : TyD Tryz.prog 3 (.int .i64) := ⟨Tryz.underlying3⟩
instance i_TyD_uint8 : TyD Tryz.prog 5 (.int .u8) := ⟨Tryz.underlying5⟩
instance i_TyD_bool : TyD Tryz.prog 4 .bool := ⟨Tryz.underlying4⟩
instance i_TyD_string : TyD Tryz.prog 9 .string := ⟨Tryz.underlying9⟩
instance i_TyD_Sl_uint8 : TyD Tryz.prog 27 (.slice 5) := ⟨Tryz.underlying27⟩
instance i_TyD_Sl_int : TyD Tryz.prog 77 (.slice 3) := ⟨Tryz.underlying77⟩
instance i_TyD_Sl_string : TyD Tryz.prog 99 (.slice 9) := ⟨Tryz.underlying99⟩
instance i_TyI_int : TyI Tryz.prog 3 1 8 (.int .i64 0) := ⟨qaT (by kernel_rfl), rfl, rfl⟩
instance i_TyI_uint8 : TyI Tryz.prog 5 1 1 (.int .u8 0) := ⟨qaT (by kernel_rfl), rfl, rfl⟩
instance i_TyI_bool : TyI Tryz.prog 4 1 1 (.bool false) := ⟨qaT (by kernel_rfl), rfl, rfl⟩
instance i_TyI_string : TyI Tryz.prog 9 1 16 (.string ⟨#[]⟩) := ⟨qaT (by kernel_rfl), rfl, rfl⟩
instance i_TyI_Sl_uint8 : TyI Tryz.prog 27 1 24 (.slice none 0 0) := ⟨qaT (by kernel_rfl), rfl, rfl⟩
instance i_TyI_Sl_int : TyI Tryz.prog 77 1 24 (.slice none 0 0) := ⟨qaT (by kernel_rfl), rfl, rfl⟩
abbrev fd (n : String) (t o : Nat) (p : String) (b : Nat) : Field := { name := n, type := t, offset := o, embedded := false, tag := "", pkgPath := p, byteOffset := b }
instance qe8 : FAd Tryz.prog 89 0 0 := FAd.mk' (ft := 9) Tryz.underlying89 rfl rfl rfl rfl
abbrev str (s : Bytes) : Value := .string (bstr s)
abbrev ptr (i : Nat) : Value := .pointer (some ⟨i, 0, none⟩)
abbrev rdB (s : Bytes) : Blk := ⟨[str s], 89, true⟩
instance qc0 : FnC Tryz.prog 142 := ⟨Tryz.f142, Tryz.func142, by kernel_rfl, by kernel_rfl⟩
instance qdk : FnC Tryz.prog 107 := ⟨Tryz.f107, Tryz.func107, by kernel_rfl, by kernel_rfl⟩
instance i_FnC_strings_Cut : FnC Tryz.prog 59 := ⟨Tryz.f59, Tryz.func59, by kernel_rfl, by kernel_rfl⟩
instance qcA : FnC Tryz.prog 46 := ⟨Tryz.f46, Tryz.func46, by kernel_rfl, by kernel_rfl⟩
instance qia : FnC Tryz.prog 129 := ⟨Tryz.f129, Tryz.func129, by kernel_rfl, by kernel_rfl⟩
instance qhA : FnC Tryz.prog 92 := ⟨Tryz.f92, Tryz.func92, by kernel_rfl, by kernel_rfl⟩
theorem mixed : Tryz.prog.toTables.follows Departure.mixedOrders = true := by kernel_rfl
theorem index_c (s : Bytes) (c : UInt8) (h : Heap) : ACalls Tryz.prog 142 [str s, str [c]] h fun u h' => u = .int .i64 (Lib.indexByte s c) ∧ h' = h := by
 refine ACalls.of_sim rfl rfl fun φ w s' => ?_
 have hc := Tryz.stringslite_Index_one (bstr s) c w
 rw [qbC] at hc
 refine hc.mono fun e w' ⟨he, hw⟩ => ⟨he, ?_⟩
 rw [hw]
 exact Go.RowKit.Below.refl _ _
abbrev cutV (c : UInt8) (s : Bytes) : Value := .tuple #[str (cutC c s).1, str (cutC c s).2.1, .bool (cutC c s).2.2]
theorem slcut_c (s : Bytes) (c : UInt8) (h : Heap) (hl : s.length ≤ 1000000000) : ACalls Tryz.prog 107 [str s, str [c]] h fun u h' => u = cutV c s ∧ h' = h := by
 refine ACalls.body Tryz.func107 rfl rfl ?_
 have ci := index_c s c h
 cases hb : (cutC c s).2.2 with
 | true =>
  obtain ⟨h1, h2⟩ := qhD hb
  rw [h1] at ci
  have hv : cutV c s = .tuple #[str (cutC c s).1, str (cutC c s).2.1, .bool true] := by simp only [cutV, hb]
  rw [hv]
  generalize (cutC c s).1 = a at h1 h2 ci ⊢
  generalize (cutC c s).2.1 = b at h2 ⊢
  have e1 : (s.take a.length).drop 0 = a := by rw [h2]; simp
  have e2 : (s.take s.length).drop (a.length + 1) = b := by rw [List.take_length, h2, show a ++ c :: b = (a ++ [c]) ++ b by simp, List.drop_left' (by simp)]
  have hc1 : (bstr [c]).size = 1 := rfl
  have hlen := congrArg List.length h2
  rw [List.length_append, List.length_cons] at hlen
  repeat (first | refine W.w ?_ | refine AWp.c8 rfl ?_ | (refine zz rfl ?_; first | refine qac rfl ?_ | refine qai rfl ?_ | refine qad rfl ?_ | refine qaa rfl ?_ | refine qag rfl ?_ | refine qab rfl rfl ci ?_ | refine qam rfl rfl rfl (by omega) ?_))
  refine AWp.draw (σ := [(0, .R), (1, .R), (2, .R), (3, .R), (4, .R), (5, .R), (6, .R), (7, .R), (8, .R), (9, .R), (10, .R), (11, .R)]) mixed (by kernel_rfl) ?_
  repeat (first | refine DAL.r rfl rfl rfl (fun h' hx hn => qac rfl ⟨rfl, rfl⟩) ?_ | refine DAL.r rfl rfl rfl (fun h' hx hn => qai rfl ⟨rfl, rfl⟩) ?_ | refine DAL.r rfl rfl rfl (fun h' hx hn => qaa rfl ⟨rfl, rfl⟩) ?_ | refine DAL.r rfl rfl rfl (fun h' hx hn => qag rfl ⟨rfl, rfl⟩) ?_ | refine DAL.r rfl rfl rfl (fun h' hx hn => qbo (l := 0) (m := (a.length : Nat)) rfl rfl rfl (by omega) (by omega) (by omega) ⟨rfl, rfl⟩) ?_ | refine DAL.r rfl rfl rfl (fun h' hx hn => qgh rfl ⟨rfl, rfl⟩) ?_ | refine DAL.r rfl rfl rfl (fun h' hx hn => qbo (m := (s.length : Nat)) rfl rfl rfl (by omega) (by omega) (by omega) ⟨rfl, rfl⟩) ?_ | refine DAL.r rfl rfl rfl (fun h' hx hn => qas rfl rfl (by omega) ⟨rfl, rfl⟩) ?_)
  refine DAL.nil ?_
  repeat (first | refine AWp.ret ?_)
  refine ⟨_, ResV.tmp3 rfl, ?_, rfl⟩
  show Value.tuple #[str ((s.take a.length).drop 0), str ((s.take s.length).drop (a.length + 1)), .bool true] = _
  rw [e1, e2]
 | false =>
  obtain ⟨h1, h2⟩ := cutC_no hb
  rw [h1] at ci
  repeat (first | refine W.w ?_ | refine AWp.c9 rfl ?_ | (refine zz rfl ?_; first | refine qac rfl ?_ | refine qai rfl ?_ | refine qad rfl ?_ | refine qaa rfl ?_ | refine qag rfl ?_ | refine qab rfl rfl ci ?_ | refine qak rfl rfl rfl (by omega) ?_))
  refine ⟨_, ResV.tmp3 rfl, ?_, rfl⟩
  simp only [cutV, h2]
  rfl
theorem cut_c (s : Bytes) (c : UInt8) (h : Heap) (hl : s.length ≤ 1000000000) : ACalls Tryz.prog 59 [str s, str [c]] h fun u h' => u = cutV c s ∧ h' = h := by
 refine ACalls.body Tryz.func59 rfl rfl ?_
 repeat (first | refine W.w ?_ | (refine zz rfl ?_; first | refine qai rfl ?_ | refine qaa rfl ?_ | refine qag rfl ?_ | refine qab rfl rfl (slcut_c s c h hl) ?_ | refine qav rfl rfl ?_))
 exact ⟨_, ResV.tmp3 rfl, rfl, rfl⟩
theorem qh1 (i : Nat) (s : Bytes) (h : Heap) (hi : h.get i = some (rdB s)) (hl : s.length ≤ 1000000000) : ACalls Tryz.prog 46 [ptr i] h fun u h' => u = str (cutS s).1 ∧ h' = h.set i (rdB (cutS s).2) := by
 refine ACalls.body Tryz.func46 rfl rfl ?_
 rw [cutS_eq]
 repeat (first | refine W.w ?_ | refine AL.eff rfl (qau (v := str (cutC 32 s).2.1) rfl rfl rfl hi rfl (by show 0 < 1; omega) ?_) | (refine zz rfl ?_; first | refine qay rfl ?_ | refine qai rfl ?_ | refine qaH rfl ?_ | refine qag rfl ?_ | refine qaC rfl ?_ | refine qao rfl ?_ | refine qaf rfl rfl hi rfl ?_ | refine qab rfl rfl (cut_c s 32 h hl) ?_ | refine qav rfl rfl ?_))
 exact ⟨_, ResV.tmp rfl, rfl, rfl⟩
instance i_TyD_error : TyD Tryz.prog 131 (.interface #[("Error", 90)]) := ⟨Tryz.underlying131⟩
theorem Tabs.set {h : Heap} (t : Tabs h) {i : Nat} {b : Blk} (hn : 8 ≤ i) : Tabs (h.set i b) := by
 have e : ∀ g, g < 8 → (h.set i b).get g = h.get g := fun g hg => by
  simp only [Heap.set]
  rw [if_neg (by omega)]
 exact ⟨(e _ (by decide)).trans t.pow, (e _ (by decide)).trans t.space, (e _ (by decide)).trans t.syn, (e _ (by decide)).trans t.rng⟩
theorem qbw : ∀ s : Bytes, (cutS s).1.length ≤ s.length ∧ (cutS s).2.length ≤ s.length
 | [] => ⟨Nat.le_refl _, Nat.le_refl _⟩
 | c :: s => by
  rw [cutS]
  have := qbw s
  split <;> simp only [List.length_cons, List.length_nil] <;> omega
theorem num_c (i : Nat) (s : Bytes) (h : Heap) (hi : h.get i = some (rdB s)) (hl : s.length ≤ 1000000000) (t : Tabs h) (hn : 8 ≤ i) : ACalls Tryz.prog 97 [ptr i] h fun u h' => u = .int .i64 (numS s).1 ∧ h' = h.set i (rdB (numS s).2) := by
 refine ACalls.body Tryz.func97 rfl rfl ?_
 have hw := (qbw s).1
 unfold numS numP
 generalize hH : h.set i (rdB (cutS s).2) = H
 have tH : Tabs H := hH ▸ t.set hn
 have cn := qh1 i s h hi hl
 rw [hH] at cn
 generalize (cutS s).1 = w at hw cn ⊢
 repeat (first | refine W.w ?_ | refine zz rfl (qay rfl ?_) | refine zz rfl (qad rfl ?_))
 refine zz rfl (qar rfl rfl (cn.mono ?_))
 rintro _ H1 ⟨rfl, hH1⟩
 cases hH1.symm
 repeat (first | refine W.w ?_ | refine zz rfl (qai rfl ?_) | refine zz rfl (qag rfl ?_))
 refine zz rfl (qar rfl rfl ((atoi_c w H tH (by omega)).mono ?_))
 rintro _ H1 ⟨hH1, z, e, rfl, he0⟩
 cases hH1.symm
 rcases he0 with ⟨rfl, ha⟩ | ⟨rfl, ha⟩
 ·
  have hr := qeG ha
  have ci := qhz z H tH hr.1 hr.2
  by_cases he : itoa z = w
  ·
   repeat (first | refine W.w ?_ | refine AWp.c9 rfl ?_ | (refine zz rfl ?_; first | refine qac rfl ?_ | refine qae rfl ?_ | refine qai rfl ?_ | refine qaH rfl ?_ | refine qad rfl ?_ | refine qav rfl rfl ?_ | refine qfc rfl ?_ | refine qab rfl rfl ci ?_ | refine qbY rfl rfl he ?_ | refine qah (v := .bool _) rfl rfl ?_ | refine qal (by conv => lhs; whnf) ?_ | refine qaq (by conv => lhs; whnf) ?_))
   refine ⟨_, ResV.tmp rfl, ?_, rfl⟩
   rw [ha]
   simp only
   rw [if_pos he]
   rfl
  ·
   repeat (first | refine W.w ?_ | refine AWp.c8 rfl ?_ | (refine zz rfl ?_; first | refine qac rfl ?_ | refine qae rfl ?_ | refine qai rfl ?_ | refine qaH rfl ?_ | refine qad rfl ?_ | refine qav rfl rfl ?_ | refine qfc rfl ?_ | refine qab rfl rfl ci ?_ | refine qbv rfl rfl he ?_ | refine qah (v := .bool _) rfl rfl ?_ | refine qal (by conv => lhs; whnf) ?_ | refine qaq (by conv => lhs; whnf) ?_))
   refine ⟨_, ResV.tmp rfl, ?_, rfl⟩
   rw [ha]
   simp only
   rw [if_neg he]
   rfl
 ·
  repeat (first | refine W.w ?_ | refine AL.skip rfl rfl ?_ | refine AWp.c8 rfl ?_ | (refine zz rfl ?_; first | refine qae rfl ?_ | refine qaH rfl ?_ | refine qad rfl ?_ | refine qav rfl rfl ?_ | refine qhE rfl ?_ | refine qah (v := .bool _) rfl rfl ?_ | refine qal (by conv => lhs; whnf) ?_ | refine qaq (by conv => lhs; whnf) ?_))
  refine ⟨_, ResV.tmp rfl, ?_, rfl⟩
  rcases hz : Lib.atoiAll w with v | _ | _
  ·
   exact absurd hz (ha v)
  ·
   rfl
  ·
   rfl
end Go.Proofs.YtigmojilaadbhaaGreatDoor
/- . -/
namespace Go.Proofs.YtigmojilaadbhaaGreatDoor
open Go Go.Eng Go.Pln Go.Lib
def nums (l : Bytes) : List Int := l.map fun b => (b.toNat : Int)
theorem qhL (l : Bytes) : (nums l).length = l.length := by simp [nums]
theorem qeX (l : Bytes) : Lib.bytesOf (nums l) = l := by
 unfold Lib.bytesOf nums
 rw [List.map_map]
 exact (List.map_congr_left fun b _ => by simp).trans (List.map_id l)
theorem bytesIn {h : Heap} {φ : Go.Eng.Ren} {w : World} {v c : Value} {l : Bytes} (r : RB h v l) (s : Sim Tryz.prog φ h w) (rv : VRel φ h.next v c) : ∃ a cap, c = .slice a l.length cap ∧ Lib.BytesIn w a l.length (nums l) := by
 obtain ⟨a, cap, rfl, _, _, h3⟩ := RS.conc r (List.all_eq_true.2 fun x hx => by obtain ⟨b, _, rfl⟩ := List.mem_map.1 hx; rfl) s rv
 rw [qaz]
 refine ⟨a, cap, rfl, fun hn => ?_⟩
 rcases h3 with h3 | ⟨b, o, rfl, _, h3⟩
 ·
  have : l = [] := List.map_eq_nil_iff.1 h3
  subst this
  exact absurd hn (Nat.lt_irrefl 0)
 ·
  refine ⟨b, o, rfl, fun i hi => ?_⟩
  have hb : (bv l)[i]? = some (.int .u8 (l[i].toNat : Int)) := by
   unfold bv
   rw [List.getElem?_map, List.getElem?_eq_getElem hi]
   rfl
  rw [h3 i _ hb]
  congr 2
  unfold nums
  rw [List.getD_eq_getElem?_getD, List.getElem?_map, List.getElem?_eq_getElem hi]
  rfl
theorem qcm (u v : Value) (a b : Bytes) (h : Heap) (ra : RB h u a) (rb : RB h v b) : ACalls Tryz.prog 143 [u, v] h fun x h' => x = .bool (a == b) ∧ h' = h := by
 refine ACalls.of_conc rfl fun φ w cargs s va => ?_
 cases va with
 | cons v1 va =>
  cases va with
  | cons v2 va =>
   cases va
   obtain ⟨p1, c1, rfl, i1⟩ := bytesIn ra s v1
   obtain ⟨p2, c2, rfl, i2⟩ := bytesIn rb s v2
   have hc := Tryz.bytes_Equal_all p1 p2 a.length c1 b.length c2 (nums a) (nums b) w (qhL a) (qhL b) i1 i2
   rw [qeX, qeX] at hc
   refine hc.mono fun e w' ⟨he, hw⟩ => ⟨he, ?_⟩
   rw [hw]
   exact Go.RowKit.Below.refl _ _
end Go.Proofs.YtigmojilaadbhaaGreatDoor
/- . -/
namespace Go.Eng
open Go
section
variable {P : Program} {ρ : Operand → Value} {h : Heap} {K : Value → Heap → Prop} {dst : Option Tmp} {ty : TypeId} {pos : String} {aft : Array Edge} {g : Option (Nat × Bool)}
end
@[irreducible] def big : Nat := 18446744073709551616
section
variable {P : Program} {ρ : Operand → Value} {h : Heap} {K : Value → Heap → Prop} {dst : Option Tmp} {ty : TypeId} {pos : String} {aft : Array Edge} {g : Option (Nat × Bool)}
end
class XtC (P : Program) (f : FuncId) (e : outParam (Array Value → Sem Value)) : Prop where
 ex : ∃ fn, P.funcs[f]? = some fn ∧ (fn.name == "runtime.NumGoroutine") = false ∧ fn.body.isNone = true ∧ Extern.findNext fn = none ∧ Extern.find fn = some e
section
variable {P : Program} {ρ : Operand → Value} {h : Heap} {K : Value → Heap → Prop} {dst : Option Tmp} {ty : TypeId} {pos : String} {aft : Array Edge} {g : Option (Nat × Bool)}
end
end Go.Eng
