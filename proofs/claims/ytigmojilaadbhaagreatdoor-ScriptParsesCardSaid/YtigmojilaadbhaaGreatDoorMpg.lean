/-
  Texts of one claim, merged: 5 parts.
-/
import Derived.Test.YtigmojilaadbhaaGreatDoorMpf
set_option maxHeartbeats 16000000
/- . -/
namespace Go.Pln
open Go Go.Lib
structure AskM where
 kind : Int
 key : Bytes
 «to» : Bytes
 value : Bytes
 was : Bytes
 none : Bool
 most : Int
 deriving DecidableEq
structure ReqM where
 client : Int
 number : Int
 ask : AskM
 deriving DecidableEq
structure MoveM where
 number : Int
 from_ : Bytes
 «to» : Bytes
 end_ : Bool
 old : Int
 new : Int
 deriving DecidableEq
structure EntM where
 key : Bytes
 seq : Int
 kind : Int
 value : Bytes
 deriving DecidableEq
structure CmdM where
 kind : Int
 req : ReqM
 move : MoveM
 entries : List EntM
 answers : Bytes
 key : Bytes
 group : Int
 deriving DecidableEq
structure ActM where
 kind : Int
 node : Int
 group : Int
 client : Int
 n : Int
 ask : AskM
 cmd : CmdM
 keep : List (Bytes × Int)
 deriving DecidableEq
def ask0 : AskM := ⟨0, [], [], [], [], false, 0⟩
def cmd0 : CmdM := ⟨0, ⟨0, 0, ask0⟩, ⟨0, [], [], false, 0, 0⟩, [], [], [], 0⟩
def act0 : ActM := ⟨0, 0, 0, 0, 0, ask0, cmd0, []⟩
def nameOk (s : Bytes) : Bool := decide (1 ≤ s.length ∧ s.length ≤ 32) && s.all fun c => decide (33 ≤ c.toNat ∧ c.toNat ≤ 126)
def keepOk : List (Bytes × Int) → Bool
 | [] => true
 | x :: l => nameOk x.1 && decide (0 ≤ x.2 ∧ x.2 ≤ 2147483647) && !(l.any fun y => y.1 == x.1) && keepOk l
def mayAsk (a : AskM) : Bool :=
 if a.kind = 1 ∨ a.kind = 3 then decide (1 ≤ a.key.length ∧ a.key.length ≤ 24 ∧ a.to = [] ∧ a.was = [] ∧ a.none = false ∧ a.most = 0 ∧ a.value = [])
 else if a.kind = 2 then decide (1 ≤ a.key.length ∧ a.key.length ≤ 24 ∧ a.to = [] ∧ a.was = [] ∧ a.none = false ∧ a.most = 0 ∧ a.value.length ≤ 40)
 else if a.kind = 4 then decide (1 ≤ a.key.length ∧ a.key.length ≤ 24 ∧ a.value.length ≤ 40 ∧ a.was.length ≤ 40 ∧ ¬ (a.none = true ∧ 0 < a.was.length) ∧ a.to = [] ∧ a.most = 0)
 else if a.kind = 5 then decide (a.key.length ≤ 24 ∧ a.to.length ≤ 24 ∧ 1 ≤ a.most ∧ a.most ≤ 32 ∧ a.value = [] ∧ a.was = [] ∧ a.none = false)
 else false
def mayPlan (c : CmdM) : Bool :=
 if c.kind = 6 ∨ c.kind = 7 then decide (1 ≤ c.key.length ∧ c.key.length ≤ 24 ∧ c = { cmd0 with kind := c.kind, key := c.key })
 else if c.kind = 8 then decide (c.key.length ≤ 24 ∧ 1 ≤ c.group ∧ c.group < 5 ∧ c = { cmd0 with kind := c.kind, key := c.key, group := c.group })
 else false
def mayAct (nodes groups : Int) (a : ActM) : Bool :=
 if a.kind = 1 ∨ a.kind = 2 ∨ a.kind = 6 ∨ a.kind = 7 then decide (0 ≤ a.node ∧ a.node < nodes ∧ 0 ≤ a.group ∧ a.group < groups ∧ a = { act0 with kind := a.kind, node := a.node, group := a.group })
 else if a.kind = 3 ∨ a.kind = 4 ∨ a.kind = 5 then decide (0 ≤ a.n ∧ a.n ≤ 2147483647 ∧ a = { act0 with kind := a.kind, n := a.n })
 else if a.kind = 8 ∨ a.kind = 13 then decide (0 ≤ a.node ∧ a.node < nodes ∧ a = { act0 with kind := a.kind, node := a.node })
 else if a.kind = 9 then decide (0 ≤ a.node ∧ a.node < nodes ∧ mayPlan a.cmd = true ∧ a = { act0 with kind := a.kind, node := a.node, cmd := a.cmd })
 else if a.kind = 10 then decide (1 ≤ a.client ∧ a.client ≤ 4 ∧ 0 ≤ a.node ∧ a.node < nodes ∧ 0 ≤ a.group ∧ a.group < groups ∧ mayAsk a.ask = true ∧ a = { act0 with kind := a.kind, client := a.client, node := a.node, group := a.group, ask := a.ask })
 else if a.kind = 11 then decide (1 ≤ a.client ∧ a.client ≤ 4 ∧ 0 ≤ a.node ∧ a.node < nodes ∧ 0 ≤ a.group ∧ a.group < groups ∧ a = { act0 with kind := a.kind, client := a.client, node := a.node, group := a.group })
 else if a.kind = 12 then decide (0 ≤ a.node ∧ a.node < nodes ∧ a.keep.length ≤ 128 ∧ keepOk a.keep = true ∧ a = { act0 with kind := a.kind, node := a.node, keep := a.keep })
 else false
def kwords : List Bytes := ["timer", "beat", "hear", "drop", "double", "apply", "work", "drive", "plan", "ask", "again", "crash", "start"].map fun s => s.toUTF8.toList
def kword (k : Int) : Bytes := (kwords[(k - 1).toNat]?).getD []
def wGet : Bytes := [103, 101, 116]
def wDelete : Bytes := [100, 101, 108, 101, 116, 101]
def wPut : Bytes := [112, 117, 116]
def wScan : Bytes := [115, 99, 97, 110]
def wFresh : Bytes := [102, 114, 101, 115, 104]
def wSwap : Bytes := [115, 119, 97, 112]
def wSplit : Bytes := [115, 112, 108, 105, 116]
def wUnion : Bytes := [117, 110, 105, 111, 110]
def wMove : Bytes := [109, 111, 118, 101]
def askW (a : AskM) : List Bytes :=
 if a.kind = 1 then [wGet, wordM a.key] else if a.kind = 3 then [wDelete, wordM a.key] else if a.kind = 2 then [wPut, wordM a.key, wordM a.value]
 else if a.kind = 5 then [wScan, wordM a.key, wordM a.to, itoa a.most] else if a.none then [wFresh, wordM a.key, wordM a.value] else [wSwap, wordM a.key, wordM a.value, wordM a.was]
def planW (c : CmdM) : List Bytes := if c.kind = 6 then [wSplit, wordM c.key] else if c.kind = 7 then [wUnion, wordM c.key] else [wMove, wordM c.key, itoa c.group]
def keepW (l : List (Bytes × Int)) : List Bytes := l.flatMap fun x => [x.1, itoa x.2]
def restW (a : ActM) : List Bytes :=
 if a.kind = 3 ∨ a.kind = 4 ∨ a.kind = 5 then [itoa a.n]
 else if a.kind = 8 ∨ a.kind = 13 then [itoa a.node]
 else if a.kind = 9 then itoa a.node :: planW a.cmd
 else if a.kind = 10 then itoa a.client :: itoa a.node :: itoa a.group :: askW a.ask
 else if a.kind = 11 then [itoa a.client, itoa a.node, itoa a.group]
 else if a.kind = 12 then itoa a.node :: keepW a.keep
 else [itoa a.node, itoa a.group]
def lineM (a : ActM) : Bytes := joinW (kword a.kind :: restW a)
def numS (s : Bytes) : Int × Bytes := (numP (cutS s).1, (cutS s).2)
def rawS (s : Bytes) : Bytes × Bytes := (unwordP (cutS s).1, (cutS s).2)
def keepS : Nat → Bytes → List (Bytes × Int)
 | 0, _ => []
 | f + 1, s => if s = [] then [] else ((cutS s).1, (numS (cutS s).2).1) :: keepS f (numS (cutS s).2).2
def planT (w r : Bytes) : CmdM :=
 if w = wSplit then { cmd0 with kind := 6, key := (rawS r).1 } else if w = wUnion then { cmd0 with kind := 7, key := (rawS r).1 }
 else if w = wMove then { cmd0 with kind := 8, key := (rawS r).1, group := (numS (rawS r).2).1 } else cmd0
def planS (s : Bytes) : CmdM := planT (cutS s).1 (cutS s).2
def askT (w r : Bytes) : AskM :=
 if w = wGet then { ask0 with kind := 1, key := (rawS r).1 } else if w = wDelete then { ask0 with kind := 3, key := (rawS r).1 }
 else if w = wPut then { ask0 with kind := 2, key := (rawS r).1, value := (rawS (rawS r).2).1 }
 else if w = wSwap then { ask0 with kind := 4, key := (rawS r).1, value := (rawS (rawS r).2).1, was := (rawS (rawS (rawS r).2).2).1 }
 else if w = wFresh then { ask0 with kind := 4, key := (rawS r).1, value := (rawS (rawS r).2).1, none := true }
 else if w = wScan then { ask0 with kind := 5, key := (rawS r).1, «to» := (rawS (rawS r).2).1, most := (numS (rawS (rawS r).2).2).1 } else ask0
def askS (s : Bytes) : AskM := askT (cutS s).1 (cutS s).2
def readS (k : Int) (s : Bytes) : ActM :=
 if k = 3 ∨ k = 4 ∨ k = 5 then { act0 with kind := k, n := (numS s).1 }
 else
  let c := if k = 10 ∨ k = 11 then numS s else (0, s)
  let n := numS c.2
  let a : ActM := { act0 with kind := k, client := c.1, node := n.1 }
  if k = 9 then { a with cmd := planS n.2 }
  else if k = 12 then { a with keep := keepS 129 n.2 }
  else if k = 8 ∨ k = 13 then a
  else if k = 10 then { a with group := (numS n.2).1, ask := askS (numS n.2).2 }
  else { a with group := (numS n.2).1 }
theorem qa0 {n : Int} (h0 : 0 ≤ n) (h1 : n ≤ 2147483647) (ws : List Bytes) : numS (joinW (itoa n :: ws)) = (n, joinW ws) := by
 unfold numS
 rw [qb3 (qca n).1, numP_itoa (by omega) (by omega)]
theorem qbf (b : Bytes) (ws : List Bytes) : rawS (joinW (wordM b :: ws)) = (b, joinW ws) := by
 unfold rawS
 rw [qb3 (qhg b).1, unP_word]
theorem name_ok {s : Bytes} (h : nameOk s = true) : s.all okC = true ∧ s ≠ [] := by
 unfold nameOk at h
 simp only [Ae, Aq] at h
 refine ⟨Ai.2 fun c hc => ?_, by rintro rfl; simp at h⟩
 have : 33 ≤ c.toNat ∧ c.toNat ≤ 126 := of_decide_eq_true (Ai.1 h.2 c hc)
 exact Al (by omega)
theorem qfk : ∀ (f : Nat) (l : List (Bytes × Int)), l.length ≤ f → keepOk l = true → keepS f (joinW (keepW l)) = l
 | 0, [], _, _ => rfl
 | f + 1, [], _, _ => by simp [keepW, joinW, keepS]
 | f + 1, x :: l, hl, hk => by
  simp only [keepOk, Ae, Aq] at hk
  obtain ⟨⟨⟨h1, h2⟩, _⟩, h4⟩ := hk
  have hn := name_ok h1
  show keepS (f + 1) (joinW (x.1 :: itoa x.2 :: keepW l)) = _
  have hne : joinW (x.1 :: itoa x.2 :: keepW l) ≠ [] := join_ne hn.2
  rw [keepS, Ac hne, qb3 hn.1]
  simp only
  rw [qa0 h2.1 h2.2]
  simp only
  rw [qfk f l (by simp at hl; omega) h4]
theorem qdl {w : Bytes} (h : w.all okC = true) (ws : List Bytes) : planS (joinW (w :: ws)) = planT w (joinW ws) := by unfold planS; rw [qb3 h]
theorem qb8 {w : Bytes} (h : w.all okC = true) (ws : List Bytes) : askS (joinW (w :: ws)) = askT w (joinW ws) := by unfold askS; rw [qb3 h]
theorem planS_join {c : CmdM} (h : mayPlan c = true) : planS (joinW (planW c)) = c := by
 unfold mayPlan at h
 split at h
 ·
  rename_i hk
  obtain ⟨_, _, hc⟩ := of_decide_eq_true h
  rcases hk with hk | hk
  ·
   have e : planW c = [wSplit, wordM c.key] := by unfold planW; rw [Ah hk]
   rw [e]
   rw [qdl (by decide)]
   unfold planT
   rw [Ah rfl]
   simp only
   rw [qbf]
   rw [hk] at hc
   exact hc.symm
  ·
   have e : planW c = [wUnion, wordM c.key] := by unfold planW; rw [Ac (by omega), Ah hk]
   rw [e]
   rw [qdl (by decide)]
   unfold planT
   rw [Ac (by decide), Ah rfl]
   simp only
   rw [qbf]
   rw [hk] at hc
   exact hc.symm
 ·
  split at h
  ·
   rename_i hk
   obtain ⟨_, h1, h2, hc⟩ := of_decide_eq_true h
   have e : planW c = [wMove, wordM c.key, itoa c.group] := by unfold planW; rw [Ac (by omega), Ac (by omega)]
   rw [e]
   rw [qdl (by decide)]
   unfold planT
   rw [Ac (by decide), Ac (by decide), Ah rfl]
   simp only
   rw [qbf]
   simp only
   rw [qa0 (by omega) (by omega)]
   rw [hk] at hc
   exact hc.symm
  ·
   cases h
theorem askS_join {a : AskM} (h : mayAsk a = true) : askS (joinW (askW a)) = a := by
 obtain ⟨kind, key, «to», value, was, none, most⟩ := a
 unfold mayAsk at h
 simp only at h
 split at h
 ·
  rename_i hk
  obtain ⟨_, _, rfl, rfl, rfl, rfl, rfl⟩ := of_decide_eq_true h
  rcases hk with rfl | rfl
  ·
   show askS (joinW [wGet, wordM key]) = _
   rw [qb8 (by decide)]
   unfold askT
   rw [Ah rfl]
   simp only
   rw [qbf]
   rfl
  ·
   show askS (joinW [wDelete, wordM key]) = _
   rw [qb8 (by decide)]
   unfold askT
   rw [Ac (by decide), Ah rfl]
   simp only
   rw [qbf]
   rfl
 ·
  split at h
  ·
   rename_i hk
   subst hk
   obtain ⟨_, _, rfl, rfl, rfl, rfl, _⟩ := of_decide_eq_true h
   show askS (joinW [wPut, wordM key, wordM value]) = _
   rw [qb8 (by decide)]
   unfold askT
   rw [Ac (by decide), Ac (by decide), Ah rfl]
   simp only
   rw [qbf]
   simp only
   rw [qbf]
   rfl
  ·
   split at h
   ·
    rename_i hk
    subst hk
    obtain ⟨_, _, _, _, hnw, rfl, rfl⟩ := of_decide_eq_true h
    cases none with
    | true =>
     obtain rfl : was = [] := by
      cases was with
      | nil => rfl
      | cons x y => exact absurd ⟨rfl, by simp⟩ hnw
     show askS (joinW [wFresh, wordM key, wordM value]) = _
     rw [qb8 (by decide)]
     unfold askT
     rw [Ac (by decide), Ac (by decide), Ac (by decide), Ac (by decide), Ah rfl]
     simp only
     rw [qbf]
     simp only
     rw [qbf]
     rfl
    | false =>
     show askS (joinW [wSwap, wordM key, wordM value, wordM was]) = _
     rw [qb8 (by decide)]
     unfold askT
     rw [Ac (by decide), Ac (by decide), Ac (by decide), Ah rfl]
     simp only
     rw [qbf]
     simp only
     rw [qbf]
     simp only
     rw [qbf]
     rfl
   ·
    split at h
    ·
     rename_i hk
     subst hk
     obtain ⟨_, _, h1, h2, rfl, rfl, rfl⟩ := of_decide_eq_true h
     show askS (joinW [wScan, wordM key, wordM «to», itoa most]) = _
     rw [qb8 (by decide)]
     unfold askT
     rw [Ac (by decide), Ac (by decide), Ac (by decide), Ac (by decide), Ac (by decide), Ah rfl]
     simp only
     rw [qbf]
     simp only
     rw [qbf]
     simp only
     rw [qa0 (by omega) (by omega)]
     rfl
    ·
     cases h
set_option maxRecDepth 2000 in
/-- The program's reader reads what is written. -/
theorem readS_line {nodes groups : Int} (hn : nodes ≤ 2147483648) (hg : groups ≤ 2147483648) {a : ActM} (h : mayAct nodes groups a = true) : readS a.kind (joinW (restW a)) = a := by
 obtain ⟨kind, node, group, client, n, ask, cmd, keep⟩ := a
 unfold mayAct at h
 simp only at h
 split at h
 ·
  rename_i hk
  obtain ⟨h1, h2, h3, h4, e⟩ := of_decide_eq_true h
  have hr : restW ⟨kind, node, group, client, n, ask, cmd, keep⟩ = [itoa node, itoa group] := by
   unfold restW
   simp only
   rw [Ac (by omega), Ac (by omega), Ac (by omega), Ac (by omega), Ac (by omega), Ac (by omega)]
  rw [hr]
  unfold readS
  simp only
  rw [Ac (by omega), Ac (by omega), Ac (by omega), Ac (by omega), Ac (by omega), Ac (by omega)]
  simp only
  rw [qa0 (by omega) (by omega)]
  simp only
  rw [qa0 (by omega) (by omega)]
  exact e.symm
 split at h
 ·
  rename_i hk
  obtain ⟨h1, h2, e⟩ := of_decide_eq_true h
  have hr : restW ⟨kind, node, group, client, n, ask, cmd, keep⟩ = [itoa n] := by
   unfold restW
   simp only
   rw [Ah hk]
  rw [hr]
  unfold readS
  simp only
  rw [Ah hk, qa0 h1 h2]
  exact e.symm
 split at h
 ·
  rename_i hk
  obtain ⟨h1, h2, e⟩ := of_decide_eq_true h
  have hr : restW ⟨kind, node, group, client, n, ask, cmd, keep⟩ = [itoa node] := by
   unfold restW
   simp only
   rw [Ac (by omega), Ah hk]
  rw [hr]
  unfold readS
  simp only
  rw [Ac (show ¬ (kind = 3 ∨ kind = 4 ∨ kind = 5) by omega), Ac (show ¬ (kind = 10 ∨ kind = 11) by omega), Ac (show ¬ kind = 9 by omega), Ac (show ¬ kind = 12 by omega), Ah hk]
  simp only
  rw [qa0 (by omega) (by omega)]
  exact e.symm
 split at h
 ·
  rename_i hk
  obtain ⟨h1, h2, h3, e⟩ := of_decide_eq_true h
  have hr : restW ⟨kind, node, group, client, n, ask, cmd, keep⟩ = itoa node :: planW cmd := by
   unfold restW
   simp only
   rw [Ac (by omega), Ac (by omega), Ah hk]
  rw [hr]
  unfold readS
  simp only
  rw [Ac (show ¬ (kind = 3 ∨ kind = 4 ∨ kind = 5) by omega), Ac (show ¬ (kind = 10 ∨ kind = 11) by omega), Ah hk]
  simp only
  rw [qa0 (by omega) (by omega)]
  simp only
  rw [planS_join h3]
  exact e.symm
 split at h
 ·
  rename_i hk
  obtain ⟨h1, h2, h3, h4, h5, h6, h7, e⟩ := of_decide_eq_true h
  have hr : restW ⟨kind, node, group, client, n, ask, cmd, keep⟩ = itoa client :: itoa node :: itoa group :: askW ask := by
   unfold restW
   simp only
   rw [Ac (by omega), Ac (by omega), Ac (by omega), Ah hk]
  rw [hr]
  unfold readS
  simp only
  rw [Ac (by omega), Ah (by omega : kind = 10 ∨ kind = 11), Ac (by omega), Ac (by omega), Ac (by omega), Ah hk]
  rw [qa0 (by omega) (by omega)]
  simp only
  rw [qa0 (by omega) (by omega)]
  simp only
  rw [qa0 (by omega) (by omega)]
  simp only
  rw [askS_join h7]
  exact e.symm
 split at h
 ·
  rename_i hk
  obtain ⟨h1, h2, h3, h4, h5, h6, e⟩ := of_decide_eq_true h
  have hr : restW ⟨kind, node, group, client, n, ask, cmd, keep⟩ = [itoa client, itoa node, itoa group] := by
   unfold restW
   simp only
   rw [Ac (by omega), Ac (by omega), Ac (by omega), Ac (by omega), Ah hk]
  rw [hr]
  unfold readS
  simp only
  rw [Ac (by omega), Ah (by omega : kind = 10 ∨ kind = 11), Ac (by omega), Ac (by omega), Ac (by omega), Ac (by omega)]
  rw [qa0 (by omega) (by omega)]
  simp only
  rw [qa0 (by omega) (by omega)]
  simp only
  rw [qa0 (by omega) (by omega)]
  exact e.symm
 split at h
 ·
  rename_i hk
  obtain ⟨h1, h2, h3, h4, e⟩ := of_decide_eq_true h
  have hr : restW ⟨kind, node, group, client, n, ask, cmd, keep⟩ = itoa node :: keepW keep := by
   unfold restW
   simp only
   rw [Ac (by omega), Ac (by omega), Ac (by omega), Ac (by omega), Ac (by omega), Ah hk]
  rw [hr]
  unfold readS
  simp only
  rw [Ac (show ¬ (kind = 3 ∨ kind = 4 ∨ kind = 5) by omega), Ac (show ¬ (kind = 10 ∨ kind = 11) by omega), Ac (show ¬ kind = 9 by omega), Ah hk]
  simp only
  rw [qa0 (by omega) (by omega)]
  simp only
  rw [qfk 129 keep (by omega) h4]
  exact e.symm
 ·
  cases h
def wordsS : Bytes → List Bytes
 | [] => [[]]
 | c :: s => if c = 32 then [] :: wordsS s else match wordsS s with
  | w :: ws => (c :: w) :: ws
  | [] => [[c]]
theorem qge : ∀ {w : Bytes}, w.all okC = true → wordsS w = [w]
 | [], _ => rfl
 | c :: w, h => by
  simp only [Bc, Ae] at h
  rw [wordsS, Ac (ok_nb h.1), qge h.2]
theorem qgm : ∀ {w : Bytes} (r : Bytes), w.all okC = true → wordsS (w ++ 32 :: r) = w :: wordsS r
 | [], r, _ => by
  show wordsS (32 :: r) = _
  rw [wordsS, Ah rfl]
 | c :: w, r, h => by
  simp only [Bc, Ae] at h
  show wordsS (c :: (w ++ 32 :: r)) = _
  rw [wordsS, Ac (ok_nb h.1), qgm r h.2]
theorem qb7 : ∀ {ws : List Bytes}, ws ≠ [] → (∀ w ∈ ws, w.all okC = true) → wordsS (joinW ws) = ws
 | [w], _, h => qge (h w (by simp))
 | w :: v :: ws, _, h => by
  show wordsS (w ++ 32 :: joinW (v :: ws)) = _
  rw [qgm _ (h w (by simp)), qb7 (by simp) fun x hx => h x (Ay _ hx)]
def numI (w : List Bytes) (i : Nat) : Int := match w[i]? with
 | some x => numR x
 | none => -1
def wordI (w : List Bytes) (i : Nat) : Option Bytes := match w[i]? with
 | some x => unwordR x
 | none => none
def keepI : Nat → List Bytes → List (Bytes × Int)
 | f + 1, x :: y :: w => (x, numR y) :: keepI f w
 | _, _ => []
def planI (w : List Bytes) : CmdM × Bool :=
 if w.length < 4 then (cmd0, false) else
  let k := wordI w 3
  let c := { cmd0 with key := k.getD [] }
  let x := (w[2]?).getD []
  (if x = wSplit then { c with kind := 6 } else if x = wUnion then { c with kind := 7 } else if x = wMove then { c with kind := 8, group := numI w 4 } else c, k.isSome)
def askI (w : List Bytes) (i : Nat) : AskM × Bool :=
 if w.length ≤ i then (ask0, false) else
  let k := wordI w (i + 1)
  let a := { ask0 with key := k.getD [] }
  let x := (w[i]?).getD []
  if x = wGet then ({ a with kind := 1 }, k.isSome)
  else if x = wDelete then ({ a with kind := 3 }, k.isSome)
  else if x = wPut ∨ x = wFresh ∨ x = wSwap then
   let v := wordI w (i + 2)
   let a2 := { a with kind := if x = wPut then 2 else 4, none := decide (x = wFresh), value := v.getD [] }
   if x = wSwap then ({ a2 with was := (wordI w (i + 3)).getD [] }, k.isSome && v.isSome && (wordI w (i + 3)).isSome) else (a2, k.isSome && v.isSome)
  else if x = wScan then
   let t := wordI w (i + 2)
   ({ a with kind := 5, «to» := t.getD [], most := numI w (i + 3) }, k.isSome && t.isSome)
  else (a, k.isSome)
def readI (k : Int) (w : List Bytes) : ActM × Bool :=
 let a := { act0 with kind := k }
 if k = 3 ∨ k = 4 ∨ k = 5 then ({ a with n := numI w 1 }, true)
 else if k = 9 then ({ a with node := numI w 1, cmd := (planI w).1 }, (planI w).2)
 else if k = 10 then ({ a with client := numI w 1, node := numI w 2, group := numI w 3, ask := (askI w 4).1 }, (askI w 4).2)
 else if k = 11 then ({ a with client := numI w 1, node := numI w 2, group := numI w 3 }, true)
 else if k = 12 then ({ a with node := numI w 1, keep := keepI 129 (w.drop 2) }, true)
 else if k = 8 ∨ k = 13 then ({ a with node := numI w 1 }, true)
 else ({ a with node := numI w 1, group := numI w 2 }, decide (0 < k))
theorem qbH {n : Int} (h0 : 0 ≤ n) (h1 : n ≤ 2147483647) : numR (itoa n) = n := by
 obtain ⟨u, rfl⟩ : ∃ u : Nat, n = u := ⟨n.toNat, by omega⟩
 exact numR_itoa (by omega)
theorem qer : ∀ (f : Nat) (l : List (Bytes × Int)), l.length ≤ f → keepOk l = true → keepI f (keepW l) = l
 | 0, [], _, _ => rfl
 | f + 1, [], _, _ => rfl
 | f + 1, x :: l, hl, hk => by
  simp only [keepOk, Ae, Aq] at hk
  obtain ⟨⟨⟨h1, h2⟩, _⟩, h4⟩ := hk
  show (x.1, numR (itoa x.2)) :: keepI f (keepW l) = _
  rw [qbH h2.1 h2.2, qer f l (by simp at hl; omega) h4]
theorem qb1 {nodes groups : Int} {a : ActM} (h : mayAct nodes groups a = true) : 1 ≤ a.kind ∧ a.kind ≤ 13 := by
 unfold mayAct at h
 split at h
 ·
  omega
 split at h
 ·
  omega
 split at h
 ·
  omega
 split at h
 ·
  omega
 split at h
 ·
  omega
 split at h
 ·
  omega
 split at h
 ·
  omega
 ·
  cases h
theorem qgt : ∀ i : Fin 13, (kword (i.val + 1)).all okC = true ∧ kword (i.val + 1) ≠ [] ∧ ∀ j : Fin 13, kword (j.val + 1) = kword (i.val + 1) → j = i := by decide +kernel
theorem qd6 {k : Int} (h : 1 ≤ k ∧ k ≤ 13) : (kword k).all okC = true := by
 have := (qgt ⟨(k - 1).toNat, by omega⟩).1
 simp only at this
 rw [show (((k - 1).toNat : Nat) : Int) + 1 = k from by omega] at this
 exact this
theorem qg5 {i j : Nat} (hi : i < 13) (hj : j < 13) (h : kword ((i : Int) + 1) = kword ((j : Int) + 1)) : i = j := by
 have := (qgt ⟨j, hj⟩).2.2 ⟨i, hi⟩ h
 exact congrArg Fin.val this
theorem askW_ok (a : AskM) : ∀ w ∈ askW a, w.all okC = true := by
 intro w hw
 unfold askW at hw
 have hw1 := fun b => (qhg b).1
 have hi := fun n => (qca n).1
 split at hw
 ·
  simp only [Ak, As, or_false] at hw
  rcases hw with rfl | rfl
  ·
   decide
  ·
   exact hw1 _
 split at hw
 ·
  simp only [Ak, As, or_false] at hw
  rcases hw with rfl | rfl
  ·
   decide
  ·
   exact hw1 _
 split at hw
 ·
  simp only [Ak, As, or_false] at hw
  rcases hw with rfl | rfl | rfl
  ·
   decide
  ·
   exact hw1 _
  ·
   exact hw1 _
 split at hw
 ·
  simp only [Ak, As, or_false] at hw
  rcases hw with rfl | rfl | rfl | rfl
  ·
   decide
  ·
   exact hw1 _
  ·
   exact hw1 _
  ·
   exact hi _
 split at hw
 ·
  simp only [Ak, As, or_false] at hw
  rcases hw with rfl | rfl | rfl
  ·
   decide
  ·
   exact hw1 _
  ·
   exact hw1 _
 ·
  simp only [Ak, As, or_false] at hw
  rcases hw with rfl | rfl | rfl | rfl
  ·
   decide
  ·
   exact hw1 _
  ·
   exact hw1 _
  ·
   exact hw1 _
theorem planW_ok (c : CmdM) : ∀ w ∈ planW c, w.all okC = true := by
 intro w hw
 unfold planW at hw
 have hw1 := fun b => (qhg b).1
 split at hw
 ·
  simp only [Ak, As, or_false] at hw
  rcases hw with rfl | rfl
  ·
   decide
  ·
   exact hw1 _
 split at hw
 ·
  simp only [Ak, As, or_false] at hw
  rcases hw with rfl | rfl
  ·
   decide
  ·
   exact hw1 _
 ·
  simp only [Ak, As, or_false] at hw
  rcases hw with rfl | rfl | rfl
  ·
   decide
  ·
   exact hw1 _
  ·
   exact (qca _).1
theorem qbW : ∀ {l : List (Bytes × Int)}, keepOk l = true → ∀ x ∈ l, nameOk x.1 = true ∧ 0 ≤ x.2 ∧ x.2 ≤ 2147483647
 | x :: l, h, y, hy => by
  simp only [keepOk, Ae, Aq] at h
  obtain ⟨⟨⟨h1, h2⟩, _⟩, h4⟩ := h
  rcases Ak.1 hy with rfl | hy
  ·
   exact ⟨h1, h2⟩
  ·
   exact qbW h4 y hy
theorem keepW_ok {l : List (Bytes × Int)} (h : keepOk l = true) : ∀ w ∈ keepW l, w.all okC = true := by
 intro w hw
 obtain ⟨x, hx, hw⟩ := List.mem_flatMap.1 hw
 simp only [Ak, As, or_false] at hw
 rcases hw with rfl | rfl
 ·
  exact (name_ok (qbW h x hx).1).1
 ·
  exact (qca _).1
theorem qhv {nodes groups : Int} {a : ActM} (h : mayAct nodes groups a = true) (hk : a.kind = 12) : keepOk a.keep = true := by
 unfold mayAct at h
 rw [Ac (by omega), Ac (by omega), Ac (by omega), Ac (by omega), Ac (by omega), Ac (by omega), Ah hk] at h
 exact (of_decide_eq_true h).2.2.2.1
theorem qfD {nodes groups : Int} {a : ActM} (h : mayAct nodes groups a = true) : ∀ w ∈ restW a, w.all okC = true := by
 intro w hw
 have hi := fun n => (qca n).1
 unfold restW at hw
 split at hw
 ·
  simp only [Ak, As, or_false] at hw; subst hw; exact hi _
 split at hw
 ·
  simp only [Ak, As, or_false] at hw; subst hw; exact hi _
 split at hw
 ·
  rcases Ak.1 hw with rfl | hw
  ·
   exact hi _
  ·
   exact planW_ok _ w hw
 split at hw
 ·
  simp only [Ak] at hw
  rcases hw with rfl | rfl | rfl | hw
  ·
   exact hi _
  ·
   exact hi _
  ·
   exact hi _
  ·
   exact askW_ok _ w hw
 split at hw
 ·
  simp only [Ak, As, or_false] at hw
  rcases hw with rfl | rfl | rfl <;> exact hi _
 split at hw
 ·
  rename_i hk
  rcases Ak.1 hw with rfl | hw
  ·
   exact hi _
  ·
   exact keepW_ok (qhv h hk) w hw
 ·
  simp only [Ak, As, or_false] at hw
  rcases hw with rfl | rfl <;> exact hi _
def unlineP (s : Bytes) : Option ActM :=
 ((List.range 13).find? fun i : Nat => kword ((i : Int) + 1) == (cutS s).1).bind fun i =>
  if mayAct 5 5 (readS ((i : Int) + 1) (cutS s).2) = true ∧ lineM (readS ((i : Int) + 1) (cutS s).2) = s then some (readS ((i : Int) + 1) (cutS s).2) else none
theorem qdt {k : Int} (h : 1 ≤ k ∧ k ≤ 13) : ((List.range 13).find? fun i : Nat => kword ((i : Int) + 1) == kword k) = some (k - 1).toNat := by
 have hk : (((k - 1).toNat : Nat) : Int) + 1 = k := by omega
 have hs : ((List.range 13).find? fun i : Nat => kword ((i : Int) + 1) == kword k).isSome = true := by
  rw [List.find?_isSome]
  exact ⟨(k - 1).toNat, by simp; omega, by rw [hk]; simp⟩
 obtain ⟨i, hi⟩ := Option.isSome_iff_exists.1 hs
 rw [hi]
 have h1 := List.find?_some hi
 have h2 := List.mem_of_find?_eq_some hi
 simp only [beq_iff_eq] at h1
 rw [← hk] at h1
 have := qg5 (by simpa using h2) (by omega) h1
 rw [this]
theorem qbI (s : Bytes) (a : ActM) : unlineP s = some a ↔ mayAct 5 5 a = true ∧ lineM a = s := by
 constructor
 ·
  intro h
  unfold unlineP at h
  obtain ⟨i, _, h⟩ := Option.bind_eq_some_iff.1 h
  split at h
  ·
   rename_i h1
   cases h
   exact h1
  ·
   cases h
 ·
  rintro ⟨h1, rfl⟩
  have hk := qb1 h1
  have hc : cutS (lineM a) = (kword a.kind, joinW (restW a)) := qb3 (qd6 hk)
  unfold unlineP
  rw [hc]
  simp only
  rw [qdt hk]
  simp only [Da]
  rw [show (((a.kind - 1).toNat : Nat) : Int) + 1 = a.kind from by omega, readS_line (by decide) (by decide) h1, Ah ⟨h1, rfl⟩]
def kindI (w : Bytes) : Int := match (List.range 13).find? fun i : Nat => kword ((i : Int) + 1) == w with
 | some i => (i : Int) + 1
 | none => 0
theorem qfh {k : Int} (h : 1 ≤ k ∧ k ≤ 13) : kindI (kword k) = k := by
 unfold kindI
 rw [qdt h]
 simp only
 omega
def unlineR (s : Bytes) : Option ActM :=
 let w := wordsS s
 let x := readI (kindI ((w[0]?).getD [])) w
 if x.2 = true ∧ mayAct 5 5 x.1 = true ∧ lineM x.1 = s then some x.1 else none
theorem qa3 (b : Bytes) (l : List Bytes) (i : Nat) (h : l[i]? = some (wordM b)) : wordI l i = some b := by
 unfold wordI
 rw [h]
 exact unR_word b
theorem qbb {n : Int} (h0 : 0 ≤ n) (h1 : n ≤ 2147483647) (l : List Bytes) (i : Nat) (h : l[i]? = some (itoa n)) : numI l i = n := by
 unfold numI
 rw [h]
 exact qbH h0 h1
theorem qhK {c : CmdM} (h : mayPlan c = true) (p q : Bytes) : planI (p :: q :: planW c) = (c, true) := by
 unfold mayPlan at h
 split at h
 ·
  rename_i hk
  obtain ⟨_, _, hc⟩ := of_decide_eq_true h
  rcases hk with hk | hk
  ·
   have e : planW c = [wSplit, wordM c.key] := by unfold planW; rw [Ah hk]
   rw [e]
   unfold planI
   rw [Ac (by simp), qa3 c.key _ 3 rfl]
   rw [hk] at hc
   show (if wSplit = wSplit then _ else _, true) = _
   rw [Ah rfl]
   exact congrArg (·, true) hc.symm
  ·
   have e : planW c = [wUnion, wordM c.key] := by unfold planW; rw [Ac (by omega), Ah hk]
   rw [e]
   unfold planI
   rw [Ac (by simp), qa3 c.key _ 3 rfl]
   rw [hk] at hc
   show (if wUnion = wSplit then _ else if wUnion = wUnion then _ else _, true) = _
   rw [Ac (by decide), Ah rfl]
   exact congrArg (·, true) hc.symm
 ·
  split at h
  ·
   rename_i hk
   obtain ⟨_, h1, h2, hc⟩ := of_decide_eq_true h
   have e : planW c = [wMove, wordM c.key, itoa c.group] := by unfold planW; rw [Ac (by omega), Ac (by omega)]
   rw [e]
   unfold planI
   rw [Ac (by simp), qa3 c.key _ 3 rfl, qbb (n := c.group) (by omega) (by omega) _ 4 rfl]
   rw [hk] at hc
   show (if wMove = wSplit then _ else if wMove = wUnion then _ else if wMove = wMove then _ else _, true) = _
   rw [Ac (by decide), Ac (by decide), Ah rfl]
   exact congrArg (·, true) hc.symm
  ·
   cases h
theorem askI_words {a : AskM} (h : mayAsk a = true) (p q r u : Bytes) : askI (p :: q :: r :: u :: askW a) 4 = (a, true) := by
 obtain ⟨kind, key, «to», value, was, none, most⟩ := a
 unfold mayAsk at h
 simp only at h
 split at h
 ·
  rename_i hk
  obtain ⟨_, _, rfl, rfl, rfl, rfl, rfl⟩ := of_decide_eq_true h
  rcases hk with rfl | rfl
  ·
   show askI [p, q, r, u, wGet, wordM key] 4 = _
   unfold askI
   rw [Ac (by simp), qa3 key _ 5 rfl]
   rfl
  ·
   show askI [p, q, r, u, wDelete, wordM key] 4 = _
   unfold askI
   rw [Ac (by simp), qa3 key _ 5 rfl]
   rfl
 ·
  split at h
  ·
   rename_i hk
   subst hk
   obtain ⟨_, _, rfl, rfl, rfl, rfl, _⟩ := of_decide_eq_true h
   show askI [p, q, r, u, wPut, wordM key, wordM value] 4 = _
   unfold askI
   rw [Ac (by simp), qa3 key _ 5 rfl, qa3 value _ 6 rfl]
   rfl
  ·
   split at h
   ·
    rename_i hk
    subst hk
    obtain ⟨_, _, _, _, hnw, rfl, rfl⟩ := of_decide_eq_true h
    cases none with
    | true =>
     obtain rfl : was = [] := by
      cases was with
      | nil => rfl
      | cons x y => exact absurd ⟨rfl, by simp⟩ hnw
     show askI [p, q, r, u, wFresh, wordM key, wordM value] 4 = _
     unfold askI
     rw [Ac (by simp), qa3 key _ 5 rfl, qa3 value _ 6 rfl]
     rfl
    | false =>
     show askI [p, q, r, u, wSwap, wordM key, wordM value, wordM was] 4 = _
     unfold askI
     rw [Ac (by simp), qa3 key _ 5 rfl, qa3 value _ 6 rfl, qa3 was _ 7 rfl]
     rfl
   ·
    split at h
    ·
     rename_i hk
     subst hk
     obtain ⟨_, _, h1, h2, rfl, rfl, rfl⟩ := of_decide_eq_true h
     show askI [p, q, r, u, wScan, wordM key, wordM «to», itoa most] 4 = _
     unfold askI
     rw [Ac (by simp), qa3 key _ 5 rfl, qa3 «to» _ 6 rfl, qbb (n := most) (by omega) (by omega) _ 7 rfl]
     rfl
    ·
     cases h
theorem readI_line {nodes groups : Int} (hn : nodes ≤ 2147483648) (hg : groups ≤ 2147483648) {a : ActM} (h : mayAct nodes groups a = true) (w0 : Bytes) : readI a.kind (w0 :: restW a) = (a, true) := by
 obtain ⟨kind, node, group, client, n, ask, cmd, keep⟩ := a
 unfold mayAct at h
 simp only at h
 split at h
 ·
  rename_i hk
  obtain ⟨h1, h2, h3, h4, e⟩ := of_decide_eq_true h
  have hr : restW ⟨kind, node, group, client, n, ask, cmd, keep⟩ = [itoa node, itoa group] := by
   unfold restW
   simp only
   rw [Ac (by omega), Ac (by omega), Ac (by omega), Ac (by omega), Ac (by omega), Ac (by omega)]
  rw [hr]
  unfold readI
  simp only
  rw [Ac (by omega), Ac (by omega), Ac (by omega), Ac (by omega), Ac (by omega), Ac (by omega), qbb (n := node) (by omega) (by omega) _ 1 rfl, qbb (n := group) (by omega) (by omega) _ 2 rfl, Al (by omega : 0 < kind)]
  exact congrArg (·, true) e.symm
 split at h
 ·
  rename_i hk
  obtain ⟨h1, h2, e⟩ := of_decide_eq_true h
  have hr : restW ⟨kind, node, group, client, n, ask, cmd, keep⟩ = [itoa n] := by
   unfold restW
   simp only
   rw [Ah hk]
  rw [hr]
  unfold readI
  simp only
  rw [Ah hk, qbb (n := n) h1 h2 _ 1 rfl]
  exact congrArg (·, true) e.symm
 split at h
 ·
  rename_i hk
  obtain ⟨h1, h2, e⟩ := of_decide_eq_true h
  have hr : restW ⟨kind, node, group, client, n, ask, cmd, keep⟩ = [itoa node] := by
   unfold restW
   simp only
   rw [Ac (by omega), Ah hk]
  rw [hr]
  unfold readI
  simp only
  rw [Ac (by omega), Ac (by omega), Ac (by omega), Ac (by omega), Ac (by omega), Ah hk, qbb (n := node) (by omega) (by omega) _ 1 rfl]
  exact congrArg (·, true) e.symm
 split at h
 ·
  rename_i hk
  obtain ⟨h1, h2, h3, e⟩ := of_decide_eq_true h
  have hr : restW ⟨kind, node, group, client, n, ask, cmd, keep⟩ = itoa node :: planW cmd := by
   unfold restW
   simp only
   rw [Ac (by omega), Ac (by omega), Ah hk]
  rw [hr]
  unfold readI
  simp only
  rw [Ac (by omega), Ah hk, qbb (n := node) (by omega) (by omega) _ 1 rfl, qhK h3]
  exact congrArg (·, true) e.symm
 split at h
 ·
  rename_i hk
  obtain ⟨h1, h2, h3, h4, h5, h6, h7, e⟩ := of_decide_eq_true h
  have hr : restW ⟨kind, node, group, client, n, ask, cmd, keep⟩ = itoa client :: itoa node :: itoa group :: askW ask := by
   unfold restW
   simp only
   rw [Ac (by omega), Ac (by omega), Ac (by omega), Ah hk]
  rw [hr]
  unfold readI
  simp only
  rw [Ac (by omega), Ac (by omega), Ah hk, qbb (n := client) (by omega) (by omega) _ 1 rfl, qbb (n := node) (by omega) (by omega) _ 2 rfl, qbb (n := group) (by omega) (by omega) _ 3 rfl, askI_words h7]
  exact congrArg (·, true) e.symm
 split at h
 ·
  rename_i hk
  obtain ⟨h1, h2, h3, h4, h5, h6, e⟩ := of_decide_eq_true h
  have hr : restW ⟨kind, node, group, client, n, ask, cmd, keep⟩ = [itoa client, itoa node, itoa group] := by
   unfold restW
   simp only
   rw [Ac (by omega), Ac (by omega), Ac (by omega), Ac (by omega), Ah hk]
  rw [hr]
  unfold readI
  simp only
  rw [Ac (by omega), Ac (by omega), Ac (by omega), Ah hk, qbb (n := client) (by omega) (by omega) _ 1 rfl, qbb (n := node) (by omega) (by omega) _ 2 rfl, qbb (n := group) (by omega) (by omega) _ 3 rfl]
  exact congrArg (·, true) e.symm
 split at h
 ·
  rename_i hk
  obtain ⟨h1, h2, h3, h4, e⟩ := of_decide_eq_true h
  have hr : restW ⟨kind, node, group, client, n, ask, cmd, keep⟩ = itoa node :: keepW keep := by
   unfold restW
   simp only
   rw [Ac (by omega), Ac (by omega), Ac (by omega), Ac (by omega), Ac (by omega), Ah hk]
  rw [hr]
  unfold readI
  simp only
  rw [Ac (by omega), Ac (by omega), Ac (by omega), Ac (by omega), Ah hk, qbb (n := node) (by omega) (by omega) _ 1 rfl]
  rw [show (w0 :: itoa node :: keepW keep).drop 2 = keepW keep from rfl, qer 129 keep (by omega) h4]
  exact congrArg (·, true) e.symm
 ·
  cases h
theorem qcK (s : Bytes) (a : ActM) : unlineR s = some a ↔ mayAct 5 5 a = true ∧ lineM a = s := by
 constructor
 ·
  intro h
  unfold unlineR at h
  simp only at h
  split at h
  ·
   rename_i h1
   cases h
   exact h1.2
  ·
   cases h
 ·
  rintro ⟨h1, rfl⟩
  have hk := qb1 h1
  have hw : wordsS (lineM a) = kword a.kind :: restW a := qb7 (by simp) fun w hw => by
   rcases Ak.1 hw with rfl | hw
   ·
    exact qd6 hk
   ·
    exact qfD h1 w hw
  unfold unlineR
  rw [hw]
  simp only [Ee, Bj]
  rw [qfh hk, readI_line (by decide) (by decide) h1]
  simp only
  simp [h1]
theorem unline_eq (s : Bytes) : unlineP s = unlineR s := by
 apply Option.ext
 intro a
 rw [qbI, qcK]
structure SetM where
 nodes : Int
 groups : List (List Int)
 disk : Int
 memory : Int
 level : Int
 deriving DecidableEq
structure ScrM where
 setup : SetM
 acts : List ActM
 deriving DecidableEq
def set0 : SetM := ⟨0, [], 0, 0, 0⟩
def scr0 : ScrM := ⟨set0, []⟩
def sizesM (s : SetM) : Bool :=
 decide (1 ≤ s.nodes ∧ s.nodes ≤ 5 ∧ 1024 ≤ s.disk ∧ s.disk ≤ 1048576 ∧ 64 ≤ s.memory ∧ s.memory ≤ 4096 ∧ 256 ≤ s.level ∧ s.level ≤ 65536)
def riseM (nodes : Int) : Int → List Int → Bool
 | _, [] => true
 | p, n :: l => decide (p < n ∧ n < nodes) && riseM nodes n l
def mayGroup (nodes : Int) (l : List Int) : Bool := riseM nodes (-1) l && decide (1 ≤ l.length ∧ l.length ≤ 3)
def maySet (s : SetM) : Bool := sizesM s && decide (2 ≤ s.groups.length ∧ s.groups.length ≤ 5) && s.groups.all (mayGroup s.nodes)
def mayIn (s : SetM) (a : ActM) : Bool := maySet s && mayAct s.nodes s.groups.length a
def wGroup : Bytes := [103, 114, 111, 117, 112]
def wSetup : Bytes := [115, 101, 116, 117, 112]
def groupL (l : List Int) : Bytes := joinW (wGroup :: l.map itoa)
def firstL (s : SetM) : Bytes := joinW [wSetup, itoa s.nodes, itoa s.disk, itoa s.memory, itoa s.level]
def headsM (s : SetM) : List Bytes := firstL s :: s.groups.map groupL
def catN (l : List Bytes) : Bytes := l.flatMap fun s => s ++ [10]
def textM (s : ScrM) : Bytes := catN (headsM s.setup ++ s.acts.map lineM)
def checkM (s : ScrM) : Int × Int :=
 if maySet s.setup then
  match s.acts.findIdx? fun a => !mayIn s.setup a with
  | some i => ((i : Int), 2)
  | none => if 65536 < s.acts.length then (0, 3) else (0, 0)
 else (0, 2)
def firstV (r : Bytes) : SetM :=
 let a := numS r
 let b := numS a.2
 let c := numS b.2
 let d := numS c.2
 ⟨a.1, [], b.1, c.1, d.1⟩
def firstP (s : Bytes) : SetM × Bool :=
 let x := firstV (cutS s).2
 (x, sizesM x && decide (firstL x = s))
def firstR (s : Bytes) : SetM × Bool :=
 match wordsS s with
 | [w, a, b, c, d] => if w = wSetup then let x : SetM := ⟨numR a, [], numR b, numR c, numR d⟩; (x, sizesM x && decide (firstL x = s)) else (set0, false)
 | _ => (set0, false)
def membersV : Nat → Bytes → List Int
 | 0, _ => []
 | f + 1, s => if s = [] then [] else (numS s).1 :: membersV f (numS s).2
def membersP (s : Bytes) : List Int × Bool :=
 let l := membersV 4 (cutS s).2
 (l, decide (groupL l = s))
def ungroupR (s : Bytes) : List Int × Bool :=
 let w := wordsS s
 if w.head? = some wGroup ∧ 2 ≤ w.length ∧ w.length ≤ 4 then let l := (w.drop 1).map numR; (l, mayGroup 5 l) else ([], false)
def layP (s : ScrM) (line : Bytes) : Option ScrM :=
 if (membersP line).2 then
  if s.acts = [] ∧ s.setup.groups.length < 5 ∧ mayGroup s.setup.nodes (membersP line).1 = true then some { s with setup := { s.setup with groups := s.setup.groups ++ [(membersP line).1] } } else none
 else match unlineP line with
  | some a => if mayIn s.setup a = true ∧ s.acts.length < 65536 then some { s with acts := s.acts ++ [a] } else none
  | none => none
def layR (s : ScrM) (line : Bytes) : Option ScrM :=
 if (ungroupR line).2 = true ∧ mayGroup s.setup.nodes (ungroupR line).1 = true ∧ s.setup.groups.length < 5 ∧ s.acts = [] then some { s with setup := { s.setup with groups := s.setup.groups ++ [(ungroupR line).1] } }
 else match unlineR line with
  | some a => if mayIn s.setup a = true ∧ s.acts.length < 65536 then some { s with acts := s.acts ++ [a] } else none
  | none => none
theorem qdv {nodes : Int} : ∀ {l : List Int} {p : Int}, -1 ≤ p → riseM nodes p l = true → ∀ n ∈ l, 0 ≤ n ∧ n < nodes
 | [], _, _, _ => fun n h => by cases h
 | m :: l, p, hp, h => by
  unfold riseM at h
  rw [Ae, Aq] at h
  obtain ⟨⟨h1, h2⟩, h3⟩ := h
  intro n hn
  rcases Ak.1 hn with rfl | hn
  ·
   omega
  ·
   exact qdv (by omega) h3 n hn
theorem qgA {a b : Int} (hab : a ≤ b) : ∀ {l : List Int} {p : Int}, riseM a p l = true → riseM b p l = true
 | [], _, _ => rfl
 | m :: l, p, h => by
  unfold riseM at h ⊢
  rw [Ae, Aq] at h ⊢
  exact ⟨by omega, qgA hab h.2⟩
theorem qcR {nodes : Int} (hn : nodes ≤ 5) {l : List Int} (h : mayGroup nodes l = true) : (∀ n ∈ l, 0 ≤ n ∧ n ≤ 2147483647) ∧ 1 ≤ l.length ∧ l.length ≤ 3 ∧ mayGroup 5 l = true := by
 unfold mayGroup at h ⊢
 rw [Ae, Aq] at h
 refine ⟨fun n hn' => ?_, h.2.1, h.2.2, ?_⟩
 ·
  have := qdv (by decide) h.1 n hn'
  omega
 ·
  rw [Ae, Aq]
  exact ⟨qgA hn h.1, h.2⟩
theorem qh4 (l : List Int) : ∀ w ∈ l.map itoa, w.all okC = true := by
 intro w hw
 obtain ⟨n, _, rfl⟩ := Bp.1 hw
 exact (qca n).1
theorem qec : wGroup.all okC = true := by decide
theorem qei : wSetup.all okC = true := by decide
theorem qb9 (l : List Int) : wordsS (groupL l) = wGroup :: l.map itoa :=
 qb7 (by simp) fun w hw => by
  rcases Ak.1 hw with rfl | hw
  ·
   exact qec
  ·
   exact qh4 l w hw
theorem qcL (s : SetM) : wordsS (firstL s) = [wSetup, itoa s.nodes, itoa s.disk, itoa s.memory, itoa s.level] :=
 qb7 (by simp) fun w hw => by
  simp only [Ak, As, or_false] at hw
  rcases hw with rfl | rfl | rfl | rfl | rfl
  ·
   exact qei
  all_goals exact (qca _).1
theorem qcz (s : Bytes) (x : SetM) : firstP s = (x, true) ↔ sizesM x = true ∧ x.groups = [] ∧ firstL x = s := by
 constructor
 ·
  intro h
  unfold firstP at h
  simp only [Prod.mk.injEq, Ae, Aq] at h
  obtain ⟨rfl, h1, h2⟩ := h
  exact ⟨h1, rfl, h2⟩
 ·
  rintro ⟨h1, h2, h3⟩
  subst h3
  have h4 := of_decide_eq_true h1
  have hv : firstV (cutS (firstL x)).2 = x := by
   unfold firstL
   rw [qb3 qei]
   unfold firstV
   simp only
   rw [qa0 (n := x.nodes) (by omega) (by omega), qa0 (n := x.disk) (by omega) (by omega), qa0 (n := x.memory) (by omega) (by omega), qa0 (n := x.level) (by omega) (by omega)]
   cases x
   simp only at h2
   subst h2
   rfl
  unfold firstP
  simp only
  rw [hv, h1]
  simp
theorem qfy (s : Bytes) (x : SetM) : firstR s = (x, true) ↔ sizesM x = true ∧ x.groups = [] ∧ firstL x = s := by
 constructor
 ·
  intro h
  unfold firstR at h
  split at h
  ·
   split at h
   ·
    simp only [Prod.mk.injEq, Ae, Aq] at h
    obtain ⟨rfl, h1, h2⟩ := h
    exact ⟨h1, rfl, h2⟩
   ·
    simp at h
  ·
   simp at h
 ·
  rintro ⟨h1, h2, h3⟩
  subst h3
  have h4 := of_decide_eq_true h1
  unfold firstR
  rw [qcL]
  simp only
  rw [Ah trivial, qbH (n := x.nodes) (by omega) (by omega), qbH (n := x.disk) (by omega) (by omega), qbH (n := x.memory) (by omega) (by omega), qbH (n := x.level) (by omega) (by omega)]
  have hx : (⟨x.nodes, [], x.disk, x.memory, x.level⟩ : SetM) = x := by
   cases x
   simp only at h2
   subst h2
   rfl
  rw [hx, h1]
  simp
theorem first_eq (s : Bytes) : (firstP s).2 = (firstR s).2 ∧ ((firstP s).2 = true → (firstP s).1 = (firstR s).1) := by
 by_cases h : (firstP s).2 = true
 ·
  have h1 := (qcz s (firstP s).1).1 (Prod.ext rfl h)
  have h2 := (qfy s (firstP s).1).2 h1
  rw [h2]
  exact ⟨h, fun _ => rfl⟩
 ·
  by_cases h' : (firstR s).2 = true
  ·
   have h1 := (qfy s (firstR s).1).1 (Prod.ext rfl h')
   have h2 := (qcz s (firstR s).1).2 h1
   rw [h2] at h
   exact absurd rfl h
  ·
   exact ⟨(Bool.eq_false_iff.2 h).trans (Bool.eq_false_iff.2 h').symm, fun x => absurd x h⟩
theorem qcH : ∀ (f : Nat) (l : List Int), l.length ≤ f → (∀ n ∈ l, 0 ≤ n ∧ n ≤ 2147483647) → membersV f (joinW (l.map itoa)) = l
 | 0, [], _, _ => rfl
 | f + 1, [], _, _ => by simp [membersV, joinW]
 | f + 1, n :: l, h, hl => by
  have h0 := hl n Bl
  rw [Bq]
  unfold membersV
  rw [Ac (join_ne (qca n).2), qa0 h0.1 h0.2]
  simp only
  rw [qcH f l (by simpa using h) fun m hm => hl m (Ay n hm)]
theorem qeT {nodes : Int} (hn : nodes ≤ 5) {l : List Int} (h : mayGroup nodes l = true) : membersP (groupL l) = (l, true) := by
 obtain ⟨h1, _, h3, _⟩ := qcR hn h
 have hv : membersV 4 (cutS (groupL l)).2 = l := by
  unfold groupL
  rw [qb3 qec]
  exact qcH 4 l (by omega) h1
 unfold membersP
 simp only
 rw [hv]
 simp
theorem qcV {s : Bytes} (h : (membersP s).2 = true) : groupL (membersP s).1 = s := by
 unfold membersP at h ⊢
 exact of_decide_eq_true h
theorem qh7 : ∀ {l : List Int}, (∀ n ∈ l, 0 ≤ n ∧ n ≤ 2147483647) → (l.map itoa).map numR = l
 | [], _ => rfl
 | n :: l, h => by
  have h0 := h n Bl
  rw [Bq, Bq, qbH h0.1 h0.2, qh7 fun m hm => h m (Ay n hm)]
theorem qe4 {nodes : Int} (hn : nodes ≤ 5) {l : List Int} (h : mayGroup nodes l = true) : ungroupR (groupL l) = (l, true) := by
 obtain ⟨h1, h2, h3, h4⟩ := qcR hn h
 unfold ungroupR
 simp only
 rw [qb9, Ah ⟨rfl, by simpa using h2, by simpa using h3⟩]
 simp only [List.drop_succ_cons, Du]
 rw [qh7 h1, h4]
theorem qc1 : ∀ (s : Bytes), wordsS s ≠ []
 | [] => by simp [wordsS]
 | c :: s => by
  rw [wordsS]
  split
  ·
   simp
  ·
   split <;> simp
theorem qfm : ∀ (s : Bytes), joinW (wordsS s) = s
 | [] => rfl
 | c :: s => by
  have ih := qfm s
  have hn := qc1 s
  rw [wordsS]
  cases hw : wordsS s with
  | nil => exact absurd hw hn
  | cons w ws =>
   rw [hw] at ih
   split
   ·
    rename_i hc
    show [] ++ 32 :: joinW (w :: ws) = _
    rw [ih, hc]
    rfl
   ·
    simp only
    cases ws with
    | nil => exact congrArg (c :: ·) ih
    | cons v ws => exact congrArg (c :: ·) ih
theorem qiv : ∀ {t : List Bytes}, (∀ n ∈ t.map numR, 0 ≤ n) → (t.map numR).map itoa = t
 | [], _ => rfl
 | x :: t, h => by
  have h0 := h (numR x) (List.mem_map_of_mem Bl)
  rw [Bq, Bq, ← (qg2 h0).1, qiv fun n hn => h n (by rw [Bq]; exact Ay _ hn)]
theorem qcb {s : Bytes} (h : (ungroupR s).2 = true) : mayGroup 5 (ungroupR s).1 = true ∧ groupL (ungroupR s).1 = s := by
 unfold ungroupR at h ⊢
 simp only at h ⊢
 split at h
 ·
  rename_i hc
  rw [Ah hc]
  obtain ⟨h1, h2, h3⟩ := hc
  have h4 := (qcR (by decide) h).1
  refine ⟨h, ?_⟩
  cases hw : wordsS s with
  | nil => exact absurd hw (qc1 s)
  | cons w t =>
   rw [hw] at h1 h4
   have hg : w = wGroup := by simpa using h1
   have h5 := qiv (t := t) fun n hn => (h4 n (by simpa using hn)).1
   simp only [List.drop_succ_cons, Du]
   unfold groupL
   rw [h5, ← hg, ← hw, qfm]
 ·
  cases h
theorem qhj : ∀ i : Fin 13, kword ((i.val : Int) + 1) ≠ wGroup := by decide +kernel
theorem line_words {nodes groups : Int} {a : ActM} (h : mayAct nodes groups a = true) : wordsS (lineM a) = kword a.kind :: restW a :=
 qb7 (by simp) fun w hw => by
  rcases Ak.1 hw with rfl | hw
  ·
   exact qd6 (qb1 h)
  ·
   exact qfD h w hw
theorem qfA {nodes groups : Int} {a : ActM} (h : mayAct nodes groups a = true) {l : List Int} : lineM a ≠ groupL l := by
 intro e
 have h1 := line_words h
 rw [e, qb9] at h1
 have h2 := (List.cons.inj h1).1
 have h3 := qb1 h
 have h4 := qhj ⟨(a.kind - 1).toNat, by omega⟩
 rw [show (((⟨(a.kind - 1).toNat, by omega⟩ : Fin 13).val : Nat) : Int) + 1 = a.kind by simp only; omega] at h4
 exact h4 h2.symm
theorem qhJ {n m g k : Int} (hn : n ≤ m) (hg : g ≤ k) {a : ActM} (h : mayAct n g a = true) : mayAct m k a = true := by
 unfold mayAct at h ⊢
 split at h
 ·
  rename_i h0
  obtain ⟨h1, h2, h3, h4, h5⟩ := of_decide_eq_true h
  rw [Ah h0]
  exact Al ⟨h1, by omega, h3, by omega, h5⟩
 rename_i h0
 rw [Ac h0]
 clear h0
 split at h
 ·
  rename_i h0
  rw [Ah h0]
  exact h
 rename_i h0
 rw [Ac h0]
 clear h0
 split at h
 ·
  rename_i h0
  obtain ⟨h1, h2, h3⟩ := of_decide_eq_true h
  rw [Ah h0]
  exact Al ⟨h1, by omega, h3⟩
 rename_i h0
 rw [Ac h0]
 clear h0
 split at h
 ·
  rename_i h0
  obtain ⟨h1, h2, h3⟩ := of_decide_eq_true h
  rw [Ah h0]
  exact Al ⟨h1, by omega, h3⟩
 rename_i h0
 rw [Ac h0]
 clear h0
 split at h
 ·
  rename_i h0
  obtain ⟨h1, h2, h3, h4, h5, h6, h7⟩ := of_decide_eq_true h
  rw [Ah h0]
  exact Al ⟨h1, h2, h3, by omega, h5, by omega, h7⟩
 rename_i h0
 rw [Ac h0]
 clear h0
 split at h
 ·
  rename_i h0
  obtain ⟨h1, h2, h3, h4, h5, h6, h7⟩ := of_decide_eq_true h
  rw [Ah h0]
  exact Al ⟨h1, h2, h3, by omega, h5, by omega, h7⟩
 rename_i h0
 rw [Ac h0]
 clear h0
 split at h
 ·
  rename_i h0
  obtain ⟨h1, h2, h3⟩ := of_decide_eq_true h
  rw [Ah h0]
  exact Al ⟨h1, by omega, h3⟩
 ·
  cases h
def Lays (s : ScrM) (line : Bytes) (t : ScrM) : Prop :=
 (∃ g, groupL g = line ∧ mayGroup s.setup.nodes g = true ∧ s.setup.groups.length < 5 ∧ s.acts = [] ∧ t = { s with setup := { s.setup with groups := s.setup.groups ++ [g] } }) ∨
 (∃ a, mayAct 5 5 a = true ∧ lineM a = line ∧ mayIn s.setup a = true ∧ s.acts.length < 65536 ∧ t = { s with acts := s.acts ++ [a] })
theorem qc9 {s : ScrM} (hn : s.setup.nodes ≤ 5) (line : Bytes) (t : ScrM) : layP s line = some t ↔ Lays s line t := by
 constructor
 ·
  intro h
  unfold layP at h
  split at h
  ·
   rename_i hm
   split at h
   ·
    rename_i hc
    exact .inl ⟨_, qcV hm, hc.2.2, hc.2.1, hc.1, (Option.some.inj h).symm⟩
   ·
    cases h
  ·
   split at h
   ·
    rename_i a ha
    split at h
    ·
     rename_i hc
     have h1 := (qbI line a).1 ha
     exact .inr ⟨a, h1.1, h1.2, hc.1, hc.2, (Option.some.inj h).symm⟩
    ·
     cases h
   ·
    cases h
 ·
  rintro (⟨g, rfl, h1, h2, h3, rfl⟩ | ⟨a, h1, rfl, h2, h3, rfl⟩)
  ·
   unfold layP
   rw [qeT hn h1]
   rw [Ah rfl, Ah ⟨h3, h2, h1⟩]
  ·
   unfold layP
   have hm : ¬ (membersP (lineM a)).2 = true := fun hm => qfA h1 (qcV hm).symm
   rw [Ac hm, (qbI (lineM a) a).2 ⟨h1, rfl⟩]
   simp only
   rw [Ah ⟨h2, h3⟩]
theorem layR_iff {s : ScrM} (hn : s.setup.nodes ≤ 5) (line : Bytes) (t : ScrM) : layR s line = some t ↔ Lays s line t := by
 constructor
 ·
  intro h
  unfold layR at h
  split at h
  ·
   rename_i hc
   exact .inl ⟨_, (qcb hc.1).2, hc.2.1, hc.2.2.1, hc.2.2.2, (Option.some.inj h).symm⟩
  ·
   split at h
   ·
    rename_i a ha
    split at h
    ·
     rename_i hc
     have h1 := (qcK line a).1 ha
     exact .inr ⟨a, h1.1, h1.2, hc.1, hc.2, (Option.some.inj h).symm⟩
    ·
     cases h
   ·
    cases h
 ·
  rintro (⟨g, rfl, h1, h2, h3, rfl⟩ | ⟨a, h1, rfl, h2, h3, rfl⟩)
  ·
   unfold layR
   rw [qe4 hn h1]
   rw [Ah ⟨rfl, h1, h2, h3⟩]
  ·
   unfold layR
   rw [Ac fun hc => qfA h1 (qcb hc.1).2.symm, (qcK (lineM a) a).2 ⟨h1, rfl⟩]
   simp only
   rw [Ah ⟨h2, h3⟩]
theorem lay_eq {s : ScrM} (hn : s.setup.nodes ≤ 5) (line : Bytes) : layP s line = layR s line := by
 apply Option.ext
 intro t
 rw [qc9 hn, layR_iff hn]
theorem qfi {s t : ScrM} {line : Bytes} (h : Lays s line t) : t.setup.nodes = s.setup.nodes := by
 rcases h with ⟨g, _, _, _, _, rfl⟩ | ⟨a, _, _, _, _, rfl⟩ <;> rfl
def cutN : Bytes → Bytes × Bytes × Bool
 | [] => ([], [], false)
 | c :: s => if c = 10 then ([], s, true) else (c :: (cutN s).1, (cutN s).2.1, (cutN s).2.2)
def splitN : Bytes → List Bytes × Bytes
 | [] => ([], [])
 | c :: s => if c = 10 then ([] :: (splitN s).1, (splitN s).2) else match (splitN s).1 with
  | [] => ([], c :: (splitN s).2)
  | x :: l => ((c :: x) :: l, (splitN s).2)
def noN (s : Bytes) : Bool := s.all fun c => c != 10
theorem qep : ∀ {x : Bytes} (r : Bytes), noN x = true → splitN (x ++ 10 :: r) = (x :: (splitN r).1, (splitN r).2)
 | [], r, _ => by
  show splitN (10 :: r) = _
  rw [splitN, Ah rfl]
 | c :: x, r, h => by
  unfold noN at h
  simp only [Bc, Ae, bne_iff_ne, ne_eq] at h
  show splitN (c :: (x ++ 10 :: r)) = _
  rw [splitN, Ac h.1, qep r h.2]
theorem qea : ∀ {x : Bytes}, noN x = true → splitN x = ([], x)
 | [], _ => rfl
 | c :: x, h => by
  unfold noN at h
  simp only [Bc, Ae, bne_iff_ne, ne_eq] at h
  rw [splitN, Ac h.1, qea h.2]
theorem qgT : ∀ {l : List Bytes} {r : Bytes}, (∀ x ∈ l, noN x = true) → noN r = true → splitN (catN l ++ r) = (l, r)
 | [], r, _, hr => qea hr
 | x :: l, r, h, hr => by
  have e : catN (x :: l) ++ r = x ++ 10 :: (catN l ++ r) := by
   unfold catN
   simp
  rw [e, qep _ (h x Bl), qgT (fun y hy => h y (Ay x hy)) hr]
theorem qee : ∀ (s : Bytes), catN (splitN s).1 ++ (splitN s).2 = s
 | [] => rfl
 | c :: s => by
  have ih := qee s
  rw [splitN]
  split
  ·
   rename_i hc
   show catN ([] :: (splitN s).1) ++ (splitN s).2 = _
   have e : catN ([] :: (splitN s).1) = 10 :: catN (splitN s).1 := by unfold catN; simp
   rw [e, Bw, ih, hc]
  ·
   cases hl : (splitN s).1 with
   | nil =>
    rw [hl] at ih
    simp only
    exact congrArg (c :: ·) ih
   | cons x l =>
    rw [hl] at ih
    simp only
    have e : catN ((c :: x) :: l) = c :: catN (x :: l) := by unfold catN; simp
    rw [e, Bw, ih]
theorem qcu : ∀ (s : Bytes), splitN s = if (cutN s).2.2 then ((cutN s).1 :: (splitN (cutN s).2.1).1, (splitN (cutN s).2.1).2) else ([], s)
 | [] => rfl
 | c :: s => by
  have ih := qcu s
  rw [splitN, cutN]
  split
  ·
   rename_i hc
   simp
  ·
   simp only
   by_cases hw : (cutN s).2.2 = true
   ·
    rw [Ah hw] at ih ⊢
    rw [ih]
   ·
    rw [Ac hw] at ih ⊢
    rw [ih]
theorem qhh : ∀ {s : Bytes}, (cutN s).2.2 = true → (cutN s).2.1.length < s.length
 | [], h => by cases h
 | c :: s, h => by
  rw [cutN] at h ⊢
  split at h
  ·
   rename_i hc
   rw [Ah hc]
   simp
  ·
   rename_i hc
   rw [Ac hc]
   simp only
   have := qhh (s := s) h
   rw [Ad]
   omega
def layAll (lay : ScrM → Bytes → Option ScrM) : ScrM → Nat → List Bytes → Option ScrM × Nat
 | s, n, [] => (some s, n)
 | s, n, x :: l => match lay s x with
  | some t => layAll lay t (n + 1) l
  | none => (none, n)
def parseW (first : Bytes → SetM × Bool) (lay : ScrM → Bytes → Option ScrM) (text : Bytes) : ScrM × Int × Int :=
 if 1048576 < text.length then (scr0, 0, 3)
 else match (splitN text).1 with
  | [] => (scr0, 0, 4)
  | x :: l => if (first x).2 then match layAll lay ⟨(first x).1, []⟩ 1 l with
    | (some s, n) => if (splitN text).2 ≠ [] ∨ s.setup.groups.length < 2 then (scr0, (n : Int), 4) else (s, 0, 0)
    | (none, n) => (scr0, (n : Int), 4)
   else (scr0, 0, 4)
def parseR (text : Bytes) : ScrM × Int × Int := parseW firstR layR text
def parseP (text : Bytes) : ScrM × Int × Int := parseW firstP layP text
theorem qgS : ∀ (l : List Bytes) (n : Nat) {s : ScrM}, s.setup.nodes ≤ 5 → layAll layP s n l = layAll layR s n l
 | [], _, _, _ => rfl
 | x :: l, n, s, hs => by
  rw [layAll, layAll, ← lay_eq hs]
  cases h : layP s x with
  | none => rfl
  | some t =>
   simp only
   exact qgS l (n + 1) (qfi ((qc9 hs x t).1 h) ▸ hs)
theorem qcp {x : Bytes} (h : (firstP x).2 = true) : (firstP x).1.nodes ≤ 5 ∧ sizesM (firstP x).1 = true ∧ (firstP x).1.groups = [] ∧ firstL (firstP x).1 = x := by
 have h1 := (qcz x (firstP x).1).1 (Prod.ext rfl h)
 have h2 := of_decide_eq_true h1.1
 exact ⟨h2.2.1, h1⟩
theorem qia (text : Bytes) : parseP text = parseR text := by
 unfold parseP parseR parseW
 split
 ·
  rfl
 ·
  split
  ·
   rfl
  ·
   rename_i x l _
   have h1 := first_eq x
   by_cases h : (firstP x).2 = true
   ·
    have h2 := h1.2 h
    rw [Ah h, Ah (h1.1 ▸ h), ← h2, qgS l 1 (qcp h).1]
   ·
    rw [Ac h, Ac (h1.1 ▸ h)]
theorem qcS : ∀ (l : List Bytes) (n : Nat) {s t : ScrM} {m : Nat}, s.setup.nodes ≤ 5 → layAll layP s n l = (some t, m) →
  ∃ gs avs, t = ⟨{ s.setup with groups := s.setup.groups ++ gs }, s.acts ++ avs⟩ ∧ l = gs.map groupL ++ avs.map lineM ∧ (s.acts ≠ [] → gs = []) ∧ (∀ g ∈ gs, mayGroup s.setup.nodes g = true) ∧
   (s.setup.groups.length ≤ 5 → t.setup.groups.length ≤ 5) ∧ (∀ a ∈ avs, mayIn t.setup a = true) ∧ (s.acts.length ≤ 65536 → t.acts.length ≤ 65536)
 | [], n, s, t, m, _, h => by
  rw [layAll] at h
  obtain ⟨rfl, _⟩ := Prod.mk.inj h |>.imp Option.some.inj id
  refine ⟨[], [], ?_, rfl, fun _ => rfl, fun g hg => (by cases hg), id, fun a ha => (by cases ha), id⟩
  cases s with
  | mk u avs => cases u; simp
 | x :: l, n, s, t, m, hs, h => by
  rw [layAll] at h
  cases hx : layP s x with
  | none =>
   rw [hx] at h
   cases h
  | some u =>
   rw [hx] at h
   simp only at h
   have hl := (qc9 hs x u).1 hx
   obtain ⟨gs, avs, h1, h2, h3, h4, h5, h6, h7⟩ := qcS l (n + 1) (qfi hl ▸ hs) h
   rcases hl with ⟨g, e, g1, g2, g3, rfl⟩ | ⟨a, a1, e, a2, a3, rfl⟩
   ·
    refine ⟨g :: gs, avs, ?_, ?_, fun hc => absurd g3 hc, ?_, ?_, h6, h7⟩
    ·
     rw [h1]
     simp
    ·
     rw [h2, ← e]
     rfl
    ·
     intro y hy
     rcases Ak.1 hy with rfl | hy
     ·
      exact g1
     ·
      exact h4 y hy
    ·
     intro _
     exact h5 (by simp only [An, Ad, Ag]; omega)
   ·
    have hg : gs = [] := h3 (by simp)
    subst hg
    have ht : t.setup = s.setup := by
     rw [h1]
     simp only [Ck]
    refine ⟨[], a :: avs, ?_, ?_, fun _ => rfl, fun g hg => (by cases hg), ?_, ?_, ?_⟩
    ·
     rw [h1]
     simp
    ·
     rw [h2, ← e]
     rfl
    ·
     rw [ht]
     exact id
    ·
     intro y hy
     rcases Ak.1 hy with rfl | hy
     ·
      rw [ht]
      exact a2
     ·
      exact h6 y hy
    ·
     intro _
     exact h7 (by simp only [An, Ad, Ag]; omega)
theorem layAll_app (lay : ScrM → Bytes → Option ScrM) : ∀ (l r : List Bytes) (n : Nat) {s t : ScrM} {m : Nat}, layAll lay s n l = (some t, m) → layAll lay s n (l ++ r) = layAll lay t m r
 | [], r, n, s, t, m, h => by
  rw [layAll] at h
  cases h
  rfl
 | x :: l, r, n, s, t, m, h => by
  rw [layAll] at h
  rw [Bw, layAll]
  cases hx : lay s x with
  | none =>
   rw [hx] at h
   cases h
  | some u =>
   rw [hx] at h
   exact layAll_app lay l r (n + 1) h
theorem qc4 : ∀ (gs : List (List Int)) (n : Nat) {u : SetM}, u.nodes ≤ 5 → (∀ g ∈ gs, mayGroup u.nodes g = true) → u.groups.length + gs.length ≤ 5 →
  layAll layP ⟨u, []⟩ n (gs.map groupL) = (some ⟨{ u with groups := u.groups ++ gs }, []⟩, n + gs.length)
 | [], n, u, _, _, _ => by
  cases u
  simp [layAll]
 | g :: gs, n, u, hn, h, hl => by
  rw [Bq, layAll]
  rw [Ad] at hl
  have h1 : layP ⟨u, []⟩ (groupL g) = some ⟨{ u with groups := u.groups ++ [g] }, []⟩ :=
   (qc9 (s := ⟨u, []⟩) hn _ _).2 (.inl ⟨g, rfl, h g Bl, by simp only; omega, rfl, rfl⟩)
  rw [h1]
  simp only
  have h2 := qc4 gs (n + 1) (u := { u with groups := u.groups ++ [g] }) hn (fun y hy => h y (Ay g hy)) (by simp only [An, Ad, Ag]; omega)
  rw [h2, Ad, Eb, Ei 1]
  simp
theorem qfz {u : SetM} {a : ActM} (h : mayIn u a = true) : maySet u = true ∧ u.nodes ≤ 5 ∧ mayAct 5 5 a = true := by
 unfold mayIn at h
 rw [Ae] at h
 have h1 := h.1
 unfold maySet at h1
 rw [Ae, Ae] at h1
 have h2 := of_decide_eq_true h1.1.1
 have h3 := of_decide_eq_true h1.1.2
 exact ⟨h.1, h2.2.1, qhJ h2.2.1 (by omega) h.2⟩
theorem qek : ∀ (avs : List ActM) (n : Nat) {s : ScrM}, s.setup.nodes ≤ 5 → (∀ a ∈ avs, mayIn s.setup a = true) → s.acts.length + avs.length ≤ 65536 →
  layAll layP s n (avs.map lineM) = (some { s with acts := s.acts ++ avs }, n + avs.length)
 | [], n, s, _, _, _ => by
  cases s
  simp [layAll]
 | a :: avs, n, s, hn, h, hl => by
  rw [Bq, layAll]
  rw [Ad] at hl
  have h0 := h a Bl
  have h1 : layP s (lineM a) = some { s with acts := s.acts ++ [a] } :=
   (qc9 hn _ _).2 (.inr ⟨a, (qfz h0).2.2, rfl, h0, by omega, rfl⟩)
  rw [h1]
  simp only
  have h2 := qek avs (n + 1) (s := { s with acts := s.acts ++ [a] }) hn (fun y hy => h y (Ay a hy)) (by simp only [An, Ad, Ag]; omega)
  rw [h2, Ad, Eb, Ei 1]
  simp
theorem qeh (s : ScrM) : checkM s = (0, 0) ↔ maySet s.setup = true ∧ (∀ a ∈ s.acts, mayIn s.setup a = true) ∧ s.acts.length ≤ 65536 := by
 unfold checkM
 constructor
 ·
  intro h
  split at h
  ·
   rename_i h1
   split at h
   ·
    cases h
   ·
    rename_i h2
    split at h
    ·
     cases h
    ·
     rename_i h3
     refine ⟨h1, fun a ha => ?_, by omega⟩
     have := List.findIdx?_eq_none_iff.1 h2 a ha
     simpa using this
  ·
   cases h
 ·
  rintro ⟨h1, h2, h3⟩
  have h4 : s.acts.findIdx? (fun a => !mayIn s.setup a) = none := List.findIdx?_eq_none_iff.2 fun a ha => by simp [h2 a ha]
  rw [Ah h1, h4]
  simp only
  rw [Ac (by omega)]
theorem ok_noN {w : Bytes} (h : w.all okC = true) : noN w = true :=
 Ai.2 fun c hc => by
  have h1 : 32 < c.toNat ∧ c.toNat < 127 := of_decide_eq_true (Ai.1 h c hc)
  rw [bne_iff_ne]
  rintro rfl
  exact absurd h1.1 (by decide)
theorem qdW : ∀ {ws : List Bytes}, (∀ w ∈ ws, w.all okC = true) → noN (joinW ws) = true
 | [], _ => rfl
 | [w], h => ok_noN (h w Bl)
 | w :: v :: ws, h => by
  have h1 := ok_noN (h w Bl)
  have h2 := qdW (ws := v :: ws) fun x hx => h x (Ay w hx)
  unfold noN at h1 h2 ⊢
  show (w ++ 32 :: joinW (v :: ws)).all _ = true
  rw [Dn, Bc, h1, h2]
  rfl
theorem group_noN (l : List Int) : noN (groupL l) = true :=
 qdW fun w hw => by
  rcases Ak.1 hw with rfl | hw
  ·
   exact qec
  ·
   exact qh4 l w hw
theorem first_noN (s : SetM) : noN (firstL s) = true :=
 qdW fun w hw => by
  simp only [Ak, As, or_false] at hw
  rcases hw with rfl | rfl | rfl | rfl | rfl
  ·
   exact qei
  all_goals exact (qca _).1
theorem line_noN {nodes groups : Int} {a : ActM} (h : mayAct nodes groups a = true) : noN (lineM a) = true :=
 qdW fun w hw => by
  rcases Ak.1 hw with rfl | hw
  ·
   exact qd6 (qb1 h)
  ·
   exact qfD h w hw
theorem parseP_iff (text : Bytes) (s : ScrM) : (∃ n, parseP text = (s, n, 0)) ↔ checkM s = (0, 0) ∧ textM s = text ∧ text.length ≤ 1048576 := by
 constructor
 ·
  rintro ⟨n, h⟩
  unfold parseP parseW at h
  split at h
  ·
   cases h
  ·
   rename_i hl
   have hc := qee text
   split at h
   ·
    cases h
   ·
    rename_i x l hs
    split at h
    ·
     rename_i hf
     split at h
     ·
      rename_i t m ht
      split at h
      ·
       cases h
      ·
       rename_i hr
       cases h
       obtain ⟨f1, f2, f3, f4⟩ := qcp hf
       obtain ⟨gs, avs, h1, h2, h3, h4, h5, h6, h7⟩ := qcS l 1 (s := ⟨(firstP x).1, []⟩) f1 ht
       simp only [f3, Ct] at h1 h4
       have h5' := h5 (by simp [f3])
       have h7' := h7 (by simp)
       have hr1 : (splitN text).2 = [] := Decidable.byContradiction fun hh => hr (.inl hh)
       have hr2 : ¬ s.setup.groups.length < 2 := fun hh => hr (.inr hh)
       subst h1
       simp only at h5' h6 h7' hr2
       refine ⟨(qeh _).2 ⟨?_, h6, h7'⟩, ?_, by omega⟩
       ·
        unfold maySet
        simp only [Ae, Aq, Ai]
        exact ⟨⟨f2, by omega, h5'⟩, h4⟩
       ·
        rw [hs, hr1, Ck, h2, ← f4] at hc
        rw [← hc]
        rfl
     ·
      cases h
    ·
     cases h
 ·
  rintro ⟨h1, rfl, h3⟩
  obtain ⟨c1, c2, c3⟩ := (qeh s).1 h1
  have c4 := c1
  unfold maySet at c4
  simp only [Ae, Aq, Ai] at c4
  obtain ⟨⟨d1, d2⟩, d3⟩ := c4
  have d4 := of_decide_eq_true d1
  have hs : splitN (textM s) = (firstL s.setup :: (s.setup.groups.map groupL ++ s.acts.map lineM), []) := by
   have := qgT (l := headsM s.setup ++ s.acts.map lineM) (r := []) (fun x hx => by
    rcases Bh.1 hx with hx | hx
    ·
     rcases Ak.1 hx with rfl | hx
     ·
      exact first_noN _
     ·
      obtain ⟨g, _, rfl⟩ := Bp.1 hx
      exact group_noN g
    ·
     obtain ⟨a, ha, rfl⟩ := Bp.1 hx
     exact line_noN (qfz (c2 a ha)).2.2) rfl
   rw [Ck] at this
   exact this
  have hf := (qcz (firstL s.setup) { s.setup with groups := [] }).2 ⟨d1, rfl, rfl⟩
  have g1 := qc4 s.setup.groups 1 (u := { s.setup with groups := [] }) d4.2.1 d3 (by simpa using d2.2)
  simp only [Ct] at g1
  have g2 := layAll_app layP _ (s.acts.map lineM) 1 g1
  have g3 := qek s.acts (1 + s.setup.groups.length) (s := ⟨s.setup, []⟩) d4.2.1 c2 (by simpa using c3)
  rw [Ct] at g3
  refine ⟨0, ?_⟩
  unfold parseP parseW
  rw [Ac (by omega), hs]
  simp only
  rw [hf]
  simp only [if_true]
  rw [g2, g3]
  simp only
  rw [Ac (by simp; omega)]
end Go.Pln
