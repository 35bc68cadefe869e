/-
  Texts of one claim, merged: 4 parts.
-/
import Derived.Test.YtigmojilaadbhaaGreatDoorMlip
import Derived.Test.YtigmojilaadbhaaGreatDoorMlit
import Derived.Test.YtigmojilaadbhaaGreatDoorMlie
import Derived.Test.YtigmojilaadbhaaGreatDoorRows
import Derived.Test.YtigmojilaadbhaaGreatDoorMlig
import Derived.Lib.LaidTab
import Derived.LaidSub
import Derived.LaidMore
import Derived.LaidHandle
import Derived.Stop.Joined
/-
 Scripts: what comes in, read.
-/
namespace Go.Proofs.YtigmojilaadbhaaGreatDoor
open Go Go.Eng Go.Pln Go.Lib
attribute [local irreducible] Rd RdV AWp AL DAL AOp TAL

theorem qaG {cs p r : List Value} {o n : Nat} (h1 : (cs.drop o).take n = p) (h2 : cs.drop (o + n) = r) : cs.drop o = p ++ r := by
 rw [← h1, ← h2, ← List.drop_drop, List.take_append_drop]
theorem qce {cs : List Value} {n : Nat} (h : cs.length = n) : cs.drop n = [] := List.drop_of_length_le (by omega)
theorem qcB : Tryz.prog.cellsOf 3 = 1 := by kernel_rfl
theorem rc_i64 : Tryz.prog.cellsOf 2 = 1 := by kernel_rfl
theorem rc_str : Tryz.prog.cellsOf 9 = 1 := by kernel_rfl
theorem rc_bool : Tryz.prog.cellsOf 4 = 1 := by kernel_rfl
theorem qej : Tryz.prog.cellsOf 5 = 1 := by kernel_rfl
theorem qep : Tryz.prog.cellsOf 27 = 1 := by kernel_rfl
theorem rc_ak : Tryz.prog.cellsOf 26 = 1 := by kernel_rfl
theorem rc_ck : Tryz.prog.cellsOf 30 = 1 := by kernel_rfl
theorem rc_kd : Tryz.prog.cellsOf 169 = 1 := by kernel_rfl
theorem rc_atk : Tryz.prog.cellsOf 25 = 1 := by kernel_rfl
theorem rc_ask : Tryz.prog.cellsOf 29 = 7 := by kernel_rfl
theorem rc_req : Tryz.prog.cellsOf 32 = 9 := by kernel_rfl
theorem rc_move : Tryz.prog.cellsOf 34 = 6 := by kernel_rfl
theorem rc_ent : Tryz.prog.cellsOf 171 = 4 := by kernel_rfl
theorem rc_ents : Tryz.prog.cellsOf 35 = 1 := by kernel_rfl
theorem rc_cmd : Tryz.prog.cellsOf 37 = 20 := by kernel_rfl
theorem rc_kept : Tryz.prog.cellsOf 79 = 2 := by kernel_rfl
theorem rc_kepts : Tryz.prog.cellsOf 38 = 1 := by kernel_rfl
theorem rc_act : Tryz.prog.cellsOf 40 = 33 := by kernel_rfl
theorem qei : Tryz.prog.bytesOf 5 = 1 := by kernel_rfl
theorem rb_ent : Tryz.prog.bytesOf 171 = 64 := by kernel_rfl
theorem rb_kept : Tryz.prog.bytesOf 79 = 24 := by kernel_rfl
theorem ask_in (n : Nat) (h : Heap) (cs : List Value) (r : Rd Tryz.prog h (n + 3) 29 cs) : ∃ (q : AskV) (a : AskM), cs = askC q a ∧ AskR h q a := by
 obtain ⟨hl, hf⟩ := r.strc Tryz.underlying29
 rw [rc_ask] at hl
 have f0 : Rd Tryz.prog h (n + 2) 26 ((cs.drop 0).take (Tryz.prog.cellsOf 26)) := hf _ (List.mem_of_getElem? (i := 0) rfl)
 rw [rc_ak] at f0
 obtain ⟨x0, e0, _⟩ := f0.int Tryz.underlying26
 have f1 : Rd Tryz.prog h (n + 2) 27 ((cs.drop 1).take (Tryz.prog.cellsOf 27)) := hf _ (List.mem_of_getElem? (i := 1) rfl)
 rw [qep] at f1
 obtain ⟨v1, x1, e1, b1, _⟩ := f1.bytes Tryz.underlying27 Tryz.underlying5 qej qei
 have f2 : Rd Tryz.prog h (n + 2) 27 ((cs.drop 2).take (Tryz.prog.cellsOf 27)) := hf _ (List.mem_of_getElem? (i := 2) rfl)
 rw [qep] at f2
 obtain ⟨v2, x2, e2, b2, _⟩ := f2.bytes Tryz.underlying27 Tryz.underlying5 qej qei
 have f3 : Rd Tryz.prog h (n + 2) 27 ((cs.drop 3).take (Tryz.prog.cellsOf 27)) := hf _ (List.mem_of_getElem? (i := 3) rfl)
 rw [qep] at f3
 obtain ⟨v3, x3, e3, b3, _⟩ := f3.bytes Tryz.underlying27 Tryz.underlying5 qej qei
 have f4 : Rd Tryz.prog h (n + 2) 27 ((cs.drop 4).take (Tryz.prog.cellsOf 27)) := hf _ (List.mem_of_getElem? (i := 4) rfl)
 rw [qep] at f4
 obtain ⟨v4, x4, e4, b4, _⟩ := f4.bytes Tryz.underlying27 Tryz.underlying5 qej qei
 have f5 : Rd Tryz.prog h (n + 2) 4 ((cs.drop 5).take (Tryz.prog.cellsOf 4)) := hf _ (List.mem_of_getElem? (i := 5) rfl)
 rw [rc_bool] at f5
 obtain ⟨x5, e5⟩ := f5.bool Tryz.underlying4
 have f6 : Rd Tryz.prog h (n + 2) 3 ((cs.drop 6).take (Tryz.prog.cellsOf 3)) := hf _ (List.mem_of_getElem? (i := 6) rfl)
 rw [qcB] at f6
 obtain ⟨x6, e6, _⟩ := f6.int Tryz.underlying3
 have e := (qaG e0 (qaG e1 (qaG e2 (qaG e3 (qaG e4 (qaG e5 (qaG e6 (qce hl))))))))
 rw [List.drop_zero] at e
 exact ⟨⟨v1, v2, v3, v4⟩, ⟨x0, x1, x2, x3, x4, x5, x6⟩, e, ⟨b1, b2, b3, b4⟩⟩
theorem req_in (n : Nat) (h : Heap) (cs : List Value) (r : Rd Tryz.prog h (n + 4) 32 cs) : ∃ (q : AskV) (a : ReqM), cs = .int .i64 a.client :: .int .i64 a.number :: askC q a.ask ∧ AskR h q a.ask := by
 obtain ⟨hl, hf⟩ := r.strc Tryz.underlying32
 rw [rc_req] at hl
 have f0 : Rd Tryz.prog h (n + 3) 3 ((cs.drop 0).take (Tryz.prog.cellsOf 3)) := hf _ (List.mem_of_getElem? (i := 0) rfl)
 rw [qcB] at f0
 obtain ⟨x0, e0, _⟩ := f0.int Tryz.underlying3
 have f1 : Rd Tryz.prog h (n + 3) 2 ((cs.drop 1).take (Tryz.prog.cellsOf 2)) := hf _ (List.mem_of_getElem? (i := 1) rfl)
 rw [rc_i64] at f1
 obtain ⟨x1, e1, _⟩ := f1.int Tryz.underlying2
 have f2 : Rd Tryz.prog h (n + 3) 29 ((cs.drop 2).take (Tryz.prog.cellsOf 29)) := hf _ (List.mem_of_getElem? (i := 2) rfl)
 rw [rc_ask] at f2
 obtain ⟨q2, x2, e2, b2⟩ := ask_in _ h _ f2
 have e := (qaG e0 (qaG e1 (qaG e2 (qce hl))))
 rw [List.drop_zero] at e
 exact ⟨q2, ⟨x0, x1, x2⟩, e.trans (by simp), b2⟩
theorem move_in (n : Nat) (h : Heap) (cs : List Value) (r : Rd Tryz.prog h (n + 3) 34 cs) : ∃ (q : MoveV) (a : MoveM), cs = moveC q a ∧ MoveR h q a := by
 obtain ⟨hl, hf⟩ := r.strc Tryz.underlying34
 rw [rc_move] at hl
 have f0 : Rd Tryz.prog h (n + 2) 2 ((cs.drop 0).take (Tryz.prog.cellsOf 2)) := hf _ (List.mem_of_getElem? (i := 0) rfl)
 rw [rc_i64] at f0
 obtain ⟨x0, e0, _⟩ := f0.int Tryz.underlying2
 have f1 : Rd Tryz.prog h (n + 2) 27 ((cs.drop 1).take (Tryz.prog.cellsOf 27)) := hf _ (List.mem_of_getElem? (i := 1) rfl)
 rw [qep] at f1
 obtain ⟨v1, x1, e1, b1, _⟩ := f1.bytes Tryz.underlying27 Tryz.underlying5 qej qei
 have f2 : Rd Tryz.prog h (n + 2) 27 ((cs.drop 2).take (Tryz.prog.cellsOf 27)) := hf _ (List.mem_of_getElem? (i := 2) rfl)
 rw [qep] at f2
 obtain ⟨v2, x2, e2, b2, _⟩ := f2.bytes Tryz.underlying27 Tryz.underlying5 qej qei
 have f3 : Rd Tryz.prog h (n + 2) 4 ((cs.drop 3).take (Tryz.prog.cellsOf 4)) := hf _ (List.mem_of_getElem? (i := 3) rfl)
 rw [rc_bool] at f3
 obtain ⟨x3, e3⟩ := f3.bool Tryz.underlying4
 have f4 : Rd Tryz.prog h (n + 2) 3 ((cs.drop 4).take (Tryz.prog.cellsOf 3)) := hf _ (List.mem_of_getElem? (i := 4) rfl)
 rw [qcB] at f4
 obtain ⟨x4, e4, _⟩ := f4.int Tryz.underlying3
 have f5 : Rd Tryz.prog h (n + 2) 3 ((cs.drop 5).take (Tryz.prog.cellsOf 3)) := hf _ (List.mem_of_getElem? (i := 5) rfl)
 rw [qcB] at f5
 obtain ⟨x5, e5, _⟩ := f5.int Tryz.underlying3
 have e := (qaG e0 (qaG e1 (qaG e2 (qaG e3 (qaG e4 (qaG e5 (qce hl)))))))
 rw [List.drop_zero] at e
 exact ⟨⟨v1, v2⟩, ⟨x0, x1, x2, x3, x4, x5⟩, e, ⟨b1, b2⟩⟩
def entX (x : EntM × Value × Value) : List Value := [x.2.1, .int .i64 x.1.seq, .int .i64 x.1.kind, x.2.2]
theorem ent_in (n : Nat) (h : Heap) (cs : List Value) (r : Rd Tryz.prog h (n + 3) 171 cs) : ∃ x : EntM × Value × Value, cs = entX x ∧ (entX x).length = 4 ∧ (RB h x.2.1 x.1.key ∧ RB h x.2.2 x.1.value) := by
 obtain ⟨hl, hf⟩ := r.strc Tryz.underlying171
 rw [rc_ent] at hl
 have f0 : Rd Tryz.prog h (n + 2) 27 ((cs.drop 0).take (Tryz.prog.cellsOf 27)) := hf _ (List.mem_of_getElem? (i := 0) rfl)
 rw [qep] at f0
 obtain ⟨v0, x0, e0, b0, _⟩ := f0.bytes Tryz.underlying27 Tryz.underlying5 qej qei
 have f1 : Rd Tryz.prog h (n + 2) 2 ((cs.drop 1).take (Tryz.prog.cellsOf 2)) := hf _ (List.mem_of_getElem? (i := 1) rfl)
 rw [rc_i64] at f1
 obtain ⟨x1, e1, _⟩ := f1.int Tryz.underlying2
 have f2 : Rd Tryz.prog h (n + 2) 169 ((cs.drop 2).take (Tryz.prog.cellsOf 169)) := hf _ (List.mem_of_getElem? (i := 2) rfl)
 rw [rc_kd] at f2
 obtain ⟨x2, e2, _⟩ := f2.int Tryz.underlying169
 have f3 : Rd Tryz.prog h (n + 2) 27 ((cs.drop 3).take (Tryz.prog.cellsOf 27)) := hf _ (List.mem_of_getElem? (i := 3) rfl)
 rw [qep] at f3
 obtain ⟨v3, x3, e3, b3, _⟩ := f3.bytes Tryz.underlying27 Tryz.underlying5 qej qei
 have e := (qaG e0 (qaG e1 (qaG e2 (qaG e3 (qce hl)))))
 rw [List.drop_zero] at e
 exact ⟨(⟨x0, x1, x2, x3⟩, v0, v3), e, rfl, b0, b3⟩
theorem ents_in (n : Nat) (h : Heap) (cs : List Value) (r : Rd Tryz.prog h (n + 4) 35 cs) : ∃ v l, cs = [v] ∧ RE h v l := by
 obtain ⟨v, L, h1, h2, h3, h4⟩ := r.rows (row := entX) (Q := fun x => RB h x.2.1 x.1.key ∧ RB h x.2.2 x.1.value) Tryz.underlying35 rc_ent (by decide) (ent_in n h)
 rw [rb_ent] at h4
 unfold reachBytes at h4
 refine ⟨v, L.map (·.1), h1, ⟨⟨_, h2, by simp, fun k row e hr he => ?_⟩, by rw [List.length_map]; omega⟩⟩
 rw [List.getElem?_map] at hr he
 obtain ⟨x, hx, rfl⟩ := Option.map_eq_some_iff.1 hr
 rw [hx] at he
 cases he
 obtain ⟨b1, b2⟩ := h3 x (List.mem_of_getElem? hx)
 exact ⟨x.2.1, x.2.2, rfl, b1, b2⟩
theorem cmd_in (n : Nat) (h : Heap) (cs : List Value) (r : Rd Tryz.prog h (n + 5) 37 cs) : ∃ (q : CmdV) (a : CmdM), cs = cmdC q a ∧ CmdR h q a := by
 obtain ⟨hl, hf⟩ := r.strc Tryz.underlying37
 rw [rc_cmd] at hl
 have f0 : Rd Tryz.prog h (n + 4) 30 ((cs.drop 0).take (Tryz.prog.cellsOf 30)) := hf _ (List.mem_of_getElem? (i := 0) rfl)
 rw [rc_ck] at f0
 obtain ⟨x0, e0, _⟩ := f0.int Tryz.underlying30
 have f1 : Rd Tryz.prog h (n + 4) 32 ((cs.drop 1).take (Tryz.prog.cellsOf 32)) := hf _ (List.mem_of_getElem? (i := 1) rfl)
 rw [rc_req] at f1
 obtain ⟨q1, x1, e1, b1⟩ := req_in _ h _ f1
 have f2 : Rd Tryz.prog h (n + 4) 34 ((cs.drop 10).take (Tryz.prog.cellsOf 34)) := hf _ (List.mem_of_getElem? (i := 2) rfl)
 rw [rc_move] at f2
 obtain ⟨q2, x2, e2, b2⟩ := move_in _ h _ f2
 have f3 : Rd Tryz.prog h (n + 4) 35 ((cs.drop 16).take (Tryz.prog.cellsOf 35)) := hf _ (List.mem_of_getElem? (i := 3) rfl)
 rw [rc_ents] at f3
 obtain ⟨v3, x3, e3, b3⟩ := ents_in _ h _ f3
 have f4 : Rd Tryz.prog h (n + 4) 27 ((cs.drop 17).take (Tryz.prog.cellsOf 27)) := hf _ (List.mem_of_getElem? (i := 4) rfl)
 rw [qep] at f4
 obtain ⟨v4, x4, e4, b4, _⟩ := f4.bytes Tryz.underlying27 Tryz.underlying5 qej qei
 have f5 : Rd Tryz.prog h (n + 4) 27 ((cs.drop 18).take (Tryz.prog.cellsOf 27)) := hf _ (List.mem_of_getElem? (i := 5) rfl)
 rw [qep] at f5
 obtain ⟨v5, x5, e5, b5, _⟩ := f5.bytes Tryz.underlying27 Tryz.underlying5 qej qei
 have f6 : Rd Tryz.prog h (n + 4) 3 ((cs.drop 19).take (Tryz.prog.cellsOf 3)) := hf _ (List.mem_of_getElem? (i := 6) rfl)
 rw [qcB] at f6
 obtain ⟨x6, e6, _⟩ := f6.int Tryz.underlying3
 have e := (qaG e0 (qaG e1 (qaG e2 (qaG e3 (qaG e4 (qaG e5 (qaG e6 (qce hl))))))))
 rw [List.drop_zero] at e
 exact ⟨⟨q1, q2, v3, v4, v5⟩, ⟨x0, x1, x2, x3, x4, x5, x6⟩, e, ⟨b1, b2, b3, b4, b5⟩⟩
theorem kept_in (n : Nat) (h : Heap) (cs : List Value) (r : Rd Tryz.prog h (n + 2) 79 cs) : ∃ x : Bytes × Int, cs = keptR x ∧ (keptR x).length = 2 ∧ x.1.length ≤ reachBytes := by
 obtain ⟨hl, hf⟩ := r.strc Tryz.underlying79
 rw [rc_kept] at hl
 have f0 : Rd Tryz.prog h (n + 1) 9 ((cs.drop 0).take (Tryz.prog.cellsOf 9)) := hf _ (List.mem_of_getElem? (i := 0) rfl)
 rw [rc_str] at f0
 obtain ⟨x0, e0, l0⟩ := f0.str Tryz.underlying9
 have f1 : Rd Tryz.prog h (n + 1) 3 ((cs.drop 1).take (Tryz.prog.cellsOf 3)) := hf _ (List.mem_of_getElem? (i := 1) rfl)
 rw [qcB] at f1
 obtain ⟨x1, e1, _⟩ := f1.int Tryz.underlying3
 have e := (qaG e0 (qaG e1 (qce hl)))
 rw [List.drop_zero] at e
 exact ⟨(x0, x1), e, rfl, l0⟩
theorem kepts_in (n : Nat) (h : Heap) (cs : List Value) (r : Rd Tryz.prog h (n + 3) 38 cs) : ∃ v l, cs = [v] ∧ RK h v l := by
 obtain ⟨v, L, h1, h2, h3, h4⟩ := r.rows (row := keptR) (Q := fun x => x.1.length ≤ reachBytes) Tryz.underlying38 rc_kept (by decide) (kept_in n h)
 rw [rb_kept] at h4
 unfold reachBytes at h4
 exact ⟨v, L, h1, h2, by omega⟩
theorem act_in (n : Nat) (h : Heap) (cs : List Value) (r : Rd Tryz.prog h (n + 6) 40 cs) : ∃ x : ActV × ActM, cs = actC x.1 x.2 ∧ (actC x.1 x.2).length = 33 ∧ ActR h x.1 x.2 := by
 obtain ⟨hl, hf⟩ := r.strc Tryz.underlying40
 rw [rc_act] at hl
 have f0 : Rd Tryz.prog h (n + 5) 25 ((cs.drop 0).take (Tryz.prog.cellsOf 25)) := hf _ (List.mem_of_getElem? (i := 0) rfl)
 rw [rc_atk] at f0
 obtain ⟨x0, e0, _⟩ := f0.int Tryz.underlying25
 have f1 : Rd Tryz.prog h (n + 5) 3 ((cs.drop 1).take (Tryz.prog.cellsOf 3)) := hf _ (List.mem_of_getElem? (i := 1) rfl)
 rw [qcB] at f1
 obtain ⟨x1, e1, _⟩ := f1.int Tryz.underlying3
 have f2 : Rd Tryz.prog h (n + 5) 3 ((cs.drop 2).take (Tryz.prog.cellsOf 3)) := hf _ (List.mem_of_getElem? (i := 2) rfl)
 rw [qcB] at f2
 obtain ⟨x2, e2, _⟩ := f2.int Tryz.underlying3
 have f3 : Rd Tryz.prog h (n + 5) 3 ((cs.drop 3).take (Tryz.prog.cellsOf 3)) := hf _ (List.mem_of_getElem? (i := 3) rfl)
 rw [qcB] at f3
 obtain ⟨x3, e3, _⟩ := f3.int Tryz.underlying3
 have f4 : Rd Tryz.prog h (n + 5) 3 ((cs.drop 4).take (Tryz.prog.cellsOf 3)) := hf _ (List.mem_of_getElem? (i := 4) rfl)
 rw [qcB] at f4
 obtain ⟨x4, e4, _⟩ := f4.int Tryz.underlying3
 have f5 : Rd Tryz.prog h (n + 5) 29 ((cs.drop 5).take (Tryz.prog.cellsOf 29)) := hf _ (List.mem_of_getElem? (i := 5) rfl)
 rw [rc_ask] at f5
 obtain ⟨q5, x5, e5, b5⟩ := ask_in _ h _ f5
 have f6 : Rd Tryz.prog h (n + 5) 37 ((cs.drop 12).take (Tryz.prog.cellsOf 37)) := hf _ (List.mem_of_getElem? (i := 6) rfl)
 rw [rc_cmd] at f6
 obtain ⟨q6, x6, e6, b6⟩ := cmd_in _ h _ f6
 have f7 : Rd Tryz.prog h (n + 5) 38 ((cs.drop 32).take (Tryz.prog.cellsOf 38)) := hf _ (List.mem_of_getElem? (i := 7) rfl)
 rw [rc_kepts] at f7
 obtain ⟨v7, x7, e7, b7⟩ := kepts_in _ h _ f7
 have e := (qaG e0 (qaG e1 (qaG e2 (qaG e3 (qaG e4 (qaG e5 (qaG e6 (qaG e7 (qce hl)))))))))
 rw [List.drop_zero] at e
 exact ⟨(⟨q5, q6, v7⟩, ⟨x0, x1, x2, x3, x4, x5, x6, x7⟩), e, rfl, ⟨b5, b6, b7⟩⟩
theorem actv_in {h : Heap} {v : Value} (r : RdV Tryz.prog h 9 40 v) : ∃ (q : ActV) (a : ActM), v = .agg (actC q a).toArray ∧ ActR h q a := by
 obtain ⟨cs, rfl, h1⟩ := r.whole (by rw [Tryz.underlying40]; rfl)
 obtain ⟨x, h2, _, h3⟩ := act_in 3 h _ h1
 exact ⟨x.1, x.2, by rw [← h2], h3⟩
end Go.Proofs.YtigmojilaadbhaaGreatDoor

/-
 The engine: a law over variables that are laid, told how many variables there are.
-/
namespace Go.Eng
open Go

section
variable {P : Program} {W : World} {H : Type} {enc : TypeId × Value → H}
theorem qcI {f : FuncId} {n : Nat} {ts : List TypeId} {args : Array Value} {ds : List (DataW H)} {ps : List MemPlace} {r : Reach} {base : Nat} {held : Bool} (T : List (Nat × Blk)) (hT : (T.map (·.1)).Nodup)
  (ht : ∀ x ∈ T, Told P W x.1 x.2) (h0 : DataW.TrodAll enc P W 0 (fun _ => true) held ts args.toList ds ps)
  (hp : ∀ t ∈ ts, plainT P (n + 1) t = true) (hk : ∀ (j : Nat) t v, ts[j]? = some t → args.toList[j]? = some v → Value.okWide P W r base t v) (hs : (DataW.weightsEach P ts ds).all (· ≤ reachBytes) = true)
  (p : ∀ h avs, P.globals.size ≤ h.next → avs.length = ts.length → (∀ (j : Nat) t a, ts[j]? = some t → avs[j]? = some a → RdV P h (n + 1) t a) → (∀ x ∈ T, h.get x.1 = some x.2) → ACalls P f avs h fun v _ => v = .bool true) :
  Calls P f args W fun e W' => e = .returned (.bool true) ∧ Go.RowKit.Below W.heap.size W W' := by
 obtain ⟨bs, avs, r1, v1, d1⟩ := qeK (G := P.globals.size) (n := n) (fun _ => rfl) ts args.toList ds ps h0 hp hk hs []
 rw [List.nil_append] at r1 v1 d1
 have hlen : args.toList.length = ts.length := qdU h0
 obtain ⟨h', q1, q2, q3, q4, q5⟩ := tells T (roSim r1) qgN (fun x hx => by
  have a := ht x hx
  exact ⟨a, by simp only [roHeap]; rw [if_pos a.isg]⟩) hT
 have hn : P.globals.size ≤ h'.next := by
  rw [q3]
  show P.globals.size ≤ P.globals.size + bs.length
  omega
 have := law_free (args := avs) (cargs := args.toList) q1 q2 (q3 ▸ v1) (p _ avs hn (by rw [v1.length, hlen]) (fun j t a hj hja => (d1 j t a hj hja).ext q4) q5)
 simpa using this
end
end Go.Eng

/-
 Scripts: the variables that are laid, told «to» the engine.
-/
namespace Go.Proofs.YtigmojilaadbhaaGreatDoor
open Go Go.Eng Go.Lib

noncomputable abbrev laidL : List (String × DataW Unit) := Rows.scriptUnlinesRow.laid
def tabsT : List (Nat × Blk) := [(powG, tabB .u64 Lib.pow10Tab), (spaceG, tabB .u8 Lib.asciiSpaceTab), (synG, errB 262), (rngG, errB 262)]
theorem qg4 : (tabsT.map (·.1)).Nodup := by decide
theorem star : "*" ++ "errors.errorString" = "*errors.errorString" := by decide
theorem star_row (u : TypeId) (h : Tryz.prog.typeName? 3 u = some "*errors.errorString") : u = 262 :=
 typeName_ptr_named (nm := "errors.errorString") (by rw [star]; kernel_rfl) (by kernel_rfl) (by decide) u (by rw [star]; exact h)
theorem laid_plain {W : World} (h : laidMetH Tryz.prog laidL W) : laidMet Tryz.prog laidL W := by
 rwa [MakeChecks.laidMetH_plain _ _ _ (by kernel_rfl)] at h
theorem qd0 {W : World} {name : String} {g : Nat} {k : IntKind} {zs : List Int} (hn : Tryz.prog.globalNamed name = some g) (hg : g < Tryz.prog.globals.size) (h : TabIs Tryz.prog W name k zs) : Go.Eng.Told Tryz.prog W g (tabB k zs) := by
 unfold TabIs World.var? at h
 rw [hn] at h
 simp only [Option.bind_some] at h
 cases hw : W.heap[g]? with
 | none => rw [hw] at h; cases h
 | some o =>
  rw [hw] at h
  cases o <;> try (cases h; done)
  rename_i cs t fr
  cases h
  exact told_tab (t := t) (fr := fr) hg hw
theorem qdL {W : World} {name : String} {g : Nat} {d : DataW Unit} {rest : List (String × DataW Unit)} (hn : Tryz.prog.globalNamed name = some g) (hg : g < Tryz.prog.globals.size) (hty : (Tryz.prog.globals[g]?).map (·.type) = some 131)
  (h : laidMet Tryz.prog ((name, .iface "*errors.errorString" d) :: rest) W) : Go.Eng.Told Tryz.prog W g (errB 262) := by
 obtain ⟨ps, ⟨g', t', cs, fuel, p, q, hg', ht', hvar, hd, _, _⟩, _⟩ := h
 obtain rfl := Option.some.inj (hn.symm.trans hg')
 obtain rfl := Option.some.inj (hty.symm.trans ht')
 obtain ⟨_, u, v, hcs, hu, _⟩ := iface_of_trod Tryz.underlying131 hd
 obtain rfl := star_row u hu
 refine told_err (v := v) hg ?_
 have := World.var?_cell hn hvar 0
 rw [Array.eq_one_of_toList hcs] at this
 simpa using this
theorem told_tabs {W : World} (h : laidMetH Tryz.prog laidL W) : ∀ x ∈ tabsT, Go.Eng.Told Tryz.prog W x.1 x.2 := by
 have hp := laid_plain h
 have h1 := hp.filter fun x => x.1 == "internal/strconv.uint64pow10"
 have h2 := hp.filter fun x => x.1 == "strings.asciiSpace"
 have h3 := hp.filter fun x => x.1 == "strconv.ErrSyntax"
 have h4 := hp.filter fun x => x.1 == "strconv.ErrRange"
 rw [show laidL.filter (fun x => x.1 == "internal/strconv.uint64pow10") = [("internal/strconv.uint64pow10", Lib.tabData .u64 Lib.pow10Tab)] by kernel_rfl] at h1
 rw [show laidL.filter (fun x => x.1 == "strings.asciiSpace") = [("strings.asciiSpace", Lib.tabData .u8 Lib.asciiSpaceTab)] by kernel_rfl] at h2
 rw [show laidL.filter (fun x => x.1 == "strconv.ErrSyntax") = [("strconv.ErrSyntax", Rows.laid_strconv_ErrSyntax)] by kernel_rfl] at h3
 rw [show laidL.filter (fun x => x.1 == "strconv.ErrRange") = [("strconv.ErrRange", Rows.laid_strconv_ErrRange)] by kernel_rfl] at h4
 intro x hx
 simp only [tabsT, List.mem_cons, List.not_mem_nil, or_false] at hx
 rcases hx with rfl | rfl | rfl | rfl
 ·
  exact qd0 pow_n (by decide +kernel) (tabIs_of_head pow_n (t := 252) (e := 221) (n := 20) (by kernel_rfl) Tryz.underlying252 Tryz.underlying221 (by kernel_rfl) (by kernel_rfl) h1)
 ·
  exact qd0 qgv (by decide +kernel) (tabIs_of_head qgv (t := 184) (e := 5) (n := 256) (by kernel_rfl) Tryz.underlying184 Tryz.underlying5 (by kernel_rfl) (by kernel_rfl) h2)
 ·
  exact qdL (name := "strconv.ErrSyntax") (by kernel_rfl) (by decide +kernel) (by kernel_rfl) h3
 ·
  exact qdL (name := "strconv.ErrRange") (by kernel_rfl) (by decide +kernel) (by kernel_rfl) h4
theorem tabs_of {h : Heap} (ht : ∀ x ∈ tabsT, h.get x.1 = some x.2) : Tabs h :=
 ⟨ht (powG, tabB .u64 Lib.pow10Tab) (by simp [tabsT]), ht (spaceG, tabB .u8 Lib.asciiSpaceTab) (by simp [tabsT]), ht (synG, errB 262) (by simp [tabsT]), ht (rngG, errB 262) (by simp [tabsT])⟩
theorem door_met (os : Os) (args : Array Value) : laidMetH Tryz.prog laidL ((World.doorLaid Tryz.prog 86 os).forCall (fun _ _ => 0) ⟨#[], args, []⟩).memory :=
 laidMetH_of_parts3 (fuel := 8) (laidMet_of_run' 8 (by kernel_rfl) (by kernel_rfl)) (by kernel_rfl) (by kernel_rfl)
end Go.Proofs.YtigmojilaadbhaaGreatDoor

/-
 Scripts: the door's own heap may be a world.
-/
namespace Go.Proofs.YtigmojilaadbhaaGreatDoor
open Go Go.Eng Go.Lib

theorem qgy (os : Os) (args : Array Value) : ((World.doorLaid Tryz.prog 86 os).forCall (fun _ _ => 0) ⟨#[], args, []⟩).Shaped Tryz.prog := World.shaped_of_RefB (by kernel_rfl) (by kernel_rfl)
end Go.Proofs.YtigmojilaadbhaaGreatDoor
