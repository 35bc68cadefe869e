/-
  Texts of one claim, merged: 8 parts.
-/
import Derived.Test.YtnioldkmckmajaaMnu
import Derived.Test.YtnioldkmckmajaaMnc
import Derived.Test.YtnioldkmckmajaaMnm
import Derived.Lib.Overlaps
import Derived.Lib.Builder
import Derived.Lib.UnsafeStr
set_option maxHeartbeats 16000000
/-
  Logs: what a log that is not there, or a zero one, answers.
-/
namespace Go.Proofs.Ytnioldkmckmajaa
open Go Go.Eng Go.Pln
attribute [local irreducible] AWp AL DAL AOp TAL
instance i_Reset : FnC Try.prog 12 := ⟨Try.f12, Try.func12, by kernel_rfl, by kernel_rfl⟩
instance i_Sync : FnC Try.prog 13 := ⟨Try.f13, Try.func13, by kernel_rfl, by kernel_rfl⟩
instance i_Synced : FnC Try.prog 14 := ⟨Try.f14, Try.func14, by kernel_rfl, by kernel_rfl⟩
abbrev deadB : Blk := ⟨[.pointer none, .string ⟨#[]⟩, .int .i64 0, .int .i64 0, .int .i64 0, .int .i64 0, .slice none 0 0, .bool false], 28, true⟩
def Dead (h : Heap) (a : Option Addr) : Prop := a = none ∨ ∃ j, a = some ⟨j, 0, none⟩ ∧ h.get j = some deadB
theorem Dead.ext {h h' : Heap} {a : Option Addr} (d : Dead h a) (x : Ext h h') : Dead h' a := d.imp id fun ⟨j, h1, h2⟩ => ⟨j, h1, x.c _ _ h2⟩
section
variable {h : Heap} {a : Option Addr}
theorem is_dead (d : Dead h a) : ACalls Try.prog 18 [.pointer a] h fun u h' => u = .bool false ∧ h' = h := by
  refine ACalls.body Try.func18 rfl rfl ?_
  rcases d with rfl | ⟨j, rfl, hj⟩
  · repeat (first | refine AL.nil ?_ | refine AL.skip rfl rfl ?_ | refine AWp.seq ?_ | refine AWp.region ?_ | refine AWp.ret ?_ | refine AL.set rfl rfl (op_moveB rfl ?_) | refine AL.set rfl rfl (op_moveP rfl ?_) | refine AL.set rfl rfl (op_assignB rfl ?_) | refine AL.set rfl rfl (op_nePtrNil rfl rfl ?_) | refine AL.set rfl rfl (op_pick (v := .bool _) rfl rfl ?_))
    exact ⟨_, ResV.tmp rfl, rfl, rfl⟩
  · repeat (first | refine AL.nil ?_ | refine AWp.seq ?_ | refine AWp.region ?_ | refine AWp.ret ?_ | refine AL.set rfl rfl (op_moveB rfl ?_) | refine AL.set rfl rfl (op_moveP rfl ?_) | refine AL.set rfl rfl (op_assignB rfl ?_) | refine AL.set rfl rfl (op_nePtrNil rfl rfl ?_) | refine AL.set rfl rfl (op_nilCheck rfl ?_) | refine AL.set rfl rfl (op_fa rfl ?_) | refine AL.set rfl rfl (op_load rfl rfl hj rfl ?_) | refine AL.set rfl rfl (op_pick (v := .bool _) rfl rfl ?_))
    exact ⟨_, ResV.tmp rfl, rfl, rfl⟩
theorem ready_dead (d : Dead h a) (b : Bool) : ACalls Try.prog 22 [.pointer a, .bool b] h fun u h' => u = .int .i64 1 ∧ h' = h := by
  refine ACalls.body Try.func22 rfl rfl ?_
  have ci := is_dead d
  repeat (first | refine AL.nil ?_ | refine AWp.seq ?_ | refine AWp.region ?_ | refine AWp.condT rfl ?_ | refine AWp.ret ?_ | refine AWp.block ?_ | refine AL.set rfl rfl (op_moveP rfl ?_) | refine AL.set rfl rfl (op_assignI rfl ?_) | refine AL.set rfl rfl (op_assignB rfl ?_) | refine AL.set rfl rfl (op_callS rfl rfl ci ?_) | refine AL.set rfl rfl (op_not rfl ?_))
  exact ⟨_, ResV.tmp rfl, rfl, rfl⟩
theorem term_dead (d : Dead h a) (k : Int) : ACalls Try.prog 4 [.pointer a, .int .i64 k] h fun u h' => u = .tuple #[.int .i64 0, .bool false] ∧ h' = h := by
  refine ACalls.body Try.func4 rfl rfl ?_
  have ci := is_dead d
  repeat (first | refine AL.nil ?_ | refine AL.skip rfl rfl ?_ | refine AWp.seq ?_ | refine AWp.region ?_ | refine AWp.condT rfl ?_ | refine AWp.ret ?_ | refine AL.set rfl rfl (op_moveB rfl ?_) | refine AL.set rfl rfl (op_moveP rfl ?_) | refine AL.set rfl rfl (op_assignI rfl ?_) | refine AL.set rfl rfl (op_assignB rfl ?_) | refine AL.set rfl rfl (op_callS rfl rfl ci ?_) | refine AL.set rfl rfl (op_pick (v := .bool _) rfl rfl ?_) | refine AL.set rfl rfl (op_not rfl ?_))
  exact ⟨_, ResV.tmp2 rfl, rfl, rfl⟩
theorem base_dead (d : Dead h a) : ACalls Try.prog 5 [.pointer a] h fun u h' => u = .tuple #[.int .i64 0, .int .i64 0] ∧ h' = h := by
  refine ACalls.body Try.func5 rfl rfl ?_
  have ci := is_dead d
  repeat (first | refine AL.nil ?_ | refine AWp.seq ?_ | refine AWp.region ?_ | refine AWp.condT rfl ?_ | refine AWp.ret ?_ | refine AL.set rfl rfl (op_moveP rfl ?_) | refine AL.set rfl rfl (op_assignI rfl ?_) | refine AL.set rfl rfl (op_callS rfl rfl ci ?_) | refine AL.set rfl rfl (op_not rfl ?_))
  exact ⟨_, ResV.tmp2 rfl, rfl, rfl⟩
theorem last_dead (d : Dead h a) : ACalls Try.prog 6 [.pointer a] h fun u h' => u = .tuple #[.int .i64 0, .int .i64 0] ∧ h' = h := by
  refine ACalls.body Try.func6 rfl rfl ?_
  have ci := is_dead d
  repeat (first | refine AL.nil ?_ | refine AWp.seq ?_ | refine AWp.region ?_ | refine AWp.condT rfl ?_ | refine AWp.ret ?_ | refine AL.set rfl rfl (op_moveP rfl ?_) | refine AL.set rfl rfl (op_assignI rfl ?_) | refine AL.set rfl rfl (op_callS rfl rfl ci ?_) | refine AL.set rfl rfl (op_not rfl ?_))
  exact ⟨_, ResV.tmp2 rfl, rfl, rfl⟩
theorem state_dead (d : Dead h a) : ACalls Try.prog 7 [.pointer a] h fun u h' => u = .agg #[.int .i64 0, .int .i64 0] ∧ h' = h := by
  refine ACalls.wf fun wf => ACalls.resetB ?_
  refine ACalls.body Try.func7 rfl rfl ?_
  repeat (first | refine AL.nil ?_ | refine AWp.seq ?_ | refine AWp.region ?_ | refine AL.set rfl rfl (op_moveP rfl ?_) | refine AL.set rfl rfl (op_alloc (z := .agg #[.int .i64 0, .int .i64 0]) ?_))
  have g1 := Heap.alloc_new h ⟨[.int .i64 0, .int .i64 0], 25, true⟩
  have x1 := wf.ext ⟨[.int .i64 0, .int .i64 0], 25, true⟩
  refine AL.heap (h := h.alloc ⟨[.int .i64 0, .int .i64 0], 25, true⟩) rfl ?_
  have ci := is_dead (d.ext x1)
  repeat (first | refine AL.nil ?_ | refine AWp.seq ?_ | refine AWp.region ?_ | refine AWp.condT rfl ?_ | refine AL.set rfl rfl (op_callS rfl rfl ci ?_) | refine AL.set rfl rfl (op_buildS (out := [.int .i64 0, .int .i64 0]) rfl rfl ?_) | refine AL.set rfl rfl (op_not rfl ?_))
  refine AL.eff rfl (op_storeA (sz := 2) (vs := #[.int .i64 0, .int .i64 0]) rfl rfl rfl rfl g1 rfl (by exact Nat.le_of_ble_eq_true rfl) ?_)
  have x2 : Ext h ((h.alloc ⟨[.int .i64 0, .int .i64 0], 25, true⟩).set h.next ⟨[.int .i64 0, .int .i64 0], 25, true⟩) := wf.ext_set x1 (Nat.le_refl _) _
  have g2 := Heap.set_at (h.alloc ⟨[.int .i64 0, .int .i64 0], 25, true⟩) h.next ⟨[.int .i64 0, .int .i64 0], 25, true⟩
  refine AL.heap (h := (h.alloc ⟨[.int .i64 0, .int .i64 0], 25, true⟩).set h.next ⟨[.int .i64 0, .int .i64 0], 25, true⟩) rfl ?_
  repeat (first | refine AL.nil ?_ | refine AWp.ret ?_)
  exact ⟨_, ResV.cellA rfl rfl rfl g2 (by exact Nat.le_of_ble_eq_true rfl), Bdd.plain (by simp [plainV, scalar]), x2, rfl, rfl⟩
theorem from_dead (d : Dead h a) (k n : Int) : ACalls Try.prog 8 [.pointer a, .int .i64 k, .int .i64 n] h fun u h' => u = .slice none 0 0 ∧ h' = h := by
  refine ACalls.body Try.func8 rfl rfl ?_
  have ci := is_dead d
  repeat (first | refine AL.nil ?_ | refine AL.skip rfl rfl ?_ | refine AWp.seq ?_ | refine AWp.region ?_ | refine AWp.condT rfl ?_ | refine AWp.ret ?_ | refine AL.set rfl rfl (op_moveB rfl ?_) | refine AL.set rfl rfl (op_moveP rfl ?_) | refine AL.set rfl rfl (op_assignS rfl ?_) | refine AL.set rfl rfl (op_callS rfl rfl ci ?_) | refine AL.set rfl rfl (op_pick (v := .bool _) rfl rfl ?_) | refine AL.set rfl rfl (op_not rfl ?_))
  exact ⟨_, ResV.tmp rfl, rfl, rfl⟩
abbrev apB (a : Option Addr) : Blk := ⟨[.pointer a], 22, true⟩
theorem set_dead (d : Dead h a) (t v : Int) : ACalls Try.prog 9 [.pointer a, .agg #[.int .i64 t, .int .i64 v]] h fun u h' => u = .int .i64 1 ∧ h' = h := by
  refine ACalls.wf fun wf => ACalls.reset ?_
  refine ACalls.body Try.func9 rfl rfl ?_
  repeat (first | refine AWp.seq ?_ | refine AWp.region ?_)
  refine AL.set rfl rfl (op_box (v := .pointer a) rfl (by intro e; cases e) ?_)
  have g1 := Heap.alloc_new h (apB a)
  have x1 := wf.ext (apB a)
  have w1 := wf.alloc (apB a)
  refine AL.heap (h := h.alloc (apB a)) rfl ?_
  generalize h.next = p at g1 ⊢
  generalize h.alloc (apB a) = H1 at g1 x1 w1 ⊢
  refine AL.set rfl rfl (op_box (v := .agg #[.int .i64 t, .int .i64 v]) rfl (by intro e; cases e) ?_)
  have x2 := w1.ext ⟨[.int .i64 t, .int .i64 v], 25, true⟩
  refine AL.heap (h := H1.alloc ⟨[.int .i64 t, .int .i64 v], 25, true⟩) rfl ?_
  generalize H1.alloc ⟨[.int .i64 t, .int .i64 v], 25, true⟩ = H2 at x2 ⊢
  have gp2 := x2.c _ _ g1
  have ci := fun (h' : Heap) (hx : Ext H2 h') => is_dead (d.ext (x1.trans (x2.trans hx)))
  have cr := fun (h' : Heap) (hx : Ext H2 h') => ready_dead (d.ext (x1.trans (x2.trans hx))) false
  repeat (first | refine AL.nil ?_ | refine AWp.seq ?_ | refine AL.set rfl rfl (op_assignI rfl ?_))
  refine AWp.drawR mixedT (by kernel_rfl) ?_
  repeat (first | refine DAL.r rfl rfl rfl (fun h' hx hn => op_moveB rfl ⟨rfl, rfl⟩) ?_ | refine DAL.r rfl rfl rfl (fun h' hx hn => op_assignI rfl ⟨rfl, rfl⟩) ?_ | refine DAL.skip rfl rfl rfl ?_ | refine DAL.r rfl rfl rfl (fun h' hx hn => op_load rfl rfl (hx.c _ _ gp2) rfl ⟨rfl, rfl⟩) ?_ | refine DAL.r rfl rfl rfl (fun h' hx hn => op_callS rfl rfl (ci h' hx) ⟨rfl, rfl⟩) ?_ | refine DAL.r rfl rfl rfl (fun h' hx hn => op_callS rfl rfl (cr h' hx) ⟨rfl, rfl⟩) ?_ | refine DAL.r rfl rfl rfl (fun h' hx hn => op_pick (v := .bool _) rfl rfl ⟨rfl, rfl⟩) ?_)
  refine DAL.nil ?_
  repeat (first | refine AL.nil ?_ | refine AWp.seq ?_ | refine AWp.region ?_ | refine AWp.condT rfl ?_ | refine AWp.ret ?_ | refine AL.set rfl rfl (op_moveI rfl ?_) | refine AL.set rfl rfl (op_assignI rfl ?_) | refine AL.set rfl rfl (op_intT rfl rfl rfl (by omega) ?_))
  exact ⟨_, ResV.tmp rfl, rfl, x1.trans x2, rfl, rfl⟩
theorem put_dead (d : Dead h a) (k : Int) : ACalls Try.prog 10 [.pointer a, .int .i64 k, .slice none 0 0] h fun u h' => u = .int .i64 1 ∧ h' = h := by
  refine ACalls.wf fun wf => ACalls.reset ?_
  refine ACalls.body Try.func10 rfl rfl ?_
  repeat (first | refine AWp.seq ?_ | refine AWp.region ?_)
  refine AL.set rfl rfl (op_box (v := .pointer a) rfl (by intro e; cases e) ?_)
  have g1 := Heap.alloc_new h (apB a)
  have x1 := wf.ext (apB a)
  have w1 := wf.alloc (apB a)
  refine AL.heap (h := h.alloc (apB a)) rfl ?_
  generalize h.next = p at g1 ⊢
  generalize h.alloc (apB a) = H1 at g1 x1 w1 ⊢
  refine AL.set rfl rfl (op_box (v := .int .i64 k) rfl (by intro e; cases e) ?_)
  have x2 := w1.ext ⟨[.int .i64 k], 2, true⟩
  have w2 := w1.alloc ⟨[.int .i64 k], 2, true⟩
  refine AL.heap (h := H1.alloc ⟨[.int .i64 k], 2, true⟩) rfl ?_
  generalize H1.alloc ⟨[.int .i64 k], 2, true⟩ = H2 at x2 w2 ⊢
  refine AL.set rfl rfl (op_box (v := .slice none 0 0) rfl (by intro e; cases e) ?_)
  have x3 := w2.ext ⟨[.slice none 0 0], 26, true⟩
  refine AL.heap (h := H2.alloc ⟨[.slice none 0 0], 26, true⟩) rfl ?_
  generalize H2.alloc ⟨[.slice none 0 0], 26, true⟩ = H3 at x3 ⊢
  have x13 := x2.trans x3
  have gp3 := x13.c _ _ g1
  have ci := fun (h' : Heap) (hx : Ext H3 h') => is_dead (d.ext (x1.trans (x13.trans hx)))
  have cr := fun (h' : Heap) (hx : Ext H3 h') => ready_dead (d.ext (x1.trans (x13.trans hx))) false
  repeat (first | refine AL.nil ?_ | refine AWp.seq ?_ | refine AL.set rfl rfl (op_assignI rfl ?_))
  refine AWp.drawR mixedT (by kernel_rfl) ?_
  repeat (first | refine DAL.r rfl rfl rfl (fun h' hx hn => op_moveB rfl ⟨rfl, rfl⟩) ?_ | refine DAL.r rfl rfl rfl (fun h' hx hn => op_assignI rfl ⟨rfl, rfl⟩) ?_ | refine DAL.skip rfl rfl rfl ?_ | refine DAL.r rfl rfl rfl (fun h' hx hn => op_load rfl rfl (hx.c _ _ gp3) rfl ⟨rfl, rfl⟩) ?_ | refine DAL.r rfl rfl rfl (fun h' hx hn => op_callS rfl rfl (ci h' hx) ⟨rfl, rfl⟩) ?_ | refine DAL.r rfl rfl rfl (fun h' hx hn => op_callS rfl rfl (cr h' hx) ⟨rfl, rfl⟩) ?_ | refine DAL.r rfl rfl rfl (fun h' hx hn => op_pick (v := .bool _) rfl rfl ⟨rfl, rfl⟩) ?_)
  refine DAL.nil ?_
  repeat (first | refine AL.nil ?_ | refine AWp.seq ?_ | refine AWp.region ?_ | refine AWp.condT rfl ?_ | refine AWp.ret ?_ | refine AL.set rfl rfl (op_moveI rfl ?_) | refine AL.set rfl rfl (op_assignI rfl ?_) | refine AL.set rfl rfl (op_intT rfl rfl rfl (by omega) ?_))
  exact ⟨_, ResV.tmp rfl, rfl, x1.trans x13, rfl, rfl⟩
theorem cut_dead (d : Dead h a) (k : Int) : ACalls Try.prog 11 [.pointer a, .int .i64 k] h fun u h' => u = .int .i64 1 ∧ h' = h := by
  refine ACalls.body Try.func11 rfl rfl ?_
  have ci := is_dead d
  have cr := ready_dead d false
  repeat (first | refine AL.nil ?_ | refine AL.skip rfl rfl ?_ | refine AWp.seq ?_ | refine AWp.region ?_ | refine AWp.condT rfl ?_ | refine AWp.ret ?_ | refine AL.set rfl rfl (op_moveI rfl ?_) | refine AL.set rfl rfl (op_moveB rfl ?_) | refine AL.set rfl rfl (op_moveP rfl ?_) | refine AL.set rfl rfl (op_assignI rfl ?_) | refine AL.set rfl rfl (op_callS rfl rfl ci ?_) | refine AL.set rfl rfl (op_pick (v := .bool _) rfl rfl ?_) | refine AL.set rfl rfl (op_callS rfl rfl cr ?_) | refine AL.set rfl rfl (op_intT rfl rfl rfl (by omega) ?_))
  exact ⟨_, ResV.tmp rfl, rfl, rfl⟩
theorem reset_dead (d : Dead h a) (k t : Int) : ACalls Try.prog 12 [.pointer a, .int .i64 k, .int .i64 t] h fun u h' => u = .int .i64 1 ∧ h' = h := by
  refine ACalls.body Try.func12 rfl rfl ?_
  have ci := is_dead d
  have cr := ready_dead d false
  repeat (first | refine AL.nil ?_ | refine AL.skip rfl rfl ?_ | refine AWp.seq ?_ | refine AWp.region ?_ | refine AWp.condT rfl ?_ | refine AWp.ret ?_ | refine AL.set rfl rfl (op_moveI rfl ?_) | refine AL.set rfl rfl (op_moveB rfl ?_) | refine AL.set rfl rfl (op_moveP rfl ?_) | refine AL.set rfl rfl (op_assignI rfl ?_) | refine AL.set rfl rfl (op_assignB rfl ?_) | refine AL.set rfl rfl (op_callS rfl rfl ci ?_) | refine AL.set rfl rfl (op_pick (v := .bool _) rfl rfl ?_) | refine AL.set rfl rfl (op_callS rfl rfl cr ?_) | refine AL.set rfl rfl (op_intT rfl rfl rfl (by omega) ?_))
  exact ⟨_, ResV.tmp rfl, rfl, rfl⟩
theorem sync_dead (d : Dead h a) : ACalls Try.prog 13 [.pointer a] h fun u h' => u = .int .i64 1 ∧ h' = h := by
  refine ACalls.wf fun wf => ACalls.reset ?_
  refine ACalls.body Try.func13 rfl rfl ?_
  repeat (first | refine AWp.seq ?_ | refine AWp.region ?_)
  refine AL.set rfl rfl (op_box (v := .pointer a) rfl (by intro e; cases e) ?_)
  have g1 := Heap.alloc_new h (apB a)
  have x1 := wf.ext (apB a)
  refine AL.heap (h := h.alloc (apB a)) rfl ?_
  generalize h.next = p at g1 ⊢
  generalize h.alloc (apB a) = H1 at g1 x1 ⊢
  have cr := ready_dead (d.ext x1) true
  repeat (first | refine AL.nil ?_ | refine AWp.seq ?_ | refine AWp.region ?_ | refine AWp.condT rfl ?_ | refine AWp.ret ?_ | refine AL.set rfl rfl (op_moveI rfl ?_) | refine AL.set rfl rfl (op_assignI rfl ?_) | refine AL.set rfl rfl (op_load rfl rfl g1 rfl ?_) | refine AL.set rfl rfl (op_callS rfl rfl cr ?_) | refine AL.set rfl rfl (op_intT rfl rfl rfl (by omega) ?_))
  exact ⟨_, ResV.tmp rfl, rfl, x1, rfl, rfl⟩
theorem synced_dead (d : Dead h a) : ACalls Try.prog 14 [.pointer a] h fun u h' => u = .bool false ∧ h' = h := by
  refine ACalls.body Try.func14 rfl rfl ?_
  have ci := is_dead d
  repeat (first | refine AL.nil ?_ | refine AWp.seq ?_ | refine AWp.region ?_ | refine AWp.condT rfl ?_ | refine AWp.ret ?_ | refine AL.set rfl rfl (op_moveP rfl ?_) | refine AL.set rfl rfl (op_assignB rfl ?_) | refine AL.set rfl rfl (op_callS rfl rfl ci ?_) | refine AL.set rfl rfl (op_not rfl ?_))
  exact ⟨_, ResV.tmp rfl, rfl, rfl⟩
end
end Go.Proofs.Ytnioldkmckmajaa
/-
  The engine: append(s, make([]T, k)...), where s is full.
-/
namespace Go.Eng
open Go
section
variable {P : Program} {ρ : Operand → Value} {h : Heap} {K : Value → Heap → Prop} {dst : Option Tmp} {ty : TypeId} {pos : String} {aft : Array Edge} {g : Option (Nat × Bool)}
end
end Go.Eng
/-
  The engine: slices whose cap is known. A cap of 2^64 and more stands for what is beyond 2^64.
-/
namespace Go.Eng
open Go
@[irreducible] def big : Nat := 18446744073709551616
section
variable {P : Program} {ρ : Operand → Value} {h : Heap} {K : Value → Heap → Prop} {dst : Option Tmp} {ty : TypeId} {pos : String} {aft : Array Edge} {g : Option (Nat × Bool)}
end
class XtC (P : Program) (f : FuncId) (e : outParam (Array Value → Sem Value)) : Prop where
  ex : ∃ fn, P.funcs[f]? = some fn ∧ (fn.name == "runtime.NumGoroutine") = false ∧ fn.body.isNone = true ∧ Extern.findNext fn = none ∧ Extern.find fn = some e
section
variable {P : Program} {ρ : Operand → Value} {h : Heap} {K : Value → Heap → Prop} {dst : Option Tmp} {ty : TypeId} {pos : String} {aft : Array Edge} {g : Option (Nat × Bool)}
end
end Go.Eng
/-
  The engine: what strings.Builder does: pointers «to» and from unsafe.Pointer, a row of bytes avs a string.
-/
namespace Go.Eng
open Go
section
variable {P : Program} {ρ : Operand → Value} {h : Heap} {K : Value → Heap → Prop} {dst : Option Tmp} {ty : TypeId} {pos : String} {aft : Array Edge} {g : Option (Nat × Bool)}
end
end Go.Eng
/-
  The engine: a string's bytes, by its list.
-/
namespace Go.Eng
open Go
section
variable {P : Program} {ρ : Operand → Value} {h : Heap} {K : Value → Heap → Prop} {dst : Option Tmp} {ty : TypeId} {pos : String} {aft : Array Edge} {g : Option (Nat × Bool)}
theorem bstr_toL (s : List UInt8) : (bstr s).data.toList = s := by simp [bstr]
theorem op_strBy {sT dT e : TypeId} {x : Operand} {s : List UInt8} [ts : TyD P sT .string] [te : TyD P e (.int .u8)] [td : TyD P dT (.slice e)] (hx : ρ x = .string (bstr s)) (hs : s.length ≤ maxLen)
    (kk : K (.slice (some ⟨h.next, 0, some 1⟩) s.length (s.length + 1)) (h.alloc ⟨bv s, e, true⟩)) : AOp P ⟨dst, .convert sT dT x, ty, pos, aft, g⟩ ρ h K := by
  refine op_strBytes hx (by rw [bstr_size]; exact hs) ?_
  rw [bstr_size, bstr_toL]
  exact kk
end
end Go.Eng
/-
  Logs: what the law asks: an entry, a state's last place and its terms, whether a log stands so.
-/
namespace Go.Proofs.Ytnioldkmckmajaa
open Go Go.Eng Go.Pln
attribute [local irreducible] AWp AL DAL AOp TAL
instance i_lentry : FnC Try.prog 44 := ⟨Try.f44, Try.func44, by kernel_rfl, by kernel_rfl⟩
instance i_slast : FnC Try.prog 70 := ⟨Try.f70, Try.func70, by kernel_rfl, by kernel_rfl⟩
instance i_sat : FnC Try.prog 71 := ⟨Try.f71, Try.func71, by kernel_rfl, by kernel_rfl⟩
instance i_stands : FnC Try.prog 43 := ⟨Try.f43, Try.func43, by kernel_rfl, by kernel_rfl⟩
instance i_EqD_api_LogState_LogR : EqD Try.prog 25 [(0, .int .i64), (1, .int .i64)] := ⟨_, Try.underlying25, by kernel_rfl, by kernel_rfl, by kernel_rfl⟩
abbrev stC (s : LogM) (v : Value) : List Value := [nt s.term, nt s.vote, nt s.base, nt s.base0, v]
abbrev stA (s : LogM) (v : Value) : Value := .agg #[nt s.term, nt s.vote, nt s.base, nt s.base0, v]
abbrev stB (s : LogM) (v : Value) : Blk := ⟨stC s v, 79, true⟩
section
variable {h : Heap} {g : Nat} {i : Nat} {name : List UInt8} {s : LogM} {lv : Value}
set_option maxHeartbeats 1000000 in
theorem entry_c (t : Nat) (b : List UInt8) (h : Heap) (hl : b.length ≤ 1000000) :
    ACalls Try.prog 44 [nt t, .string (bstr b)] h fun u h' => ∃ v, u = .agg #[nt t, v] ∧ OS h.next h' 5 v (bv b) ∧ Ext h h' := by
  refine ACalls.wf fun wf => ?_
  refine ACalls.body Try.func44 rfl rfl ?_
  repeat (first | refine AL.nil ?_ | refine AWp.seq ?_ | refine AWp.region ?_ | refine AL.set rfl rfl (op_moveI rfl ?_) | refine AL.set rfl rfl (op_moveStr rfl ?_) | refine AL.set rfl rfl (op_alloc (z := .agg #[.int .i64 0, .slice none 0 0]) ?_))
  have g1 := Heap.alloc_new h ⟨[.int .i64 0, .slice none 0 0], 51, true⟩
  have x1 := wf.ext ⟨[.int .i64 0, .slice none 0 0], 51, true⟩
  have w1 := wf.alloc ⟨[.int .i64 0, .slice none 0 0], 51, true⟩
  have n1 : (h.alloc ⟨[.int .i64 0, .slice none 0 0], 51, true⟩).next = h.next + 1 := rfl
  refine AL.heap (h := h.alloc ⟨[.int .i64 0, .slice none 0 0], 51, true⟩) rfl ?_
  generalize h.alloc ⟨[.int .i64 0, .slice none 0 0], 51, true⟩ = H1 at g1 x1 w1 n1 ⊢
  skip
  refine AL.set rfl rfl (op_strBy (s := b) rfl (by simp only [maxLen]; omega) ?_)
  have g2 := Heap.alloc_new H1 ⟨bv b, 5, true⟩
  have x2 := w1.ext ⟨bv b, 5, true⟩
  have w2 := w1.alloc ⟨bv b, 5, true⟩
  generalize hq : H1.next = q at g2 n1 ⊢
  generalize H1.alloc ⟨bv b, 5, true⟩ = H2 at g2 x2 w2 ⊢
  have g12 := x2.c _ _ g1
  repeat (first | refine AL.set rfl rfl (op_buildS (out := [nt t, .slice (some ⟨q, 0, some 1⟩) b.length (b.length + 1)]) rfl rfl ?_))
  refine AL.eff rfl (op_storeA (sz := 2) (vs := #[nt t, .slice (some ⟨q, 0, some 1⟩) b.length (b.length + 1)]) rfl rfl rfl rfl g12 rfl (by exact Nat.le_of_ble_eq_true rfl) ?_)
  refine AL.heap (h := H2.set h.next ⟨[nt t, .slice (some ⟨q, 0, some 1⟩) b.length (b.length + 1)], 51, true⟩) rfl ?_
  have g3 := Heap.set_at H2 h.next ⟨[nt t, .slice (some ⟨q, 0, some 1⟩) b.length (b.length + 1)], 51, true⟩
  have x3 : Ext h (H2.set h.next ⟨[nt t, .slice (some ⟨q, 0, some 1⟩) b.length (b.length + 1)], 51, true⟩) := wf.ext_set (x1.trans x2) (Nat.le_refl _) _
  have g4 : (H2.set h.next ⟨[nt t, .slice (some ⟨q, 0, some 1⟩) b.length (b.length + 1)], 51, true⟩).get q = some ⟨bv b, 5, true⟩ := by rw [Heap.set_other (by omega)]; exact g2
  repeat (first | refine AL.nil ?_ | refine AWp.ret ?_)
  refine ⟨_, ResV.cellA rfl rfl rfl g3 (by exact Nat.le_of_ble_eq_true rfl), _, rfl, .inr ⟨q, b.length + 1, by omega, by rw [bv_length], g4⟩, x3⟩
theorem slast_c (v : Value) {rx : List (List Value)} (rv : RNE h v rx) (ex : EntR h rx s.l) (ok : s.Ok) : ACalls Try.prog 70 [stA s v] h fun u h' => u = nt s.last ∧ h' = h := by
  refine ACalls.wf fun wf => ACalls.reset ?_
  refine ACalls.body Try.func70 rfl rfl ?_
  have k1 := ok.b
  have k2 := ok.n
  have hl := ex.len
  repeat (first | refine AWp.seq ?_ | refine AWp.region ?_)
  refine AL.set rfl rfl (op_box (v := stA s v) rfl (by intro e; cases e) ?_)
  have g1 := Heap.alloc_new h (stB s v)
  have x1 := wf.ext (stB s v)
  refine AL.heap (h := h.alloc (stB s v)) rfl ?_
  generalize h.next = p at g1 ⊢
  generalize h.alloc (stB s v) = H1 at g1 x1 ⊢
  obtain ⟨av, cv, hv⟩ := rv.1.slice
  repeat (first | refine AL.nil ?_ | refine AWp.seq ?_ | refine AWp.region ?_ | refine AWp.ret ?_ | refine AL.set rfl rfl (op_assignI rfl ?_) | refine AL.set rfl rfl (op_fa rfl ?_) | refine AL.set rfl rfl (op_load rfl rfl g1 rfl ?_) | refine AL.set rfl rfl (op_lenN (rv.1.ext x1) rfl ?_) | refine AL.set rfl rfl (op_add64 rfl rfl (by omega) ?_))
  refine ⟨_, ResV.tmp rfl, rfl, x1, ?_, rfl⟩
  show Value.int .i64 _ = nt s.last
  rw [hl]
  unfold LogM.last
  push_cast
  rfl
set_option maxHeartbeats 1000000 in
theorem sat_c (v : Value) {rx : List (List Value)} (rv : RNE h v rx) (ex : EntR h rx s.l) (ok : s.Ok) (k : Nat) (h1 : s.base ≤ k) (h2 : k ≤ s.last) : ACalls Try.prog 71 [stA s v, nt k] h fun u h' => u = nt (s.at k) ∧ h' = h := by
  refine ACalls.wf fun wf => ACalls.reset ?_
  refine ACalls.body Try.func71 rfl rfl ?_
  have k1 := ok.b
  have k2 := ok.n
  have hl := ex.len
  have hlast : s.last = s.base + s.l.length := rfl
  repeat (first | refine AWp.seq ?_ | refine AWp.region ?_)
  refine AL.set rfl rfl (op_box (v := stA s v) rfl (by intro e; cases e) ?_)
  have g1 := Heap.alloc_new h (stB s v)
  have x1 := wf.ext (stB s v)
  refine AL.heap (h := h.alloc (stB s v)) rfl ?_
  generalize h.next = p at g1 ⊢
  generalize h.alloc (stB s v) = H1 at g1 x1 ⊢
  obtain ⟨av, cv, hv⟩ := rv.1.slice
  have rr := rv.ext x1
  have er := ex.ext x1
  have cl := slast_c (h := H1) v rr er ok
  by_cases hb : k = s.base
  · repeat (first | refine AL.nil ?_ | refine AWp.seq ?_ | refine AWp.region ?_ | refine AWp.condT rfl ?_ | refine AWp.ret ?_ | refine AL.set rfl rfl (op_moveI rfl ?_) | refine AL.set rfl rfl (op_assignI rfl ?_) | refine AL.set rfl rfl (op_fa rfl ?_) | refine AL.set rfl rfl (op_load rfl rfl g1 rfl ?_) | refine AL.set rfl rfl (op_intT rfl rfl rfl (by omega) ?_))
    refine ⟨_, ResV.tmp rfl, rfl, x1, ?_, rfl⟩
    unfold LogM.at
    rw [if_pos hb]
    rfl
  · have hk : k - s.base - 1 < s.l.length := by omega
    obtain ⟨w, hw, q⟩ := er.row hk
    have hw2 : rx[((k : Int) - (s.base : Int) - 1).toNat]? = some [nt (s.l[k - s.base - 1]).1, w] := by rw [show ((k : Int) - (s.base : Int) - 1).toNat = k - s.base - 1 by omega]; exact hw
    have pr := rr.1.elt hw2
    repeat (first | refine AL.nil ?_ | refine AWp.seq ?_ | refine AWp.region ?_ | refine AWp.condF rfl ?_ | refine AWp.ret ?_ | refine AWp.skip ?_ | refine AL.set rfl rfl (op_moveI rfl ?_) | refine AL.set rfl rfl (op_moveB rfl ?_) | refine AL.set rfl rfl (op_assignI rfl ?_) | refine AL.set rfl rfl (op_fa rfl ?_) | refine AL.set rfl rfl (op_load rfl rfl g1 rfl ?_) | refine AL.set rfl rfl (op_loadA (sz := 5) rfl rfl g1 (by exact Nat.le_of_ble_eq_true rfl) ?_) | refine AL.set rfl rfl (op_callS rfl rfl cl ?_) | refine AL.set rfl rfl (op_intF rfl rfl rfl (by omega) ?_) | refine AL.set rfl rfl (op_pick (v := .bool _) rfl rfl ?_) | refine AL.set rfl rfl (op_indexND rr.1 rfl rfl (by omega) hw2 ?_) | refine AL.set rfl rfl (op_faN pr rfl ?_) | refine AL.set rfl rfl (op_loadF0 (off := 0) pr rfl rfl rfl ?_) | refine AL.set rfl rfl (op_sub64 rfl rfl (by omega) ?_))
    refine ⟨_, ResV.tmp rfl, rfl, x1, ?_, rfl⟩
    unfold LogM.at
    rw [if_neg hb, List.getD_eq_getElem?_getD, List.getElem?_eq_getElem hk]
    rfl
theorem fromAll_c (hg : h.get g = some (logB (ptr i) name s lv)) {rows : List (List Value)} (r : RNE h lv rows) (e : EntR h rows s.l) (ok : s.Ok) (n : Nat) (hn : s.l.length < n) (hn2 : n ≤ 1000000) :
    ACalls Try.prog 8 [ptr g, nt (s.base + 1), nt n] h fun u h' => ∃ ru, RNE h' u ru ∧ EntR h' ru s.l ∧ Ext h h' := by
  cases hl : s.l with
  | nil =>
    refine (from_no hg r e ok (s.base + 1) n (.inr (by unfold LogM.last; rw [hl]; simp)) (by omega)).mono ?_
    rintro u h' ⟨rfl, rfl⟩
    exact ⟨[], RNE.nil _, EntR.nil _, Ext.refl _⟩
  | cons x l =>
    refine (from_c hg r e ok (s.base + 1) n (by omega) (by unfold LogM.last; rw [hl]; simp) (by omega) hn2).mono ?_
    rintro u h' ⟨ru, q1, q2, q3⟩
    rw [show s.base + 1 - s.base - 1 = 0 by omega, List.drop_zero, hl] at q2
    exact ⟨ru, q1, q2, q3⟩
set_option maxHeartbeats 8000000 in
theorem stands_c (hg : h.get g = some (logB (ptr i) name s lv)) {rows : List (List Value)} (r : RNE h lv rows) (e : EntR h rows s.l) (ok : s.Ok) (v : Value) {rx : List (List Value)} (rv : RNE h v rx) (ex : EntR h rx s.l) :
    ACalls Try.prog 43 [ptr g, stA s v] h fun u h' => u = .bool true ∧ h' = h := by
  refine ACalls.wf fun wf => ACalls.reset ?_
  refine ACalls.body Try.func43 rfl rfl ?_
  have k1 := ok.b
  have k2 := ok.n
  have hl := ex.len
  have hlast : s.last = s.base + s.l.length := rfl
  repeat (first | refine AWp.seq ?_ | refine AWp.region ?_)
  refine AL.set rfl rfl (op_box (v := stA s v) rfl (by intro e; cases e) ?_)
  have g1 := Heap.alloc_new h (stB s v)
  have x1 := wf.ext (stB s v)
  refine AL.heap (h := h.alloc (stB s v)) rfl ?_
  generalize h.next = p at g1 ⊢
  generalize h.alloc (stB s v) = H1 at g1 x1 ⊢
  obtain ⟨av, cv, hv⟩ := rv.1.slice
  have hg1 := x1.c _ _ hg
  have r1 := r.ext x1
  have e1 := e.ext x1
  have rv1 := rv.ext x1
  have ex1 := ex.ext x1
  have cb := base_c hg1
  have cl := lastT_c hg1 r1 e1 ok
  have cs := fun (h' : Heap) (hx : Ext H1 h') => state_c (hx.c _ _ hg1)
  have csl := fun (h' : Heap) (hx : Ext H1 h') => slast_c (h := h') v (rv1.ext hx) (ex1.ext hx) ok
  have csa := fun (h' : Heap) (hx : Ext H1 h') => sat_c (h := h') v (rv1.ext hx) (ex1.ext hx) ok s.last (by omega) (Nat.le_refl _)
  have heq : eqRows [(0, TypeDesc.int .i64), (1, TypeDesc.int .i64)] [nt s.term, nt s.vote] [nt s.term, nt s.vote] = true := by simp [eqRows, eqV]
  repeat (first | refine AL.nil ?_ | refine AWp.seq ?_ | refine AWp.region ?_ | refine AL.set rfl rfl (op_moveP rfl ?_) | refine AL.set rfl rfl (op_moveT rfl ?_) | refine AL.set rfl rfl (op_assignI rfl ?_) | refine AL.set rfl rfl (op_assignB rfl ?_) | refine AL.set rfl rfl (op_callS rfl rfl cb ?_) | refine AL.set rfl rfl (op_callS rfl rfl cl ?_) | refine AL.set rfl rfl (op_extract rfl rfl ?_))
  refine AWp.drawR mixedT (by kernel_rfl) ?_
  repeat (first | refine DAL.r rfl rfl rfl (fun h' hx hn => op_moveI rfl ⟨rfl, rfl⟩) ?_ | refine DAL.r rfl rfl rfl (fun h' hx hn => op_moveB rfl ⟨rfl, rfl⟩) ?_ | refine DAL.r rfl rfl rfl (fun h' hx hn => op_moveP rfl ⟨rfl, rfl⟩) ?_ | refine DAL.r rfl rfl rfl (fun h' hx hn => op_fa rfl ⟨rfl, rfl⟩) ?_ | refine DAL.r rfl rfl rfl (fun h' hx hn => op_load rfl rfl (hx.c _ _ g1) rfl ⟨rfl, rfl⟩) ?_ | refine DAL.r rfl rfl rfl (fun h' hx hn => op_loadA (sz := 5) rfl rfl (hx.c _ _ g1) (by exact Nat.le_of_ble_eq_true rfl) ⟨rfl, rfl⟩) ?_ | refine DAL.r rfl rfl rfl (fun h' hx hn => op_callS rfl rfl (cs h' hx) ⟨rfl, rfl⟩) ?_ | refine DAL.r rfl rfl rfl (fun h' hx hn => op_callS rfl rfl (csl h' hx) ⟨rfl, rfl⟩) ?_ | refine DAL.r rfl rfl rfl (fun h' hx hn => op_callS rfl rfl (csa h' hx) ⟨rfl, rfl⟩) ?_ | refine DAL.r rfl rfl rfl (fun h' hx hn => op_buildS (out := [nt s.term, nt s.vote]) rfl rfl ⟨rfl, rfl⟩) ?_ | refine DAL.r rfl rfl rfl (fun h' hx hn => op_neStB (xs := [nt s.term, nt s.vote]) (ys := [nt s.term, nt s.vote]) rfl rfl rfl heq ⟨rfl, rfl⟩) ?_ | refine DAL.r rfl rfl rfl (fun h' hx hn => op_intF rfl rfl rfl (by omega) ⟨rfl, rfl⟩) ?_ | refine DAL.r rfl rfl rfl (fun h' hx hn => op_pick (v := .bool _) rfl rfl ⟨rfl, rfl⟩) ?_)
  refine DAL.nil ?_
  have cf := fromAll_c hg1 r1 e1 ok (s.l.length + 1) (by omega) (by omega)
  have en1 : nt (s.base + 1) = .int .i64 ((s.base : Int) + 1) := rfl
  have en2 : nt (s.l.length + 1) = .int .i64 ((rx.length : Int) + 1) := by rw [hl]; rfl
  rw [en1, en2] at cf
  repeat (first | refine AWp.seq ?_ | refine AWp.region ?_ | refine AWp.condF rfl ?_ | refine AWp.skip ?_ | refine AL.set rfl rfl (op_moveP rfl ?_) | refine AL.set rfl rfl (op_fa rfl ?_) | refine AL.set rfl rfl (op_load rfl rfl g1 rfl ?_) | refine AL.set rfl rfl (op_lenN rv1.1 rfl ?_) | refine AL.set rfl rfl (op_add64 rfl rfl (by omega) ?_))
  refine AL.set rfl rfl (op_call rfl rfl (cf.mono ?_))
  rintro u H2 ⟨ru, ru1, eu1, x2⟩
  obtain ⟨au, cu, hu⟩ := ru1.1.slice
  have g2 := x2.c _ _ g1
  have rv2 := rv1.ext x2
  have ex2 := ex1.ext x2
  have hlu := eu1.len
  repeat (first | refine AL.nil ?_ | refine AWp.seq ?_ | refine AWp.region ?_ | refine AWp.condF rfl ?_ | refine AWp.block ?_ | refine AWp.skip ?_ | refine AL.set rfl rfl (op_assignI rfl ?_) | refine AL.set rfl rfl (op_assign (v := u) rfl ?_) | refine AL.set rfl rfl (op_move (v := u) rfl ?_) | refine AL.set rfl rfl (op_lenN ru1.1 rfl ?_) | refine AL.set rfl rfl (op_fa rfl ?_) | refine AL.set rfl rfl (op_load rfl rfl g2 rfl ?_) | refine AL.set rfl rfl (op_lenN rv2.1 rfl ?_) | refine AL.set rfl rfl (op_intF rfl rfl rfl (by omega) ?_))
  refine AWp.loop (α := Nat) (fun k => [(3, ptr p), (9, u), (10, nt k)]) (fun _ => H2) (fun k => k ≤ s.l.length) (fun k => s.l.length - k) 0 (Nat.zero_le _) (Weak.same (EW.cons rfl (EW.cons rfl (EW.cons rfl EW.nil)))) ?_
  intro k hk
  by_cases hlt : k < s.l.length
  · obtain ⟨w, hw, qw⟩ := ex2.row hlt
    obtain ⟨y, hy, qy⟩ := eu1.row hlt
    have hw2 : rx[((k : Nat) : Int).toNat]? = some [nt (s.l[k]).1, w] := by simpa using hw
    have hy2 : ru[((k : Nat) : Int).toNat]? = some [nt (s.l[k]).1, y] := by simpa using hy
    have prw := fun (h' : Heap) (hx : Ext H2 h') => (rv2.1.ext hx).elt hw2
    have pry := fun (h' : Heap) (hx : Ext H2 h') => (ru1.1.ext hx).elt hy2
    repeat (first | refine AL.nil ?_ | refine AWp.seq ?_ | refine AWp.region ?_ | refine AWp.condT rfl ?_ | refine AWp.block ?_ | refine AWp.skip ?_ | refine AL.set rfl rfl (op_moveI rfl ?_) | refine AL.set rfl rfl (op_move (v := u) rfl ?_) | refine AL.set rfl rfl (op_lenN ru1.1 rfl ?_) | refine AL.set rfl rfl (op_intT rfl rfl rfl (by omega) ?_))
    refine AWp.drawR mixedT (by kernel_rfl) ?_
    repeat (first | refine DAL.r rfl rfl rfl (fun h' hx hn => op_moveI rfl ⟨rfl, rfl⟩) ?_ | refine DAL.r rfl rfl rfl (fun h' hx hn => op_moveB rfl ⟨rfl, rfl⟩) ?_ | refine DAL.r rfl rfl rfl (fun h' hx hn => op_move (v := u) rfl ⟨rfl, rfl⟩) ?_ | refine DAL.r rfl rfl rfl (fun h' hx hn => op_fa rfl ⟨rfl, rfl⟩) ?_ | refine DAL.r rfl rfl rfl (fun h' hx hn => op_load rfl rfl (hx.c _ _ g2) rfl ⟨rfl, rfl⟩) ?_ | refine DAL.r rfl rfl rfl (fun h' hx hn => op_indexND (rv2.1.ext hx) rfl rfl (by omega) hw2 ⟨rfl, rfl⟩) ?_ | refine DAL.r rfl rfl rfl (fun h' hx hn => op_indexND (ru1.1.ext hx) rfl rfl (by omega) hy2 ⟨rfl, rfl⟩) ?_ | refine DAL.r rfl rfl rfl (fun h' hx hn => op_faN (prw h' hx) rfl ⟨rfl, rfl⟩) ?_ | refine DAL.r rfl rfl rfl (fun h' hx hn => op_faN (pry h' hx) rfl ⟨rfl, rfl⟩) ?_ | refine DAL.r rfl rfl rfl (fun h' hx hn => op_loadF0 (off := 0) (prw h' hx) rfl rfl rfl ⟨rfl, rfl⟩) ?_ | refine DAL.r rfl rfl rfl (fun h' hx hn => op_loadF0 (off := 0) (pry h' hx) rfl rfl rfl ⟨rfl, rfl⟩) ?_ | refine DAL.r rfl rfl rfl (fun h' hx hn => op_loadF0 (off := 1) (prw h' hx) rfl rfl rfl ⟨rfl, rfl⟩) ?_ | refine DAL.r rfl rfl rfl (fun h' hx hn => op_loadF0 (off := 1) (pry h' hx) rfl rfl rfl ⟨rfl, rfl⟩) ?_ | refine DAL.r rfl rfl rfl (fun h' hx hn => op_bytesStrR (qw.1.ext hx) rfl ⟨rfl, rfl⟩) ?_ | refine DAL.r rfl rfl rfl (fun h' hx hn => op_bytesStrR (qy.1.ext hx) rfl ⟨rfl, rfl⟩) ?_ | refine DAL.r rfl rfl rfl (fun h' hx hn => op_sNeF rfl rfl rfl ⟨rfl, rfl⟩) ?_ | refine DAL.r rfl rfl rfl (fun h' hx hn => op_intF rfl rfl rfl (by omega) ⟨rfl, rfl⟩) ?_ | refine DAL.r rfl rfl rfl (fun h' hx hn => op_pick (v := .bool _) rfl rfl ⟨rfl, rfl⟩) ?_)
    refine DAL.nil ?_
    repeat (first | refine AL.nil ?_ | refine AWp.region ?_ | refine AWp.condF rfl ?_ | refine AWp.skip ?_ | refine AL.set rfl rfl (op_moveI rfl ?_) | refine AL.set rfl rfl (op_assignI rfl ?_) | refine AL.set rfl rfl (op_add64 rfl rfl (by omega) ?_))
    exact ⟨k + 1, hlt, by omega, Weak.same (EW.cons rfl (EW.cons rfl (EW.cons rfl EW.nil)))⟩
  · repeat (first | refine AL.nil ?_ | refine AWp.seq ?_ | refine AWp.region ?_ | refine AWp.condF rfl ?_ | refine AWp.ret ?_ | refine AWp.exit ?_ | refine AL.set rfl rfl (op_moveI rfl ?_) | refine AL.set rfl rfl (op_assignB rfl ?_) | refine AL.set rfl rfl (op_move (v := u) rfl ?_) | refine AL.set rfl rfl (op_lenN ru1.1 rfl ?_) | refine AL.set rfl rfl (op_intF rfl rfl rfl (by omega) ?_))
    exact ⟨_, ResV.tmp rfl, rfl, x1.trans x2, rfl, rfl⟩
end
end Go.Proofs.Ytnioldkmckmajaa
/-
  Logs: the chapter's rows.
-/
namespace Go.Proofs.Ytnioldkmckmajaa
open Go Go.Eng Go.Pln
attribute [local irreducible] AWp AL DAL AOp TAL
instance i_known : FnC Try.prog 17 := ⟨Try.f17, Try.func17, by kernel_rfl, by kernel_rfl⟩
instance i_New : FnC Try.prog 15 := ⟨Try.f15, Try.func15, by kernel_rfl, by kernel_rfl⟩
theorem LgD.ext {h h' : Heap} {g i m room k n : Nat} {name : List UInt8} {s : LogM} (a : LgD h g i m room k n name s) (x : Ext h h') : LgD h' g i m room k n name s := by
  obtain ⟨lv, rows, hg, r, e⟩ := a.ex
  obtain ⟨fl, c, d⟩ := a.dsk
  exact ⟨⟨lv, rows, x.c _ _ hg, r.ext x, e.ext x⟩, ⟨fl, c, dq_ext d x⟩, a.ok⟩
theorem op_rowE2 {ρ : Operand → Value} {h : Heap} {K : Value → Heap → Prop} {dst : Option Tmp} {ty : TypeId} {pos : String} {aft : Array Edge} {gd : Option (Nat × Bool)} {x y : Operand} {r1 r2 : List Value} (hx : ρ x = .agg r1.toArray) (hy : ρ y = .agg r2.toArray) (h1 : r1.length = 2) (h2 : r2.length = 2)
    (kk : K (.slice (some ⟨h.next, 0, some 2⟩) 2 2) (h.alloc ⟨r1 ++ r2, 51, true⟩)) : AOp Try.prog ⟨dst, .buildSlice 26 2 #[(0, x), (1, y)], ty, pos, aft, gd⟩ ρ h K := by
  obtain ⟨a, b, rfl⟩ : ∃ a b, r1 = [a, b] := by
    match r1, h1 with
    | [a, b], _ => exact ⟨a, b, rfl⟩
  obtain ⟨c, d, rfl⟩ : ∃ c d, r2 = [c, d] := by
    match r2, h2 with
    | [c, d], _ => exact ⟨c, d, rfl⟩
  refine op_buildSliceN (e := 51) (sz := 2) (out := [a, b, c, d]) (by decide) (by decide) (by decide) (fun p hp => ?_) ?_ rfl kk
  · simp only [List.mem_cons, List.not_mem_nil, or_false] at hp
    rcases hp with rfl | rfl
    · show ρ x ≠ undef
      rw [hx]; intro e; cases e
    · show ρ y ≠ undef
      rw [hy]; intro e; cases e
  · show fillA _ _ [(0, ρ x), (1, ρ y)] = _
    rw [hx, hy]
    rfl
abbrev gB : List UInt8 := [103, 46]
abbrev nameG : List UInt8 := gB ++ raftB
theorem nmG : Nm nameG := ⟨by decide, by decide, by decide⟩
abbrev m1 : LogM := ⟨1, 2, 0, 0, []⟩
abbrev m2 : LogM := ⟨1, 2, 0, 0, [(1, [120]), (1, [121])]⟩
abbrev m3 : LogM := ⟨2, 0, 0, 0, [(1, [120]), (1, [121])]⟩
abbrev m4 : LogM := ⟨2, 0, 0, 0, [(1, [120]), (2, [122])]⟩
abbrev m5 : LogM := ⟨2, 0, 1, 1, [(2, [122])]⟩
set_option maxHeartbeats 16000000 in
theorem known_c (h : Heap) : ACalls Try.prog 17 [] h fun u _ => u = .bool true := by
  refine ACalls.wf fun wf => ?_
  refine ACalls.body Try.func17 rfl rfl ?_
  repeat (first | refine AL.nil ?_ | refine AWp.seq ?_ | refine AWp.region ?_ | refine AL.set rfl rfl (op_assignB rfl ?_))
  refine AL.set rfl rfl (op_call rfl rfl ((Dk.new_yes 4096 h (by decide) (by decide)).wf_post.mono ?_))
  rintro _ H1 ⟨⟨i, m, rfl, _, _, d0, x1⟩, w1, n1⟩
  have q0 : Dq H1 i m 4096 0 0 [] 0 := ⟨d0, Nat.le_refl _, Nat.le_refl _⟩
  repeat (first | refine AL.nil ?_ | refine AWp.seq ?_ | refine AWp.region ?_ | refine AL.set rfl rfl (op_moveP rfl ?_) | refine AL.set rfl rfl (op_moveT rfl ?_) | refine AL.set rfl rfl (op_assignI rfl ?_) | refine AL.set rfl rfl (op_assignP rfl ?_) | refine AL.set rfl rfl (op_extract rfl rfl ?_))
  refine AL.set rfl rfl (op_call rfl rfl ((open_new gB H1 q0 (by decide) (by decide) rfl).wf_post.mono ?_))
  rintro _ H2 ⟨⟨g, rfl, a2, x2⟩, w2, n2⟩
  obtain ⟨lv2, rows2, hg2, r2, e2⟩ := a2.ex
  have cs2 := stands_c hg2 r2 e2 a2.ok (.slice none 0 0) (RNE.nil H2) (EntR.nil H2)
  repeat (first | refine AL.nil ?_ | refine AWp.seq ?_ | refine AWp.region ?_ | refine AL.set rfl rfl (op_moveI rfl ?_) | refine AL.set rfl rfl (op_moveB rfl ?_) | refine AL.set rfl rfl (op_moveP rfl ?_) | refine AL.set rfl rfl (op_moveT rfl ?_) | refine AL.set rfl rfl (op_assignI rfl ?_) | refine AL.set rfl rfl (op_assignP rfl ?_) | refine AL.set rfl rfl (op_extract rfl rfl ?_) | refine AL.set rfl rfl (op_intF rfl rfl rfl (by omega) ?_) | refine AL.set rfl rfl (op_buildS (out := stC zeroM (.slice none 0 0)) rfl rfl ?_) | refine AL.set rfl rfl (op_callS rfl rfl cs2 ?_) | refine AL.set rfl rfl (op_pick (v := .bool _) rfl rfl ?_) | refine AL.set rfl rfl (op_not rfl ?_))
  repeat (first | refine AL.set rfl rfl (op_buildS (out := [nt 1, nt 2]) rfl rfl ?_))
  refine AL.set rfl rfl (op_call rfl rfl ((set_ok a2 nmG 1 2 (by decide) (by decide) (by decide) (by decide) (by intro e; cases e) (by decide) (by decide)).wf_post.mono ?_))
  rintro _ H3 ⟨⟨rfl, a3, _⟩, w3, n3⟩
  replace a3 : LgD H3 g i m 4096 1 40 nameG m1 := a3
  repeat (first | refine AL.set rfl rfl (op_moveB rfl ?_) | refine AL.set rfl rfl (op_moveP rfl ?_) | refine AL.set rfl rfl (op_intF rfl rfl rfl (by omega) ?_) | refine AL.set rfl rfl (op_pick (v := .bool _) rfl rfl ?_))
  refine AL.set rfl rfl (op_call rfl rfl ((entry_c 1 [120] H3 (by decide)).wf_post.mono ?_))
  rintro _ H4 ⟨⟨v1, rfl, o1, x4⟩, w4, n4⟩
  refine AL.set rfl rfl (op_call rfl rfl ((entry_c 1 [121] H4 (by decide)).wf_post.mono ?_))
  rintro _ H5 ⟨⟨v2, rfl, o2, x5⟩, w5, n5⟩
  refine AL.set rfl rfl (op_rowE2 (r1 := [nt 1, v1]) (r2 := [nt 1, v2]) rfl rfl rfl rfl ?_)
  have g6 := Heap.alloc_new H5 ⟨[nt 1, v1] ++ [nt 1, v2], 51, true⟩
  have x6 := w5.ext ⟨[nt 1, v1] ++ [nt 1, v2], 51, true⟩
  have w6 := w5.alloc ⟨[nt 1, v1] ++ [nt 1, v2], 51, true⟩
  generalize hz6 : H5.next = z6 at g6 ⊢
  generalize H5.alloc ⟨[nt 1, v1] ++ [nt 1, v2], 51, true⟩ = H6 at g6 x6 w6 ⊢
  have rv6 : RNE H6 (.slice (some ⟨z6, 0, some 2⟩) 2 2) [[nt 1, v1], [nt 1, v2]] := ⟨RN.own (rows := [[nt 1, v1], [nt 1, v2]]) (by intro r hr; simp only [List.mem_cons, List.not_mem_nil, or_false] at hr; rcases hr with rfl | rfl <;> rfl) g6 rfl, fun _ => ⟨z6, _, rfl, g6, rfl⟩⟩
  have ex6 : EntR H6 [[nt 1, v1], [nt 1, v2]] [(1, [120]), (1, [121])] := ((EntR.nil H6).push (x := (1, [120])) ((RBE.os (o1.ext x5)).pres fun j b hj _ => x6.c j b hj)).push (x := (1, [121])) ((RBE.os o2).pres fun j b hj _ => x6.c j b hj)
  refine AL.set rfl rfl (op_call rfl rfl ((put_ok (a3.ext (x4.trans (x5.trans x6))) nmG 0 (by decide) _ [(1, [120]), (1, [121])] rv6 ex6 (by decide) (by decide) (by simp [mayE]; decide) (by decide) (by decide) (by decide) (by decide)).wf_post.mono ?_))
  rintro _ H7 ⟨⟨rfl, a7, _⟩, w7, n7⟩
  replace a7 : LgD H7 g i m 4096 2 162 nameG m2 := a7
  obtain ⟨lv7, rows7, hg7, r7, e7⟩ := a7.ex
  have cl7 : ACalls Try.prog 6 [ptr g] H7 fun u h' => u = .tuple #[.int .i64 2, .int .i64 1] ∧ h' = H7 := lastT_c hg7 r7 e7 a7.ok
  repeat (first | refine AL.nil ?_ | refine AWp.seq ?_ | refine AWp.region ?_ | refine AWp.condF rfl ?_ | refine AWp.skip ?_ | refine AL.set rfl rfl (op_moveP rfl ?_) | refine AL.set rfl rfl (op_moveT rfl ?_) | refine AL.set rfl rfl (op_assignI rfl ?_) | refine AL.set rfl rfl (op_intF rfl rfl rfl (by omega) ?_) | refine AL.set rfl rfl (op_pick (v := .bool _) rfl rfl ?_) | refine AL.set rfl rfl (op_callS rfl rfl cl7 ?_) | refine AL.set rfl rfl (op_extract rfl rfl ?_))
  refine AL.set rfl rfl (op_call rfl rfl ((from_c hg7 r7 e7 a7.ok 2 9 (by decide) (by decide) (by decide) (by decide)).wf_post.mono ?_))
  rintro y H8 ⟨⟨ry, rny, eny, x8⟩, w8, n8⟩
  replace eny : EntR H8 ry [(1, [121])] := eny
  obtain ⟨y1, hy1, qy1⟩ := eny.row (k := 0) (by decide)
  have hy2 : ry[((0 : Nat) : Int).toNat]? = some [nt 1, y1] := hy1
  have pry := rny.1.elt hy2
  have hly : ry.length = 1 := eny.len
  obtain ⟨ay, cy, hys⟩ := rny.1.slice
  repeat (first | refine AL.nil ?_ | refine AWp.seq ?_ | refine AWp.region ?_ | refine AL.set rfl rfl (op_moveI rfl ?_) | refine AL.set rfl rfl (op_moveB rfl ?_) | refine AL.set rfl rfl (op_moveP rfl ?_) | refine AL.set rfl rfl (op_assign (v := y) rfl ?_) | refine AL.set rfl rfl (op_intF rfl rfl rfl (by omega) ?_) | refine AL.set rfl rfl (op_pick (v := .bool _) rfl rfl ?_) | refine AL.set rfl rfl (op_move (v := y) rfl ?_) | refine AL.set rfl rfl (op_lenN rny.1 rfl ?_) | refine AL.set rfl rfl (op_indexND rny.1 rfl rfl (by decide) hy2 ?_) | refine AL.set rfl rfl (op_faN pry rfl ?_) | refine AL.set rfl rfl (op_loadF0 (off := 1) pry rfl rfl rfl ?_) | refine AL.set rfl rfl (op_bytesStrR qy1.1 rfl ?_) | refine AL.set rfl rfl (op_sNeF (b := [121]) rfl rfl rfl ?_) | refine AL.set rfl rfl (op_buildS (out := [nt 2, nt 0]) rfl rfl ?_))
  refine AL.set rfl rfl (op_call rfl rfl ((set_ok (a7.ext x8) nmG 2 0 (by decide) (by decide) (by decide) (by decide) (by intro e; cases e) (by decide) (by decide)).wf_post.mono ?_))
  rintro _ H9 ⟨⟨rfl, a9, _⟩, w9, n9⟩
  replace a9 : LgD H9 g i m 4096 3 202 nameG m3 := a9
  repeat (first | refine AL.set rfl rfl (op_moveB rfl ?_) | refine AL.set rfl rfl (op_moveP rfl ?_) | refine AL.set rfl rfl (op_intF rfl rfl rfl (by omega) ?_) | refine AL.set rfl rfl (op_pick (v := .bool _) rfl rfl ?_))
  refine AL.set rfl rfl (op_call rfl rfl ((entry_c 2 [122] H9 (by decide)).wf_post.mono ?_))
  rintro _ H10 ⟨⟨v3, rfl, o3, x10⟩, w10, n10⟩
  refine AL.set rfl rfl (op_rowN1 (sz := 2) (row := [nt 2, v3]) (by decide) (by decide) rfl rfl ?_)
  have g11 := Heap.alloc_new H10 ⟨[nt 2, v3], 51, true⟩
  have x11 := w10.ext ⟨[nt 2, v3], 51, true⟩
  generalize hz11 : H10.next = z11 at g11 ⊢
  generalize H10.alloc ⟨[nt 2, v3], 51, true⟩ = H11 at g11 x11 ⊢
  have rv11 : RNE H11 (.slice (some ⟨z11, 0, some 2⟩) 1 1) [[nt 2, v3]] := ⟨RN.row1 rfl g11, fun _ => ⟨z11, _, rfl, g11, rfl⟩⟩
  have ex11 : EntR H11 [[nt 2, v3]] [(2, [122])] := (EntR.nil H11).push (x := (2, [122])) ((RBE.os o3).pres fun j b hj _ => x11.c j b hj)
  refine AL.set rfl rfl (op_call rfl rfl ((put_ok (a9.ext (x10.trans x11)) nmG 1 (by decide) _ [(2, [122])] rv11 ex11 (by decide) (by decide) (by simp [mayE, LogM.at]) (by decide) (by decide) (by decide) (by decide)).wf_post.mono ?_))
  rintro _ H12 ⟨⟨rfl, a12, _⟩, w12, n12⟩
  replace a12 : LgD H12 g i m 4096 4 263 nameG m4 := a12
  obtain ⟨lv12, rows12, hg12, r12, e12⟩ := a12.ex
  have cl12 : ACalls Try.prog 6 [ptr g] H12 fun u h' => u = .tuple #[.int .i64 2, .int .i64 2] ∧ h' = H12 := lastT_c hg12 r12 e12 a12.ok
  have ct12 : ACalls Try.prog 4 [ptr g, .int .i64 1] H12 fun u h' => u = .tuple #[.int .i64 1, .bool true] ∧ h' = H12 := term_c hg12 r12 e12 a12.ok 1 (by decide) (by decide)
  repeat (first | refine AL.nil ?_ | refine AWp.seq ?_ | refine AWp.region ?_ | refine AWp.condF rfl ?_ | refine AWp.skip ?_ | refine AL.set rfl rfl (op_moveI rfl ?_) | refine AL.set rfl rfl (op_moveB rfl ?_) | refine AL.set rfl rfl (op_moveP rfl ?_) | refine AL.set rfl rfl (op_moveT rfl ?_) | refine AL.set rfl rfl (op_assignI rfl ?_) | refine AL.set rfl rfl (op_assignB rfl ?_) | refine AL.set rfl rfl (op_intF rfl rfl rfl (by omega) ?_) | refine AL.set rfl rfl (op_pick (v := .bool _) rfl rfl ?_) | refine AL.set rfl rfl (op_callS rfl rfl cl12 ?_) | refine AL.set rfl rfl (op_callS rfl rfl ct12 ?_) | refine AL.set rfl rfl (op_extract rfl rfl ?_) | refine AL.set rfl rfl (op_not rfl ?_))
  refine AL.set rfl rfl (op_call rfl rfl ((cut_ok a12 nmG 1 (by decide) (by decide) (by decide) (by decide) (by decide) (by decide)).wf_post.mono ?_))
  rintro _ H13 ⟨⟨rfl, a13, _⟩, w13, n13⟩
  replace a13 : LgD H13 g i m 4096 7 404 nameG m5 := a13
  obtain ⟨lv13, rows13, hg13, r13, e13⟩ := a13.ex
  repeat (first | refine AL.nil ?_ | refine AWp.seq ?_ | refine AWp.region ?_ | refine AWp.condF rfl ?_ | refine AWp.skip ?_ | refine AL.set rfl rfl (op_moveP rfl ?_) | refine AL.set rfl rfl (op_intF rfl rfl rfl (by omega) ?_) | refine AL.set rfl rfl (op_pick (v := .bool _) rfl rfl ?_))
  refine AL.set rfl rfl (op_call rfl rfl ((from_c hg13 r13 e13 a13.ok 2 9 (by decide) (by decide) (by decide) (by decide)).wf_post.mono ?_))
  rintro zv H14 ⟨⟨rz, rnz, enz, x14⟩, w14, n14⟩
  replace enz : EntR H14 rz [(2, [122])] := enz
  have hlz : rz.length = 1 := enz.len
  obtain ⟨az, cz, hzs⟩ := rnz.1.slice
  have a14 := a13.ext x14
  have hg14 := x14.c _ _ hg13
  have r14 := r13.ext x14
  have e14 := e13.ext x14
  have cs14 := stands_c hg14 r14 e14 a13.ok zv rnz enz
  have cf14 := from_no hg14 r14 e14 a13.ok 1 9 (.inl (by decide)) (by decide)
  have cb14 := set_bad a14 1 1 (by decide)
  repeat (first | refine AL.nil ?_ | refine AWp.seq ?_ | refine AWp.region ?_ | refine AL.set rfl rfl (op_moveB rfl ?_) | refine AL.set rfl rfl (op_moveP rfl ?_) | refine AL.set rfl rfl (op_assign (v := zv) rfl ?_) | refine AL.set rfl rfl (op_move (v := zv) rfl ?_) | refine AL.set rfl rfl (op_lenN rnz.1 rfl ?_) | refine AL.set rfl rfl (op_buildS (out := stC m5 zv) (by rw [hzs]; rfl) (by rw [hzs]; rfl) ?_) | refine AL.set rfl rfl (op_buildS (out := [nt 1, nt 1]) rfl rfl ?_) | refine AL.set rfl rfl (op_callS rfl rfl cs14 ?_) | refine AL.set rfl rfl (op_callS rfl rfl cf14 ?_) | refine AL.set rfl rfl (op_callS rfl rfl cb14 ?_) | refine AL.set rfl rfl (op_intT rfl rfl rfl (by omega) ?_) | refine AL.set rfl rfl (op_pick (v := .bool _) rfl rfl ?_) | refine AL.set rfl rfl (op_lenS rfl ?_))
  refine AL.set rfl rfl (op_call rfl rfl ((entry_c 2 [119] H14 (by decide)).wf_post.mono ?_))
  rintro _ H15 ⟨⟨v4, rfl, o4, x15⟩, w15, n15⟩
  refine AL.set rfl rfl (op_rowN1 (sz := 2) (row := [nt 2, v4]) (by decide) (by decide) rfl rfl ?_)
  have g16 := Heap.alloc_new H15 ⟨[nt 2, v4], 51, true⟩
  have x16 := w15.ext ⟨[nt 2, v4], 51, true⟩
  generalize hz16 : H15.next = z16 at g16 ⊢
  generalize H15.alloc ⟨[nt 2, v4], 51, true⟩ = H16 at g16 x16 ⊢
  have rv16 : RNE H16 (.slice (some ⟨z16, 0, some 2⟩) 1 1) [[nt 2, v4]] := ⟨RN.row1 rfl g16, fun _ => ⟨z16, _, rfl, g16, rfl⟩⟩
  have cp16 := put_bad (a14.ext (x15.trans x16)) 4 (.inl (by decide)) (by decide) _ rv16
  repeat (first | refine AL.nil ?_ | refine AWp.ret ?_ | refine AL.set rfl rfl (op_assignB rfl ?_) | refine AL.set rfl rfl (op_callS rfl rfl cp16 ?_) | refine AL.set rfl rfl (op_intT rfl rfl rfl (by omega) ?_) | refine AL.set rfl rfl (op_pick (v := .bool _) rfl rfl ?_))
  exact ⟨_, ResV.tmp rfl, rfl⟩
end Go.Proofs.Ytnioldkmckmajaa
/-
  Logs: the law's walk.
-/
namespace Go.Proofs.Ytnioldkmckmajaa
open Go Go.Eng Go.Pln
attribute [local irreducible] AWp AL DAL AOp TAL
instance i_TyD_Sl_P_raftlog_Log_LogU : TyD Try.prog 29 (.slice 22) := ⟨Try.underlying29⟩
set_option maxHeartbeats 16000000 in
theorem nil_c (h : Heap) : ACalls Try.prog 3 [] h fun u _ => u = .bool true := by
  refine ACalls.wf fun wf => ?_
  refine ACalls.body Try.func3 rfl rfl ?_
  repeat (first | refine AL.nil ?_ | refine AWp.seq ?_ | refine AWp.region ?_ | refine AL.set rfl rfl (op_assignB rfl ?_) | refine AL.set rfl rfl (op_buildS (out := [.pointer none, .string ⟨#[]⟩, .int .i64 0, .int .i64 0, .int .i64 0, .int .i64 0, .slice none 0 0, .bool false]) rfl rfl ?_))
  refine AL.set rfl rfl (op_box (v := .agg [.pointer none, .string ⟨#[]⟩, .int .i64 0, .int .i64 0, .int .i64 0, .int .i64 0, .slice none 0 0, .bool false].toArray) rfl (by intro e; cases e) ?_)
  have g1 := Heap.alloc_new h deadB
  have w1 := wf.alloc deadB
  refine AL.heap (h := h.alloc deadB) rfl ?_
  generalize h.next = j at g1 ⊢
  generalize h.alloc deadB = H1 at g1 w1 ⊢
  refine AL.set rfl rfl (op_row [.pointer none, ptr j] rfl rfl rfl rfl (by intro w hw; simp only [List.mem_cons, List.not_mem_nil, or_false] at hw; rcases hw with hw | hw <;> rw [hw] <;> rfl) ?_)
  have g2 := Heap.alloc_new H1 ⟨[.pointer none, ptr j], 22, true⟩
  have x2 := w1.ext ⟨[.pointer none, ptr j], 22, true⟩
  have w2 := w1.alloc ⟨[.pointer none, ptr j], 22, true⟩
  generalize H1.next = z at g2 ⊢
  generalize H1.alloc ⟨[.pointer none, ptr j], 22, true⟩ = H2 at g2 x2 w2 ⊢
  have gj2 := x2.c _ _ g1
  have rs : RS H2 (.slice (some ⟨z, 0, some 1⟩) 2 2) [.pointer none, ptr j] := RS.own g2 rfl
  have heq : eqRows [(0, TypeDesc.int .i64), (1, TypeDesc.int .i64)] [.int .i64 0, .int .i64 0] [.int .i64 0, .int .i64 0] = true := by decide
  repeat (first | refine AL.nil ?_ | refine AWp.seq ?_ | refine AWp.region ?_ | refine AWp.block ?_ | refine AL.set rfl rfl (op_assignI rfl ?_) | refine AL.set rfl rfl (op_assignS rfl ?_))
  refine AWp.loop (α := Nat) (fun k => [(1, .slice (some ⟨z, 0, some 1⟩) 2 2), (2, nt k)]) (fun _ => H2) (fun k => k ≤ 2) (fun k => 2 - k) 0 (Nat.zero_le _) (Weak.same (EW.cons rfl (EW.cons rfl EW.nil))) ?_
  intro k hk
  by_cases hlt : k < 2
  · obtain ⟨a, ha, d⟩ : ∃ a, ([.pointer none, ptr j] : List Value)[((k : Nat) : Int).toNat]? = some (.pointer a) ∧ Dead H2 a := by
      rcases (show k = 0 ∨ k = 1 by omega) with rfl | rfl
      · exact ⟨none, rfl, .inl rfl⟩
      · exact ⟨some ⟨j, 0, none⟩, rfl, .inr ⟨j, rfl, gj2⟩⟩
    have c1 := term_dead d 0
    have c2 := base_dead d
    have c3 := last_dead d
    have c4 := state_dead d
    have c5 := from_dead d 1 1
    have c6 := set_dead d 0 0
    have c7 := put_dead d 1
    have c8 := cut_dead d 0
    have c9 := reset_dead d 1 0
    have c10 := sync_dead d
    have c11 := synced_dead d
    repeat (first | refine AL.nil ?_ | refine AWp.seq ?_ | refine AWp.region ?_ | refine AWp.condT rfl ?_ | refine AWp.block ?_ | refine AWp.skip ?_ | refine AL.set rfl rfl (op_moveI rfl ?_) | refine AL.set rfl rfl (op_moveS rfl ?_) | refine AL.set rfl rfl (op_intT rfl rfl rfl (by omega) ?_))
    refine AL.set rfl rfl (op_indexR rs rfl rfl (by omega) ha ?_)
    intro q hq
    repeat (first | refine AL.nil ?_ | refine AWp.seq ?_ | refine AWp.region ?_ | refine AWp.condF rfl ?_ | refine AWp.skip ?_ | refine AL.set rfl rfl (op_moveI rfl ?_) | refine AL.set rfl rfl (op_moveB rfl ?_) | refine AL.set rfl rfl (op_moveP rfl ?_) | refine AL.set rfl rfl (op_moveT rfl ?_) | refine AL.set rfl rfl (op_assignI rfl ?_) | refine AL.set rfl rfl (op_assignB rfl ?_) | refine AL.set rfl rfl (op_assignP rfl ?_) | refine AL.set rfl rfl (op_loadR hq rfl rfl ?_) | refine AL.set rfl rfl (op_callS rfl rfl c1 ?_) | refine AL.set rfl rfl (op_callS rfl rfl c2 ?_) | refine AL.set rfl rfl (op_callS rfl rfl c3 ?_) | refine AL.set rfl rfl (op_callS rfl rfl c4 ?_) | refine AL.set rfl rfl (op_callS rfl rfl c5 ?_) | refine AL.set rfl rfl (op_callS rfl rfl c6 ?_) | refine AL.set rfl rfl (op_callS rfl rfl c7 ?_) | refine AL.set rfl rfl (op_callS rfl rfl c8 ?_) | refine AL.set rfl rfl (op_callS rfl rfl c9 ?_) | refine AL.set rfl rfl (op_callS rfl rfl c10 ?_) | refine AL.set rfl rfl (op_callS rfl rfl c11 ?_) | refine AL.set rfl rfl (op_extract rfl rfl ?_) | refine AL.set rfl rfl (op_buildS (out := [.int .i64 0, .int .i64 0]) rfl rfl ?_) | refine AL.set rfl rfl (op_neStB (xs := [.int .i64 0, .int .i64 0]) (ys := [.int .i64 0, .int .i64 0]) rfl rfl rfl heq ?_) | refine AL.set rfl rfl (op_lenS rfl ?_) | refine AL.set rfl rfl (op_intF rfl rfl rfl (by omega) ?_) | refine AL.set rfl rfl (op_pick (v := .bool _) rfl rfl ?_) | refine AL.set rfl rfl (op_add64 rfl rfl (by omega) ?_))
    exact ⟨k + 1, hlt, by omega, Weak.same (EW.cons rfl (EW.cons rfl EW.nil))⟩
  · repeat (first | refine AL.nil ?_ | refine AWp.seq ?_ | refine AWp.region ?_ | refine AWp.condF rfl ?_ | refine AWp.exit ?_ | refine AL.set rfl rfl (op_moveI rfl ?_) | refine AL.set rfl rfl (op_intF rfl rfl rfl (by omega) ?_))
    refine AL.set rfl rfl (op_call rfl rfl ((Dk.new_yes 1024 H2 (by decide) (by decide)).wf_post.mono ?_))
    rintro _ H3 ⟨⟨i, m, rfl, _, _, d0, x3⟩, w3, n3⟩
    repeat (first | refine AL.nil ?_ | refine AWp.seq ?_ | refine AWp.region ?_ | refine AL.set rfl rfl (op_moveT rfl ?_) | refine AL.set rfl rfl (op_assignI rfl ?_) | refine AL.set rfl rfl (op_assignP rfl ?_) | refine AL.set rfl rfl (op_extract rfl rfl ?_))
    refine AL.set rfl rfl (op_call rfl rfl ((open_bad none [103] H3 (by decide) 0 (fun h' _ => room_nil h') (.inl rfl)).wf_post.mono ?_))
    rintro _ H4 ⟨⟨rfl, x4⟩, w4, n4⟩
    repeat (first | refine AL.nil ?_ | refine AWp.seq ?_ | refine AWp.region ?_ | refine AL.set rfl rfl (op_moveP rfl ?_) | refine AL.set rfl rfl (op_moveT rfl ?_) | refine AL.set rfl rfl (op_assignI rfl ?_) | refine AL.set rfl rfl (op_assignP rfl ?_) | refine AL.set rfl rfl (op_extract rfl rfl ?_))
    refine AL.set rfl rfl (op_call rfl rfl ((open_bad (some ⟨i, 0, none⟩) [] H4 (by decide) 1024 (fun h' hx => Dk.room_c i m 1024 [] 0 h' (at_ext d0 (x4.trans hx))) (.inr (by decide))).wf_post.mono ?_))
    rintro _ H5 ⟨⟨rfl, x5⟩, w5, n5⟩
    repeat (first | refine AL.nil ?_ | refine AWp.seq ?_ | refine AWp.region ?_ | refine AL.set rfl rfl (op_moveP rfl ?_) | refine AL.set rfl rfl (op_moveT rfl ?_) | refine AL.set rfl rfl (op_assignI rfl ?_) | refine AL.set rfl rfl (op_assignP rfl ?_) | refine AL.set rfl rfl (op_extract rfl rfl ?_))
    refine AL.set rfl rfl (op_call rfl rfl ((open_bad (some ⟨i, 0, none⟩) [97, 32, 98] H5 (by decide) 1024 (fun h' hx => Dk.room_c i m 1024 [] 0 h' (at_ext d0 (x4.trans (x5.trans hx)))) (.inr (by decide))).wf_post.mono ?_))
    rintro _ H6 ⟨⟨rfl, x6⟩, w6, n6⟩
    repeat (first | refine AL.nil ?_ | refine AWp.seq ?_ | refine AWp.region ?_ | refine AL.set rfl rfl (op_moveI rfl ?_) | refine AL.set rfl rfl (op_moveB rfl ?_) | refine AL.set rfl rfl (op_moveT rfl ?_) | refine AL.set rfl rfl (op_assignI rfl ?_) | refine AL.set rfl rfl (op_assignP rfl ?_) | refine AL.set rfl rfl (op_extract rfl rfl ?_) | refine AL.set rfl rfl (op_intT rfl rfl rfl (by omega) ?_) | refine AL.set rfl rfl (op_pick (v := .bool _) rfl rfl ?_))
    refine AL.set rfl rfl (op_call rfl rfl ((known_c H6).mono ?_))
    rintro _ H7 rfl
    repeat (first | refine AL.nil ?_ | refine AWp.ret ?_ | refine AL.set rfl rfl (op_assignB rfl ?_) | refine AL.set rfl rfl (op_pick (v := .bool _) rfl rfl ?_))
    exact ⟨_, ResV.tmp rfl, rfl⟩
end Go.Proofs.Ytnioldkmckmajaa
