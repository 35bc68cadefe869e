/-
  Disks that are not there.
-/
import Derived.Test.YtiebmncpdnbcjaaDskZjFin
namespace Go.Proofs.Ytiebmncpdnbcjaa
open Go Go.Eng Go.Dsk
attribute [local irreducible] AWp AL DAL AOp TAL

/-- A disk that is off. -/
def Off (h : Heap) (d : Option Addr) : Prop := ∀ H, Ext h H → ACalls Try.prog 50 [.pointer d] H fun u h' => u = .bool false ∧ h' = H
theorem Off.ext {h H : Heap} {d : Option Addr} (o : Off h d) (hx : Ext h H) : Off H d := fun G hg => o G (hx.trans hg)
theorem off_nil (h : Heap) : Off h none := fun H _ => on_nil H
theorem off_zero {h : Heap} {i : Nat} (g : h.get i = some (dskB 0 0 none)) : Off h (some ⟨i, 0, none⟩) := fun H hx => on_c i 0 0 none H (hx.c _ _ g)
set_option maxHeartbeats 1000000 in
theorem open_off (d : Option Addr) (s : List UInt8) (mv : Value) (h : Heap) (o : Off h d) : ACalls Try.prog 42 [.pointer d, .string (bstr s), mv] h fun u h' => u = .tuple #[fileV ([], []), .int .i64 1] ∧ h' = h := by
  refine ACalls.wf fun wf => ACalls.resetB ?_
  refine ACalls.body Try.func42 rfl rfl ?_
  have hx1 := wf.ext (fileB ([], []))
  have g1 := Heap.alloc_new h (fileB ([], []))
  repeat (first | refine AL.nil ?_ | refine AWp.seq ?_ | refine AWp.region ?_ | refine AL.set rfl rfl (op_moveP rfl ?_) | refine AL.set rfl rfl (op_assignI rfl ?_) | refine AL.set rfl rfl (op_allocF ?_))
  generalize h.alloc (fileB ([], [])) = H1 at hx1 g1 ⊢
  repeat (first | refine AL.nil ?_ | refine AWp.seq ?_ | refine AWp.region ?_ | refine AWp.condT rfl ?_ | refine AL.set rfl rfl (op_callS rfl rfl (o H1 hx1) ?_) | refine AL.set rfl rfl (op_buildF ?_) | refine AL.set rfl rfl (op_not rfl ?_))
  refine AL.eff rfl (op_storeF ([], []) ([], []) rfl rfl g1 ?_)
  have hx3 := wf.ext_set hx1 (Nat.le_refl _) (fileB ([], []))
  have g3 := Heap.set_at H1 h.next (fileB ([], []))
  generalize H1.set h.next (fileB ([], [])) = H3 at hx3 g3 ⊢
  repeat (first | refine AL.nil ?_ | refine AWp.ret ?_ | refine AL.set rfl rfl (op_assignI rfl ?_))
  exact ⟨_, ResV.cell2 rfl rfl rfl g3 (Nat.le_refl _), Bdd.pair (fileV_bdd _ ([], [])) (Bdd.plain rfl) (fileV_plain ([], [])) rfl, hx3, rfl, rfl⟩
theorem sync_off (d : Option Addr) (s : List UInt8) (h : Heap) (o : Off h d) : ACalls Try.prog 17 [.pointer d, .string (bstr s)] h fun u h' => u = .int .i64 1 ∧ h' = h := by
  refine ACalls.wf fun wf => ACalls.reset ?_
  refine ACalls.body Try.func17 rfl rfl ?_
  repeat (first | refine AL.nil ?_ | refine AWp.seq ?_ | refine AWp.region ?_ | refine AL.set rfl rfl (op_moveP rfl ?_) | refine AL.set rfl rfl (op_moveStr rfl ?_) | refine AL.set rfl rfl (op_moveT rfl ?_) | refine AL.set rfl rfl (op_assignI rfl ?_) | refine AL.set rfl rfl (op_callS rfl rfl (open_off d _ _ _ (o)) ?_) | refine AL.set rfl rfl (op_extract rfl rfl ?_) | refine AL.set rfl rfl (op_allocF ?_))
  refine AL.eff rfl (op_storeF ([], []) ([], []) rfl rfl (Heap.alloc_new _ _) ?_)
  refine AL.heap (Heap.set_alloc _ _ _) ?_
  repeat (first | refine AL.nil ?_ | refine AWp.seq ?_ | refine AWp.region ?_ | refine AWp.condF rfl ?_ | refine AWp.ret ?_ | refine AWp.skip ?_ | refine AL.set rfl rfl (op_moveI rfl ?_) | refine AL.set rfl rfl (op_assignI rfl ?_) | refine AL.set rfl rfl (op_intF rfl rfl rfl (by omega) ?_))
  exact ⟨_, ResV.tmp rfl, rfl, wf.ext _, rfl, rfl⟩
theorem remove_off (d : Option Addr) (s : List UInt8) (h : Heap) (o : Off h d) : ACalls Try.prog 25 [.pointer d, .string (bstr s)] h fun u h' => u = .int .i64 1 ∧ h' = h := by
  refine ACalls.wf fun wf => ACalls.reset ?_
  refine ACalls.body Try.func25 rfl rfl ?_
  repeat (first | refine AL.nil ?_ | refine AWp.seq ?_ | refine AWp.region ?_ | refine AL.set rfl rfl (op_moveP rfl ?_) | refine AL.set rfl rfl (op_moveStr rfl ?_) | refine AL.set rfl rfl (op_moveT rfl ?_) | refine AL.set rfl rfl (op_assignI rfl ?_) | refine AL.set rfl rfl (op_callS rfl rfl (open_off d _ _ _ (o)) ?_) | refine AL.set rfl rfl (op_extract rfl rfl ?_) | refine AL.set rfl rfl (op_allocF ?_))
  refine AL.eff rfl (op_storeF ([], []) ([], []) rfl rfl (Heap.alloc_new _ _) ?_)
  refine AL.heap (Heap.set_alloc _ _ _) ?_
  repeat (first | refine AL.nil ?_ | refine AWp.seq ?_ | refine AWp.region ?_ | refine AWp.condF rfl ?_ | refine AWp.ret ?_ | refine AWp.skip ?_ | refine AL.set rfl rfl (op_moveI rfl ?_) | refine AL.set rfl rfl (op_assignI rfl ?_) | refine AL.set rfl rfl (op_intF rfl rfl rfl (by omega) ?_))
  exact ⟨_, ResV.tmp rfl, rfl, wf.ext _, rfl, rfl⟩
theorem rename_off (d : Option Addr) (s t : List UInt8) (h : Heap) (o : Off h d) : ACalls Try.prog 29 [.pointer d, .string (bstr s), .string (bstr t)] h fun u h' => u = .int .i64 1 ∧ h' = h := by
  refine ACalls.wf fun wf => ACalls.reset ?_
  refine ACalls.body Try.func29 rfl rfl ?_
  have hx1 := wf.ext ⟨[.string (bstr t)], 9, true⟩
  have wf1 := wf.alloc ⟨[.string (bstr t)], 9, true⟩
  repeat (first | refine AL.nil ?_ | refine AWp.seq ?_ | refine AWp.region ?_ | refine AL.set rfl rfl (op_moveP rfl ?_) | refine AL.set rfl rfl (op_moveStr rfl ?_) | refine AL.set rfl rfl (op_assignI rfl ?_))
  refine AL.set rfl rfl (op_row [.string (bstr t)] rfl rfl rfl rfl (by intro u hu; simp only [List.mem_cons, List.not_mem_nil, or_false] at hu; rw [hu]; rfl) ?_)
  refine AL.heap (show _ = h.alloc ⟨[.string (bstr t)], 9, true⟩ from rfl) ?_
  generalize h.alloc ⟨[.string (bstr t)], 9, true⟩ = H1 at hx1 wf1 ⊢
  repeat (first | refine AL.set rfl rfl (op_moveT rfl ?_) | refine AL.set rfl rfl (op_callS rfl rfl (open_off d _ _ _ (o.ext hx1)) ?_) | refine AL.set rfl rfl (op_extract rfl rfl ?_) | refine AL.set rfl rfl (op_allocF ?_))
  refine AL.eff rfl (op_storeF ([], []) ([], []) rfl rfl (Heap.alloc_new _ _) ?_)
  refine AL.heap (Heap.set_alloc _ _ _) ?_
  repeat (first | refine AL.nil ?_ | refine AWp.seq ?_ | refine AWp.region ?_ | refine AWp.condF rfl ?_ | refine AWp.ret ?_ | refine AWp.skip ?_ | refine AL.set rfl rfl (op_moveI rfl ?_) | refine AL.set rfl rfl (op_assignI rfl ?_) | refine AL.set rfl rfl (op_intF rfl rfl rfl (by omega) ?_))
  exact ⟨_, ResV.tmp rfl, rfl, hx1.trans (wf1.ext _), rfl, rfl⟩
theorem lasting_off (d : Option Addr) (s : List UInt8) (h : Heap) (o : Off h d) : ACalls Try.prog 30 [.pointer d, .string (bstr s)] h fun u h' => u = .tuple #[.int .i64 0, .int .i64 1] ∧ h' = h := by
  refine ACalls.wf fun wf => ACalls.resetB ?_
  refine ACalls.body Try.func30 rfl rfl ?_
  repeat (first | refine AL.nil ?_ | refine AWp.seq ?_ | refine AWp.region ?_ | refine AL.set rfl rfl (op_moveP rfl ?_) | refine AL.set rfl rfl (op_moveStr rfl ?_) | refine AL.set rfl rfl (op_moveT rfl ?_) | refine AL.set rfl rfl (op_assignI rfl ?_) | refine AL.set rfl rfl (op_callS rfl rfl (open_off d _ _ _ (o)) ?_) | refine AL.set rfl rfl (op_extract rfl rfl ?_) | refine AL.set rfl rfl (op_allocF ?_))
  refine AL.eff rfl (op_storeF ([], []) ([], []) rfl rfl (Heap.alloc_new _ _) ?_)
  refine AL.heap (Heap.set_alloc _ _ _) ?_
  have g1 := Heap.alloc_new h (fileB ([], []))
  repeat (first | refine AL.nil ?_ | refine AWp.seq ?_ | refine AWp.region ?_ | refine AWp.ret ?_ | refine AL.set rfl rfl (op_moveI rfl ?_) | refine AL.set rfl rfl (op_assignI rfl ?_) | refine AL.set rfl rfl (op_fa rfl ?_) | refine AL.set rfl rfl (op_load rfl rfl g1 rfl ?_) | refine AL.set rfl rfl (op_lenSB rfl ?_))
  exact ⟨_, ResV.tmp2 rfl, Bdd.pair (Bdd.plain rfl) (Bdd.plain rfl) rfl rfl, wf.ext _, rfl, rfl⟩
theorem read_off (d : Option Addr) (s : List UInt8) (h : Heap) (o : Off h d) : ACalls Try.prog 20 [.pointer d, .string (bstr s)] h fun u h' => ∃ w, u = .tuple #[w, .int .i64 1] ∧ OS h.next h' 5 w [] ∧ Ext h h' := by
  refine ACalls.wf fun wf => ?_
  refine ACalls.body Try.func20 rfl rfl ?_
  repeat (first | refine AL.nil ?_ | refine AWp.seq ?_ | refine AWp.region ?_ | refine AL.set rfl rfl (op_moveP rfl ?_) | refine AL.set rfl rfl (op_moveStr rfl ?_) | refine AL.set rfl rfl (op_moveT rfl ?_) | refine AL.set rfl rfl (op_assignI rfl ?_) | refine AL.set rfl rfl (op_assignS rfl ?_) | refine AL.set rfl rfl (op_callS rfl rfl (open_off d _ _ _ (o)) ?_) | refine AL.set rfl rfl (op_extract rfl rfl ?_) | refine AL.set rfl rfl (op_allocF ?_))
  refine AL.eff rfl (op_storeF ([], []) ([], []) rfl rfl (Heap.alloc_new _ _) ?_)
  refine AL.heap (Heap.set_alloc _ _ _) ?_
  have y1 := wf.ext (fileB ([], []))
  have wf1 := wf.alloc (fileB ([], []))
  have g1 := Heap.alloc_new h (fileB ([], []))
  have n1 : (h.alloc (fileB ([], []))).next = h.next + 1 := rfl
  generalize h.alloc (fileB ([], [])) = H1 at y1 wf1 g1 n1 ⊢
  repeat (first | refine AL.nil ?_ | refine AWp.seq ?_ | refine AWp.region ?_ | refine AL.set rfl rfl (op_assignI rfl ?_) | refine AL.set rfl rfl (op_loadF rfl g1 ?_) | refine AL.set rfl rfl (op_callS rfl rfl (all_c ([], []) H1 (by decide)) ?_))
  refine AL.set rfl rfl (op_strBytes (e := 5) rfl (by rw [bstr_size]; simp only [maxLen]; decide) ?_)
  rw [bstr_size, bstr_data]
  repeat (first | refine AL.nil ?_ | refine AWp.ret ?_ | refine AL.set rfl rfl (op_moveI rfl ?_) | refine AL.set rfl rfl (op_assignI rfl ?_) | refine AL.set rfl rfl (op_assignS rfl ?_))
  exact ⟨_, ResV.tmp2 rfl, _, rfl, .inr ⟨H1.next, 0 + 1, by omega, rfl, Heap.alloc_new _ _⟩, y1.trans (wf1.ext _)⟩
theorem used_off (d : Option Addr) (h : Heap) (o : Off h d) : ACalls Try.prog 23 [.pointer d] h fun u h' => u = .int .i64 0 ∧ h' = h := by
  refine ACalls.body Try.func23 rfl rfl ?_
  repeat (first | refine AL.nil ?_ | refine AWp.seq ?_ | refine AWp.region ?_ | refine AWp.condT rfl ?_ | refine AWp.ret ?_ | refine AL.set rfl rfl (op_moveP rfl ?_) | refine AL.set rfl rfl (op_assignI rfl ?_) | refine AL.set rfl rfl (op_callS rfl rfl (o h (Ext.refl _)) ?_) | refine AL.set rfl rfl (op_not rfl ?_))
  exact ⟨_, ResV.tmp rfl, rfl, rfl⟩
theorem room_off (d : Option Addr) (h : Heap) (o : Off h d) : ACalls Try.prog 39 [.pointer d] h fun u h' => u = .int .i64 0 ∧ h' = h := by
  refine ACalls.body Try.func39 rfl rfl ?_
  repeat (first | refine AL.nil ?_ | refine AWp.seq ?_ | refine AWp.region ?_ | refine AWp.condT rfl ?_ | refine AWp.ret ?_ | refine AL.set rfl rfl (op_moveP rfl ?_) | refine AL.set rfl rfl (op_assignI rfl ?_) | refine AL.set rfl rfl (op_callS rfl rfl (o h (Ext.refl _)) ?_) | refine AL.set rfl rfl (op_not rfl ?_))
  exact ⟨_, ResV.tmp rfl, rfl, rfl⟩
theorem names_off (d : Option Addr) (h : Heap) (o : Off h d) : ACalls Try.prog 24 [.pointer d] h fun u h' => u = .slice none 0 0 ∧ h' = h := by
  refine ACalls.body Try.func24 rfl rfl ?_
  repeat (first | refine AL.nil ?_ | refine AWp.seq ?_ | refine AWp.region ?_ | refine AWp.condT rfl ?_ | refine AWp.ret ?_ | refine AL.set rfl rfl (op_moveP rfl ?_) | refine AL.set rfl rfl (op_assignS rfl ?_) | refine AL.set rfl rfl (op_callS rfl rfl (o h (Ext.refl _)) ?_) | refine AL.set rfl rfl (op_not rfl ?_))
  exact ⟨_, ResV.tmp rfl, rfl, rfl⟩
theorem copy_off (d : Option Addr) (h : Heap) (o : Off h d) : ACalls Try.prog 37 [.pointer d] h fun u h' => u = .pointer none ∧ h' = h := by
  refine ACalls.body Try.func37 rfl rfl ?_
  repeat (first | refine AL.nil ?_ | refine AWp.seq ?_ | refine AWp.region ?_ | refine AWp.condT rfl ?_ | refine AWp.ret ?_ | refine AL.set rfl rfl (op_moveP rfl ?_) | refine AL.set rfl rfl (op_assignP rfl ?_) | refine AL.set rfl rfl (op_callS rfl rfl (o h (Ext.refl _)) ?_) | refine AL.set rfl rfl (op_not rfl ?_))
  exact ⟨_, ResV.tmp rfl, rfl, rfl⟩
abbrev ptB (d : Option Addr) : Blk := ⟨[.pointer d], 26, true⟩
abbrev nilB : Blk := ⟨[.slice none 0 0], 23, true⟩
set_option maxHeartbeats 1000000 in
theorem append_off (d : Option Addr) (s : List UInt8) (h : Heap) (o : Off h d) : ACalls Try.prog 16 [.pointer d, .string (bstr s), .slice none 0 0] h fun u h' => u = .int .i64 1 ∧ h' = h := by
  refine ACalls.wf fun wf => ACalls.reset ?_
  refine ACalls.body Try.func16 rfl rfl ?_
  repeat (first | refine AWp.seq ?_ | refine AWp.region ?_)
  refine AL.set rfl rfl (op_box (v := .pointer d) rfl (by intro e; cases e) ?_)
  refine AL.heap (show _ = h.alloc (ptB d) from rfl) ?_
  have hx1 := wf.ext (ptB d)
  have wf1 := wf.alloc (ptB d)
  have g1 := Heap.alloc_new h (ptB d)
  have hn1 : (h.alloc (ptB d)).next = h.next + 1 := rfl
  generalize h.alloc (ptB d) = H1 at hx1 wf1 g1 hn1 ⊢
  refine AL.set rfl rfl (op_box (v := .slice none 0 0) rfl (by intro e; cases e) ?_)
  refine AL.heap (show _ = H1.alloc nilB from rfl) ?_
  have hx2 := hx1.trans (wf1.ext nilB)
  have wf2 := wf1.alloc nilB
  replace g1 := (wf1.ext nilB).c _ _ g1
  have hn2 : (H1.alloc nilB).next = H1.next + 1 := rfl
  generalize H1.alloc nilB = H2 at hx2 wf2 g1 hn2 ⊢
  repeat (first | refine AL.nil ?_ | refine AWp.seq ?_ | refine AWp.region ?_ | refine AL.set rfl rfl (op_moveStr rfl ?_) | refine AL.set rfl rfl (op_moveT rfl ?_) | refine AL.set rfl rfl (op_assignI rfl ?_) | refine AL.set rfl rfl (op_load rfl rfl g1 rfl ?_) | refine AL.set rfl rfl (op_callS rfl rfl (open_off d s _ H2 (o.ext hx2)) ?_) | refine AL.set rfl rfl (op_extract rfl rfl ?_) | refine AL.set rfl rfl (op_allocF ?_))
  have hx3 := wf2.ext (fileB ([], []))
  have wf3 := wf2.alloc (fileB ([], []))
  have g3 := Heap.alloc_new H2 (fileB ([], []))
  have n3 : (H2.alloc (fileB ([], []))).next = H2.next + 1 := rfl
  generalize H2.alloc (fileB ([], [])) = H3 at hx3 wf3 g3 n3 ⊢
  repeat (first | refine AL.set rfl rfl (op_alloc (z := .int .i64 0) ?_))
  refine AL.heap (show _ = H3.alloc (errB 0) from rfl) ?_
  have hx4 := wf3.ext (errB 0)
  have wf4 := wf3.alloc (errB 0)
  have g4 := Heap.alloc_new H3 (errB 0)
  replace g3 := hx4.c _ _ g3
  replace hx4 := (hx2.trans hx3).trans hx4
  generalize H3.alloc (errB 0) = H4 at hx4 wf4 g4 g3 ⊢
  refine AL.eff rfl (op_storeF ([], []) ([], []) rfl rfl g3 ?_)
  have hx5 := wf.ext_set (j := H2.next) hx4 (by omega) (fileB ([], []))
  have g5 : (H4.set H2.next (fileB ([], []))).get H3.next = some (errB 0) := by rw [Heap.set_other (by omega)]; exact g4
  generalize H4.set H2.next (fileB ([], [])) = H5 at hx5 g5 ⊢
  refine AL.eff rfl (op_store (v := .int .i64 1) rfl rfl rfl g5 rfl Nat.zero_lt_one ?_)
  refine AL.heap (show _ = H5.set H3.next (errB 1) from rfl) ?_
  have hx6 := wf.ext_set (j := H3.next) hx5 (by omega) (errB 1)
  have g6 := Heap.set_at H5 H3.next (errB 1)
  generalize H5.set H3.next (errB 1) = H6 at hx6 g6 ⊢
  repeat (first | refine AL.nil ?_ | refine AWp.seq ?_ | refine AWp.region ?_ | refine AWp.condT rfl ?_ | refine AWp.ret ?_ | refine AWp.block ?_ | refine AWp.skip ?_ | refine AL.set rfl rfl (op_assignI rfl ?_) | refine AL.set rfl rfl (op_assignB rfl ?_) | refine AL.set rfl rfl (op_assignF rfl ?_) | refine AL.set rfl rfl (op_makeFunc rfl rfl ?_) | refine AL.set rfl rfl (op_load rfl rfl g6 rfl ?_) | refine AL.set rfl rfl (op_intT rfl rfl rfl (by omega) ?_))
  exact ⟨_, ResV.tmp rfl, rfl, hx6, rfl, rfl⟩
set_option maxHeartbeats 1000000 in
theorem crash_off (d : Option Addr) (v : Value) (h : Heap) (o : Off h d) : ACalls Try.prog 34 [.pointer d, v] h fun u h' => u = .tuple #[.pointer none, .int .i64 1] ∧ Ext h h' ∧ WF h' := by
  refine ACalls.wf fun wf => ?_
  refine ACalls.bodyX Try.func34 rfl (Nat.le_of_ble_eq_true rfl) fun bb => ?_
  have hx1 := wf.ext (ptB d)
  have wf1 := wf.alloc (ptB d)
  have g1 := Heap.alloc_new h (ptB d)
  repeat (first | refine XWp.seq ?_ | refine XWp.region ?_)
  refine XL.set rfl rfl rfl (op_box (v := .pointer d) rfl (by intro e; cases e) ?_)
  refine XL.heap (show _ = h.alloc (ptB d) from rfl) ?_
  generalize h.alloc (ptB d) = H1 at hx1 wf1 g1 ⊢
  repeat (first | refine XL.nil ?_ | refine XWp.seq ?_ | refine XWp.region ?_ | refine XWp.condT rfl ?_ | refine XWp.ret ?_ | refine XL.set rfl rfl rfl (op_assignI rfl ?_) | refine XL.set rfl rfl rfl (op_assignP rfl ?_) | refine XL.set rfl rfl rfl (op_load rfl rfl g1 rfl ?_) | refine XL.set rfl rfl rfl (op_callS rfl rfl (o H1 hx1) ?_) | refine XL.set rfl rfl rfl (op_not rfl ?_))
  exact ⟨_, ResV.tmp2 rfl, rfl, hx1, wf1⟩
theorem dall1_off (C : Ctx Try.prog) (hq : C.Quiet) (y p : Nat) (d : Option Addr) (h : Heap) (o : Off h d) (hb : h.get p = some (ptB d)) (E : Heap → Prop) (J : Heap → Code → Prop) (hE : E h) :
    XCalls C 56 [yieldV y, ptr p] h none fun _ h' s' => (s' = none ∧ E h') ∨ ∃ j, s' = some j ∧ J h' j := by
  refine XCalls.body Try.func56 rfl (Nat.le_of_ble_eq_true rfl) ?_ hq
  repeat (first | refine XL.nil ?_ | refine XWp.seq ?_ | refine XWp.region ?_ | refine XWp.block ?_ | refine XL.set rfl rfl rfl (op_moveI rfl ?_) | refine XL.set rfl rfl rfl (op_moveP rfl ?_) | refine XL.set rfl rfl rfl (op_assignP rfl ?_) | refine XL.set rfl rfl rfl (op_load rfl rfl hb rfl ?_) | refine XL.set rfl rfl rfl (op_callS rfl rfl (copy_off d h o) ?_) | refine XL.set rfl rfl rfl (op_callS rfl rfl (names_off none h (off_nil h)) ?_) | refine XL.set rfl rfl rfl (op_lenR (RS.nil _) rfl ?_))
  refine XWp.loop (α := Unit) (fun _ => [(0, yieldV y), (10, .int .i64 0), (11, .int .i64 0)]) (fun _ => h) (fun _ => True) (fun _ => 0) () trivial (Weak.same (EW.cons rfl (EW.cons rfl (EW.cons rfl EW.nil)))) ?_
  rintro ⟨⟩ _
  repeat (first | refine XL.nil ?_ | refine XWp.seq ?_ | refine XWp.region ?_ | refine XWp.condF rfl ?_ | refine XWp.exit ?_ | refine XL.set rfl rfl rfl (op_intF rfl rfl rfl (by omega) ?_))
  exact ⟨_, ResV.none rfl, .inl ⟨rfl, hE⟩⟩
end Go.Proofs.Ytiebmncpdnbcjaa
