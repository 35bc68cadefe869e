/-
  Texts of one claim, merged: 4 parts.
-/
import Derived.Test.YtnioldkmckmajaaMnn
set_option maxHeartbeats 16000000
/-
  Disks: what is written, synced, taken away, given another name; what is read.
-/
namespace Go.Proofs.Ytnioldkmckmajaa.Dk
open Go Go.Eng Go.Dsk
attribute [local irreducible] AWp AL DAL AOp
instance i_FnC__cP_hectare_disk_Diskd_Append_1_DskD : FnC Try.prog 72 := ⟨Try.f72, Try.func72, by kernel_rfl, by kernel_rfl⟩
instance i_FnC__cP_hectare_disk_Diskd_Append_DskD : FnC Try.prog 46 := ⟨Try.f46, Try.func46, by kernel_rfl, by kernel_rfl⟩
instance i_FnC__cP_hectare_disk_Diskd_Sync_DskD : FnC Try.prog 35 := ⟨Try.f35, Try.func35, by kernel_rfl, by kernel_rfl⟩
instance i_FnC__cP_hectare_disk_Diskd_Remove_DskD : FnC Try.prog 49 := ⟨Try.f49, Try.func49, by kernel_rfl, by kernel_rfl⟩
instance i_FnC__cP_hectare_disk_Diskd_Rename_DskD : FnC Try.prog 54 := ⟨Try.f54, Try.func54, by kernel_rfl, by kernel_rfl⟩
abbrev ptrB (i : Nat) : Blk := ⟨[ptr i], 23, true⟩
abbrev errB (e : Int) : Blk := ⟨[.int .i64 e], 36, true⟩
set_option maxHeartbeats 2000000 in
theorem append1_c (j0 j1 j2 i m room : Nat) (l : FL) (c : Nat) (e : Int) (v : Value) (b : List UInt8) (h : Heap) (a : At h i m room l c) (g0 : h.get j0 = some (errB e)) (g1 : h.get j1 = some (ptrB i)) (g2 : h.get j2 = some ⟨[v], 49, true⟩) (hr : RB h v b) (hb : b.length ≤ 4611686018427387904) :
    ACalls Try.prog 72 [ptr j0, ptr j1, ptr j2] h fun u h' => u = .bool ((decide (e = 6) && decide (128 ≤ l.length)) || decide (room < used l + b.length)) ∧ h' = h := by
  refine ACalls.body Try.func72 rfl rfl ?_
  have hul := a.ok.used
  have hbig := a.big
  have hlen := a.ok.cnt
  have hkl := kvF_length l
  have hlm : ∀ {h' : Heap} {K : Value → Heap → Prop} {ρ : Operand → Value} {x : Operand} {dst : Option Tmp} {ty : TypeId} {pos : String} {aft : Array Edge} {g : Option (Nat × Bool)}, Ext h h' → ρ x = .map (some m) → K (.int .i64 (l.length : Nat)) h' → AOp Try.prog ⟨dst, .call ⟨.builtin .len, #[x], #[66]⟩, ty, pos, aft, g⟩ ρ h' K := by
    intro h' K ρ x dst ty pos aft g hx' hx kk
    refine op_lenMap hx (hx'.o _ _ a.map) ?_
    rw [hkl]; exact kk
  by_cases h6 : e = 6
  · by_cases h8 : 128 ≤ l.length
    · rw [decide_eq_true h6, decide_eq_true h8]
      repeat (first | refine AL.nil ?_ | refine AWp.seq ?_ | refine AWp.region ?_ | refine AL.set rfl rfl (op_assignB rfl ?_))
      refine AWp.draw (σ := [(0, .R), (1, .R), (2, .R), (3, .R), (4, .R), (5, .R), (6, .R), (7, .R), (8, .R), (9, .R), (10, .R), (11, .R), (12, .R), (13, .R), (14, .R), (15, .R), (16, .R), (17, .R), (18, .R), (19, .R), (20, .R), (21, .R), (22, .R), (23, .R), (24, .R)]) mixed (by kernel_rfl) ?_
      repeat (first | refine DAL.r rfl rfl rfl (fun h' hx hn => op_moveB rfl ⟨rfl, rfl⟩) ?_ | refine DAL.r rfl rfl rfl (fun h' hx hn => op_assignB rfl ⟨rfl, rfl⟩) ?_ | refine DAL.r rfl rfl rfl (fun h' hx hn => op_load rfl rfl (hx.c _ _ g0) rfl ⟨rfl, rfl⟩) ?_ | refine DAL.r rfl rfl rfl (fun h' hx hn => op_load rfl rfl (hx.c _ _ g1) rfl ⟨rfl, rfl⟩) ?_ | refine DAL.r rfl rfl rfl (fun h' hx hn => op_load rfl rfl (hx.c _ _ a.box) rfl ⟨rfl, rfl⟩) ?_ | refine DAL.r rfl rfl rfl (fun h' hx hn => op_nilCheck rfl ⟨rfl, rfl⟩) ?_ | refine DAL.r rfl rfl rfl (fun h' hx hn => op_fa rfl ⟨rfl, rfl⟩) ?_ | refine DAL.r rfl rfl rfl (fun h' hx hn => hlm hx rfl ⟨rfl, rfl⟩) ?_ | refine DAL.r rfl rfl rfl (fun h' hx hn => op_intT rfl rfl rfl (by omega) ⟨rfl, rfl⟩) ?_ | refine DAL.r rfl rfl rfl (fun h' hx hn => op_pick (v := .bool true) rfl rfl ⟨rfl, rfl⟩) ?_ | refine DAL.skip rfl rfl rfl ?_)
      refine DAL.nil ?_
      repeat (first | refine AWp.ret ?_)
      exact ⟨_, ResV.tmp rfl, rfl, rfl⟩
    · rw [decide_eq_true h6, decide_eq_false h8]
      by_cases h9 : room < used l + b.length
      · rw [decide_eq_true h9]
        repeat (first | refine AL.nil ?_ | refine AWp.seq ?_ | refine AWp.region ?_ | refine AL.set rfl rfl (op_assignB rfl ?_))
        refine AWp.draw (σ := [(0, .R), (1, .R), (2, .R), (3, .R), (4, .R), (5, .R), (6, .R), (7, .R), (8, .R), (9, .R), (10, .R), (11, .R), (12, .R), (13, .R), (14, .R), (15, .R), (16, .R), (17, .R), (18, .R), (19, .R), (20, .R), (21, .R), (22, .R), (23, .R), (24, .R)]) mixed (by kernel_rfl) ?_
        repeat (first | refine DAL.r rfl rfl rfl (fun h' hx hn => op_moveB rfl ⟨rfl, rfl⟩) ?_ | refine DAL.r rfl rfl rfl (fun h' hx hn => op_assignB rfl ⟨rfl, rfl⟩) ?_ | refine DAL.r rfl rfl rfl (fun h' hx hn => op_load rfl rfl (hx.c _ _ g0) rfl ⟨rfl, rfl⟩) ?_ | refine DAL.r rfl rfl rfl (fun h' hx hn => op_load rfl rfl (hx.c _ _ g1) rfl ⟨rfl, rfl⟩) ?_ | refine DAL.r rfl rfl rfl (fun h' hx hn => op_load rfl rfl (hx.c _ _ g2) rfl ⟨rfl, rfl⟩) ?_ | refine DAL.r rfl rfl rfl (fun h' hx hn => op_load rfl rfl (hx.c _ _ a.box) rfl ⟨rfl, rfl⟩) ?_ | refine DAL.r rfl rfl rfl (fun h' hx hn => op_nilCheck rfl ⟨rfl, rfl⟩) ?_ | refine DAL.r rfl rfl rfl (fun h' hx hn => op_fa rfl ⟨rfl, rfl⟩) ?_ | refine DAL.r rfl rfl rfl (fun h' hx hn => hlm hx rfl ⟨rfl, rfl⟩) ?_ | refine DAL.r rfl rfl rfl (fun h' hx hn => op_lenRB (hr.ext hx) rfl ⟨rfl, rfl⟩) ?_ | refine DAL.r rfl rfl rfl (fun h' hx hn => op_intT rfl rfl rfl (by omega) ⟨rfl, rfl⟩) ?_ | refine DAL.r rfl rfl rfl (fun h' hx hn => op_intF rfl rfl rfl (by omega) ⟨rfl, rfl⟩) ?_ | refine DAL.r rfl rfl rfl (fun h' hx hn => op_pick (v := .bool true) rfl rfl ⟨rfl, rfl⟩) ?_ | refine DAL.r rfl rfl rfl (fun h' hx hn => op_pick (v := .bool false) rfl rfl ⟨rfl, rfl⟩) ?_ | refine DAL.r rfl rfl rfl (fun h' hx hn => op_sub64 rfl rfl (by omega) ⟨rfl, rfl⟩) ?_)
        refine DAL.nil ?_
        repeat (first | refine AWp.ret ?_)
        exact ⟨_, ResV.tmp rfl, rfl, rfl⟩
      · rw [decide_eq_false h9]
        repeat (first | refine AL.nil ?_ | refine AWp.seq ?_ | refine AWp.region ?_ | refine AL.set rfl rfl (op_assignB rfl ?_))
        refine AWp.draw (σ := [(0, .R), (1, .R), (2, .R), (3, .R), (4, .R), (5, .R), (6, .R), (7, .R), (8, .R), (9, .R), (10, .R), (11, .R), (12, .R), (13, .R), (14, .R), (15, .R), (16, .R), (17, .R), (18, .R), (19, .R), (20, .R), (21, .R), (22, .R), (23, .R), (24, .R)]) mixed (by kernel_rfl) ?_
        repeat (first | refine DAL.r rfl rfl rfl (fun h' hx hn => op_moveB rfl ⟨rfl, rfl⟩) ?_ | refine DAL.r rfl rfl rfl (fun h' hx hn => op_assignB rfl ⟨rfl, rfl⟩) ?_ | refine DAL.r rfl rfl rfl (fun h' hx hn => op_load rfl rfl (hx.c _ _ g0) rfl ⟨rfl, rfl⟩) ?_ | refine DAL.r rfl rfl rfl (fun h' hx hn => op_load rfl rfl (hx.c _ _ g1) rfl ⟨rfl, rfl⟩) ?_ | refine DAL.r rfl rfl rfl (fun h' hx hn => op_load rfl rfl (hx.c _ _ g2) rfl ⟨rfl, rfl⟩) ?_ | refine DAL.r rfl rfl rfl (fun h' hx hn => op_load rfl rfl (hx.c _ _ a.box) rfl ⟨rfl, rfl⟩) ?_ | refine DAL.r rfl rfl rfl (fun h' hx hn => op_nilCheck rfl ⟨rfl, rfl⟩) ?_ | refine DAL.r rfl rfl rfl (fun h' hx hn => op_fa rfl ⟨rfl, rfl⟩) ?_ | refine DAL.r rfl rfl rfl (fun h' hx hn => hlm hx rfl ⟨rfl, rfl⟩) ?_ | refine DAL.r rfl rfl rfl (fun h' hx hn => op_lenRB (hr.ext hx) rfl ⟨rfl, rfl⟩) ?_ | refine DAL.r rfl rfl rfl (fun h' hx hn => op_intT rfl rfl rfl (by omega) ⟨rfl, rfl⟩) ?_ | refine DAL.r rfl rfl rfl (fun h' hx hn => op_intF rfl rfl rfl (by omega) ⟨rfl, rfl⟩) ?_ | refine DAL.r rfl rfl rfl (fun h' hx hn => op_pick (v := .bool false) rfl rfl ⟨rfl, rfl⟩) ?_ | refine DAL.r rfl rfl rfl (fun h' hx hn => op_sub64 rfl rfl (by omega) ⟨rfl, rfl⟩) ?_)
        refine DAL.nil ?_
        repeat (first | refine AWp.ret ?_)
        exact ⟨_, ResV.tmp rfl, rfl, rfl⟩
  · rw [decide_eq_false h6]
    by_cases h9 : room < used l + b.length
    · rw [decide_eq_true h9]
      repeat (first | refine AL.nil ?_ | refine AWp.seq ?_ | refine AWp.region ?_ | refine AL.set rfl rfl (op_assignB rfl ?_))
      refine AWp.draw (σ := [(0, .R), (1, .R), (2, .R), (3, .R), (4, .R), (5, .R), (6, .R), (7, .R), (8, .R), (9, .R), (10, .R), (11, .R), (12, .R), (13, .R), (14, .R), (15, .R), (16, .R), (17, .R), (18, .R), (19, .R), (20, .R), (21, .R), (22, .R), (23, .R), (24, .R)]) mixed (by kernel_rfl) ?_
      repeat (first | refine DAL.r rfl rfl rfl (fun h' hx hn => op_moveB rfl ⟨rfl, rfl⟩) ?_ | refine DAL.r rfl rfl rfl (fun h' hx hn => op_assignB rfl ⟨rfl, rfl⟩) ?_ | refine DAL.r rfl rfl rfl (fun h' hx hn => op_load rfl rfl (hx.c _ _ g0) rfl ⟨rfl, rfl⟩) ?_ | refine DAL.r rfl rfl rfl (fun h' hx hn => op_load rfl rfl (hx.c _ _ g1) rfl ⟨rfl, rfl⟩) ?_ | refine DAL.r rfl rfl rfl (fun h' hx hn => op_load rfl rfl (hx.c _ _ g2) rfl ⟨rfl, rfl⟩) ?_ | refine DAL.r rfl rfl rfl (fun h' hx hn => op_load rfl rfl (hx.c _ _ a.box) rfl ⟨rfl, rfl⟩) ?_ | refine DAL.r rfl rfl rfl (fun h' hx hn => op_nilCheck rfl ⟨rfl, rfl⟩) ?_ | refine DAL.r rfl rfl rfl (fun h' hx hn => op_fa rfl ⟨rfl, rfl⟩) ?_ | refine DAL.r rfl rfl rfl (fun h' hx hn => op_lenRB (hr.ext hx) rfl ⟨rfl, rfl⟩) ?_ | refine DAL.r rfl rfl rfl (fun h' hx hn => op_intT rfl rfl rfl (by omega) ⟨rfl, rfl⟩) ?_ | refine DAL.r rfl rfl rfl (fun h' hx hn => op_intF rfl rfl rfl (by omega) ⟨rfl, rfl⟩) ?_ | refine DAL.r rfl rfl rfl (fun h' hx hn => op_pick (v := .bool true) rfl rfl ⟨rfl, rfl⟩) ?_ | refine DAL.r rfl rfl rfl (fun h' hx hn => op_pick (v := .bool false) rfl rfl ⟨rfl, rfl⟩) ?_ | refine DAL.r rfl rfl rfl (fun h' hx hn => op_sub64 rfl rfl (by omega) ⟨rfl, rfl⟩) ?_ | refine DAL.skip rfl rfl rfl ?_)
      refine DAL.nil ?_
      repeat (first | refine AWp.ret ?_)
      exact ⟨_, ResV.tmp rfl, rfl, rfl⟩
    · rw [decide_eq_false h9]
      repeat (first | refine AL.nil ?_ | refine AWp.seq ?_ | refine AWp.region ?_ | refine AL.set rfl rfl (op_assignB rfl ?_))
      refine AWp.draw (σ := [(0, .R), (1, .R), (2, .R), (3, .R), (4, .R), (5, .R), (6, .R), (7, .R), (8, .R), (9, .R), (10, .R), (11, .R), (12, .R), (13, .R), (14, .R), (15, .R), (16, .R), (17, .R), (18, .R), (19, .R), (20, .R), (21, .R), (22, .R), (23, .R), (24, .R)]) mixed (by kernel_rfl) ?_
      repeat (first | refine DAL.r rfl rfl rfl (fun h' hx hn => op_moveB rfl ⟨rfl, rfl⟩) ?_ | refine DAL.r rfl rfl rfl (fun h' hx hn => op_assignB rfl ⟨rfl, rfl⟩) ?_ | refine DAL.r rfl rfl rfl (fun h' hx hn => op_load rfl rfl (hx.c _ _ g0) rfl ⟨rfl, rfl⟩) ?_ | refine DAL.r rfl rfl rfl (fun h' hx hn => op_load rfl rfl (hx.c _ _ g1) rfl ⟨rfl, rfl⟩) ?_ | refine DAL.r rfl rfl rfl (fun h' hx hn => op_load rfl rfl (hx.c _ _ g2) rfl ⟨rfl, rfl⟩) ?_ | refine DAL.r rfl rfl rfl (fun h' hx hn => op_load rfl rfl (hx.c _ _ a.box) rfl ⟨rfl, rfl⟩) ?_ | refine DAL.r rfl rfl rfl (fun h' hx hn => op_nilCheck rfl ⟨rfl, rfl⟩) ?_ | refine DAL.r rfl rfl rfl (fun h' hx hn => op_fa rfl ⟨rfl, rfl⟩) ?_ | refine DAL.r rfl rfl rfl (fun h' hx hn => op_lenRB (hr.ext hx) rfl ⟨rfl, rfl⟩) ?_ | refine DAL.r rfl rfl rfl (fun h' hx hn => op_intF rfl rfl rfl (by omega) ⟨rfl, rfl⟩) ?_ | refine DAL.r rfl rfl rfl (fun h' hx hn => op_pick (v := .bool false) rfl rfl ⟨rfl, rfl⟩) ?_ | refine DAL.r rfl rfl rfl (fun h' hx hn => op_sub64 rfl rfl (by omega) ⟨rfl, rfl⟩) ?_ | refine DAL.skip rfl rfl rfl ?_)
      refine DAL.nil ?_
      repeat (first | refine AWp.ret ?_)
      exact ⟨_, ResV.tmp rfl, rfl, rfl⟩
end Go.Proofs.Ytnioldkmckmajaa.Dk
/-
  Disks: what is written.
-/
namespace Go.Proofs.Ytnioldkmckmajaa.Dk
open Go Go.Eng Go.Dsk
attribute [local irreducible] AWp AL DAL AOp
theorem openE_nil (l : FL) (s : List UInt8) : openE l s [] = if !goodN s then 2 else if hasS l s then 0 else 6 := by unfold openE; simp
set_option maxHeartbeats 4000000 in
theorem append_c (i m room : Nat) (l : FL) (c : Nat) (s : List UInt8) (v : Value) (b : List UInt8) (h : Heap) (a : At h i m room l c) (hs : s.length ≤ 4611686018427387904) (hr : RB h v b) (hb : b.length ≤ 4611686018427387904) :
    ACalls Try.prog 46 [ptr i, .string (bstr s), v] h fun u h' => u = .int .i64 (appE room l s b) ∧ h' = stD h i m room (appL room l c s b) (appC room l c s b) := by
  refine ACalls.wf fun wf => ACalls.resetTo ?_
  refine ACalls.body Try.func46 rfl rfl ?_
  obtain ⟨li, lm⟩ := a.lt wf
  obtain ⟨va, vc, hv⟩ := hr.slice
  have hvc : v.cells.toList = [v] := by rw [hv]; rfl
  have hvu : v ≠ undef := by rw [hv]; intro e; cases e
  have hbig := a.big
  repeat (first | refine AL.nil ?_ | refine AWp.seq ?_ | refine AWp.region ?_ | refine AL.set rfl rfl (op_assignI rfl ?_) | refine AL.set rfl rfl (op_box (v := ptr i) rfl (by intro e; cases e) ?_) | refine AL.set rfl rfl (op_box (v := v) rfl hvu ?_))
  rw [hvc]
  have k2 : Ch i m h ((h.alloc (ptrB i)).alloc ⟨[v], 49, true⟩) := ((Ch.refl wf).alloc _).alloc _
  have x2 : Ext h ((h.alloc (ptrB i)).alloc ⟨[v], 49, true⟩) := (wf.ext _).trans ((wf.alloc _).ext _)
  have p1 : ((h.alloc (ptrB i)).alloc ⟨[v], 49, true⟩).get h.next = some (ptrB i) := Heap.new1 _ _ _
  have p2 : ((h.alloc (ptrB i)).alloc ⟨[v], 49, true⟩).get (h.next + 1) = some ⟨[v], 49, true⟩ := Heap.alloc_new (h.alloc (ptrB i)) _
  have n2 : ((h.alloc (ptrB i)).alloc ⟨[v], 49, true⟩).next = h.next + 2 := rfl
  have hj1 : ∀ {K : Value → Heap → Prop} {ρ : Operand → Value} {x : Operand} {dst : Option Tmp} {ty : TypeId} {pos : String} {aft : Array Edge} {g : Option (Nat × Bool)} {H : Heap}, H.get h.next = some (ptrB i) → ρ x = ptr h.next → K (ptr i) H → AOp Try.prog ⟨dst, .load 23 x, ty, pos, aft, g⟩ ρ H K := fun hg hx kk => op_load hx rfl hg rfl kk
  change AL _ _ _ _ _ ((6, .int .i64 0) :: (5, ptr (h.next + 1)) :: (3, ptr h.next) :: entry [ptr i, .string (bstr s), v]) ((h.alloc (ptrB i)).alloc ⟨[v], 49, true⟩)
  generalize (h.alloc (ptrB i)).alloc ⟨[v], 49, true⟩ = H2 at k2 x2 p1 p2 n2 ⊢
  have a2 : At H2 i m room l c := ⟨x2.c _ _ a.box, x2.o _ _ a.map, a.ok, a.big⟩
  have co := open_c i m room l c s (.slice none 0 0) [] H2 a2 hs (RS.nil _) (by simp) (by simp)
  repeat (first | refine AL.set rfl rfl (op_moveStr rfl ?_) | refine AL.set rfl rfl (op_moveT rfl ?_) | refine AL.set rfl rfl (hj1 p1 rfl ?_) | refine AL.set rfl rfl (op_callS rfl rfl co ?_) | refine AL.set rfl rfl (op_extract rfl rfl ?_) | refine AL.set rfl rfl (op_allocF ?_) | refine AL.set rfl rfl (op_alloc (z := .int .i64 0) ?_))
  have k4 : Ch i m h ((H2.alloc (fileB ([], []))).alloc (errB 0)) := (k2.alloc _).alloc _
  have x4 : Ext H2 ((H2.alloc (fileB ([], []))).alloc (errB 0)) := (k2.wf.ext _).trans ((k2.wf.alloc _).ext _)
  have p3 : ((H2.alloc (fileB ([], []))).alloc (errB 0)).get H2.next = some (fileB ([], [])) := Heap.new1 _ _ _
  have p4 : ((H2.alloc (fileB ([], []))).alloc (errB 0)).get (H2.next + 1) = some (errB 0) := Heap.alloc_new (H2.alloc (fileB ([], []))) _
  have n4 : ((H2.alloc (fileB ([], []))).alloc (errB 0)).next = H2.next + 2 := rfl
  have p1 := x4.c _ _ p1
  have p2 := x4.c _ _ p2
  have y4 := x2.trans x4
  change AL _ _ _ _ _ _ ((H2.alloc (fileB ([], []))).alloc (errB 0))
  generalize (H2.alloc (fileB ([], []))).alloc (errB 0) = H4 at k4 x4 p3 p4 n4 p1 p2 y4 ⊢
  refine AL.eff rfl (op_storeF ([], []) (openF l s []) rfl rfl p3 ?_)
  have k5 : Ch i m h (H4.set H2.next (fileB (openF l s []))) := k4.setG wf (by omega) (by omega) _
  have y5 : Ext h (H4.set H2.next (fileB (openF l s []))) := wf.ext_set y4 (by omega) _
  have q1 : (H4.set H2.next (fileB (openF l s []))).get h.next = some (ptrB i) := by rw [Heap.set_other (by omega)]; exact p1
  have q2 : (H4.set H2.next (fileB (openF l s []))).get (h.next + 1) = some ⟨[v], 49, true⟩ := by rw [Heap.set_other (by omega)]; exact p2
  have q3 : (H4.set H2.next (fileB (openF l s []))).get H2.next = some (fileB (openF l s [])) := Heap.set_at _ _ _
  have q4 : (H4.set H2.next (fileB (openF l s []))).get (H2.next + 1) = some (errB 0) := by rw [Heap.set_other (by omega)]; exact p4
  have n5 : (H4.set H2.next (fileB (openF l s []))).next = H2.next + 2 := n4
  generalize H4.set H2.next (fileB (openF l s [])) = H5 at k5 q1 q2 q3 q4 n5 y5 ⊢
  refine AL.eff rfl (op_store (v := .int .i64 (openE l s [])) rfl rfl rfl q4 rfl Nat.zero_lt_one ?_)
  change AL _ _ _ _ _ _ (H5.set (H2.next + 1) (errB (openE l s [])))
  have k6 : Ch i m h (H5.set (H2.next + 1) (errB (openE l s []))) := k5.setG wf (by omega) (by omega) _
  have y6 : Ext h (H5.set (H2.next + 1) (errB (openE l s []))) := wf.ext_set y5 (by omega) _
  have r1 : (H5.set (H2.next + 1) (errB (openE l s []))).get h.next = some (ptrB i) := by rw [Heap.set_other (by omega)]; exact q1
  have r2 : (H5.set (H2.next + 1) (errB (openE l s []))).get (h.next + 1) = some ⟨[v], 49, true⟩ := by rw [Heap.set_other (by omega)]; exact q2
  have r3 : (H5.set (H2.next + 1) (errB (openE l s []))).get H2.next = some (fileB (openF l s [])) := by rw [Heap.set_other (by omega)]; exact q3
  have r4 : (H5.set (H2.next + 1) (errB (openE l s []))).get (H2.next + 1) = some (errB (openE l s [])) := Heap.set_at _ _ _
  have n6 : (H5.set (H2.next + 1) (errB (openE l s []))).next = H2.next + 2 := n5
  generalize H5.set (H2.next + 1) (errB (openE l s [])) = H6 at k6 r1 r2 r3 r4 n6 y6 ⊢
  have n2' : h.next + 1 < H2.next := by omega
  have x6 : ∀ {H : Heap}, Ext H6 H → RB H v b := by
    intro H hx
    exact (hr.ext y6).ext hx
  have a6 : At H6 i m room l c := ⟨y6.c _ _ a.box, y6.o _ _ a.map, a.ok, a.big⟩
  have hE := openE_nil l s
  -- a name that may not be
  cases hg : goodN s with
  | false =>
    have e1 : appE room l s b = 2 := by unfold appE; rw [hg]; rfl
    have e2 : appL room l c s b = l := by unfold appL; rw [e1]; rfl
    have e3 : appC room l c s b = c := by unfold appC; rw [e1]; rfl
    rw [hg] at hE
    rw [show openE l s [] = 2 from hE] at r4
    rw [e1, e2, e3]
    repeat (first | refine AL.nil ?_ | refine AWp.seq ?_ | refine AWp.region ?_ | refine AWp.condT rfl ?_ | refine AWp.condF rfl ?_ | refine AWp.ret ?_ | refine AWp.block ?_ | refine AL.set rfl rfl (op_assignI rfl ?_) | refine AL.set rfl rfl (op_assignB rfl ?_) | refine AL.set rfl rfl (op_assignF rfl ?_) | refine AL.set rfl rfl (op_makeFunc rfl rfl ?_) | refine AL.set rfl rfl (op_load rfl rfl r4 rfl ?_) | refine AL.set rfl rfl (op_intT rfl rfl rfl (by omega) ?_) | refine AL.set rfl rfl (op_intF rfl rfl rfl (by omega) ?_))
    exact ⟨_, ResV.tmp rfl, Bdd.plain rfl, st_fin a wf k6 a6.box a6.map ⟨rfl, rfl⟩⟩
  | true =>
    rw [hg] at hE
    have hF : openF l s [] = fileOf l s := by
      unfold openF
      rw [hE]
      cases hh : hasS l s with
      | true => rfl
      | false =>
        unfold fileOf
        rw [getS_none.2 hh]
        rfl
    rw [hF] at r3
    obtain ⟨e, he, he2, he3⟩ : ∃ e, openE l s [] = e ∧ (e = 0 ∨ e = 6) ∧ decide (e = 6) = !hasS l s := by
      refine ⟨_, hE, ?_, ?_⟩
      · cases hasS l s with
        | true => exact .inl rfl
        | false => exact .inr rfl
      · cases hasS l s <;> rfl
    rw [he] at r4
    have cf := append1_c (H2.next + 1) h.next (h.next + 1) i m room l c e v b H6 a6 r4 r1 r2 (x6 (Ext.refl _)) hb
    rw [he3] at cf
    have hful : ((!hasS l s && decide (128 ≤ l.length)) || decide (room < used l + b.length)) = fullB room l s b := rfl
    rw [hful] at cf
    cases hf : fullB room l s b with
    | true =>
      have e1 : appE room l s b = 5 := by unfold appE; rw [hg, hf]; rfl
      have e2 : appL room l c s b = l := by unfold appL; rw [e1]; rfl
      have e3 : appC room l c s b = c := by unfold appC; rw [e1]; rfl
      rw [hf] at cf
      rw [e1, e2, e3]
      repeat (first | refine AL.nil ?_ | refine AWp.seq ?_ | refine AWp.region ?_ | refine AWp.condT rfl ?_ | refine AWp.condF rfl ?_ | refine AWp.ret ?_ | refine AWp.block ?_ | refine AL.set rfl rfl (op_moveF rfl ?_) | refine AL.set rfl rfl (op_assignI rfl ?_) | refine AL.set rfl rfl (op_assignB rfl ?_) | refine AL.set rfl rfl (op_assignF rfl ?_) | refine AL.set rfl rfl (op_makeFunc rfl rfl ?_) | refine AL.set rfl rfl (op_load rfl rfl r4 rfl ?_) | refine AL.set rfl rfl (op_intF rfl rfl rfl (by omega) ?_) | refine AL.set rfl rfl (op_callS rfl rfl cf ?_))
      exact ⟨_, ResV.tmp rfl, Bdd.plain rfl, st_fin a wf k6 a6.box a6.map ⟨rfl, rfl⟩⟩
    | false =>
      have e1 : appE room l s b = 0 := by unfold appE; rw [hg, hf]; rfl
      have e2 : appL room l c s b = putD l s ((fileOf l s).1, (fileOf l s).2 ++ b) c := by unfold appL; rw [e1]; rfl
      have e3 : appC room l c s b = c + 1 := by unfold appC; rw [e1]; rfl
      rw [hf] at cf
      rw [e1, e2, e3]
      have hroom : used l + b.length ≤ room := by
        unfold fullB at hf
        simp only [Bool.or_eq_false_iff, decide_eq_false_iff_not] at hf
        omega
      obtain ⟨f1, f2⟩ := fileOf_le a.ok s
      have hud := used_del l s
      repeat (first | refine AL.nil ?_ | refine AWp.seq ?_ | refine AWp.region ?_ | refine AWp.condF rfl ?_ | refine AWp.block ?_ | refine AWp.skip ?_ | refine AL.set rfl rfl (op_moveF rfl ?_) | refine AL.set rfl rfl (op_assignB rfl ?_) | refine AL.set rfl rfl (op_assignF rfl ?_) | refine AL.set rfl rfl (op_makeFunc rfl rfl ?_) | refine AL.set rfl rfl (op_load rfl rfl r4 rfl ?_) | refine AL.set rfl rfl (op_intF rfl rfl rfl (by omega) ?_) | refine AL.set rfl rfl (op_callS rfl rfl cf ?_) | refine AL.set rfl rfl (op_fa rfl ?_) | refine AL.set rfl rfl (op_load rfl rfl r3 rfl ?_) | refine AL.set rfl rfl (op_load rfl rfl r2 rfl ?_) | refine AL.set rfl rfl (op_bytesStrR (x6 (Ext.refl _)) rfl ?_) | refine AL.set rfl rfl (op_sCat rfl rfl (by simp only [maxLen]; omega) ?_))
      refine AL.eff rfl (op_store (v := .string (bstr ((fileOf l s).2 ++ b))) rfl rfl rfl r3 rfl (by show 1 < 2; omega) ?_)
      change AL _ _ _ _ _ _ (H6.set H2.next (fileB ((fileOf l s).1, (fileOf l s).2 ++ b)))
      have k7 : Ch i m h (H6.set H2.next (fileB ((fileOf l s).1, (fileOf l s).2 ++ b))) := k6.setG wf (by omega) (by omega) _
      have s1 : (H6.set H2.next (fileB ((fileOf l s).1, (fileOf l s).2 ++ b))).get h.next = some (ptrB i) := by rw [Heap.set_other (by omega)]; exact r1
      have s3 : (H6.set H2.next (fileB ((fileOf l s).1, (fileOf l s).2 ++ b))).get H2.next = some (fileB ((fileOf l s).1, (fileOf l s).2 ++ b)) := Heap.set_at _ _ _
      have a7 : At (H6.set H2.next (fileB ((fileOf l s).1, (fileOf l s).2 ++ b))) i m room l c := by
        refine ⟨?_, a6.map, a6.ok, a6.big⟩
        rw [Heap.set_other (by omega)]; exact a6.box
      generalize H6.set H2.next (fileB ((fileOf l s).1, (fileOf l s).2 ++ b)) = H7 at k7 s1 s3 a7 ⊢
      have hfit : used (delS l s) + (allF ((fileOf l s).1, (fileOf l s).2 ++ b)).length ≤ room := by
        have : (allF ((fileOf l s).1, (fileOf l s).2 ++ b)).length = (allF (fileOf l s)).length + b.length := by simp [allF]; omega
        rw [this]
        unfold fileOf
        omega
      repeat (first | refine AL.nil ?_ | refine AWp.seq ?_ | refine AWp.region ?_ | refine AL.set rfl rfl (op_moveStr rfl ?_) | refine AL.set rfl rfl (op_load rfl rfl s1 rfl ?_) | refine AL.set rfl rfl (op_loadF rfl s3 ?_))
      refine AL.set rfl rfl (op_call rfl rfl ((put_c i m room l c s ((fileOf l s).1, (fileOf l s).2 ++ b) H7 a7 hfit).mono ?_))
      rintro _ _ ⟨rfl, rfl⟩
      have l7 := a7.lt k7.wf
      have k8 : Ch i m h (stD H7 i m room (putD l s ((fileOf l s).1, (fileOf l s).2 ++ b) c) (c + 1)) := (k7.set l7.1 _).setO (show m < (H7.set i _).next from l7.2) _
      repeat (first | refine AL.nil ?_ | refine AWp.seq ?_ | refine AWp.region ?_ | refine AWp.ret ?_ | refine AL.set rfl rfl (op_assignI rfl ?_))
      exact ⟨_, ResV.tmp rfl, Bdd.plain rfl, st_fin a wf k8 (Heap.set_at _ _ _) (Heap.setO_at _ _ _) ⟨rfl, rfl⟩⟩
end Go.Proofs.Ytnioldkmckmajaa.Dk
/-
  Disks: what is synced, taken away, given another name; what is read.
-/
namespace Go.Proofs.Ytnioldkmckmajaa.Dk
open Go Go.Eng Go.Dsk
attribute [local irreducible] AWp AL DAL AOp
theorem Ch.of {i m : Nat} {h H : Heap} (y : Ext h H) (wf : WF H) (n : h.next ≤ H.next) : Ch i m h H := ⟨fun j b e _ => y.c j b e, fun j b e _ => y.o j b e, wf, n⟩
theorem openE_cases {room : Nat} {l : FL} {c : Nat} (d : DOk room l c) (s : List UInt8) (more : List (List UInt8)) : (openE l s more = 0 ∧ hasS l s = true) ∨ (openE l s more ≠ 0 ∧ openF l s more = ([], []) ∧ (more = [] → hasS l s = false)) := by
  unfold openF
  cases hg : goodN s with
  | false =>
    have hE : openE l s more = 2 := by unfold openE; rw [hg]; rfl
    refine .inr ⟨by rw [hE]; decide, by rw [hE]; rfl, fun _ => ?_⟩
    cases hh : hasS l s with
    | false => rfl
    | true =>
      obtain ⟨e, h1, h2⟩ := List.mem_map.1 (has_mem.1 hh)
      have := d.good e h1
      rw [h2, hg] at this
      cases this
  | true =>
    cases hm : more.all goodN with
    | false =>
      have hE : openE l s more = 2 := by unfold openE; rw [hg, hm]; rfl
      refine .inr ⟨by rw [hE]; decide, by rw [hE]; rfl, fun e => ?_⟩
      rw [e] at hm; cases hm
    | true =>
      cases hh : hasS l s with
      | true => exact .inl ⟨by unfold openE; rw [hg, hm, hh]; rfl, rfl⟩
      | false =>
        have hE : openE l s more = 6 := by unfold openE; rw [hg, hm, hh]; rfl
        exact .inr ⟨by rw [hE]; decide, by rw [hE]; rfl, fun _ => rfl⟩
theorem openF_le {room : Nat} {l : FL} {c : Nat} (d : DOk room l c) (s : List UInt8) (more : List (List UInt8)) : (openF l s more).1.length + (openF l s more).2.length ≤ room := by
  unfold openF
  split
  · exact (fileOf_le d s).1
  · exact Nat.zero_le _
def syncL (l : FL) (c : Nat) (s : List UInt8) : FL := if openE l s [] = 0 then putD l s (allF (fileOf l s), []) c else l
def syncC (l : FL) (c : Nat) (s : List UInt8) : Nat := if openE l s [] = 0 then c + 1 else c
theorem sync_fit {room : Nat} {l : FL} {c : Nat} (d : DOk room l c) (s : List UInt8) : used (delS l s) + (allF (allF (fileOf l s), [])).length ≤ room := by
  have h1 := used_del l s
  have h2 := d.used
  have h3 : (allF (allF (fileOf l s), [])).length = (allF (fileOf l s)).length := by simp [allF]
  unfold fileOf at h3 ⊢
  omega
set_option maxHeartbeats 1000000 in
theorem sync_c (i m room : Nat) (l : FL) (c : Nat) (s : List UInt8) (h : Heap) (a : At h i m room l c) (hs : s.length ≤ 4611686018427387904) :
    ACalls Try.prog 35 [ptr i, .string (bstr s)] h fun u h' => u = .int .i64 (openE l s []) ∧ h' = stD h i m room (syncL l c s) (syncC l c s) := by
  refine ACalls.wf fun wf => ACalls.resetTo ?_
  refine ACalls.body Try.func35 rfl rfl ?_
  obtain ⟨li, lm⟩ := a.lt wf
  have hbig := a.big
  have co := open_c i m room l c s (.slice none 0 0) [] h a hs (RS.nil _) (by simp) (by simp)
  repeat (first | refine AL.nil ?_ | refine AWp.seq ?_ | refine AWp.region ?_ | refine AL.set rfl rfl (op_moveP rfl ?_) | refine AL.set rfl rfl (op_moveStr rfl ?_) | refine AL.set rfl rfl (op_moveT rfl ?_) | refine AL.set rfl rfl (op_assignI rfl ?_) | refine AL.set rfl rfl (op_callS rfl rfl co ?_) | refine AL.set rfl rfl (op_extract rfl rfl ?_) | refine AL.set rfl rfl (op_allocF ?_))
  refine AL.eff rfl (op_storeF ([], []) (openF l s []) rfl rfl (Heap.alloc_new _ _) ?_)
  refine AL.heap (Heap.set_alloc _ _ _) ?_
  have y1 := wf.ext (fileB (openF l s []))
  have wf1 := wf.alloc (fileB (openF l s []))
  have g1 := Heap.alloc_new h (fileB (openF l s []))
  have n1 : (h.alloc (fileB (openF l s []))).next = h.next + 1 := rfl
  generalize h.alloc (fileB (openF l s [])) = H1 at y1 wf1 g1 n1 ⊢
  have k1 : Ch i m h H1 := Ch.of y1 wf1 (by omega)
  have a1 : At H1 i m room l c := ⟨y1.c _ _ a.box, y1.o _ _ a.map, a.ok, a.big⟩
  obtain ⟨li1, lm1⟩ := a1.lt wf1
  rcases openE_cases a.ok s [] with ⟨hE, hh⟩ | ⟨hE, hF, hh⟩
  · have e2 : syncL l c s = putD l s (allF (fileOf l s), []) c := if_pos hE
    have e3 : syncC l c s = c + 1 := if_pos hE
    have hF : openF l s [] = fileOf l s := if_pos hE
    obtain ⟨f1, f2⟩ := fileOf_le a.ok s
    rw [hF] at g1
    rw [e2, e3, hE]
    have hbf : ∀ {K : Value → Heap → Prop} {ρ : Operand → Value} {x : Operand} {dst : Option Tmp} {ty : TypeId} {pos : String} {aft : Array Edge} {g : Option (Nat × Bool)}, ρ x = .string (bstr (allF (fileOf l s))) → K (fileV (allF (fileOf l s), [])) H1 → AOp Try.prog ⟨dst, .build 87 #[(0, x)], ty, pos, aft, g⟩ ρ H1 K := by
      intro K ρ x dst ty pos aft g hx kk
      exact op_buildS (out := [.string (bstr (allF (fileOf l s))), .string (bstr [])]) (by simp only [List.all_cons, List.all_nil, hx, nuB, Bool.and_self]) (by simp only [List.map_cons, List.map_nil, hx]; rfl) kk
    repeat (first | refine AL.nil ?_ | refine AWp.seq ?_ | refine AWp.region ?_ | refine AWp.condT rfl ?_ | refine AL.set rfl rfl (op_moveI rfl ?_) | refine AL.set rfl rfl (op_moveP rfl ?_) | refine AL.set rfl rfl (op_moveStr rfl ?_) | refine AL.set rfl rfl (op_assignI rfl ?_) | refine AL.set rfl rfl (op_intT rfl rfl rfl (by omega) ?_) | refine AL.set rfl rfl (op_loadF rfl g1 ?_) | refine AL.set rfl rfl (op_callS rfl rfl (all_c (fileOf l s) H1 (by omega)) ?_) | refine AL.set rfl rfl (hbf rfl ?_))
    refine AL.set rfl rfl (op_call rfl rfl ((put_c i m room l c s (allF (fileOf l s), []) H1 a1 (sync_fit a.ok s)).mono ?_))
    rintro _ _ ⟨rfl, rfl⟩
    have k2 : Ch i m h (stD H1 i m room (putD l s (allF (fileOf l s), []) c) (c + 1)) := (k1.set li1 _).setO (show m < (H1.set i _).next from lm1) _
    repeat (first | refine AL.nil ?_ | refine AWp.seq ?_ | refine AWp.region ?_ | refine AWp.ret ?_ | refine AL.set rfl rfl (op_moveI rfl ?_) | refine AL.set rfl rfl (op_assignI rfl ?_))
    exact ⟨_, ResV.tmp rfl, Bdd.plain rfl, st_fin a wf k2 (Heap.set_at _ _ _) (Heap.setO_at _ _ _) ⟨rfl, rfl⟩⟩
  · have e2 : syncL l c s = l := if_neg hE
    have e3 : syncC l c s = c := if_neg hE
    rw [e2, e3]
    repeat (first | refine AL.nil ?_ | refine AWp.seq ?_ | refine AWp.region ?_ | refine AWp.condF rfl ?_ | refine AWp.ret ?_ | refine AWp.skip ?_ | refine AL.set rfl rfl (op_moveI rfl ?_) | refine AL.set rfl rfl (op_assignI rfl ?_) | refine AL.set rfl rfl (op_intF rfl rfl rfl (by omega) ?_))
    exact ⟨_, ResV.tmp rfl, Bdd.plain rfl, st_fin a wf k1 a1.box a1.map ⟨rfl, rfl⟩⟩
set_option maxHeartbeats 1000000 in
theorem remove_c (i m room : Nat) (l : FL) (c : Nat) (s : List UInt8) (h : Heap) (a : At h i m room l c) (hs : s.length ≤ 4611686018427387904) :
    ACalls Try.prog 49 [ptr i, .string (bstr s)] h fun u h' => u = .int .i64 (openE l s []) ∧ h' = stD h i m room (delS l s) c := by
  refine ACalls.wf fun wf => ACalls.resetTo ?_
  refine ACalls.body Try.func49 rfl rfl ?_
  obtain ⟨li, lm⟩ := a.lt wf
  have co := open_c i m room l c s (.slice none 0 0) [] h a hs (RS.nil _) (by simp) (by simp)
  repeat (first | refine AL.nil ?_ | refine AWp.seq ?_ | refine AWp.region ?_ | refine AL.set rfl rfl (op_moveP rfl ?_) | refine AL.set rfl rfl (op_moveStr rfl ?_) | refine AL.set rfl rfl (op_moveT rfl ?_) | refine AL.set rfl rfl (op_assignI rfl ?_) | refine AL.set rfl rfl (op_callS rfl rfl co ?_) | refine AL.set rfl rfl (op_extract rfl rfl ?_) | refine AL.set rfl rfl (op_allocF ?_))
  refine AL.eff rfl (op_storeF ([], []) (openF l s []) rfl rfl (Heap.alloc_new _ _) ?_)
  refine AL.heap (Heap.set_alloc _ _ _) ?_
  have y1 := wf.ext (fileB (openF l s []))
  have wf1 := wf.alloc (fileB (openF l s []))
  have n1 : (h.alloc (fileB (openF l s []))).next = h.next + 1 := rfl
  generalize h.alloc (fileB (openF l s [])) = H1 at y1 wf1 n1 ⊢
  have k1 : Ch i m h H1 := Ch.of y1 wf1 (by omega)
  have a1 : At H1 i m room l c := ⟨y1.c _ _ a.box, y1.o _ _ a.map, a.ok, a.big⟩
  obtain ⟨li1, lm1⟩ := a1.lt wf1
  rcases openE_cases a.ok s [] with ⟨hE, hh⟩ | ⟨hE, hF, hh⟩
  · rw [hE]
    repeat (first | refine AL.nil ?_ | refine AWp.seq ?_ | refine AWp.region ?_ | refine AWp.condT rfl ?_ | refine AL.set rfl rfl (op_moveI rfl ?_) | refine AL.set rfl rfl (op_moveP rfl ?_) | refine AL.set rfl rfl (op_moveStr rfl ?_) | refine AL.set rfl rfl (op_assignI rfl ?_) | refine AL.set rfl rfl (op_intT rfl rfl rfl (by omega) ?_))
    refine AL.set rfl rfl (op_call rfl rfl ((drop_c i m room l c s H1 a1).mono ?_))
    rintro _ _ ⟨rfl, rfl⟩
    have k2 : Ch i m h (stD H1 i m room (delS l s) c) := (k1.set li1 _).setO (show m < (H1.set i _).next from lm1) _
    repeat (first | refine AL.nil ?_ | refine AWp.seq ?_ | refine AWp.region ?_ | refine AWp.ret ?_ | refine AL.set rfl rfl (op_moveI rfl ?_) | refine AL.set rfl rfl (op_assignI rfl ?_))
    exact ⟨_, ResV.tmp rfl, Bdd.plain rfl, st_fin a wf k2 (Heap.set_at _ _ _) (Heap.setO_at _ _ _) ⟨rfl, rfl⟩⟩
  · rw [del_none (hh rfl)]
    repeat (first | refine AL.nil ?_ | refine AWp.seq ?_ | refine AWp.region ?_ | refine AWp.condF rfl ?_ | refine AWp.ret ?_ | refine AWp.skip ?_ | refine AL.set rfl rfl (op_moveI rfl ?_) | refine AL.set rfl rfl (op_assignI rfl ?_) | refine AL.set rfl rfl (op_intF rfl rfl rfl (by omega) ?_))
    exact ⟨_, ResV.tmp rfl, Bdd.plain rfl, st_fin a wf k1 a1.box a1.map ⟨rfl, rfl⟩⟩
end Go.Proofs.Ytnioldkmckmajaa.Dk
/-
  Disks: a file given another name; a file read.
-/
namespace Go.Proofs.Ytnioldkmckmajaa.Dk
open Go Go.Eng Go.Dsk
attribute [local irreducible] AWp AL DAL AOp
def renL (l : FL) (c : Nat) (s t : List UInt8) : FL := if openE l s [t] = 0 then putD (delS l s) t (fileOf l s) c else l
def renC (l : FL) (c : Nat) (s t : List UInt8) : Nat := if openE l s [t] = 0 then c + 1 else c
theorem ren_fit {room : Nat} {l : FL} {c : Nat} (d : DOk room l c) (s t : List UInt8) : used (delS (delS l s) t) + (allF (fileOf l s)).length ≤ room := by
  have h1 := used_del l s
  have h2 := used_del (delS l s) t
  have h3 := d.used
  unfold fileOf
  omega
set_option maxHeartbeats 1000000 in
theorem rename_c (i m room : Nat) (l : FL) (c : Nat) (s t : List UInt8) (h : Heap) (a : At h i m room l c) (hs : s.length ≤ 4611686018427387904) (ht : t.length ≤ 4611686018427387904) :
    ACalls Try.prog 54 [ptr i, .string (bstr s), .string (bstr t)] h fun u h' => u = .int .i64 (openE l s [t]) ∧ h' = stD h i m room (renL l c s t) (renC l c s t) := by
  refine ACalls.wf fun wf => ACalls.resetTo ?_
  refine ACalls.body Try.func54 rfl rfl ?_
  obtain ⟨li, lm⟩ := a.lt wf
  have hbig := a.big
  repeat (first | refine AL.nil ?_ | refine AWp.seq ?_ | refine AWp.region ?_ | refine AL.set rfl rfl (op_moveP rfl ?_) | refine AL.set rfl rfl (op_moveStr rfl ?_) | refine AL.set rfl rfl (op_assignI rfl ?_) | refine AL.set rfl rfl (op_row [.string (bstr t)] rfl rfl rfl rfl (by intro u hu; simp only [List.mem_cons, List.not_mem_nil, or_false] at hu; rw [hu]; rfl) ?_))
  have y0 := wf.ext ⟨[.string (bstr t)], 9, true⟩
  have wf0 := wf.alloc ⟨[.string (bstr t)], 9, true⟩
  have r0 : RS (h.alloc ⟨[.string (bstr t)], 9, true⟩) (.slice (some ⟨h.next, 0, some 1⟩) 1 1) (sv [t]) := RS.own (Heap.alloc_new _ _) rfl
  have n0 : (h.alloc ⟨[.string (bstr t)], 9, true⟩).next = h.next + 1 := rfl
  generalize h.alloc ⟨[.string (bstr t)], 9, true⟩ = H0 at y0 wf0 r0 n0 ⊢
  have a0 : At H0 i m room l c := ⟨y0.c _ _ a.box, y0.o _ _ a.map, a.ok, a.big⟩
  have co := open_c i m room l c s _ [t] H0 a0 hs r0 (by intro x hx; rw [List.mem_singleton.1 hx]; exact ht) (by simp)
  repeat (first | refine AL.set rfl rfl (op_moveT rfl ?_) | refine AL.set rfl rfl (op_callS rfl rfl co ?_) | refine AL.set rfl rfl (op_extract rfl rfl ?_) | refine AL.set rfl rfl (op_allocF ?_))
  refine AL.eff rfl (op_storeF ([], []) (openF l s [t]) rfl rfl (Heap.alloc_new _ _) ?_)
  refine AL.heap (Heap.set_alloc _ _ _) ?_
  have y1 := y0.trans (wf0.ext (fileB (openF l s [t])))
  have wf1 := wf0.alloc (fileB (openF l s [t]))
  have g1 := Heap.alloc_new H0 (fileB (openF l s [t]))
  have n1 : (H0.alloc (fileB (openF l s [t]))).next = H0.next + 1 := rfl
  generalize H0.alloc (fileB (openF l s [t])) = H1 at y1 wf1 g1 n1 ⊢
  have k1 : Ch i m h H1 := Ch.of y1 wf1 (by omega)
  have a1 : At H1 i m room l c := ⟨y1.c _ _ a.box, y1.o _ _ a.map, a.ok, a.big⟩
  obtain ⟨li1, lm1⟩ := a1.lt wf1
  rcases openE_cases a.ok s [t] with ⟨hE, hh⟩ | ⟨hE, hF, _⟩
  · have e2 : renL l c s t = putD (delS l s) t (fileOf l s) c := if_pos hE
    have e3 : renC l c s t = c + 1 := if_pos hE
    have hF : openF l s [t] = fileOf l s := if_pos hE
    rw [hF] at g1
    rw [e2, e3, hE]
    repeat (first | refine AL.nil ?_ | refine AWp.seq ?_ | refine AWp.region ?_ | refine AWp.condT rfl ?_ | refine AL.set rfl rfl (op_moveI rfl ?_) | refine AL.set rfl rfl (op_moveP rfl ?_) | refine AL.set rfl rfl (op_moveStr rfl ?_) | refine AL.set rfl rfl (op_assignI rfl ?_) | refine AL.set rfl rfl (op_intT rfl rfl rfl (by omega) ?_))
    refine AL.set rfl rfl (op_call rfl rfl ((drop_c i m room l c s H1 a1).mono ?_))
    rintro _ _ ⟨rfl, rfl⟩
    have k2 : Ch i m h (stD H1 i m room (delS l s) c) := (k1.set li1 _).setO (show m < (H1.set i _).next from lm1) _
    have a2 : At (stD H1 i m room (delS l s) c) i m room (delS l s) c := At.st (a.ok.del s) a.big
    have g2 : (stD H1 i m room (delS l s) c).get H0.next = some (fileB (fileOf l s)) := by
      show (H1.set i _).get H0.next = _
      rw [Heap.set_other (by omega)]; exact g1
    generalize stD H1 i m room (delS l s) c = H2 at k2 a2 g2 ⊢
    obtain ⟨li2, lm2⟩ := a2.lt k2.wf
    repeat (first | refine AL.nil ?_ | refine AWp.region ?_ | refine AL.set rfl rfl (op_moveP rfl ?_) | refine AL.set rfl rfl (op_moveStr rfl ?_) | refine AL.set rfl rfl (op_loadF rfl g2 ?_))
    refine AL.set rfl rfl (op_call rfl rfl ((put_c i m room (delS l s) c t (fileOf l s) H2 a2 (ren_fit a.ok s t)).mono ?_))
    rintro _ _ ⟨rfl, rfl⟩
    have k3 : Ch i m h (stD H2 i m room (putD (delS l s) t (fileOf l s) c) (c + 1)) := (k2.set li2 _).setO (show m < (H2.set i _).next from lm2) _
    repeat (first | refine AL.nil ?_ | refine AWp.seq ?_ | refine AWp.region ?_ | refine AWp.ret ?_ | refine AL.set rfl rfl (op_moveI rfl ?_) | refine AL.set rfl rfl (op_assignI rfl ?_))
    exact ⟨_, ResV.tmp rfl, Bdd.plain rfl, st_fin a wf k3 (Heap.set_at _ _ _) (Heap.setO_at _ _ _) ⟨rfl, rfl⟩⟩
  · have e2 : renL l c s t = l := if_neg hE
    have e3 : renC l c s t = c := if_neg hE
    rw [e2, e3]
    repeat (first | refine AL.nil ?_ | refine AWp.seq ?_ | refine AWp.region ?_ | refine AWp.condF rfl ?_ | refine AWp.ret ?_ | refine AWp.skip ?_ | refine AL.set rfl rfl (op_moveI rfl ?_) | refine AL.set rfl rfl (op_assignI rfl ?_) | refine AL.set rfl rfl (op_intF rfl rfl rfl (by omega) ?_))
    exact ⟨_, ResV.tmp rfl, Bdd.plain rfl, st_fin a wf k1 a1.box a1.map ⟨rfl, rfl⟩⟩
theorem bstr_data (l : List UInt8) : (bstr l).data.toList = l := rfl
set_option maxHeartbeats 1000000 in
theorem read_c (i m room : Nat) (l : FL) (c : Nat) (s : List UInt8) (h : Heap) (a : At h i m room l c) (hs : s.length ≤ 4611686018427387904) :
    ACalls Try.prog 32 [ptr i, .string (bstr s)] h fun u h' => ∃ w, u = .tuple #[w, .int .i64 (openE l s [])] ∧ OS h.next h' 5 w (bv (allF (openF l s []))) ∧ Ext h h' := by
  refine ACalls.wf fun wf => ?_
  refine ACalls.body Try.func32 rfl rfl ?_
  have hbig := a.big
  have co := open_c i m room l c s (.slice none 0 0) [] h a hs (RS.nil _) (by simp) (by simp)
  repeat (first | refine AL.nil ?_ | refine AWp.seq ?_ | refine AWp.region ?_ | refine AL.set rfl rfl (op_moveP rfl ?_) | refine AL.set rfl rfl (op_moveStr rfl ?_) | refine AL.set rfl rfl (op_moveT rfl ?_) | refine AL.set rfl rfl (op_assignI rfl ?_) | refine AL.set rfl rfl (op_assignS rfl ?_) | refine AL.set rfl rfl (op_callS rfl rfl co ?_) | refine AL.set rfl rfl (op_extract rfl rfl ?_) | refine AL.set rfl rfl (op_allocF ?_))
  refine AL.eff rfl (op_storeF ([], []) (openF l s []) rfl rfl (Heap.alloc_new _ _) ?_)
  refine AL.heap (Heap.set_alloc _ _ _) ?_
  have y1 := wf.ext (fileB (openF l s []))
  have wf1 := wf.alloc (fileB (openF l s []))
  have g1 := Heap.alloc_new h (fileB (openF l s []))
  have n1 : (h.alloc (fileB (openF l s []))).next = h.next + 1 := rfl
  generalize h.alloc (fileB (openF l s [])) = H1 at y1 wf1 g1 n1 ⊢
  have hle := openF_le a.ok s []
  have hal : (allF (openF l s [])).length = (openF l s []).1.length + (openF l s []).2.length := by simp [allF]
  repeat (first | refine AL.nil ?_ | refine AWp.seq ?_ | refine AWp.region ?_ | refine AL.set rfl rfl (op_assignI rfl ?_) | refine AL.set rfl rfl (op_loadF rfl g1 ?_) | refine AL.set rfl rfl (op_callS rfl rfl (all_c (openF l s []) H1 (by omega)) ?_))
  refine AL.set rfl rfl (op_strBytes (e := 5) rfl (by rw [bstr_size]; simp only [maxLen]; omega) ?_)
  rw [bstr_size, bstr_data]
  repeat (first | refine AL.nil ?_ | refine AWp.ret ?_ | refine AL.set rfl rfl (op_moveI rfl ?_) | refine AL.set rfl rfl (op_assignI rfl ?_) | refine AL.set rfl rfl (op_assignS rfl ?_))
  refine ⟨_, ResV.tmp2 rfl, _, rfl, .inr ⟨H1.next, (allF (openF l s [])).length + 1, by omega, ?_, Heap.alloc_new _ _⟩, y1.trans (wf1.ext _)⟩
  rw [bv_length]; rfl
end Go.Proofs.Ytnioldkmckmajaa.Dk
