/-
  Texts of one claim, merged: 14 parts.
-/
import Derived.Test.YtiebmncpdnbcjaaMrgc
import Derived.Test.YtiebmncpdnbcjaaMrga
import Derived.Test.YtiebmncpdnbcjaaMrgb
import Derived.Lib.Overlaps
/-
  Disks: a file taken away, a file laid, a file sought.
-/
namespace Go.Proofs.Ytiebmncpdnbcjaa
open Go Go.Eng Go.Dsk
attribute [local irreducible] AWp AL DAL AOp

instance : FnC Try.prog 53 := ⟨Try.f53, Try.func53, by kernel_rfl, by kernel_rfl⟩
instance : FnC Try.prog 44 := ⟨Try.f44, Try.func44, by kernel_rfl, by kernel_rfl⟩
instance : FnC Try.prog 42 := ⟨Try.f42, Try.func42, by kernel_rfl, by kernel_rfl⟩
instance : FnC Try.prog 22 := ⟨Try.f22, Try.func22, by kernel_rfl, by kernel_rfl⟩
instance : FnC Try.prog 39 := ⟨Try.f39, Try.func39, by kernel_rfl, by kernel_rfl⟩
instance : FnC Try.prog 23 := ⟨Try.f23, Try.func23, by kernel_rfl, by kernel_rfl⟩
instance : StD Try.prog 86 [(0, 1), (1, 1)] := ⟨_, Try.underlying86, by kernel_rfl⟩
instance : StD Try.prog 80 [(0, 1), (1, 1), (2, 1)] := ⟨_, Try.underlying80, by kernel_rfl⟩
theorem mixed : Try.prog.follows .mixedOrders = true := by kernel_rfl

/-- A disk, where it lies. -/
structure At (h : Heap) (i m room : Nat) (l : FL) (c : Nat) : Prop where
  box : h.get i = some (dskB room (used l : Nat) (some m))
  map : h.obj m = some (.map (ents (kvF l)) c)
  ok : DOk room l c
  big : room ≤ 1048576
def stD (h : Heap) (i m room : Nat) (l : FL) (c : Nat) : Heap := (h.set i (dskB room (used l : Nat) (some m))).setO m (.map (ents (kvF l)) c)
/-- All but the disk is avs it was. -/
structure Ch (i m : Nat) (h H : Heap) : Prop where
  c : ∀ j b, h.get j = some b → j ≠ i → H.get j = some b
  o : ∀ j b, h.obj j = some b → j ≠ m → H.obj j = some b
  wf : WF H
  nx : h.next ≤ H.next
section
variable {i m room : Nat} {l l' : FL} {c c' : Nat} {h H H' : Heap}
theorem Ch.refl (wf : WF h) : Ch i m h h := ⟨fun _ _ e _ => e, fun _ _ e _ => e, wf, Nat.le_refl _⟩
theorem Ch.ext (k : Ch i m h H) (hx : Ext H H') (wf : WF H') (hn : H.next ≤ H'.next) : Ch i m h H' := ⟨fun j b e n => hx.c j b (k.c j b e n), fun j b e n => hx.o j b (k.o j b e n), wf, Nat.le_trans k.nx hn⟩
theorem Ch.alloc (k : Ch i m h H) (b : Blk) : Ch i m h (H.alloc b) := k.ext (k.wf.ext b) (k.wf.alloc b) (by show H.next ≤ H.next + 1; omega)
theorem Ch.set (k : Ch i m h H) (hi : i < H.next) (b : Blk) : Ch i m h (H.set i b) := ⟨fun j x e n => by rw [Heap.set_other n]; exact k.c j x e n, fun j x e n => k.o j x e n, k.wf.set hi b, k.nx⟩
theorem Ch.setO (k : Ch i m h H) (hm : m < H.next) (o : AObj) : Ch i m h (H.setO m o) := ⟨fun j x e n => k.c j x e n, fun j x e n => by rw [Heap.setO_other n]; exact k.o j x e n, k.wf.setO hm o, k.nx⟩
theorem Ch.setG {j : Nat} (k : Ch i m h H) (wf : WF h) (hj : h.next ≤ j) (hl : j < H.next) (b : Blk) : Ch i m h (H.set j b) := ⟨fun j' x e n => by have := wf.lt e; rw [Heap.set_other (by omega)]; exact k.c j' x e n, fun j' x e n => k.o j' x e n, k.wf.set hl b, k.nx⟩
theorem At.lt (a : At h i m room l c) (wf : WF h) : i < h.next ∧ m < h.next := ⟨wf.lt a.box, wf.ltO a.map⟩
theorem At.st (a : DOk room l' c') (b : room ≤ 1048576) : At (stD h i m room l' c') i m room l' c' := ⟨Heap.set_at _ _ _, Heap.setO_at _ _ _, a, b⟩
theorem st_ch (wf : WF h) (hi : i < h.next) (hm : m < h.next) : Ch i m h (stD h i m room l c) := ((Ch.refl wf).set hi _).setO hm _
theorem fileV_plain (f : File) : plainV (fileV f) = true := by simp [fileV, plainV, scalar]
theorem fileV_bdd (n : Nat) (f : File) : Bdd n (fileV f) := Bdd.plain (fileV_plain f)
theorem st_fin (a : At h i m room l c) (wf : WF h) (k : Ch i m h H) (hi : H.get i = some (dskB room (used l' : Nat) (some m))) (hm : H.obj m = some (.map (ents (kvF l')) c')) {Q : Heap → Prop} (q : Q (stD h i m room l' c')) :
    ∃ ht, ht.next = h.next ∧ WF ht ∧ Ext ht H ∧ (∀ i b, ht.get i = some b → h.get i = some b ∨ ∀ v ∈ b.cells, Bdd h.next v) ∧ (∀ i o, ht.obj i = some o → h.obj i = some o ∨ OBdd h.next o) ∧ Q ht := by
  obtain ⟨li, lm⟩ := a.lt wf
  refine ⟨stD h i m room l' c', rfl, (st_ch wf li lm).wf, ⟨fun j b e => ?_, fun j b e => ?_⟩, fun j b e => ?_, fun j b e => ?_, q⟩
  · by_cases hj : j = i
    · subst hj
      have : (stD h j m room l' c').get j = some (dskB room (used l' : Nat) (some m)) := Heap.set_at _ _ _
      rw [this] at e
      rw [hi, e]
    · have e2 : (stD h i m room l' c').get j = h.get j := Heap.set_other hj
      rw [e2] at e
      exact k.c j b e hj
  · by_cases hj : j = m
    · subst hj
      have : (stD h i j room l' c').obj j = some (.map (ents (kvF l')) c') := Heap.setO_at _ _ _
      rw [this] at e
      rw [hm, e]
    · have e2 : (stD h i m room l' c').obj j = h.obj j := Heap.setO_other hj
      rw [e2] at e
      exact k.o j b e hj
  · by_cases hj : j = i
    · subst hj
      have : (stD h j m room l' c').get j = some (dskB room (used l' : Nat) (some m)) := Heap.set_at _ _ _
      rw [this] at e
      cases e
      right
      intro v hv
      simp only [List.mem_cons, List.not_mem_nil, or_false] at hv
      rcases hv with rfl | rfl | rfl
      · exact Bdd.plain rfl
      · exact Bdd.plain rfl
      · exact ⟨fun _ => ⟨0, 0, 0⟩, _, .map m lm⟩
    · left
      have e2 : (stD h i m room l' c').get j = h.get j := Heap.set_other hj
      rw [← e2]; exact e
  · by_cases hj : j = m
    · subst hj
      have : (stD h i j room l' c').obj j = some (.map (ents (kvF l')) c') := Heap.setO_at _ _ _
      rw [this] at e
      cases e
      right
      intro x hx
      unfold ents kvF at hx
      simp only [List.map_map, List.mem_map] at hx
      obtain ⟨y, _, rfl⟩ := hx
      exact ⟨Bdd.plain rfl, fileV_bdd _ _⟩
    · left
      have e2 : (stD h i m room l' c').obj j = h.obj j := Heap.setO_other hj
      rw [← e2]; exact e
end
theorem op_lookupF {ρ : Operand → Value} {h : Heap} {K : Value → Heap → Prop} {dst : Option Tmp} {ty : TypeId} {pos : String} {aft : Array Edge} {g : Option (Nat × Bool)} {x y : Operand} {i c : Nat} {s : List UInt8} {l : FL} (hx : ρ x = .map (some i)) (hy : ρ y = .string (bstr s))
    (hi : h.obj i = some (.map (ents (kvF l)) c)) (kk : K (fileV (fileOf l s)) h) : AOp Try.prog ⟨dst, .lookup 78 x y false, ty, pos, aft, g⟩ ρ h K := by
  refine op_lookup (z := .agg #[.string ⟨#[]⟩, .string ⟨#[]⟩]) hx hy hi (fileV_plain ([], [])) ?_
  rw [getS_kv]
  unfold fileOf at kk
  cases h1 : getS l s with
  | none => rw [h1] at kk; exact kk
  | some f => rw [h1] at kk; exact kk
theorem op_lookupFOk {ρ : Operand → Value} {h : Heap} {K : Value → Heap → Prop} {dst : Option Tmp} {ty : TypeId} {pos : String} {aft : Array Edge} {g : Option (Nat × Bool)} {x y : Operand} {i c : Nat} {s : List UInt8} {l : FL} (hx : ρ x = .map (some i)) (hy : ρ y = .string (bstr s))
    (hi : h.obj i = some (.map (ents (kvF l)) c)) (kk : K (.tuple #[fileV (fileOf l s), .bool (hasS l s)]) h) : AOp Try.prog ⟨dst, .lookup 78 x y true, ty, pos, aft, g⟩ ρ h K := by
  refine op_lookupOk (z := .agg #[.string ⟨#[]⟩, .string ⟨#[]⟩]) hx hy hi (fileV_plain ([], [])) ?_
  rw [getS_kv]
  unfold fileOf at kk
  cases h1 : getS l s with
  | none =>
    have h2 := getS_none.1 h1
    rw [h1, h2] at kk; exact kk
  | some f =>
    have h2 : hasS l s = true := by
      cases h3 : hasS l s with
      | true => rfl
      | false => rw [getS_none.2 h3] at h1; cases h1
    rw [h1, h2] at kk; exact kk
theorem fileOf_le {room : Nat} {l : FL} {c : Nat} (d : DOk room l c) (s : List UInt8) : (fileOf l s).1.length + (fileOf l s).2.length ≤ room ∧ (allF (fileOf l s)).length ≤ used l := by
  have hu := used_del l s
  have h2 : (allF (fileOf l s)).length = (fileOf l s).1.length + (fileOf l s).2.length := by simp [allF]
  have := d.used
  unfold fileOf at h2 ⊢
  omega

set_option maxHeartbeats 1000000 in
theorem drop_c (i m room : Nat) (l : FL) (c : Nat) (s : List UInt8) (h : Heap) (a : At h i m room l c) : ACalls Try.prog 53 [ptr i, .string (bstr s)] h fun u h' => u = .tuple #[] ∧ h' = stD h i m room (delS l s) c := by
  refine ACalls.wf fun wf => ?_
  refine ACalls.body Try.func53 rfl rfl ?_
  obtain ⟨f1, f2⟩ := fileOf_le a.ok s
  have hb := a.big
  have hud := used_del l s
  have hul := a.ok.used
  have ca := fun h' => all_c (fileOf l s) h' (by omega)
  repeat (first | refine AWp.seq ?_)
  refine AWp.draw (σ := [(0, .R), (1, .R), (2, .R), (3, .R), (4, .R), (5, .R), (6, .R), (7, .R), (8, .R), (9, .R), (10, .R), (11, .R), (12, .R), (13, .R), (14, .R), (15, .W)]) mixed (by kernel_rfl) ?_
  repeat (first | refine DAL.r rfl rfl rfl (fun h' hx hn => op_moveP rfl ⟨rfl, rfl⟩) ?_ | refine DAL.r rfl rfl rfl (fun h' hx hn => op_moveStr rfl ⟨rfl, rfl⟩) ?_ | refine DAL.r rfl rfl rfl (fun h' hx hn => op_nilCheck rfl ⟨rfl, rfl⟩) ?_ | refine DAL.r rfl rfl rfl (fun h' hx hn => op_fa rfl ⟨rfl, rfl⟩) ?_ | refine DAL.r rfl rfl rfl (fun h' hx hn => op_load rfl rfl (hx.c _ _ a.box) rfl ⟨rfl, rfl⟩) ?_ | refine DAL.r rfl rfl rfl (fun h' hx hn => op_lookupF rfl rfl (hx.o _ _ a.map) ⟨rfl, rfl⟩) ?_ | refine DAL.r rfl rfl rfl (fun h' hx hn => op_callS rfl rfl (ca h') ⟨rfl, rfl⟩) ?_ | refine DAL.r rfl rfl rfl (fun h' hx hn => op_lenSB rfl ⟨rfl, rfl⟩) ?_ | refine DAL.r rfl rfl rfl (fun h' hx hn => op_sub64 rfl rfl (by omega) ⟨rfl, rfl⟩) ?_)
  refine DAL.w0 rfl rfl (op_store (v := .int .i64 ((used l : Int) - ((allF (fileOf l s)).length : Nat))) rfl rfl rfl a.box rfl (by show 1 < 3; omega) ?_)
  have hs1 : h.set i ⟨(dskB room (used l : Nat) (some m)).cells.set 1 (.int .i64 ((used l : Int) - ((allF (fileOf l s)).length : Nat))), 80, true⟩ = h.set i (dskB room (used (delS l s) : Nat) (some m)) := by
    have e : (used l : Int) - ((allF (fileOf l s)).length : Nat) = ((used (delS l s) : Nat) : Int) := by unfold fileOf; omega
    rw [e]
    rfl
  refine DAL.heap hs1 ?_
  refine DAL.nil ?_
  have g1 : (h.set i (dskB room (used (delS l s) : Nat) (some m))).get i = some (dskB room (used (delS l s) : Nat) (some m)) := Heap.set_at _ _ _
  have g2 : (h.set i (dskB room (used (delS l s) : Nat) (some m))).obj m = some (.map (ents (kvF l)) c) := a.map
  repeat (first | refine AWp.region ?_ | refine AL.set rfl rfl (op_moveP rfl ?_) | refine AL.set rfl rfl (op_moveStr rfl ?_) | refine AL.set rfl rfl (op_nilCheck rfl ?_) | refine AL.set rfl rfl (op_fa rfl ?_) | refine AL.set rfl rfl (op_load rfl rfl g1 rfl ?_))
  refine AL.eff rfl (op_delete rfl rfl g2 ?_)
  rw [delS_kv]
  repeat (first | refine AL.nil ?_)
  exact ⟨_, ResV.none rfl, rfl, rfl⟩
theorem has_del_self {l : FL} (hn : (l.map (·.1)).Nodup) (s : List UInt8) : hasS (delS l s) s = false := by
  rw [del_has hn]
  simp
set_option maxHeartbeats 1000000 in
theorem put_c (i m room : Nat) (l : FL) (c : Nat) (s : List UInt8) (f : File) (h : Heap) (a : At h i m room l c) (hu : used (delS l s) + (allF f).length ≤ room) :
    ACalls Try.prog 44 [ptr i, .string (bstr s), fileV f] h fun u h' => u = .tuple #[] ∧ h' = stD h i m room (putD l s f c) (c + 1) := by
  refine ACalls.wf fun wf => ACalls.resetTo ?_
  refine ACalls.body Try.func44 rfl rfl ?_
  have hb := a.big
  have hfl : (allF f).length = f.1.length + f.2.length := by simp [allF]
  have k1 : Ch i m h (h.alloc ⟨[.string (bstr f.1), .string (bstr f.2)], 86, true⟩) := (Ch.refl wf).alloc _
  have hx1 : Ext h (h.alloc ⟨[.string (bstr f.1), .string (bstr f.2)], 86, true⟩) := wf.ext _
  have g1 := Heap.alloc_new h ⟨[.string (bstr f.1), .string (bstr f.2)], 86, true⟩
  obtain ⟨li, lm⟩ := a.lt wf
  repeat (first | refine AL.nil ?_ | refine AWp.seq ?_ | refine AWp.region ?_ | refine AL.set rfl rfl (op_moveP rfl ?_) | refine AL.set rfl rfl (op_moveStr rfl ?_) | refine AL.set rfl rfl (op_boxF rfl ?_))
  generalize h.alloc ⟨[.string (bstr f.1), .string (bstr f.2)], 86, true⟩ = H1 at k1 hx1 g1 ⊢
  have a1 : At H1 i m room l c := ⟨hx1.c _ _ a.box, hx1.o _ _ a.map, a.ok, a.big⟩
  obtain ⟨li1, lm1⟩ := a1.lt k1.wf
  have k2 : Ch i m h (stD H1 i m room (delS l s) c) := (k1.set li1 _).setO (show m < (H1.set i _).next from lm1) _
  have a2 : At (stD H1 i m room (delS l s) c) i m room (delS l s) c := At.st (a.ok.del s) a.big
  have g2 : (stD H1 i m room (delS l s) c).get h.next = some ⟨[.string (bstr f.1), .string (bstr f.2)], 86, true⟩ := by
    show (H1.set i _).get h.next = _
    rw [Heap.set_other (by omega)]; exact g1
  skip
  refine AL.set rfl rfl (op_call rfl rfl ((drop_c i m room l c s H1 a1).mono ?_))
  rintro _ _ ⟨rfl, rfl⟩
  generalize stD H1 i m room (delS l s) c = H2 at k2 a2 g2 ⊢
  have ca := fun h' => all_c f h' (by omega)
  repeat (first | refine AL.nil ?_ | refine AWp.seq ?_)
  refine AWp.draw (σ := [(0, .R), (1, .R), (2, .R), (3, .R), (4, .R), (5, .R), (6, .R), (7, .R), (8, .R), (9, .R), (10, .W)]) mixed (by kernel_rfl) ?_
  have hld : ∀ {h' : Heap} {K : Value → Heap → Prop} {ρ : Operand → Value} {x : Operand} {dst : Option Tmp} {ty : TypeId} {pos : String} {aft : Array Edge} {g : Option (Nat × Bool)}, Ext H2 h' → ρ x = ptr h.next → K (fileV f) h' → AOp Try.prog ⟨dst, .load 86 x, ty, pos, aft, g⟩ ρ h' K := by
    intro h' K ρ x dst ty pos aft g hx' hx kk
    exact op_loadA (sz := 2) hx rfl (hx'.c _ _ g2) (Nat.le_refl _) kk
  repeat (first | refine DAL.r rfl rfl rfl (fun h' hx hn => op_moveP rfl ⟨rfl, rfl⟩) ?_ | refine DAL.r rfl rfl rfl (fun h' hx hn => op_nilCheck rfl ⟨rfl, rfl⟩) ?_ | refine DAL.r rfl rfl rfl (fun h' hx hn => op_fa rfl ⟨rfl, rfl⟩) ?_ | refine DAL.r rfl rfl rfl (fun h' hx hn => op_load rfl rfl (hx.c _ _ a2.box) rfl ⟨rfl, rfl⟩) ?_ | refine DAL.r rfl rfl rfl (fun h' hx hn => hld hx rfl ⟨rfl, rfl⟩) ?_ | refine DAL.r rfl rfl rfl (fun h' hx hn => op_callS rfl rfl (ca h') ⟨rfl, rfl⟩) ?_ | refine DAL.r rfl rfl rfl (fun h' hx hn => op_lenSB rfl ⟨rfl, rfl⟩) ?_ | refine DAL.r rfl rfl rfl (fun h' hx hn => op_add64 rfl rfl (by omega) ⟨rfl, rfl⟩) ?_)
  refine DAL.w0 rfl rfl (op_store (v := .int .i64 ((used (delS l s) : Int) + ((allF f).length : Nat))) rfl rfl rfl a2.box rfl (by show 1 < 3; omega) ?_)
  have hs1 : H2.set i ⟨(dskB room (used (delS l s) : Nat) (some m)).cells.set 1 (.int .i64 ((used (delS l s) : Int) + ((allF f).length : Nat))), 80, true⟩ = H2.set i (dskB room (used (putD l s f c) : Nat) (some m)) := by
    have e : (used (delS l s) : Int) + ((allF f).length : Nat) = ((used (putD l s f c) : Nat) : Int) := by unfold putD; rw [used_push]; omega
    rw [e]
    rfl
  refine DAL.heap hs1 ?_
  refine DAL.nil ?_
  have li2 : i < H2.next := by have := k2.nx; omega
  have k3 : Ch i m h (H2.set i (dskB room (used (putD l s f c) : Nat) (some m))) := k2.set li2 _
  have g3 : (H2.set i (dskB room (used (putD l s f c) : Nat) (some m))).get i = some (dskB room (used (putD l s f c) : Nat) (some m)) := Heap.set_at _ _ _
  have g4 : (H2.set i (dskB room (used (putD l s f c) : Nat) (some m))).get h.next = some ⟨[.string (bstr f.1), .string (bstr f.2)], 86, true⟩ := by rw [Heap.set_other (by omega)]; exact g2
  have g5 : (H2.set i (dskB room (used (putD l s f c) : Nat) (some m))).obj m = some (.map (ents (kvF (delS l s))) c) := a2.map
  generalize H2.set i (dskB room (used (putD l s f c) : Nat) (some m)) = H3 at k3 g3 g4 g5 ⊢
  have hld : ∀ {h' : Heap} {K : Value → Heap → Prop} {ρ : Operand → Value} {x : Operand} {dst : Option Tmp} {ty : TypeId} {pos : String} {aft : Array Edge} {g : Option (Nat × Bool)}, Ext H3 h' → ρ x = ptr h.next → K (fileV f) h' → AOp Try.prog ⟨dst, .load 86 x, ty, pos, aft, g⟩ ρ h' K := by
    intro h' K ρ x dst ty pos aft g hx' hx kk
    exact op_loadA (sz := 2) hx rfl (hx'.c _ _ g4) (Nat.le_refl _) kk
  skip
  refine AWp.draw (σ := [(0, .R), (1, .R), (2, .R), (3, .R), (4, .R), (5, .R), (6, .W)]) mixed (by kernel_rfl) ?_
  repeat (first | refine DAL.r rfl rfl rfl (fun h' hx hn => op_moveP rfl ⟨rfl, rfl⟩) ?_ | refine DAL.r rfl rfl rfl (fun h' hx hn => op_moveStr rfl ⟨rfl, rfl⟩) ?_ | refine DAL.r rfl rfl rfl (fun h' hx hn => op_nilCheck rfl ⟨rfl, rfl⟩) ?_ | refine DAL.r rfl rfl rfl (fun h' hx hn => op_fa rfl ⟨rfl, rfl⟩) ?_ | refine DAL.r rfl rfl rfl (fun h' hx hn => op_load rfl rfl (hx.c _ _ g3) rfl ⟨rfl, rfl⟩) ?_ | refine DAL.r rfl rfl rfl (fun h' hx hn => hld hx rfl ⟨rfl, rfl⟩) ?_)
  refine DAL.w0 rfl rfl (op_mapUpdate (u := fileV f) rfl rfl rfl g5 ?_)
  have hno : hasS (kvF (delS l s)) s = false := by rw [hasS_kv]; exact has_del_self a.ok.names s
  rw [hno, putS_kv, put_none (has_del_self a.ok.names s)]
  refine DAL.nil ?_
  skip
  have lm3 : m < H3.next := by have := k3.nx; omega
  refine ⟨_, ResV.none rfl, Bdd.plain (by simp [plainV, scalar]), st_fin a wf (k3.setO lm3 _) (show (H3.setO m _).get i = _ from g3) (Heap.setO_at _ _ _) ⟨rfl, rfl⟩⟩
end Go.Proofs.Ytiebmncpdnbcjaa

/-
  Disks: a new one, its room, a file sought.
-/
namespace Go.Proofs.Ytiebmncpdnbcjaa
open Go Go.Eng Go.Dsk
attribute [local irreducible] AWp AL DAL AOp


def newOk (room : Int) : Bool := decide (1024 ≤ room ∧ room ≤ 1048576)
theorem new_no (room : Int) (h : Heap) (hn : newOk room = false) : ACalls Try.prog 22 [.int .i64 room] h fun u h' => u = .tuple #[.pointer none, .int .i64 2] ∧ h' = h := by
  refine ACalls.body Try.func22 rfl rfl ?_
  have hn2 : ¬ (1024 ≤ room ∧ room ≤ 1048576) := of_decide_eq_false hn
  by_cases h1 : 1024 ≤ room
  · repeat (first | refine AL.nil ?_ | refine AWp.seq ?_ | refine AWp.region ?_ | refine AWp.condF rfl ?_ | refine AWp.ret ?_ | refine AWp.skip ?_ | refine AL.set rfl rfl (op_moveI rfl ?_) | refine AL.set rfl rfl (op_moveB rfl ?_) | refine AL.set rfl rfl (op_assignI rfl ?_) | refine AL.set rfl rfl (op_assignP rfl ?_) | refine AL.set rfl rfl (op_intT rfl rfl rfl (by omega) ?_) | refine AL.set rfl rfl (op_intF rfl rfl rfl (by omega) ?_) | refine AL.set rfl rfl (op_pick (v := .bool false) rfl rfl ?_))
    exact ⟨_, ResV.tmp2 rfl, rfl, rfl⟩
  · repeat (first | refine AL.nil ?_ | refine AL.skip rfl rfl ?_ | refine AWp.seq ?_ | refine AWp.region ?_ | refine AWp.condF rfl ?_ | refine AWp.ret ?_ | refine AWp.skip ?_ | refine AL.set rfl rfl (op_moveI rfl ?_) | refine AL.set rfl rfl (op_moveB rfl ?_) | refine AL.set rfl rfl (op_assignI rfl ?_) | refine AL.set rfl rfl (op_assignP rfl ?_) | refine AL.set rfl rfl (op_intF rfl rfl rfl (by omega) ?_) | refine AL.set rfl rfl (op_pick (v := .bool false) rfl rfl ?_))
    exact ⟨_, ResV.tmp2 rfl, rfl, rfl⟩
theorem new_yes (room : Nat) (h : Heap) (h1 : 1024 ≤ room) (h2 : room ≤ 1048576) : ACalls Try.prog 22 [.int .i64 (room : Nat)] h fun u h' => ∃ i m, u = .tuple #[ptr i, .int .i64 0] ∧ h.next ≤ i ∧ h.next ≤ m ∧ At h' i m room [] 0 ∧ Ext h h' := by
  refine ACalls.wf fun wf => ?_
  refine ACalls.body Try.func22 rfl rfl ?_
  repeat (first | refine AL.nil ?_ | refine AWp.seq ?_ | refine AWp.region ?_ | refine AWp.condT rfl ?_ | refine AL.set rfl rfl (op_moveI rfl ?_) | refine AL.set rfl rfl (op_moveB rfl ?_) | refine AL.set rfl rfl (op_assignI rfl ?_) | refine AL.set rfl rfl (op_assignP rfl ?_) | refine AL.set rfl rfl (op_intT rfl rfl rfl (by omega) ?_) | refine AL.set rfl rfl (op_pick (v := .bool true) rfl rfl ?_) | refine AL.set rfl rfl (op_makeMap ?_))
  have hx1 := wf.extO (.map (ents []) 0)
  have wf1 := wf.allocO (.map (ents []) 0)
  have g1 := Heap.allocO_new h (.map (ents []) 0)
  have hn1 : (h.allocO (.map (ents []) 0)).next = h.next + 1 := rfl
  generalize h.allocO (.map (ents []) 0) = H1 at hx1 wf1 g1 hn1 ⊢
  refine AL.set rfl rfl (op_buildS (out := [.int .i64 (room : Nat), .int .i64 0, .map (some h.next)]) rfl rfl ?_)
  skip
  refine AL.set rfl rfl (op_box (v := .agg #[.int .i64 (room : Nat), .int .i64 0, .map (some h.next)]) rfl (by intro e; cases e) ?_)
  repeat (first | refine AL.nil ?_ | refine AWp.ret ?_ | refine AL.set rfl rfl (op_assignI rfl ?_) | refine AL.set rfl rfl (op_assignP rfl ?_))
  refine ⟨_, ResV.tmp2 rfl, H1.next, h.next, rfl, by omega, Nat.le_refl _, ⟨Heap.alloc_new _ _, g1, ⟨by simp, by simp, by simp, by simp [used], by simp, by simp⟩, h2⟩, hx1.trans (wf1.ext _)⟩
theorem room_c (i m room : Nat) (l : FL) (c : Nat) (h : Heap) (a : At h i m room l c) : ACalls Try.prog 39 [ptr i] h fun u h' => u = .int .i64 (room : Nat) ∧ h' = h := by
  refine ACalls.body Try.func39 rfl rfl ?_
  repeat (first | refine AL.nil ?_ | refine AWp.seq ?_ | refine AWp.region ?_ | refine AWp.condF rfl ?_ | refine AWp.ret ?_ | refine AWp.skip ?_ | refine AL.set rfl rfl (op_moveP rfl ?_) | refine AL.set rfl rfl (op_assignI rfl ?_) | refine AL.set rfl rfl (op_callS rfl rfl (on_c i _ _ _ h a.box) ?_) | refine AL.set rfl rfl (op_nilCheck rfl ?_) | refine AL.set rfl rfl (op_fa rfl ?_) | refine AL.set rfl rfl (op_load rfl rfl a.box rfl ?_) | refine AL.set rfl rfl (op_not rfl ?_))
  exact ⟨_, ResV.tmp rfl, rfl, rfl⟩
theorem used_c (i m room : Nat) (l : FL) (c : Nat) (h : Heap) (a : At h i m room l c) : ACalls Try.prog 23 [ptr i] h fun u h' => u = .int .i64 (used l : Nat) ∧ h' = h := by
  refine ACalls.body Try.func23 rfl rfl ?_
  repeat (first | refine AL.nil ?_ | refine AWp.seq ?_ | refine AWp.region ?_ | refine AWp.condF rfl ?_ | refine AWp.ret ?_ | refine AWp.skip ?_ | refine AL.set rfl rfl (op_moveP rfl ?_) | refine AL.set rfl rfl (op_assignI rfl ?_) | refine AL.set rfl rfl (op_callS rfl rfl (on_c i _ _ _ h a.box) ?_) | refine AL.set rfl rfl (op_nilCheck rfl ?_) | refine AL.set rfl rfl (op_fa rfl ?_) | refine AL.set rfl rfl (op_load rfl rfl a.box rfl ?_) | refine AL.set rfl rfl (op_not rfl ?_))
  exact ⟨_, ResV.tmp rfl, rfl, rfl⟩
abbrev fileB (f : File) : Blk := ⟨[.string (bstr f.1), .string (bstr f.2)], 86, true⟩
theorem op_allocF {ρ : Operand → Value} {h : Heap} {K : Value → Heap → Prop} {dst : Option Tmp} {ty : TypeId} {pos : String} {aft : Array Edge} {g : Option (Nat × Bool)} (kk : K (ptr h.next) (h.alloc (fileB ([], [])))) : AOp Try.prog ⟨dst, .alloc 86, ty, pos, aft, g⟩ ρ h K := op_alloc (z := .agg #[.string ⟨#[]⟩, .string ⟨#[]⟩]) kk
theorem op_storeF {ρ : Operand → Value} {h : Heap} {K : Value → Heap → Prop} {dst : Option Tmp} {ty : TypeId} {pos : String} {aft : Array Edge} {g : Option (Nat × Bool)} {x y : Operand} {j : Nat} (f f' : File) (hx : ρ x = ptr j) (hy : ρ y = fileV f') (hj : h.get j = some (fileB f)) (kk : K undef (h.set j (fileB f'))) :
    AOp Try.prog ⟨dst, .store 86 x y, ty, pos, aft, g⟩ ρ h K := op_storeA (sz := 2) hx hy rfl rfl hj rfl (Nat.le_refl _) kk
theorem op_loadF {ρ : Operand → Value} {h : Heap} {K : Value → Heap → Prop} {dst : Option Tmp} {ty : TypeId} {pos : String} {aft : Array Edge} {g : Option (Nat × Bool)} {x : Operand} {j : Nat} {f : File} (hx : ρ x = ptr j) (hj : h.get j = some (fileB f)) (kk : K (fileV f) h) :
    AOp Try.prog ⟨dst, .load 86 x, ty, pos, aft, g⟩ ρ h K := op_loadA (sz := 2) hx rfl hj (Nat.le_refl _) kk
theorem op_buildF {ρ : Operand → Value} {h : Heap} {K : Value → Heap → Prop} {dst : Option Tmp} {ty : TypeId} {pos : String} {aft : Array Edge} {g : Option (Nat × Bool)} (kk : K (fileV ([], [])) h) : AOp Try.prog ⟨dst, .build 86 #[], ty, pos, aft, g⟩ ρ h K :=
  op_buildS (out := [.string (bstr []), .string (bstr [])]) rfl rfl kk
def openF (l : FL) (s : List UInt8) (more : List (List UInt8)) : File := if openE l s more = 0 then fileOf l s else ([], [])
set_option maxHeartbeats 1000000 in
theorem open_c (i m room : Nat) (l : FL) (c : Nat) (s : List UInt8) (mv : Value) (more : List (List UInt8)) (h : Heap) (a : At h i m room l c) (hs : s.length ≤ 4611686018427387904) (hr : RS h mv (sv more)) (hml : ∀ t ∈ more, t.length ≤ 4611686018427387904) (hmn : more.length ≤ 1000000) :
    ACalls Try.prog 42 [ptr i, .string (bstr s), mv] h fun u h' => u = .tuple #[fileV (openF l s more), .int .i64 (openE l s more)] ∧ h' = h := by
  refine ACalls.wf fun wf => ACalls.resetB ?_
  refine ACalls.body Try.func42 rfl rfl ?_
  have fin : ∀ {f : File} {e : Int}, openE l s more = e → (if e = 0 then fileOf l s else ([], [])) = f → (.tuple #[fileV f, .int .i64 e] : Value) = .tuple #[fileV (openF l s more), .int .i64 (openE l s more)] := by
    intro f e h1 h2
    unfold openF
    rw [h1, h2]
  have hx1 := wf.ext (fileB ([], []))
  have wf1 := wf.alloc (fileB ([], []))
  have g1 := Heap.alloc_new h (fileB ([], []))
  have hn1 : (h.alloc (fileB ([], []))).next = h.next + 1 := rfl
  repeat (first | refine AL.nil ?_ | refine AWp.seq ?_ | refine AWp.region ?_ | refine AL.set rfl rfl (op_moveP rfl ?_) | refine AL.set rfl rfl (op_assignI rfl ?_) | refine AL.set rfl rfl (op_allocF ?_))
  generalize h.alloc (fileB ([], [])) = H1 at hx1 wf1 g1 hn1 ⊢
  have a1 : At H1 i m room l c := ⟨hx1.c _ _ a.box, hx1.o _ _ a.map, a.ok, a.big⟩
  repeat (first | refine AL.nil ?_ | refine AWp.seq ?_ | refine AWp.region ?_ | refine AWp.condF rfl ?_ | refine AWp.skip ?_ | refine AL.set rfl rfl (op_moveStr rfl ?_) | refine AL.set rfl rfl (op_callS rfl rfl (on_c i _ _ _ H1 a1.box) ?_) | refine AL.set rfl rfl (op_row [.string (bstr s)] rfl rfl rfl rfl (by intro u hu; simp only [List.mem_cons, List.not_mem_nil, or_false] at hu; rw [hu]; rfl) ?_) | refine AL.set rfl rfl (op_not rfl ?_))
  have hx2 := wf1.ext ⟨[.string (bstr s)], 9, true⟩
  have wf2 := wf1.alloc ⟨[.string (bstr s)], 9, true⟩
  have r2 : RS (H1.alloc ⟨[.string (bstr s)], 9, true⟩) (.slice (some ⟨H1.next, 0, some 1⟩) 1 1) (sv [s]) := RS.own (Heap.alloc_new _ _) rfl
  have hn2 : (H1.alloc ⟨[.string (bstr s)], 9, true⟩).next = H1.next + 1 := rfl
  generalize H1.alloc ⟨[.string (bstr s)], 9, true⟩ = H2 at hx2 wf2 r2 hn2 ⊢
  have a2 : At H2 i m room l c := ⟨hx2.c _ _ a1.box, hx2.o _ _ a1.map, a.ok, a.big⟩
  have g2 := hx2.c _ _ g1
  have hx := hx1.trans hx2
  have cg := good_c _ [s] H2 r2 (by intro t ht; rw [List.mem_singleton.1 ht]; exact hs) (by simp)
  have cm := good_c mv more H2 (hr.ext hx) hml hmn
  have e1 : [s].all goodN = goodN s := by simp
  rw [e1] at cg
  have two : openE l s more = 2 → AWp Try.prog Try.f42.ntmps (.skip) (fun _ _ _ => True) [] H2 → True := fun _ _ => trivial
  clear two
  cases hg : goodN s with
  | false =>
    have hE : openE l s more = 2 := by unfold openE; rw [hg]; rfl
    rw [hg] at cg
    repeat (first | refine AL.nil ?_ | refine AL.skip rfl rfl ?_ | refine AWp.seq ?_ | refine AWp.region ?_ | refine AWp.condT rfl ?_ | refine AL.set rfl rfl (op_moveB rfl ?_) | refine AL.set rfl rfl (op_callS rfl rfl cg ?_) | refine AL.set rfl rfl (op_pick (v := .bool true) rfl rfl ?_) | refine AL.set rfl rfl (op_buildF ?_) | refine AL.set rfl rfl (op_not rfl ?_))
    refine AL.eff rfl (op_storeF ([], []) ([], []) rfl rfl g2 ?_)
    have hx3 := wf.ext_set hx (Nat.le_refl _) (fileB ([], []))
    have g3 := Heap.set_at H2 h.next (fileB ([], []))
    generalize H2.set h.next (fileB ([], [])) = H3 at hx3 g3 ⊢
    repeat (first | refine AL.nil ?_ | refine AWp.ret ?_ | refine AL.set rfl rfl (op_assignI rfl ?_))
    exact ⟨_, ResV.cell2 rfl rfl rfl g3 (Nat.le_refl _), Bdd.pair (fileV_bdd _ ([], [])) (Bdd.plain rfl) (fileV_plain ([], [])) rfl, hx3, fin hE rfl, rfl⟩
  | true =>
    rw [hg] at cg
    cases hm : more.all goodN with
    | false =>
      have hE : openE l s more = 2 := by unfold openE; rw [hg, hm]; rfl
      rw [hm] at cm
      repeat (first | refine AL.nil ?_ | refine AWp.seq ?_ | refine AWp.region ?_ | refine AWp.condT rfl ?_ | refine AL.set rfl rfl (op_moveB rfl ?_) | refine AL.set rfl rfl (op_callS rfl rfl cg ?_) | refine AL.set rfl rfl (op_callS rfl rfl cm ?_) | refine AL.set rfl rfl (op_pick (v := .bool true) rfl rfl ?_) | refine AL.set rfl rfl (op_buildF ?_) | refine AL.set rfl rfl (op_not rfl ?_) | refine AL.set rfl rfl (op_move (by conv => lhs; whnf) ?_))
      refine AL.eff rfl (op_storeF ([], []) ([], []) rfl rfl g2 ?_)
      have hx3 := wf.ext_set hx (Nat.le_refl _) (fileB ([], []))
      have g3 := Heap.set_at H2 h.next (fileB ([], []))
      generalize H2.set h.next (fileB ([], [])) = H3 at hx3 g3 ⊢
      repeat (first | refine AL.nil ?_ | refine AWp.ret ?_ | refine AL.set rfl rfl (op_assignI rfl ?_))
      exact ⟨_, ResV.cell2 rfl rfl rfl g3 (Nat.le_refl _), Bdd.pair (fileV_bdd _ ([], [])) (Bdd.plain rfl) (fileV_plain ([], [])) rfl, hx3, fin hE rfl, rfl⟩
    | true =>
      rw [hm] at cm
      repeat (first | refine AL.nil ?_ | refine AWp.seq ?_ | refine AWp.region ?_ | refine AWp.condF rfl ?_ | refine AWp.skip ?_ | refine AL.set rfl rfl (op_moveB rfl ?_) | refine AL.set rfl rfl (op_moveP rfl ?_) | refine AL.set rfl rfl (op_moveStr rfl ?_) | refine AL.set rfl rfl (op_moveT rfl ?_) | refine AL.set rfl rfl (op_callS rfl rfl cg ?_) | refine AL.set rfl rfl (op_callS rfl rfl cm ?_) | refine AL.set rfl rfl (op_pick (v := .bool false) rfl rfl ?_) | refine AL.set rfl rfl (op_nilCheck rfl ?_) | refine AL.set rfl rfl (op_fa rfl ?_) | refine AL.set rfl rfl (op_load rfl rfl a2.box rfl ?_) | refine AL.set rfl rfl (op_lookupFOk rfl rfl a2.map ?_) | refine AL.set rfl rfl (op_extract rfl rfl ?_) | refine AL.set rfl rfl (op_allocF ?_) | refine AL.set rfl rfl (op_not rfl ?_) | refine AL.set rfl rfl (op_move (by conv => lhs; whnf) ?_))
      have hx4 := wf2.ext (fileB ([], []))
      have wf4 := wf2.alloc (fileB ([], []))
      have g4 := Heap.alloc_new H2 (fileB ([], []))
      have hn4 : (H2.alloc (fileB ([], []))).next = H2.next + 1 := rfl
      have g5 := hx4.c _ _ g2
      have hx5 := hx.trans hx4
      generalize H2.alloc (fileB ([], [])) = H4 at hx4 wf4 g4 hn4 g5 hx5 ⊢
      refine AL.eff rfl (op_storeF ([], []) (fileOf l s) rfl rfl g4 ?_)
      have hx6 := wf.ext_set hx5 (show h.next ≤ H2.next by omega) (fileB (fileOf l s))
      have g6 := Heap.set_at H4 H2.next (fileB (fileOf l s))
      have g7 : (H4.set H2.next (fileB (fileOf l s))).get h.next = some (fileB ([], [])) := by rw [Heap.set_other (by omega)]; exact g5
      generalize H4.set H2.next (fileB (fileOf l s)) = H6 at hx6 g6 g7 ⊢
      cases hh : hasS l s with
      | false =>
        have hE : openE l s more = 6 := by unfold openE; rw [hg, hm, hh]; rfl
        repeat (first | refine AL.nil ?_ | refine AWp.seq ?_ | refine AWp.region ?_ | refine AWp.condT rfl ?_ | refine AL.set rfl rfl (op_moveB rfl ?_) | refine AL.set rfl rfl (op_assignB rfl ?_) | refine AL.set rfl rfl (op_buildF ?_) | refine AL.set rfl rfl (op_not rfl ?_))
        refine AL.eff rfl (op_storeF ([], []) ([], []) rfl rfl g7 ?_)
        have hx3 := wf.ext_set hx6 (Nat.le_refl _) (fileB ([], []))
        have g3 := Heap.set_at H6 h.next (fileB ([], []))
        generalize H6.set h.next (fileB ([], [])) = H3 at hx3 g3 ⊢
        repeat (first | refine AL.nil ?_ | refine AWp.ret ?_ | refine AL.set rfl rfl (op_assignI rfl ?_))
        exact ⟨_, ResV.cell2 rfl rfl rfl g3 (Nat.le_refl _), Bdd.pair (fileV_bdd _ ([], [])) (Bdd.plain rfl) (fileV_plain ([], [])) rfl, hx3, fin hE rfl, rfl⟩
      | true =>
        have hE : openE l s more = 0 := by unfold openE; rw [hg, hm, hh]; rfl
        repeat (first | refine AL.nil ?_ | refine AWp.seq ?_ | refine AWp.region ?_ | refine AWp.condF rfl ?_ | refine AWp.skip ?_ | refine AL.set rfl rfl (op_moveB rfl ?_) | refine AL.set rfl rfl (op_assignB rfl ?_) | refine AL.set rfl rfl (op_loadF rfl g6 ?_) | refine AL.set rfl rfl (op_not rfl ?_))
        refine AL.eff rfl (op_storeF ([], []) (fileOf l s) rfl rfl g7 ?_)
        have hx3 := wf.ext_set hx6 (Nat.le_refl _) (fileB (fileOf l s))
        have g3 := Heap.set_at H6 h.next (fileB (fileOf l s))
        generalize H6.set h.next (fileB (fileOf l s)) = H3 at hx3 g3 ⊢
        repeat (first | refine AL.nil ?_ | refine AWp.ret ?_ | refine AL.set rfl rfl (op_assignI rfl ?_))
        exact ⟨_, ResV.cell2 rfl rfl rfl g3 (Nat.le_refl _), Bdd.pair (fileV_bdd _ (fileOf l s)) (Bdd.plain rfl) (fileV_plain (fileOf l s)) rfl, hx3, fin hE rfl, rfl⟩
end Go.Proofs.Ytiebmncpdnbcjaa

/-
  Disks: what is written, synced, taken away, given another name; what is read.
-/
namespace Go.Proofs.Ytiebmncpdnbcjaa
open Go Go.Eng Go.Dsk
attribute [local irreducible] AWp AL DAL AOp

instance : FnC Try.prog 43 := ⟨Try.f43, Try.func43, by kernel_rfl, by kernel_rfl⟩
instance : FnC Try.prog 16 := ⟨Try.f16, Try.func16, by kernel_rfl, by kernel_rfl⟩
instance : FnC Try.prog 17 := ⟨Try.f17, Try.func17, by kernel_rfl, by kernel_rfl⟩
instance : FnC Try.prog 25 := ⟨Try.f25, Try.func25, by kernel_rfl, by kernel_rfl⟩
instance : FnC Try.prog 29 := ⟨Try.f29, Try.func29, by kernel_rfl, by kernel_rfl⟩
instance : FnC Try.prog 20 := ⟨Try.f20, Try.func20, by kernel_rfl, by kernel_rfl⟩
instance : FnC Try.prog 30 := ⟨Try.f30, Try.func30, by kernel_rfl, by kernel_rfl⟩
theorem st_same {h : Heap} {i m room : Nat} {l : FL} {c : Nat} (a : At h i m room l c) : stD h i m room l c = h := by
  have e1 : h.set i (dskB room (used l : Nat) (some m)) = h := by
    unfold Heap.set
    congr 1
    funext j
    by_cases hj : j = i
    · subst hj; rw [if_pos rfl, a.box]
    · rw [if_neg hj]
  unfold stD
  rw [e1]
  unfold Heap.setO
  congr 1
  funext j
  by_cases hj : j = m
  · subst hj; rw [if_pos rfl, a.map]
  · rw [if_neg hj]
abbrev ptrB (i : Nat) : Blk := ⟨[ptr i], 26, true⟩
abbrev errB (e : Int) : Blk := ⟨[.int .i64 e], 32, true⟩
set_option maxHeartbeats 2000000 in
theorem append1_c (j0 j1 j2 i m room : Nat) (l : FL) (c : Nat) (e : Int) (v : Value) (b : List UInt8) (h : Heap) (a : At h i m room l c) (g0 : h.get j0 = some (errB e)) (g1 : h.get j1 = some (ptrB i)) (g2 : h.get j2 = some ⟨[v], 23, true⟩) (hr : RB h v b) (hb : b.length ≤ 4611686018427387904) :
    ACalls Try.prog 43 [ptr j0, ptr j1, ptr j2] h fun u h' => u = .bool ((decide (e = 6) && decide (128 ≤ l.length)) || decide (room < used l + b.length)) ∧ h' = h := by
  refine ACalls.body Try.func43 rfl rfl ?_
  have hul := a.ok.used
  have hbig := a.big
  have hlen := a.ok.cnt
  have hkl := kvF_length l
  have hlm : ∀ {h' : Heap} {K : Value → Heap → Prop} {ρ : Operand → Value} {x : Operand} {dst : Option Tmp} {ty : TypeId} {pos : String} {aft : Array Edge} {g : Option (Nat × Bool)}, Ext h h' → ρ x = .map (some m) → K (.int .i64 (l.length : Nat)) h' → AOp Try.prog ⟨dst, .call ⟨.builtin .len, #[x], #[78]⟩, ty, pos, aft, g⟩ ρ h' K := by
    intro h' K ρ x dst ty pos aft g hx' hx kk
    refine op_lenMap hx (hx'.o _ _ a.map) ?_
    rw [hkl]; exact kk
  by_cases h6 : e = 6
  · by_cases h8 : 128 ≤ l.length
    · rw [decide_eq_true h6, decide_eq_true h8]
      repeat (first | refine AL.nil ?_ | refine AWp.seq ?_ | refine AWp.region ?_ | refine AL.set rfl rfl (op_assignB rfl ?_))
      refine AWp.draw (σ := [(0, .R), (1, .R), (2, .R), (3, .R), (4, .R), (5, .R), (6, .R), (7, .R), (8, .R), (9, .R), (10, .R), (11, .R), (12, .R), (13, .R), (14, .R), (15, .R), (16, .R), (17, .R), (18, .R), (19, .R), (20, .R), (21, .R), (22, .R), (23, .R), (24, .R)]) mixed (by kernel_rfl) ?_
      repeat (first | refine DAL.r rfl rfl rfl (fun h' hx hn => op_moveB rfl ⟨rfl, rfl⟩) ?_ | refine DAL.r rfl rfl rfl (fun h' hx hn => op_assignB rfl ⟨rfl, rfl⟩) ?_ | refine DAL.r rfl rfl rfl (fun h' hx hn => op_load rfl rfl (hx.c _ _ g0) rfl ⟨rfl, rfl⟩) ?_ | refine DAL.r rfl rfl rfl (fun h' hx hn => op_load rfl rfl (hx.c _ _ g1) rfl ⟨rfl, rfl⟩) ?_ | refine DAL.r rfl rfl rfl (fun h' hx hn => op_load rfl rfl (hx.c _ _ a.box) rfl ⟨rfl, rfl⟩) ?_ | refine DAL.r rfl rfl rfl (fun h' hx hn => op_nilCheck rfl ⟨rfl, rfl⟩) ?_ | refine DAL.r rfl rfl rfl (fun h' hx hn => op_fa rfl ⟨rfl, rfl⟩) ?_ | refine DAL.r rfl rfl rfl (fun h' hx hn => hlm hx rfl ⟨rfl, rfl⟩) ?_ | refine DAL.r rfl rfl rfl (fun h' hx hn => op_intT rfl rfl rfl (by omega) ⟨rfl, rfl⟩) ?_ | refine DAL.r rfl rfl rfl (fun h' hx hn => op_pick (v := .bool true) rfl rfl ⟨rfl, rfl⟩) ?_ | refine DAL.skip rfl rfl rfl ?_)
      refine DAL.nil ?_
      repeat (first | refine AWp.ret ?_)
      exact ⟨_, ResV.tmp rfl, rfl, rfl⟩
    · rw [decide_eq_true h6, decide_eq_false h8]
      by_cases h9 : room < used l + b.length
      · rw [decide_eq_true h9]
        repeat (first | refine AL.nil ?_ | refine AWp.seq ?_ | refine AWp.region ?_ | refine AL.set rfl rfl (op_assignB rfl ?_))
        refine AWp.draw (σ := [(0, .R), (1, .R), (2, .R), (3, .R), (4, .R), (5, .R), (6, .R), (7, .R), (8, .R), (9, .R), (10, .R), (11, .R), (12, .R), (13, .R), (14, .R), (15, .R), (16, .R), (17, .R), (18, .R), (19, .R), (20, .R), (21, .R), (22, .R), (23, .R), (24, .R)]) mixed (by kernel_rfl) ?_
        repeat (first | refine DAL.r rfl rfl rfl (fun h' hx hn => op_moveB rfl ⟨rfl, rfl⟩) ?_ | refine DAL.r rfl rfl rfl (fun h' hx hn => op_assignB rfl ⟨rfl, rfl⟩) ?_ | refine DAL.r rfl rfl rfl (fun h' hx hn => op_load rfl rfl (hx.c _ _ g0) rfl ⟨rfl, rfl⟩) ?_ | refine DAL.r rfl rfl rfl (fun h' hx hn => op_load rfl rfl (hx.c _ _ g1) rfl ⟨rfl, rfl⟩) ?_ | refine DAL.r rfl rfl rfl (fun h' hx hn => op_load rfl rfl (hx.c _ _ g2) rfl ⟨rfl, rfl⟩) ?_ | refine DAL.r rfl rfl rfl (fun h' hx hn => op_load rfl rfl (hx.c _ _ a.box) rfl ⟨rfl, rfl⟩) ?_ | refine DAL.r rfl rfl rfl (fun h' hx hn => op_nilCheck rfl ⟨rfl, rfl⟩) ?_ | refine DAL.r rfl rfl rfl (fun h' hx hn => op_fa rfl ⟨rfl, rfl⟩) ?_ | refine DAL.r rfl rfl rfl (fun h' hx hn => hlm hx rfl ⟨rfl, rfl⟩) ?_ | refine DAL.r rfl rfl rfl (fun h' hx hn => op_lenRB (hr.ext hx) rfl ⟨rfl, rfl⟩) ?_ | refine DAL.r rfl rfl rfl (fun h' hx hn => op_intT rfl rfl rfl (by omega) ⟨rfl, rfl⟩) ?_ | refine DAL.r rfl rfl rfl (fun h' hx hn => op_intF rfl rfl rfl (by omega) ⟨rfl, rfl⟩) ?_ | refine DAL.r rfl rfl rfl (fun h' hx hn => op_pick (v := .bool true) rfl rfl ⟨rfl, rfl⟩) ?_ | refine DAL.r rfl rfl rfl (fun h' hx hn => op_pick (v := .bool false) rfl rfl ⟨rfl, rfl⟩) ?_ | refine DAL.r rfl rfl rfl (fun h' hx hn => op_sub64 rfl rfl (by omega) ⟨rfl, rfl⟩) ?_)
        refine DAL.nil ?_
        repeat (first | refine AWp.ret ?_)
        exact ⟨_, ResV.tmp rfl, rfl, rfl⟩
      · rw [decide_eq_false h9]
        repeat (first | refine AL.nil ?_ | refine AWp.seq ?_ | refine AWp.region ?_ | refine AL.set rfl rfl (op_assignB rfl ?_))
        refine AWp.draw (σ := [(0, .R), (1, .R), (2, .R), (3, .R), (4, .R), (5, .R), (6, .R), (7, .R), (8, .R), (9, .R), (10, .R), (11, .R), (12, .R), (13, .R), (14, .R), (15, .R), (16, .R), (17, .R), (18, .R), (19, .R), (20, .R), (21, .R), (22, .R), (23, .R), (24, .R)]) mixed (by kernel_rfl) ?_
        repeat (first | refine DAL.r rfl rfl rfl (fun h' hx hn => op_moveB rfl ⟨rfl, rfl⟩) ?_ | refine DAL.r rfl rfl rfl (fun h' hx hn => op_assignB rfl ⟨rfl, rfl⟩) ?_ | refine DAL.r rfl rfl rfl (fun h' hx hn => op_load rfl rfl (hx.c _ _ g0) rfl ⟨rfl, rfl⟩) ?_ | refine DAL.r rfl rfl rfl (fun h' hx hn => op_load rfl rfl (hx.c _ _ g1) rfl ⟨rfl, rfl⟩) ?_ | refine DAL.r rfl rfl rfl (fun h' hx hn => op_load rfl rfl (hx.c _ _ g2) rfl ⟨rfl, rfl⟩) ?_ | refine DAL.r rfl rfl rfl (fun h' hx hn => op_load rfl rfl (hx.c _ _ a.box) rfl ⟨rfl, rfl⟩) ?_ | refine DAL.r rfl rfl rfl (fun h' hx hn => op_nilCheck rfl ⟨rfl, rfl⟩) ?_ | refine DAL.r rfl rfl rfl (fun h' hx hn => op_fa rfl ⟨rfl, rfl⟩) ?_ | refine DAL.r rfl rfl rfl (fun h' hx hn => hlm hx rfl ⟨rfl, rfl⟩) ?_ | refine DAL.r rfl rfl rfl (fun h' hx hn => op_lenRB (hr.ext hx) rfl ⟨rfl, rfl⟩) ?_ | refine DAL.r rfl rfl rfl (fun h' hx hn => op_intT rfl rfl rfl (by omega) ⟨rfl, rfl⟩) ?_ | refine DAL.r rfl rfl rfl (fun h' hx hn => op_intF rfl rfl rfl (by omega) ⟨rfl, rfl⟩) ?_ | refine DAL.r rfl rfl rfl (fun h' hx hn => op_pick (v := .bool false) rfl rfl ⟨rfl, rfl⟩) ?_ | refine DAL.r rfl rfl rfl (fun h' hx hn => op_sub64 rfl rfl (by omega) ⟨rfl, rfl⟩) ?_)
        refine DAL.nil ?_
        repeat (first | refine AWp.ret ?_)
        exact ⟨_, ResV.tmp rfl, rfl, rfl⟩
  · rw [decide_eq_false h6]
    by_cases h9 : room < used l + b.length
    · rw [decide_eq_true h9]
      repeat (first | refine AL.nil ?_ | refine AWp.seq ?_ | refine AWp.region ?_ | refine AL.set rfl rfl (op_assignB rfl ?_))
      refine AWp.draw (σ := [(0, .R), (1, .R), (2, .R), (3, .R), (4, .R), (5, .R), (6, .R), (7, .R), (8, .R), (9, .R), (10, .R), (11, .R), (12, .R), (13, .R), (14, .R), (15, .R), (16, .R), (17, .R), (18, .R), (19, .R), (20, .R), (21, .R), (22, .R), (23, .R), (24, .R)]) mixed (by kernel_rfl) ?_
      repeat (first | refine DAL.r rfl rfl rfl (fun h' hx hn => op_moveB rfl ⟨rfl, rfl⟩) ?_ | refine DAL.r rfl rfl rfl (fun h' hx hn => op_assignB rfl ⟨rfl, rfl⟩) ?_ | refine DAL.r rfl rfl rfl (fun h' hx hn => op_load rfl rfl (hx.c _ _ g0) rfl ⟨rfl, rfl⟩) ?_ | refine DAL.r rfl rfl rfl (fun h' hx hn => op_load rfl rfl (hx.c _ _ g1) rfl ⟨rfl, rfl⟩) ?_ | refine DAL.r rfl rfl rfl (fun h' hx hn => op_load rfl rfl (hx.c _ _ g2) rfl ⟨rfl, rfl⟩) ?_ | refine DAL.r rfl rfl rfl (fun h' hx hn => op_load rfl rfl (hx.c _ _ a.box) rfl ⟨rfl, rfl⟩) ?_ | refine DAL.r rfl rfl rfl (fun h' hx hn => op_nilCheck rfl ⟨rfl, rfl⟩) ?_ | refine DAL.r rfl rfl rfl (fun h' hx hn => op_fa rfl ⟨rfl, rfl⟩) ?_ | refine DAL.r rfl rfl rfl (fun h' hx hn => op_lenRB (hr.ext hx) rfl ⟨rfl, rfl⟩) ?_ | refine DAL.r rfl rfl rfl (fun h' hx hn => op_intT rfl rfl rfl (by omega) ⟨rfl, rfl⟩) ?_ | refine DAL.r rfl rfl rfl (fun h' hx hn => op_intF rfl rfl rfl (by omega) ⟨rfl, rfl⟩) ?_ | refine DAL.r rfl rfl rfl (fun h' hx hn => op_pick (v := .bool true) rfl rfl ⟨rfl, rfl⟩) ?_ | refine DAL.r rfl rfl rfl (fun h' hx hn => op_pick (v := .bool false) rfl rfl ⟨rfl, rfl⟩) ?_ | refine DAL.r rfl rfl rfl (fun h' hx hn => op_sub64 rfl rfl (by omega) ⟨rfl, rfl⟩) ?_ | refine DAL.skip rfl rfl rfl ?_)
      refine DAL.nil ?_
      repeat (first | refine AWp.ret ?_)
      exact ⟨_, ResV.tmp rfl, rfl, rfl⟩
    · rw [decide_eq_false h9]
      repeat (first | refine AL.nil ?_ | refine AWp.seq ?_ | refine AWp.region ?_ | refine AL.set rfl rfl (op_assignB rfl ?_))
      refine AWp.draw (σ := [(0, .R), (1, .R), (2, .R), (3, .R), (4, .R), (5, .R), (6, .R), (7, .R), (8, .R), (9, .R), (10, .R), (11, .R), (12, .R), (13, .R), (14, .R), (15, .R), (16, .R), (17, .R), (18, .R), (19, .R), (20, .R), (21, .R), (22, .R), (23, .R), (24, .R)]) mixed (by kernel_rfl) ?_
      repeat (first | refine DAL.r rfl rfl rfl (fun h' hx hn => op_moveB rfl ⟨rfl, rfl⟩) ?_ | refine DAL.r rfl rfl rfl (fun h' hx hn => op_assignB rfl ⟨rfl, rfl⟩) ?_ | refine DAL.r rfl rfl rfl (fun h' hx hn => op_load rfl rfl (hx.c _ _ g0) rfl ⟨rfl, rfl⟩) ?_ | refine DAL.r rfl rfl rfl (fun h' hx hn => op_load rfl rfl (hx.c _ _ g1) rfl ⟨rfl, rfl⟩) ?_ | refine DAL.r rfl rfl rfl (fun h' hx hn => op_load rfl rfl (hx.c _ _ g2) rfl ⟨rfl, rfl⟩) ?_ | refine DAL.r rfl rfl rfl (fun h' hx hn => op_load rfl rfl (hx.c _ _ a.box) rfl ⟨rfl, rfl⟩) ?_ | refine DAL.r rfl rfl rfl (fun h' hx hn => op_nilCheck rfl ⟨rfl, rfl⟩) ?_ | refine DAL.r rfl rfl rfl (fun h' hx hn => op_fa rfl ⟨rfl, rfl⟩) ?_ | refine DAL.r rfl rfl rfl (fun h' hx hn => op_lenRB (hr.ext hx) rfl ⟨rfl, rfl⟩) ?_ | refine DAL.r rfl rfl rfl (fun h' hx hn => op_intF rfl rfl rfl (by omega) ⟨rfl, rfl⟩) ?_ | refine DAL.r rfl rfl rfl (fun h' hx hn => op_pick (v := .bool false) rfl rfl ⟨rfl, rfl⟩) ?_ | refine DAL.r rfl rfl rfl (fun h' hx hn => op_sub64 rfl rfl (by omega) ⟨rfl, rfl⟩) ?_ | refine DAL.skip rfl rfl rfl ?_)
      refine DAL.nil ?_
      repeat (first | refine AWp.ret ?_)
      exact ⟨_, ResV.tmp rfl, rfl, rfl⟩
end Go.Proofs.Ytiebmncpdnbcjaa

/-
  Disks: what is written.
-/
namespace Go.Proofs.Ytiebmncpdnbcjaa
open Go Go.Eng Go.Dsk
attribute [local irreducible] AWp AL DAL AOp

theorem openE_nil (l : FL) (s : List UInt8) : openE l s [] = if !goodN s then 2 else if hasS l s then 0 else 6 := by unfold openE; simp
set_option maxHeartbeats 4000000 in
theorem append_c (i m room : Nat) (l : FL) (c : Nat) (s : List UInt8) (v : Value) (b : List UInt8) (h : Heap) (a : At h i m room l c) (hs : s.length ≤ 4611686018427387904) (hr : RB h v b) (hb : b.length ≤ 4611686018427387904) :
    ACalls Try.prog 16 [ptr i, .string (bstr s), v] h fun u h' => u = .int .i64 (appE room l s b) ∧ h' = stD h i m room (appL room l c s b) (appC room l c s b) := by
  refine ACalls.wf fun wf => ACalls.resetTo ?_
  refine ACalls.body Try.func16 rfl rfl ?_
  obtain ⟨li, lm⟩ := a.lt wf
  obtain ⟨va, vc, hv⟩ := hr.slice
  have hvc : v.cells.toList = [v] := by rw [hv]; rfl
  have hvu : v ≠ undef := by rw [hv]; intro e; cases e
  have hbig := a.big
  repeat (first | refine AL.nil ?_ | refine AWp.seq ?_ | refine AWp.region ?_ | refine AL.set rfl rfl (op_assignI rfl ?_) | refine AL.set rfl rfl (op_box (v := ptr i) rfl (by intro e; cases e) ?_) | refine AL.set rfl rfl (op_box (v := v) rfl hvu ?_))
  rw [hvc]
  have k2 : Ch i m h ((h.alloc (ptrB i)).alloc ⟨[v], 23, true⟩) := ((Ch.refl wf).alloc _).alloc _
  have x2 : Ext h ((h.alloc (ptrB i)).alloc ⟨[v], 23, true⟩) := (wf.ext _).trans ((wf.alloc _).ext _)
  have p1 : ((h.alloc (ptrB i)).alloc ⟨[v], 23, true⟩).get h.next = some (ptrB i) := Heap.new1 _ _ _
  have p2 : ((h.alloc (ptrB i)).alloc ⟨[v], 23, true⟩).get (h.next + 1) = some ⟨[v], 23, true⟩ := Heap.alloc_new (h.alloc (ptrB i)) _
  have n2 : ((h.alloc (ptrB i)).alloc ⟨[v], 23, true⟩).next = h.next + 2 := rfl
  have hj1 : ∀ {K : Value → Heap → Prop} {ρ : Operand → Value} {x : Operand} {dst : Option Tmp} {ty : TypeId} {pos : String} {aft : Array Edge} {g : Option (Nat × Bool)} {H : Heap}, H.get h.next = some (ptrB i) → ρ x = ptr h.next → K (ptr i) H → AOp Try.prog ⟨dst, .load 26 x, ty, pos, aft, g⟩ ρ H K := fun hg hx kk => op_load hx rfl hg rfl kk
  change AL _ _ _ _ _ ((6, .int .i64 0) :: (5, ptr (h.next + 1)) :: (3, ptr h.next) :: entry [ptr i, .string (bstr s), v]) ((h.alloc (ptrB i)).alloc ⟨[v], 23, true⟩)
  generalize (h.alloc (ptrB i)).alloc ⟨[v], 23, true⟩ = H2 at k2 x2 p1 p2 n2 ⊢
  have a2 : At H2 i m room l c := ⟨x2.c _ _ a.box, x2.o _ _ a.map, a.ok, a.big⟩
  have co := open_c i m room l c s (.slice none 0 0) [] H2 a2 hs (RS.nil _) (by simp) (by simp)
  repeat (first | refine AL.set rfl rfl (op_moveStr rfl ?_) | refine AL.set rfl rfl (op_moveT rfl ?_) | refine AL.set rfl rfl (hj1 p1 rfl ?_) | refine AL.set rfl rfl (op_callS rfl rfl co ?_) | refine AL.set rfl rfl (op_extract rfl rfl ?_) | refine AL.set rfl rfl (op_allocF ?_) | refine AL.set rfl rfl (op_alloc (z := .int .i64 0) ?_))
  have k4 : Ch i m h ((H2.alloc (fileB ([], []))).alloc (errB 0)) := (k2.alloc _).alloc _
  have x4 : Ext H2 ((H2.alloc (fileB ([], []))).alloc (errB 0)) := (k2.wf.ext _).trans ((k2.wf.alloc _).ext _)
  have p3 : ((H2.alloc (fileB ([], []))).alloc (errB 0)).get H2.next = some (fileB ([], [])) := Heap.new1 _ _ _
  have p4 : ((H2.alloc (fileB ([], []))).alloc (errB 0)).get (H2.next + 1) = some (errB 0) := Heap.alloc_new (H2.alloc (fileB ([], []))) _
  have n4 : ((H2.alloc (fileB ([], []))).alloc (errB 0)).next = H2.next + 2 := rfl
  have p1 := x4.c _ _ p1
  have p2 := x4.c _ _ p2
  have y4 := x2.trans x4
  change AL _ _ _ _ _ _ ((H2.alloc (fileB ([], []))).alloc (errB 0))
  generalize (H2.alloc (fileB ([], []))).alloc (errB 0) = H4 at k4 x4 p3 p4 n4 p1 p2 y4 ⊢
  refine AL.eff rfl (op_storeF ([], []) (openF l s []) rfl rfl p3 ?_)
  have k5 : Ch i m h (H4.set H2.next (fileB (openF l s []))) := k4.setG wf (by omega) (by omega) _
  have y5 : Ext h (H4.set H2.next (fileB (openF l s []))) := wf.ext_set y4 (by omega) _
  have q1 : (H4.set H2.next (fileB (openF l s []))).get h.next = some (ptrB i) := by rw [Heap.set_other (by omega)]; exact p1
  have q2 : (H4.set H2.next (fileB (openF l s []))).get (h.next + 1) = some ⟨[v], 23, true⟩ := by rw [Heap.set_other (by omega)]; exact p2
  have q3 : (H4.set H2.next (fileB (openF l s []))).get H2.next = some (fileB (openF l s [])) := Heap.set_at _ _ _
  have q4 : (H4.set H2.next (fileB (openF l s []))).get (H2.next + 1) = some (errB 0) := by rw [Heap.set_other (by omega)]; exact p4
  have n5 : (H4.set H2.next (fileB (openF l s []))).next = H2.next + 2 := n4
  generalize H4.set H2.next (fileB (openF l s [])) = H5 at k5 q1 q2 q3 q4 n5 y5 ⊢
  refine AL.eff rfl (op_store (v := .int .i64 (openE l s [])) rfl rfl rfl q4 rfl Nat.zero_lt_one ?_)
  change AL _ _ _ _ _ _ (H5.set (H2.next + 1) (errB (openE l s [])))
  have k6 : Ch i m h (H5.set (H2.next + 1) (errB (openE l s []))) := k5.setG wf (by omega) (by omega) _
  have y6 : Ext h (H5.set (H2.next + 1) (errB (openE l s []))) := wf.ext_set y5 (by omega) _
  have r1 : (H5.set (H2.next + 1) (errB (openE l s []))).get h.next = some (ptrB i) := by rw [Heap.set_other (by omega)]; exact q1
  have r2 : (H5.set (H2.next + 1) (errB (openE l s []))).get (h.next + 1) = some ⟨[v], 23, true⟩ := by rw [Heap.set_other (by omega)]; exact q2
  have r3 : (H5.set (H2.next + 1) (errB (openE l s []))).get H2.next = some (fileB (openF l s [])) := by rw [Heap.set_other (by omega)]; exact q3
  have r4 : (H5.set (H2.next + 1) (errB (openE l s []))).get (H2.next + 1) = some (errB (openE l s [])) := Heap.set_at _ _ _
  have n6 : (H5.set (H2.next + 1) (errB (openE l s []))).next = H2.next + 2 := n5
  generalize H5.set (H2.next + 1) (errB (openE l s [])) = H6 at k6 r1 r2 r3 r4 n6 y6 ⊢
  have n2' : h.next + 1 < H2.next := by omega
  have x6 : ∀ {H : Heap}, Ext H6 H → RB H v b := by
    intro H hx
    exact (hr.ext y6).ext hx
  have a6 : At H6 i m room l c := ⟨y6.c _ _ a.box, y6.o _ _ a.map, a.ok, a.big⟩
  have hE := openE_nil l s
  -- a name that may not be
  cases hg : goodN s with
  | false =>
    have e1 : appE room l s b = 2 := by unfold appE; rw [hg]; rfl
    have e2 : appL room l c s b = l := by unfold appL; rw [e1]; rfl
    have e3 : appC room l c s b = c := by unfold appC; rw [e1]; rfl
    rw [hg] at hE
    rw [show openE l s [] = 2 from hE] at r4
    rw [e1, e2, e3]
    repeat (first | refine AL.nil ?_ | refine AWp.seq ?_ | refine AWp.region ?_ | refine AWp.condT rfl ?_ | refine AWp.condF rfl ?_ | refine AWp.ret ?_ | refine AWp.block ?_ | refine AL.set rfl rfl (op_assignI rfl ?_) | refine AL.set rfl rfl (op_assignB rfl ?_) | refine AL.set rfl rfl (op_assignF rfl ?_) | refine AL.set rfl rfl (op_makeFunc rfl rfl ?_) | refine AL.set rfl rfl (op_load rfl rfl r4 rfl ?_) | refine AL.set rfl rfl (op_intT rfl rfl rfl (by omega) ?_) | refine AL.set rfl rfl (op_intF rfl rfl rfl (by omega) ?_))
    exact ⟨_, ResV.tmp rfl, Bdd.plain rfl, st_fin a wf k6 a6.box a6.map ⟨rfl, rfl⟩⟩
  | true =>
    rw [hg] at hE
    have hF : openF l s [] = fileOf l s := by
      unfold openF
      rw [hE]
      cases hh : hasS l s with
      | true => rfl
      | false =>
        unfold fileOf
        rw [getS_none.2 hh]
        rfl
    rw [hF] at r3
    obtain ⟨e, he, he2, he3⟩ : ∃ e, openE l s [] = e ∧ (e = 0 ∨ e = 6) ∧ decide (e = 6) = !hasS l s := by
      refine ⟨_, hE, ?_, ?_⟩
      · cases hasS l s with
        | true => exact .inl rfl
        | false => exact .inr rfl
      · cases hasS l s <;> rfl
    rw [he] at r4
    have cf := append1_c (H2.next + 1) h.next (h.next + 1) i m room l c e v b H6 a6 r4 r1 r2 (x6 (Ext.refl _)) hb
    rw [he3] at cf
    have hful : ((!hasS l s && decide (128 ≤ l.length)) || decide (room < used l + b.length)) = fullB room l s b := rfl
    rw [hful] at cf
    cases hf : fullB room l s b with
    | true =>
      have e1 : appE room l s b = 5 := by unfold appE; rw [hg, hf]; rfl
      have e2 : appL room l c s b = l := by unfold appL; rw [e1]; rfl
      have e3 : appC room l c s b = c := by unfold appC; rw [e1]; rfl
      rw [hf] at cf
      rw [e1, e2, e3]
      repeat (first | refine AL.nil ?_ | refine AWp.seq ?_ | refine AWp.region ?_ | refine AWp.condT rfl ?_ | refine AWp.condF rfl ?_ | refine AWp.ret ?_ | refine AWp.block ?_ | refine AL.set rfl rfl (op_moveF rfl ?_) | refine AL.set rfl rfl (op_assignI rfl ?_) | refine AL.set rfl rfl (op_assignB rfl ?_) | refine AL.set rfl rfl (op_assignF rfl ?_) | refine AL.set rfl rfl (op_makeFunc rfl rfl ?_) | refine AL.set rfl rfl (op_load rfl rfl r4 rfl ?_) | refine AL.set rfl rfl (op_intF rfl rfl rfl (by omega) ?_) | refine AL.set rfl rfl (op_callS rfl rfl cf ?_))
      exact ⟨_, ResV.tmp rfl, Bdd.plain rfl, st_fin a wf k6 a6.box a6.map ⟨rfl, rfl⟩⟩
    | false =>
      have e1 : appE room l s b = 0 := by unfold appE; rw [hg, hf]; rfl
      have e2 : appL room l c s b = putD l s ((fileOf l s).1, (fileOf l s).2 ++ b) c := by unfold appL; rw [e1]; rfl
      have e3 : appC room l c s b = c + 1 := by unfold appC; rw [e1]; rfl
      rw [hf] at cf
      rw [e1, e2, e3]
      have hroom : used l + b.length ≤ room := by
        unfold fullB at hf
        simp only [Bool.or_eq_false_iff, decide_eq_false_iff_not] at hf
        omega
      obtain ⟨f1, f2⟩ := fileOf_le a.ok s
      have hud := used_del l s
      repeat (first | refine AL.nil ?_ | refine AWp.seq ?_ | refine AWp.region ?_ | refine AWp.condF rfl ?_ | refine AWp.block ?_ | refine AWp.skip ?_ | refine AL.set rfl rfl (op_moveF rfl ?_) | refine AL.set rfl rfl (op_assignB rfl ?_) | refine AL.set rfl rfl (op_assignF rfl ?_) | refine AL.set rfl rfl (op_makeFunc rfl rfl ?_) | refine AL.set rfl rfl (op_load rfl rfl r4 rfl ?_) | refine AL.set rfl rfl (op_intF rfl rfl rfl (by omega) ?_) | refine AL.set rfl rfl (op_callS rfl rfl cf ?_) | refine AL.set rfl rfl (op_fa rfl ?_) | refine AL.set rfl rfl (op_load rfl rfl r3 rfl ?_) | refine AL.set rfl rfl (op_load rfl rfl r2 rfl ?_) | refine AL.set rfl rfl (op_bytesStrR (x6 (Ext.refl _)) rfl ?_) | refine AL.set rfl rfl (op_sCat rfl rfl (by simp only [maxLen]; omega) ?_))
      refine AL.eff rfl (op_store (v := .string (bstr ((fileOf l s).2 ++ b))) rfl rfl rfl r3 rfl (by show 1 < 2; omega) ?_)
      change AL _ _ _ _ _ _ (H6.set H2.next (fileB ((fileOf l s).1, (fileOf l s).2 ++ b)))
      have k7 : Ch i m h (H6.set H2.next (fileB ((fileOf l s).1, (fileOf l s).2 ++ b))) := k6.setG wf (by omega) (by omega) _
      have s1 : (H6.set H2.next (fileB ((fileOf l s).1, (fileOf l s).2 ++ b))).get h.next = some (ptrB i) := by rw [Heap.set_other (by omega)]; exact r1
      have s3 : (H6.set H2.next (fileB ((fileOf l s).1, (fileOf l s).2 ++ b))).get H2.next = some (fileB ((fileOf l s).1, (fileOf l s).2 ++ b)) := Heap.set_at _ _ _
      have a7 : At (H6.set H2.next (fileB ((fileOf l s).1, (fileOf l s).2 ++ b))) i m room l c := by
        refine ⟨?_, a6.map, a6.ok, a6.big⟩
        rw [Heap.set_other (by omega)]; exact a6.box
      generalize H6.set H2.next (fileB ((fileOf l s).1, (fileOf l s).2 ++ b)) = H7 at k7 s1 s3 a7 ⊢
      have hfit : used (delS l s) + (allF ((fileOf l s).1, (fileOf l s).2 ++ b)).length ≤ room := by
        have : (allF ((fileOf l s).1, (fileOf l s).2 ++ b)).length = (allF (fileOf l s)).length + b.length := by simp [allF]; omega
        rw [this]
        unfold fileOf
        omega
      repeat (first | refine AL.nil ?_ | refine AWp.seq ?_ | refine AWp.region ?_ | refine AL.set rfl rfl (op_moveStr rfl ?_) | refine AL.set rfl rfl (op_load rfl rfl s1 rfl ?_) | refine AL.set rfl rfl (op_loadF rfl s3 ?_))
      refine AL.set rfl rfl (op_call rfl rfl ((put_c i m room l c s ((fileOf l s).1, (fileOf l s).2 ++ b) H7 a7 hfit).mono ?_))
      rintro _ _ ⟨rfl, rfl⟩
      have l7 := a7.lt k7.wf
      have k8 : Ch i m h (stD H7 i m room (putD l s ((fileOf l s).1, (fileOf l s).2 ++ b) c) (c + 1)) := (k7.set l7.1 _).setO (show m < (H7.set i _).next from l7.2) _
      repeat (first | refine AL.nil ?_ | refine AWp.seq ?_ | refine AWp.region ?_ | refine AWp.ret ?_ | refine AL.set rfl rfl (op_assignI rfl ?_))
      exact ⟨_, ResV.tmp rfl, Bdd.plain rfl, st_fin a wf k8 (Heap.set_at _ _ _) (Heap.setO_at _ _ _) ⟨rfl, rfl⟩⟩
end Go.Proofs.Ytiebmncpdnbcjaa

/-
  Disks: what is synced, taken away, given another name; what is read.
-/
namespace Go.Proofs.Ytiebmncpdnbcjaa
open Go Go.Eng Go.Dsk
attribute [local irreducible] AWp AL DAL AOp

theorem Ch.of {i m : Nat} {h H : Heap} (y : Ext h H) (wf : WF H) (n : h.next ≤ H.next) : Ch i m h H := ⟨fun j b e _ => y.c j b e, fun j b e _ => y.o j b e, wf, n⟩
theorem openE_cases {room : Nat} {l : FL} {c : Nat} (d : DOk room l c) (s : List UInt8) (more : List (List UInt8)) : (openE l s more = 0 ∧ hasS l s = true) ∨ (openE l s more ≠ 0 ∧ openF l s more = ([], []) ∧ (more = [] → hasS l s = false)) := by
  unfold openF
  cases hg : goodN s with
  | false =>
    have hE : openE l s more = 2 := by unfold openE; rw [hg]; rfl
    refine .inr ⟨by rw [hE]; decide, by rw [hE]; rfl, fun _ => ?_⟩
    cases hh : hasS l s with
    | false => rfl
    | true =>
      obtain ⟨e, h1, h2⟩ := List.mem_map.1 (has_mem.1 hh)
      have := d.good e h1
      rw [h2, hg] at this
      cases this
  | true =>
    cases hm : more.all goodN with
    | false =>
      have hE : openE l s more = 2 := by unfold openE; rw [hg, hm]; rfl
      refine .inr ⟨by rw [hE]; decide, by rw [hE]; rfl, fun e => ?_⟩
      rw [e] at hm; cases hm
    | true =>
      cases hh : hasS l s with
      | true => exact .inl ⟨by unfold openE; rw [hg, hm, hh]; rfl, rfl⟩
      | false =>
        have hE : openE l s more = 6 := by unfold openE; rw [hg, hm, hh]; rfl
        exact .inr ⟨by rw [hE]; decide, by rw [hE]; rfl, fun _ => rfl⟩
theorem openF_le {room : Nat} {l : FL} {c : Nat} (d : DOk room l c) (s : List UInt8) (more : List (List UInt8)) : (openF l s more).1.length + (openF l s more).2.length ≤ room := by
  unfold openF
  split
  · exact (fileOf_le d s).1
  · exact Nat.zero_le _
def syncL (l : FL) (c : Nat) (s : List UInt8) : FL := if openE l s [] = 0 then putD l s (allF (fileOf l s), []) c else l
def syncC (l : FL) (c : Nat) (s : List UInt8) : Nat := if openE l s [] = 0 then c + 1 else c
theorem sync_fit {room : Nat} {l : FL} {c : Nat} (d : DOk room l c) (s : List UInt8) : used (delS l s) + (allF (allF (fileOf l s), [])).length ≤ room := by
  have h1 := used_del l s
  have h2 := d.used
  have h3 : (allF (allF (fileOf l s), [])).length = (allF (fileOf l s)).length := by simp [allF]
  unfold fileOf at h3 ⊢
  omega
set_option maxHeartbeats 1000000 in
theorem sync_c (i m room : Nat) (l : FL) (c : Nat) (s : List UInt8) (h : Heap) (a : At h i m room l c) (hs : s.length ≤ 4611686018427387904) :
    ACalls Try.prog 17 [ptr i, .string (bstr s)] h fun u h' => u = .int .i64 (openE l s []) ∧ h' = stD h i m room (syncL l c s) (syncC l c s) := by
  refine ACalls.wf fun wf => ACalls.resetTo ?_
  refine ACalls.body Try.func17 rfl rfl ?_
  obtain ⟨li, lm⟩ := a.lt wf
  have hbig := a.big
  have co := open_c i m room l c s (.slice none 0 0) [] h a hs (RS.nil _) (by simp) (by simp)
  repeat (first | refine AL.nil ?_ | refine AWp.seq ?_ | refine AWp.region ?_ | refine AL.set rfl rfl (op_moveP rfl ?_) | refine AL.set rfl rfl (op_moveStr rfl ?_) | refine AL.set rfl rfl (op_moveT rfl ?_) | refine AL.set rfl rfl (op_assignI rfl ?_) | refine AL.set rfl rfl (op_callS rfl rfl co ?_) | refine AL.set rfl rfl (op_extract rfl rfl ?_) | refine AL.set rfl rfl (op_allocF ?_))
  refine AL.eff rfl (op_storeF ([], []) (openF l s []) rfl rfl (Heap.alloc_new _ _) ?_)
  refine AL.heap (Heap.set_alloc _ _ _) ?_
  have y1 := wf.ext (fileB (openF l s []))
  have wf1 := wf.alloc (fileB (openF l s []))
  have g1 := Heap.alloc_new h (fileB (openF l s []))
  have n1 : (h.alloc (fileB (openF l s []))).next = h.next + 1 := rfl
  generalize h.alloc (fileB (openF l s [])) = H1 at y1 wf1 g1 n1 ⊢
  have k1 : Ch i m h H1 := Ch.of y1 wf1 (by omega)
  have a1 : At H1 i m room l c := ⟨y1.c _ _ a.box, y1.o _ _ a.map, a.ok, a.big⟩
  obtain ⟨li1, lm1⟩ := a1.lt wf1
  rcases openE_cases a.ok s [] with ⟨hE, hh⟩ | ⟨hE, hF, hh⟩
  · have e2 : syncL l c s = putD l s (allF (fileOf l s), []) c := if_pos hE
    have e3 : syncC l c s = c + 1 := if_pos hE
    have hF : openF l s [] = fileOf l s := if_pos hE
    obtain ⟨f1, f2⟩ := fileOf_le a.ok s
    rw [hF] at g1
    rw [e2, e3, hE]
    have hbf : ∀ {K : Value → Heap → Prop} {ρ : Operand → Value} {x : Operand} {dst : Option Tmp} {ty : TypeId} {pos : String} {aft : Array Edge} {g : Option (Nat × Bool)}, ρ x = .string (bstr (allF (fileOf l s))) → K (fileV (allF (fileOf l s), [])) H1 → AOp Try.prog ⟨dst, .build 86 #[(0, x)], ty, pos, aft, g⟩ ρ H1 K := by
      intro K ρ x dst ty pos aft g hx kk
      exact op_buildS (out := [.string (bstr (allF (fileOf l s))), .string (bstr [])]) (by simp only [List.all_cons, List.all_nil, hx, nuB, Bool.and_self]) (by simp only [List.map_cons, List.map_nil, hx]; rfl) kk
    repeat (first | refine AL.nil ?_ | refine AWp.seq ?_ | refine AWp.region ?_ | refine AWp.condT rfl ?_ | refine AL.set rfl rfl (op_moveI rfl ?_) | refine AL.set rfl rfl (op_moveP rfl ?_) | refine AL.set rfl rfl (op_moveStr rfl ?_) | refine AL.set rfl rfl (op_assignI rfl ?_) | refine AL.set rfl rfl (op_intT rfl rfl rfl (by omega) ?_) | refine AL.set rfl rfl (op_loadF rfl g1 ?_) | refine AL.set rfl rfl (op_callS rfl rfl (all_c (fileOf l s) H1 (by omega)) ?_) | refine AL.set rfl rfl (hbf rfl ?_))
    refine AL.set rfl rfl (op_call rfl rfl ((put_c i m room l c s (allF (fileOf l s), []) H1 a1 (sync_fit a.ok s)).mono ?_))
    rintro _ _ ⟨rfl, rfl⟩
    have k2 : Ch i m h (stD H1 i m room (putD l s (allF (fileOf l s), []) c) (c + 1)) := (k1.set li1 _).setO (show m < (H1.set i _).next from lm1) _
    repeat (first | refine AL.nil ?_ | refine AWp.seq ?_ | refine AWp.region ?_ | refine AWp.ret ?_ | refine AL.set rfl rfl (op_moveI rfl ?_) | refine AL.set rfl rfl (op_assignI rfl ?_))
    exact ⟨_, ResV.tmp rfl, Bdd.plain rfl, st_fin a wf k2 (Heap.set_at _ _ _) (Heap.setO_at _ _ _) ⟨rfl, rfl⟩⟩
  · have e2 : syncL l c s = l := if_neg hE
    have e3 : syncC l c s = c := if_neg hE
    rw [e2, e3]
    repeat (first | refine AL.nil ?_ | refine AWp.seq ?_ | refine AWp.region ?_ | refine AWp.condF rfl ?_ | refine AWp.ret ?_ | refine AWp.skip ?_ | refine AL.set rfl rfl (op_moveI rfl ?_) | refine AL.set rfl rfl (op_assignI rfl ?_) | refine AL.set rfl rfl (op_intF rfl rfl rfl (by omega) ?_))
    exact ⟨_, ResV.tmp rfl, Bdd.plain rfl, st_fin a wf k1 a1.box a1.map ⟨rfl, rfl⟩⟩
set_option maxHeartbeats 1000000 in
theorem remove_c (i m room : Nat) (l : FL) (c : Nat) (s : List UInt8) (h : Heap) (a : At h i m room l c) (hs : s.length ≤ 4611686018427387904) :
    ACalls Try.prog 25 [ptr i, .string (bstr s)] h fun u h' => u = .int .i64 (openE l s []) ∧ h' = stD h i m room (delS l s) c := by
  refine ACalls.wf fun wf => ACalls.resetTo ?_
  refine ACalls.body Try.func25 rfl rfl ?_
  obtain ⟨li, lm⟩ := a.lt wf
  have co := open_c i m room l c s (.slice none 0 0) [] h a hs (RS.nil _) (by simp) (by simp)
  repeat (first | refine AL.nil ?_ | refine AWp.seq ?_ | refine AWp.region ?_ | refine AL.set rfl rfl (op_moveP rfl ?_) | refine AL.set rfl rfl (op_moveStr rfl ?_) | refine AL.set rfl rfl (op_moveT rfl ?_) | refine AL.set rfl rfl (op_assignI rfl ?_) | refine AL.set rfl rfl (op_callS rfl rfl co ?_) | refine AL.set rfl rfl (op_extract rfl rfl ?_) | refine AL.set rfl rfl (op_allocF ?_))
  refine AL.eff rfl (op_storeF ([], []) (openF l s []) rfl rfl (Heap.alloc_new _ _) ?_)
  refine AL.heap (Heap.set_alloc _ _ _) ?_
  have y1 := wf.ext (fileB (openF l s []))
  have wf1 := wf.alloc (fileB (openF l s []))
  have n1 : (h.alloc (fileB (openF l s []))).next = h.next + 1 := rfl
  generalize h.alloc (fileB (openF l s [])) = H1 at y1 wf1 n1 ⊢
  have k1 : Ch i m h H1 := Ch.of y1 wf1 (by omega)
  have a1 : At H1 i m room l c := ⟨y1.c _ _ a.box, y1.o _ _ a.map, a.ok, a.big⟩
  obtain ⟨li1, lm1⟩ := a1.lt wf1
  rcases openE_cases a.ok s [] with ⟨hE, hh⟩ | ⟨hE, hF, hh⟩
  · rw [hE]
    repeat (first | refine AL.nil ?_ | refine AWp.seq ?_ | refine AWp.region ?_ | refine AWp.condT rfl ?_ | refine AL.set rfl rfl (op_moveI rfl ?_) | refine AL.set rfl rfl (op_moveP rfl ?_) | refine AL.set rfl rfl (op_moveStr rfl ?_) | refine AL.set rfl rfl (op_assignI rfl ?_) | refine AL.set rfl rfl (op_intT rfl rfl rfl (by omega) ?_))
    refine AL.set rfl rfl (op_call rfl rfl ((drop_c i m room l c s H1 a1).mono ?_))
    rintro _ _ ⟨rfl, rfl⟩
    have k2 : Ch i m h (stD H1 i m room (delS l s) c) := (k1.set li1 _).setO (show m < (H1.set i _).next from lm1) _
    repeat (first | refine AL.nil ?_ | refine AWp.seq ?_ | refine AWp.region ?_ | refine AWp.ret ?_ | refine AL.set rfl rfl (op_moveI rfl ?_) | refine AL.set rfl rfl (op_assignI rfl ?_))
    exact ⟨_, ResV.tmp rfl, Bdd.plain rfl, st_fin a wf k2 (Heap.set_at _ _ _) (Heap.setO_at _ _ _) ⟨rfl, rfl⟩⟩
  · rw [del_none (hh rfl)]
    repeat (first | refine AL.nil ?_ | refine AWp.seq ?_ | refine AWp.region ?_ | refine AWp.condF rfl ?_ | refine AWp.ret ?_ | refine AWp.skip ?_ | refine AL.set rfl rfl (op_moveI rfl ?_) | refine AL.set rfl rfl (op_assignI rfl ?_) | refine AL.set rfl rfl (op_intF rfl rfl rfl (by omega) ?_))
    exact ⟨_, ResV.tmp rfl, Bdd.plain rfl, st_fin a wf k1 a1.box a1.map ⟨rfl, rfl⟩⟩
theorem lasting_c (i m room : Nat) (l : FL) (c : Nat) (s : List UInt8) (h : Heap) (a : At h i m room l c) (hs : s.length ≤ 4611686018427387904) :
    ACalls Try.prog 30 [ptr i, .string (bstr s)] h fun u h' => u = .tuple #[.int .i64 ((openF l s []).1.length : Nat), .int .i64 (openE l s [])] ∧ h' = h := by
  refine ACalls.wf fun wf => ACalls.resetB ?_
  refine ACalls.body Try.func30 rfl rfl ?_
  have co := open_c i m room l c s (.slice none 0 0) [] h a hs (RS.nil _) (by simp) (by simp)
  repeat (first | refine AL.nil ?_ | refine AWp.seq ?_ | refine AWp.region ?_ | refine AL.set rfl rfl (op_moveP rfl ?_) | refine AL.set rfl rfl (op_moveStr rfl ?_) | refine AL.set rfl rfl (op_moveT rfl ?_) | refine AL.set rfl rfl (op_assignI rfl ?_) | refine AL.set rfl rfl (op_callS rfl rfl co ?_) | refine AL.set rfl rfl (op_extract rfl rfl ?_) | refine AL.set rfl rfl (op_allocF ?_))
  refine AL.eff rfl (op_storeF ([], []) (openF l s []) rfl rfl (Heap.alloc_new _ _) ?_)
  refine AL.heap (Heap.set_alloc _ _ _) ?_
  have g1 := Heap.alloc_new h (fileB (openF l s []))
  repeat (first | refine AL.nil ?_ | refine AWp.seq ?_ | refine AWp.region ?_ | refine AWp.ret ?_ | refine AL.set rfl rfl (op_moveI rfl ?_) | refine AL.set rfl rfl (op_assignI rfl ?_) | refine AL.set rfl rfl (op_fa rfl ?_) | refine AL.set rfl rfl (op_load rfl rfl g1 rfl ?_) | refine AL.set rfl rfl (op_lenSB rfl ?_))
  exact ⟨_, ResV.tmp2 rfl, Bdd.pair (Bdd.plain rfl) (Bdd.plain rfl) rfl rfl, wf.ext _, rfl, rfl⟩
end Go.Proofs.Ytiebmncpdnbcjaa

/-
  Disks: a file given another name; a file read.
-/
namespace Go.Proofs.Ytiebmncpdnbcjaa
open Go Go.Eng Go.Dsk
attribute [local irreducible] AWp AL DAL AOp

def renL (l : FL) (c : Nat) (s t : List UInt8) : FL := if openE l s [t] = 0 then putD (delS l s) t (fileOf l s) c else l
def renC (l : FL) (c : Nat) (s t : List UInt8) : Nat := if openE l s [t] = 0 then c + 1 else c
theorem ren_fit {room : Nat} {l : FL} {c : Nat} (d : DOk room l c) (s t : List UInt8) : used (delS (delS l s) t) + (allF (fileOf l s)).length ≤ room := by
  have h1 := used_del l s
  have h2 := used_del (delS l s) t
  have h3 := d.used
  unfold fileOf
  omega
set_option maxHeartbeats 1000000 in
theorem rename_c (i m room : Nat) (l : FL) (c : Nat) (s t : List UInt8) (h : Heap) (a : At h i m room l c) (hs : s.length ≤ 4611686018427387904) (ht : t.length ≤ 4611686018427387904) :
    ACalls Try.prog 29 [ptr i, .string (bstr s), .string (bstr t)] h fun u h' => u = .int .i64 (openE l s [t]) ∧ h' = stD h i m room (renL l c s t) (renC l c s t) := by
  refine ACalls.wf fun wf => ACalls.resetTo ?_
  refine ACalls.body Try.func29 rfl rfl ?_
  obtain ⟨li, lm⟩ := a.lt wf
  have hbig := a.big
  repeat (first | refine AL.nil ?_ | refine AWp.seq ?_ | refine AWp.region ?_ | refine AL.set rfl rfl (op_moveP rfl ?_) | refine AL.set rfl rfl (op_moveStr rfl ?_) | refine AL.set rfl rfl (op_assignI rfl ?_) | refine AL.set rfl rfl (op_row [.string (bstr t)] rfl rfl rfl rfl (by intro u hu; simp only [List.mem_cons, List.not_mem_nil, or_false] at hu; rw [hu]; rfl) ?_))
  have y0 := wf.ext ⟨[.string (bstr t)], 9, true⟩
  have wf0 := wf.alloc ⟨[.string (bstr t)], 9, true⟩
  have r0 : RS (h.alloc ⟨[.string (bstr t)], 9, true⟩) (.slice (some ⟨h.next, 0, some 1⟩) 1 1) (sv [t]) := RS.own (Heap.alloc_new _ _) rfl
  have n0 : (h.alloc ⟨[.string (bstr t)], 9, true⟩).next = h.next + 1 := rfl
  generalize h.alloc ⟨[.string (bstr t)], 9, true⟩ = H0 at y0 wf0 r0 n0 ⊢
  have a0 : At H0 i m room l c := ⟨y0.c _ _ a.box, y0.o _ _ a.map, a.ok, a.big⟩
  have co := open_c i m room l c s _ [t] H0 a0 hs r0 (by intro x hx; rw [List.mem_singleton.1 hx]; exact ht) (by simp)
  repeat (first | refine AL.set rfl rfl (op_moveT rfl ?_) | refine AL.set rfl rfl (op_callS rfl rfl co ?_) | refine AL.set rfl rfl (op_extract rfl rfl ?_) | refine AL.set rfl rfl (op_allocF ?_))
  refine AL.eff rfl (op_storeF ([], []) (openF l s [t]) rfl rfl (Heap.alloc_new _ _) ?_)
  refine AL.heap (Heap.set_alloc _ _ _) ?_
  have y1 := y0.trans (wf0.ext (fileB (openF l s [t])))
  have wf1 := wf0.alloc (fileB (openF l s [t]))
  have g1 := Heap.alloc_new H0 (fileB (openF l s [t]))
  have n1 : (H0.alloc (fileB (openF l s [t]))).next = H0.next + 1 := rfl
  generalize H0.alloc (fileB (openF l s [t])) = H1 at y1 wf1 g1 n1 ⊢
  have k1 : Ch i m h H1 := Ch.of y1 wf1 (by omega)
  have a1 : At H1 i m room l c := ⟨y1.c _ _ a.box, y1.o _ _ a.map, a.ok, a.big⟩
  obtain ⟨li1, lm1⟩ := a1.lt wf1
  rcases openE_cases a.ok s [t] with ⟨hE, hh⟩ | ⟨hE, hF, _⟩
  · have e2 : renL l c s t = putD (delS l s) t (fileOf l s) c := if_pos hE
    have e3 : renC l c s t = c + 1 := if_pos hE
    have hF : openF l s [t] = fileOf l s := if_pos hE
    rw [hF] at g1
    rw [e2, e3, hE]
    repeat (first | refine AL.nil ?_ | refine AWp.seq ?_ | refine AWp.region ?_ | refine AWp.condT rfl ?_ | refine AL.set rfl rfl (op_moveI rfl ?_) | refine AL.set rfl rfl (op_moveP rfl ?_) | refine AL.set rfl rfl (op_moveStr rfl ?_) | refine AL.set rfl rfl (op_assignI rfl ?_) | refine AL.set rfl rfl (op_intT rfl rfl rfl (by omega) ?_))
    refine AL.set rfl rfl (op_call rfl rfl ((drop_c i m room l c s H1 a1).mono ?_))
    rintro _ _ ⟨rfl, rfl⟩
    have k2 : Ch i m h (stD H1 i m room (delS l s) c) := (k1.set li1 _).setO (show m < (H1.set i _).next from lm1) _
    have a2 : At (stD H1 i m room (delS l s) c) i m room (delS l s) c := At.st (a.ok.del s) a.big
    have g2 : (stD H1 i m room (delS l s) c).get H0.next = some (fileB (fileOf l s)) := by
      show (H1.set i _).get H0.next = _
      rw [Heap.set_other (by omega)]; exact g1
    generalize stD H1 i m room (delS l s) c = H2 at k2 a2 g2 ⊢
    obtain ⟨li2, lm2⟩ := a2.lt k2.wf
    repeat (first | refine AL.nil ?_ | refine AWp.region ?_ | refine AL.set rfl rfl (op_moveP rfl ?_) | refine AL.set rfl rfl (op_moveStr rfl ?_) | refine AL.set rfl rfl (op_loadF rfl g2 ?_))
    refine AL.set rfl rfl (op_call rfl rfl ((put_c i m room (delS l s) c t (fileOf l s) H2 a2 (ren_fit a.ok s t)).mono ?_))
    rintro _ _ ⟨rfl, rfl⟩
    have k3 : Ch i m h (stD H2 i m room (putD (delS l s) t (fileOf l s) c) (c + 1)) := (k2.set li2 _).setO (show m < (H2.set i _).next from lm2) _
    repeat (first | refine AL.nil ?_ | refine AWp.seq ?_ | refine AWp.region ?_ | refine AWp.ret ?_ | refine AL.set rfl rfl (op_moveI rfl ?_) | refine AL.set rfl rfl (op_assignI rfl ?_))
    exact ⟨_, ResV.tmp rfl, Bdd.plain rfl, st_fin a wf k3 (Heap.set_at _ _ _) (Heap.setO_at _ _ _) ⟨rfl, rfl⟩⟩
  · have e2 : renL l c s t = l := if_neg hE
    have e3 : renC l c s t = c := if_neg hE
    rw [e2, e3]
    repeat (first | refine AL.nil ?_ | refine AWp.seq ?_ | refine AWp.region ?_ | refine AWp.condF rfl ?_ | refine AWp.ret ?_ | refine AWp.skip ?_ | refine AL.set rfl rfl (op_moveI rfl ?_) | refine AL.set rfl rfl (op_assignI rfl ?_) | refine AL.set rfl rfl (op_intF rfl rfl rfl (by omega) ?_))
    exact ⟨_, ResV.tmp rfl, Bdd.plain rfl, st_fin a wf k1 a1.box a1.map ⟨rfl, rfl⟩⟩
theorem bstr_data (l : List UInt8) : (bstr l).data.toList = l := rfl
set_option maxHeartbeats 1000000 in
theorem read_c (i m room : Nat) (l : FL) (c : Nat) (s : List UInt8) (h : Heap) (a : At h i m room l c) (hs : s.length ≤ 4611686018427387904) :
    ACalls Try.prog 20 [ptr i, .string (bstr s)] h fun u h' => ∃ w, u = .tuple #[w, .int .i64 (openE l s [])] ∧ OS h.next h' 5 w (bv (allF (openF l s []))) ∧ Ext h h' := by
  refine ACalls.wf fun wf => ?_
  refine ACalls.body Try.func20 rfl rfl ?_
  have hbig := a.big
  have co := open_c i m room l c s (.slice none 0 0) [] h a hs (RS.nil _) (by simp) (by simp)
  repeat (first | refine AL.nil ?_ | refine AWp.seq ?_ | refine AWp.region ?_ | refine AL.set rfl rfl (op_moveP rfl ?_) | refine AL.set rfl rfl (op_moveStr rfl ?_) | refine AL.set rfl rfl (op_moveT rfl ?_) | refine AL.set rfl rfl (op_assignI rfl ?_) | refine AL.set rfl rfl (op_assignS rfl ?_) | refine AL.set rfl rfl (op_callS rfl rfl co ?_) | refine AL.set rfl rfl (op_extract rfl rfl ?_) | refine AL.set rfl rfl (op_allocF ?_))
  refine AL.eff rfl (op_storeF ([], []) (openF l s []) rfl rfl (Heap.alloc_new _ _) ?_)
  refine AL.heap (Heap.set_alloc _ _ _) ?_
  have y1 := wf.ext (fileB (openF l s []))
  have wf1 := wf.alloc (fileB (openF l s []))
  have g1 := Heap.alloc_new h (fileB (openF l s []))
  have n1 : (h.alloc (fileB (openF l s []))).next = h.next + 1 := rfl
  generalize h.alloc (fileB (openF l s [])) = H1 at y1 wf1 g1 n1 ⊢
  have hle := openF_le a.ok s []
  have hal : (allF (openF l s [])).length = (openF l s []).1.length + (openF l s []).2.length := by simp [allF]
  repeat (first | refine AL.nil ?_ | refine AWp.seq ?_ | refine AWp.region ?_ | refine AL.set rfl rfl (op_assignI rfl ?_) | refine AL.set rfl rfl (op_loadF rfl g1 ?_) | refine AL.set rfl rfl (op_callS rfl rfl (all_c (openF l s []) H1 (by omega)) ?_))
  refine AL.set rfl rfl (op_strBytes (e := 5) rfl (by rw [bstr_size]; simp only [maxLen]; omega) ?_)
  rw [bstr_size, bstr_data]
  repeat (first | refine AL.nil ?_ | refine AWp.ret ?_ | refine AL.set rfl rfl (op_moveI rfl ?_) | refine AL.set rfl rfl (op_assignI rfl ?_) | refine AL.set rfl rfl (op_assignS rfl ?_))
  refine ⟨_, ResV.tmp2 rfl, _, rfl, .inr ⟨H1.next, (allF (openF l s [])).length + 1, by omega, ?_, Heap.alloc_new _ _⟩, y1.trans (wf1.ext _)⟩
  rw [bv_length]; rfl
end Go.Proofs.Ytiebmncpdnbcjaa

/-
  Names, in plain words: the order of strings of bytes; rows that rise.
-/
namespace Go.Dsk
open Go Go.Eng

abbrev less (a b : List UInt8) : Bool := Op.bytesLess a b
theorem less_nil (a : List UInt8) : less a [] = false := by cases a <;> rfl
theorem less_cons (a b : UInt8) (x y : List UInt8) : less (a :: x) (b :: y) = (decide (a < b) || (a == b && less x y)) := rfl
theorem less_irrefl : ∀ a : List UInt8, less a a = false
  | [] => rfl
  | a :: x => by
    rw [less_cons, less_irrefl x]
    simp
theorem less_trans : ∀ {a b c : List UInt8}, less a b = true → less b c = true → less a c = true
  | a, [], c, h, _ => by rw [less_nil] at h; cases h
  | [], b :: y, [], _, h => by cases h
  | [], b :: y, c :: z, _, _ => rfl
  | a :: x, b :: y, [], _, h => by cases h
  | a :: x, b :: y, c :: z, h1, h2 => by
    rw [less_cons, Bool.or_eq_true, Bool.and_eq_true, decide_eq_true_iff, beq_iff_eq] at h1 h2 ⊢
    rcases h1 with h1 | ⟨rfl, h1⟩
    · rcases h2 with h2 | ⟨rfl, h2⟩
      · exact .inl (UInt8.lt_trans h1 h2)
      · exact .inl h1
    · rcases h2 with h2 | ⟨rfl, h2⟩
      · exact .inl h2
      · exact .inr ⟨rfl, less_trans h1 h2⟩
theorem less_tri : ∀ {a b : List UInt8}, less a b = false → less b a = false → a = b
  | [], [], _, _ => rfl
  | [], b :: y, h, _ => by cases h
  | a :: x, [], _, h => by cases h
  | a :: x, b :: y, h1, h2 => by
    rw [less_cons, Bool.or_eq_false_iff, Bool.and_eq_false_iff, decide_eq_false_iff_not] at h1 h2
    have hab : a = b := by
      apply UInt8.toNat_inj.1
      have q1 := h1.1
      have q2 := h2.1
      rw [UInt8.lt_iff_toNat_lt] at q1 q2
      omega
    subst hab
    have e1 : less x y = false := by
      rcases h1.2 with h | h
      · simp at h
      · exact h
    have e2 : less y x = false := by
      rcases h2.2 with h | h
      · simp at h
      · exact h
    rw [less_tri e1 e2]
def Rise (L : List (List UInt8)) : Prop := L.Pairwise fun a b => less a b = true
/-- A name's place in a row that rises. -/
structure Place (L : List (List UInt8)) (s : List UInt8) (p : Nat) : Prop where
  le : p ≤ L.length
  lo : ∀ x ∈ L.take p, less x s = true
  hi : ∀ x ∈ L.drop p, less x s = false
theorem rise_get {L : List (List UInt8)} (hr : Rise L) {i j : Nat} {a b : List UInt8} (h : i < j) (hi : L[i]? = some a) (hj : L[j]? = some b) : less a b = true := by
  obtain ⟨h1, rfl⟩ := List.getElem?_eq_some_iff.1 hi
  obtain ⟨h2, rfl⟩ := List.getElem?_eq_some_iff.1 hj
  exact List.pairwise_iff_getElem.1 hr i j h1 h2 h
def insN (L : List (List UInt8)) (p : Nat) (s : List UInt8) : List (List UInt8) := L.take p ++ s :: L.drop p
theorem insN_mem {L : List (List UInt8)} {p : Nat} {s x : List UInt8} : x ∈ insN L p s ↔ x = s ∨ x ∈ L := by
  unfold insN
  rw [List.mem_append, List.mem_cons]
  conv => rhs; rw [← List.take_append_drop p L, List.mem_append]
  constructor
  · rintro (h | h | h)
    · exact .inr (.inl h)
    · exact .inl h
    · exact .inr (.inr h)
  · rintro (h | h | h)
    · exact .inr (.inl h)
    · exact .inl h
    · exact .inr (.inr h)
theorem insN_rise {L : List (List UInt8)} (hr : Rise L) {s : List UInt8} {p : Nat} (hp : Place L s p) (hn : s ∉ L) : Rise (insN L p s) := by
  unfold Rise insN
  have h1 := hr
  unfold Rise at h1
  rw [← List.take_append_drop p L, List.pairwise_append] at h1
  obtain ⟨q1, q2, q3⟩ := h1
  rw [List.pairwise_append]
  have hgt : ∀ x ∈ L.drop p, less s x = true := by
    intro x hx
    cases h : less s x with
    | true => rfl
    | false =>
      have := less_tri h (hp.hi x hx)
      exact absurd (this ▸ List.mem_of_mem_drop hx) hn
  refine ⟨q1, List.pairwise_cons.2 ⟨hgt, q2⟩, fun a ha b hb => ?_⟩
  rcases List.mem_cons.1 hb with rfl | hb
  · exact hp.lo a ha
  · exact q3 a ha b hb
/-- Rows that rise and have the same are the same. -/
theorem rise_eq : ∀ {L M : List (List UInt8)}, Rise L → Rise M → (∀ x, x ∈ L ↔ x ∈ M) → L = M
  | [], [], _, _, _ => rfl
  | [], b :: M, _, _, h => by have := (h b).2 (by simp); cases this
  | a :: L, [], _, _, h => by have := (h a).1 (by simp); cases this
  | a :: L, b :: M, hl, hm, h => by
    have hl' := List.pairwise_cons.1 hl
    have hm' := List.pairwise_cons.1 hm
    have hab : a = b := by
      rcases List.mem_cons.1 ((h a).1 (by simp)) with e | e
      · exact e
      · rcases List.mem_cons.1 ((h b).2 (by simp)) with e2 | e2
        · exact e2.symm
        · have q1 := hm'.1 a e
          have q2 := hl'.1 b e2
          have := less_trans q1 q2
          rw [less_irrefl] at this
          cases this
    subst hab
    congr 1
    refine rise_eq hl'.2 hm'.2 fun x => ⟨fun hx => ?_, fun hx => ?_⟩
    · rcases List.mem_cons.1 ((h x).1 (List.mem_cons_of_mem _ hx)) with e | e
      · subst e
        have := hl'.1 x hx
        rw [less_irrefl] at this; cases this
      · exact e
    · rcases List.mem_cons.1 ((h x).2 (List.mem_cons_of_mem _ hx)) with e | e
      · subst e
        have := hm'.1 x hx
        rw [less_irrefl] at this; cases this
      · exact e
end Go.Dsk

/-
  A name's place in a row that rises.
-/
namespace Go.Proofs.Ytiebmncpdnbcjaa
open Go Go.Eng Go.Dsk
attribute [local irreducible] AWp AL DAL AOp

instance : FnC Try.prog 59 := ⟨Try.f59, Try.func59, by kernel_rfl, by kernel_rfl⟩
instance : FnC Try.prog 65 := ⟨Try.f65, Try.func65, by kernel_rfl, by kernel_rfl⟩
instance : FnC Try.prog 60 := ⟨Try.f60, Try.func60, by kernel_rfl, by kernel_rfl⟩
instance : FnC Try.prog 51 := ⟨Try.f51, Try.func51, by kernel_rfl, by kernel_rfl⟩
theorem nan_c (a : List UInt8) (h : Heap) : ACalls Try.prog 65 [.string (bstr a)] h fun u h' => u = .bool false ∧ h' = h := by
  refine ACalls.body Try.func65 rfl rfl ?_
  repeat (first | refine AL.nil ?_ | refine AWp.seq ?_ | refine AWp.region ?_ | refine AWp.ret ?_ | refine AL.set rfl rfl (op_moveStr rfl ?_) | refine AL.set rfl rfl (op_assignB rfl ?_) | refine AL.set rfl rfl (op_sNeF (a := a) (b := a) rfl rfl rfl ?_))
  exact ⟨_, ResV.tmp rfl, rfl, rfl⟩
theorem snan_c (a : List UInt8) (h : Heap) : ACalls Try.prog 60 [.string (bstr a)] h fun u h' => u = .bool false ∧ h' = h := by
  refine ACalls.body Try.func60 rfl rfl ?_
  repeat (first | refine AL.nil ?_ | refine AWp.seq ?_ | refine AWp.region ?_ | refine AWp.ret ?_ | refine AL.set rfl rfl (op_moveStr rfl ?_) | refine AL.set rfl rfl (op_assignB rfl ?_) | refine AL.set rfl rfl (op_sNeF (a := a) (b := a) rfl rfl rfl ?_))
  exact ⟨_, ResV.tmp rfl, rfl, rfl⟩
theorem less_c (a b : List UInt8) (h : Heap) : ACalls Try.prog 59 [.string (bstr a), .string (bstr b)] h fun u h' => u = .bool (less a b) ∧ h' = h := by
  refine ACalls.body Try.func59 rfl rfl ?_
  cases hl : less a b with
  | true =>
    have e : ∀ {K : Value → Heap → Prop} {ρ : Operand → Value} {x y : Operand} {dst : Option Tmp} {ty t t' : TypeId} {pos : String} {aft : Array Edge} {g : Option (Nat × Bool)}, ρ x = .string (bstr a) → ρ y = .string (bstr b) → K (.bool true) h → AOp Try.prog ⟨dst, .binOp .lss t x y t', ty, pos, aft, g⟩ ρ h K := fun hx hy kk => op_sLss hx hy (by rw [show Op.bytesLess a b = true from hl]; exact kk)
    repeat (first | refine AL.nil ?_ | refine AL.skip rfl rfl ?_ | refine AWp.seq ?_ | refine AWp.region ?_ | refine AWp.ret ?_ | refine AL.set rfl rfl (op_moveB rfl ?_) | refine AL.set rfl rfl (op_moveStr rfl ?_) | refine AL.set rfl rfl (op_assignB rfl ?_) | refine AL.set rfl rfl (op_callS rfl rfl (nan_c _ _) ?_) | refine AL.set rfl rfl (e rfl rfl ?_) | refine AL.set rfl rfl (op_pick (v := .bool false) rfl rfl ?_) | refine AL.set rfl rfl (op_pick (v := .bool true) rfl rfl ?_))
    exact ⟨_, ResV.tmp rfl, rfl, rfl⟩
  | false =>
    have e : ∀ {K : Value → Heap → Prop} {ρ : Operand → Value} {x y : Operand} {dst : Option Tmp} {ty t t' : TypeId} {pos : String} {aft : Array Edge} {g : Option (Nat × Bool)}, ρ x = .string (bstr a) → ρ y = .string (bstr b) → K (.bool false) h → AOp Try.prog ⟨dst, .binOp .lss t x y t', ty, pos, aft, g⟩ ρ h K := fun hx hy kk => op_sLss hx hy (by rw [show Op.bytesLess a b = false from hl]; exact kk)
    repeat (first | refine AL.nil ?_ | refine AL.skip rfl rfl ?_ | refine AWp.seq ?_ | refine AWp.region ?_ | refine AWp.ret ?_ | refine AL.set rfl rfl (op_moveB rfl ?_) | refine AL.set rfl rfl (op_moveStr rfl ?_) | refine AL.set rfl rfl (op_assignB rfl ?_) | refine AL.set rfl rfl (op_callS rfl rfl (nan_c _ _) ?_) | refine AL.set rfl rfl (e rfl rfl ?_) | refine AL.set rfl rfl (op_pick (v := .bool false) rfl rfl ?_))
    exact ⟨_, ResV.tmp rfl, rfl, rfl⟩
/-- A search that has come so far. -/
structure Seek (L : List (List UInt8)) (s : List UInt8) (p q : Nat) : Prop where
  pq : p ≤ q
  le : q ≤ L.length
  lo : ∀ x ∈ L.take p, less x s = true
  hi : ∀ x ∈ L.drop q, less x s = false
theorem Seek.up {L : List (List UInt8)} {s : List UInt8} {p q k : Nat} (d : Seek L s p q) (hr : Rise L) {x : List UInt8} (hk : L[k]? = some x) (hkq : k < q) (hx : less x s = true) : Seek L s (k + 1) q := by
  refine ⟨hkq, d.le, fun y hy => ?_, d.hi⟩
  obtain ⟨j, hj⟩ := List.getElem?_of_mem hy
  have hjk : j < k + 1 := by
    have := (List.getElem?_eq_some_iff.1 hj).1
    rw [List.length_take] at this; omega
  rw [List.getElem?_take_of_lt hjk] at hj
  rcases Nat.lt_or_ge j k with h1 | h1
  · exact less_trans (rise_get hr h1 hj hk) hx
  · obtain rfl : j = k := by omega
    rw [hk] at hj
    cases hj
    exact hx
theorem Seek.down {L : List (List UInt8)} {s : List UInt8} {p q k : Nat} (d : Seek L s p q) (hr : Rise L) {x : List UInt8} (hk : L[k]? = some x) (hpk : p ≤ k) (hx : less x s = false) : Seek L s p k := by
  have hkl := (List.getElem?_eq_some_iff.1 hk).1
  refine ⟨hpk, by omega, d.lo, fun y hy => ?_⟩
  obtain ⟨j, hj⟩ := List.getElem?_of_mem hy
  rw [List.getElem?_drop] at hj
  cases hl : less y s with
  | false => rfl
  | true =>
    rcases Nat.eq_zero_or_pos j with h0 | h0
    · subst h0
      rw [Nat.add_zero, hk] at hj
      cases hj
      rw [hx] at hl; cases hl
    · have := less_trans (rise_get hr (show k < k + j by omega) hk hj) hl
      rw [hx] at this; cases this
theorem Seek.place {L : List (List UInt8)} {s : List UInt8} {p : Nat} (d : Seek L s p p) : Go.Dsk.Place L s p := ⟨d.le, d.lo, d.hi⟩
set_option maxHeartbeats 2000000 in
theorem bs_c (v : Value) (L : List (List UInt8)) (s : List UInt8) (h : Heap) (hr : RS h v (sv L)) (hs : Rise L) (hl : L.length ≤ 1000000) :
    ACalls Try.prog 51 [v, .string (bstr s)] h fun u h' => ∃ (p : Nat) (fb : Bool), u = .tuple #[.int .i64 (p : Nat), .bool fb] ∧ Go.Dsk.Place L s p ∧ h' = h := by
  refine ACalls.wf fun wf => ACalls.resetB ?_
  refine ACalls.body Try.func51 rfl rfl ?_
  have hsl := sv_length L
  repeat (first | refine AL.nil ?_ | refine AWp.seq ?_ | refine AWp.region ?_ | refine AWp.block ?_ | refine AL.set rfl rfl (op_moveI rfl ?_) | refine AL.set rfl rfl (op_assignI rfl ?_) | refine AL.set rfl rfl (op_assignB rfl ?_) | refine AL.set rfl rfl (op_lenR hr rfl ?_) | refine AL.set rfl rfl (op_move (by conv => lhs; whnf) ?_))
  refine AWp.loop (α := Nat × Nat) (fun d => [(0, v), (1, .string (bstr s)), (6, .int .i64 ((sv L).length : Nat)), (7, .int .i64 (d.1 : Nat)), (8, .int .i64 (d.2 : Nat))]) (fun _ => h) (fun d => Seek L s d.1 d.2) (fun d => d.2 - d.1) (0, L.length) ⟨Nat.zero_le _, Nat.le_refl _, by simp, by simp⟩
    (Weak.same (EW.cons rfl (EW.cons rfl (EW.cons rfl (EW.cons rfl (EW.cons (by rw [← hsl]; rfl) EW.nil)))))) ?_
  rintro ⟨p, q⟩ hd
  replace hd : Seek L s p q := hd
  have hpq := hd.pq
  have hql := hd.le
  show AWp _ _ _ _ [(0, v), (1, .string (bstr s)), (6, .int .i64 ((sv L).length : Nat)), (7, .int .i64 (p : Nat)), (8, .int .i64 (q : Nat))] h
  by_cases hlt : p < q
  · obtain ⟨k, hk⟩ : ∃ k, k = (p + q) / 2 := ⟨_, rfl⟩
    have hkq : p ≤ k ∧ k < q := by omega
    obtain ⟨x, hx⟩ : ∃ x, L[k]? = some x := ⟨_, List.getElem?_eq_getElem (by omega)⟩
    have hx2 : (sv L)[((k : Nat) : Int).toNat]? = some (.string (bstr x)) := by simpa using sv_get hx
    have hsh : ∀ {K : Value → Heap → Prop} {ρ : Operand → Value} {x y : Operand} {dst : Option Tmp} {ty t t' : TypeId} {pos : String} {aft : Array Edge} {g : Option (Nat × Bool)}, ρ x = .int .u64 ((p : Int) + q) → ρ y = .int .u64 1 → K (.int .u64 (k : Nat)) h → AOp Try.prog ⟨dst, .binOp .shr t x y t', ty, pos, aft, g⟩ ρ h K := by
      intro K ρ x y dst ty t t' pos aft g hx hy kk
      refine op_int hx hy (v := .int .u64 (k : Nat)) ?_ kk
      show some (Value.int .u64 (Int.fdiv ((p : Int) + q) (2 ^ min (Int.toNat 1) IntKind.u64.bits))) = some (Value.int .u64 (k : Nat))
      rw [show (2 ^ min (Int.toNat 1) IntKind.u64.bits : Int) = 2 from rfl, Int.fdiv_eq_ediv_of_nonneg _ (by omega)]
      congr 2
      omega
    have cl := less_c x s h
    cases hxs : less x s with
    | true =>
      rw [hxs] at cl
      repeat (first | refine AL.nil ?_ | refine AWp.seq ?_ | refine AWp.region ?_ | refine AWp.condT rfl ?_ | refine AWp.block ?_ | refine AWp.skip ?_ | refine AL.set rfl rfl (op_moveI rfl ?_) | refine AL.set rfl rfl (op_assignI rfl ?_) | refine AL.set rfl rfl (op_intT rfl rfl rfl (by omega) ?_) | refine AL.set rfl rfl (op_convU64 rfl (by omega) ?_) | refine AL.set rfl rfl (hsh rfl rfl ?_) | refine AL.set rfl rfl (op_add64 rfl rfl (by omega) ?_) | refine AL.set rfl rfl (op_conv64 rfl (by omega) ?_) | refine AL.set rfl rfl (op_move (by conv => lhs; whnf) ?_))
      refine AL.set rfl rfl (op_indexR hr rfl rfl (by omega) hx2 ?_)
      intro pp hpp
      repeat (first | refine AL.nil ?_ | refine AWp.region ?_ | refine AWp.condT rfl ?_ | refine AL.set rfl rfl (op_moveI rfl ?_) | refine AL.set rfl rfl (op_moveStr rfl ?_) | refine AL.set rfl rfl (op_assignI rfl ?_) | refine AL.set rfl rfl (op_loadR hpp rfl rfl ?_) | refine AL.set rfl rfl (op_callS rfl rfl cl ?_) | refine AL.set rfl rfl (op_add64 rfl rfl (by omega) ?_))
      exact ⟨(k + 1, q), hd.up hs hx hkq.2 hxs, by show q - (k + 1) < q - p; omega, Weak.same (EW.cons rfl (EW.cons rfl (EW.cons rfl (EW.cons rfl (EW.cons rfl EW.nil)))))⟩
    | false =>
      rw [hxs] at cl
      repeat (first | refine AL.nil ?_ | refine AWp.seq ?_ | refine AWp.region ?_ | refine AWp.condT rfl ?_ | refine AWp.block ?_ | refine AWp.skip ?_ | refine AL.set rfl rfl (op_moveI rfl ?_) | refine AL.set rfl rfl (op_assignI rfl ?_) | refine AL.set rfl rfl (op_intT rfl rfl rfl (by omega) ?_) | refine AL.set rfl rfl (op_convU64 rfl (by omega) ?_) | refine AL.set rfl rfl (hsh rfl rfl ?_) | refine AL.set rfl rfl (op_add64 rfl rfl (by omega) ?_) | refine AL.set rfl rfl (op_conv64 rfl (by omega) ?_) | refine AL.set rfl rfl (op_move (by conv => lhs; whnf) ?_))
      refine AL.set rfl rfl (op_indexR hr rfl rfl (by omega) hx2 ?_)
      intro pp hpp
      repeat (first | refine AL.nil ?_ | refine AWp.region ?_ | refine AWp.condF rfl ?_ | refine AL.set rfl rfl (op_moveI rfl ?_) | refine AL.set rfl rfl (op_moveStr rfl ?_) | refine AL.set rfl rfl (op_assignI rfl ?_) | refine AL.set rfl rfl (op_loadR hpp rfl rfl ?_) | refine AL.set rfl rfl (op_callS rfl rfl cl ?_))
      exact ⟨(p, k), hd.down hs hx hkq.1 hxs, by show k - p < q - p; omega, Weak.same (EW.cons rfl (EW.cons rfl (EW.cons rfl (EW.cons rfl (EW.cons rfl EW.nil)))))⟩
  · obtain rfl : p = q := by omega
    have hpl := hd.place
    by_cases hin : p < L.length
    · obtain ⟨x, hx⟩ : ∃ x, L[p]? = some x := ⟨_, List.getElem?_eq_getElem hin⟩
      have hx2 : (sv L)[((p : Nat) : Int).toNat]? = some (.string (bstr x)) := by simpa using sv_get hx
      repeat (first | refine AL.nil ?_ | refine AWp.seq ?_ | refine AWp.region ?_ | refine AWp.condF rfl ?_ | refine AWp.exit ?_ | refine AL.set rfl rfl (op_moveI rfl ?_) | refine AL.set rfl rfl (op_moveB rfl ?_) | refine AL.set rfl rfl (op_intT rfl rfl rfl (by omega) ?_) | refine AL.set rfl rfl (op_intF rfl rfl rfl (by omega) ?_) | refine AL.set rfl rfl (op_move (by conv => lhs; whnf) ?_))
      refine AL.set rfl rfl (op_indexR hr rfl rfl (by omega) hx2 ?_)
      intro pp hpp
      have e : ∀ {K : Value → Heap → Prop} {ρ : Operand → Value} {y z : Operand} {dst : Option Tmp} {ty t t' : TypeId} {pos : String} {aft : Array Edge} {g : Option (Nat × Bool)} {c : Bool}, c = (x == s) → ρ y = .string (bstr x) → ρ z = .string (bstr s) → K (.bool c) h → AOp Try.prog ⟨dst, .binOp .eql t y z t', ty, pos, aft, g⟩ ρ h K := fun hc hx hy kk => op_sEq hx hy (hc ▸ kk)
      cases hxs : x == s with
      | true =>
        repeat (first | refine AL.nil ?_ | refine AL.skip rfl rfl ?_ | refine AWp.ret ?_ | refine AL.set rfl rfl (op_moveB rfl ?_) | refine AL.set rfl rfl (op_moveStr rfl ?_) | refine AL.set rfl rfl (op_assignI rfl ?_) | refine AL.set rfl rfl (op_assignB rfl ?_) | refine AL.set rfl rfl (op_loadR hpp rfl rfl ?_) | refine AL.set rfl rfl (e hxs.symm rfl rfl ?_) | refine AL.set rfl rfl (op_pick (v := .bool true) rfl rfl ?_))
        exact ⟨_, ResV.tmp2 rfl, Bdd.pair (Bdd.plain rfl) (Bdd.plain rfl) rfl rfl, Ext.refl _, p, true, rfl, hpl, rfl⟩
      | false =>
        repeat (first | refine AL.set rfl rfl (op_moveI rfl ?_) | refine AL.set rfl rfl (op_moveB rfl ?_) | refine AL.set rfl rfl (op_moveStr rfl ?_) | refine AL.set rfl rfl (op_loadR hpp rfl rfl ?_) | refine AL.set rfl rfl (e hxs.symm rfl rfl ?_) | refine AL.set rfl rfl (op_move (by conv => lhs; whnf) ?_))
        refine AL.set rfl rfl (op_indexR hr rfl rfl (by omega) hx2 ?_)
        intro pp2 hpp2
        repeat (first | refine AL.nil ?_ | refine AL.skip rfl rfl ?_ | refine AWp.ret ?_ | refine AL.set rfl rfl (op_moveB rfl ?_) | refine AL.set rfl rfl (op_assignI rfl ?_) | refine AL.set rfl rfl (op_assignB rfl ?_) | refine AL.set rfl rfl (op_loadR hpp2 rfl rfl ?_) | refine AL.set rfl rfl (op_callS rfl rfl (snan_c _ _) ?_) | refine AL.set rfl rfl (op_pick (v := .bool false) rfl rfl ?_))
        exact ⟨_, ResV.tmp2 rfl, Bdd.pair (Bdd.plain rfl) (Bdd.plain rfl) rfl rfl, Ext.refl _, p, false, rfl, hpl, rfl⟩
    · repeat (first | refine AL.nil ?_ | refine AL.skip rfl rfl ?_ | refine AWp.seq ?_ | refine AWp.region ?_ | refine AWp.condF rfl ?_ | refine AWp.ret ?_ | refine AWp.exit ?_ | refine AL.set rfl rfl (op_moveI rfl ?_) | refine AL.set rfl rfl (op_moveB rfl ?_) | refine AL.set rfl rfl (op_assignI rfl ?_) | refine AL.set rfl rfl (op_assignB rfl ?_) | refine AL.set rfl rfl (op_intF rfl rfl rfl (by omega) ?_) | refine AL.set rfl rfl (op_pick (v := .bool false) rfl rfl ?_))
      exact ⟨_, ResV.tmp2 rfl, Bdd.pair (Bdd.plain rfl) (Bdd.plain rfl) rfl rfl, Ext.refl _, p, false, rfl, hpl, rfl⟩
end Go.Proofs.Ytiebmncpdnbcjaa

/-
  The engine: append(s, make([]T, k)...), where s is full.
-/
namespace Go.Eng
open Go

section
variable {P : Program} {ρ : Operand → Value} {h : Heap} {K : Value → Heap → Prop} {dst : Option Tmp} {ty : TypeId} {pos : String} {aft : Array Edge} {g : Option (Nat × Bool)}
theorem zeroCells_one {z : Value} (hz : z.cells = #[z]) (k : Nat) : (Builtin.zeroCells z.cells k).toList = List.replicate k z := by
  rw [hz]
  apply List.ext_getElem
  · simp [Builtin.zeroCells]
  · intro j h1 h2
    simp [Builtin.zeroCells, Nat.mod_one]
theorem op_appendZ {t t2 e : TypeId} {ik : IntKind} {x y : Operand} {i n k by_ : Nat} {z : Value} {b : Blk} [td : TyD P t (.slice e)] [t2d : TyD P t2 (.int ik)] [ti : TyI P e 1 by_ z] (hzo : z.cells = #[z]) (hx : ρ x = .slice (some ⟨i, 0, some 1⟩) n n) (hy : ρ y = .int .i64 (k : Nat)) (hk : 0 < k)
    (hi : h.get i = some b) (hn : b.cells.length = n) (h1 : n + k ≤ maxLen) (h2 : (n + k) * by_ ≤ 140737488355328) (kk : K (.slice (some ⟨h.next, 0, some 1⟩) (n + k) (n + k + 1)) (h.alloc ⟨b.cells ++ List.replicate k z, e, true⟩)) :
    AOp P ⟨dst, .call ⟨.builtin .append, #[x, y], #[t, t2]⟩, ty, pos, aft, g⟩ ρ h K :=
  .of_run fun φ ac w r => by
    obtain ⟨cap', a', e1, hlt, p1, p2, p3, p4, p5, p6⟩ := (hx ▸ r.ev x (by simp [Op.operands, Call.operands])).slice_inv
    have e2 := (hy ▸ r.ev y (by simp [Op.operands, Call.operands])).int_inv
    obtain rfl : cap' = n := p3.1 rfl
    have hsrc : Src h 1 (.slice (some ⟨i, 0, some 1⟩) cap' cap') cap' b.cells := by
      have := Src.slice (h := h) (sz := 1) i 0 (some 1) cap' cap' b hi (by omega)
      rwa [List.drop_zero, List.take_of_length_le (by omega)] at this
    obtain ⟨os, o1, o2, _, o4⟩ := hsrc.run r.sim (hx ▸ r.ev x (by simp [Op.operands, Call.operands]))
    rw [e1] at o4
    obtain ⟨inf, i1, i2, i3, i4⟩ := ti.ex
    have ht : ∀ w2 : World, (underlying t).run P w2 = .ok (.slice e) w2 := fun w2 => td.run w2
    have ht2 : ∀ w2 : World, (underlying t2).run P w2 = .ok (.int ik) w2 := fun w2 => t2d.run w2
    have hsz : ∀ w2 : World, (sizeOf e).run P w2 = .ok 1 w2 := fun w2 => ti.size w2
    have hod := o4 w.drew rfl
    have hc : ¬ cap' + k ≤ cap' := by omega
    have hfit : Builtin.nextslicecap (cap' + k) cap' * inf.bytes ≤ 281474976710656 := by rw [i3]; exact growslice_fits (by omega) h2
    have h63 : ¬ (9223372036854775807 < ((cap' : Int) + (k : Int))) := by simp only [maxLen] at h1; omega
    have h48 : ¬ (281474976710656 < Builtin.nextslicecap (cap' + k) cap' * inf.bytes) := by omega
    have hkm : (k : Int) ≤ 9223372036854775807 := by simp only [maxLen] at h1; omega
    have hw : IntKind.i64.wrap (k : Int) = k := by rw [IntKind.wrap_i64]; omega
    have hkb : ¬ (281474976710656 < (k : Int) * (inf.bytes : Int)) := by
      have h3 : k * by_ ≤ (cap' + k) * by_ := Nat.mul_le_mul_right _ (by omega)
      rw [i3]
      have h4 : ((k * by_ : Nat) : Int) = (k : Int) * (by_ : Int) := by push_cast; rfl
      omega
    have hk0 : ¬ k = 0 := by omega
    have hneg : ¬ (k : Int) < 0 := by omega
    have hle0 : ¬ (k : Int) ≤ 0 := by omega
    have hmax : max (k : Int) 0 = k := by omega
    have hrun : (Builtin.append_ #[t, t2] ty #[.slice (some a') cap' cap', .int .i64 (k : Nat)]).run P w =
        .ok (.slice (some ⟨w.heap.size, 0, none⟩) (cap' + k) (grownCap w (cap' + k) cap' e)) (w.drew.alloc (.cells ((os ++ (Builtin.zeroCells z.cells k).toList).toArray ++ Builtin.zeroCells z.cells (grownCap w (cap' + k) cap' e - (cap' + k))) e)) := by
      simp [Builtin.append_, ht, ht2, hsz, hc, h63, h48, typeInfo, i1, zeroValue, i4, Question.forced, hod, newRow, grownCap, asInt, asIntOf, hw, hkb, hk0, hneg, hmax]
      congr 2
      apply Array.ext'
      simp
    have hz : VRels φ h.next (List.replicate k z) (Builtin.zeroCells z.cells k).toList := by
      rw [zeroCells_one hzo]
      refine VRels.scalars (List.all_eq_true.2 fun v hv => ?_)
      rw [List.eq_of_mem_replicate hv]
      have := ti.plain
      rw [hzo] at this
      simpa using this
    have hl : (os ++ (Builtin.zeroCells z.cells k).toList).length = (cap' + k) * 1 := by
      have := o1.length
      rw [List.length_append, ← this, hn, zeroCells_one hzo, List.length_replicate]
      omega
    obtain ⟨φ', v1, v2, v3⟩ := grown_row (P := P) r.sim (e := e) (cap := cap') (n := cap' + k) (o1.append hz) hl h1 _ rfl
    refine ⟨_, _, φ', _, _, exec_append ac _ w (by rw [e1, e2]; exact hrun), kk, v1, v2, v3⟩
end
end Go.Eng

/-
  The engine: slices whose cap is known. A cap of 2^64 and more stands for what is beyond 2^64.
-/
namespace Go.Eng
open Go

@[irreducible] def big : Nat := 18446744073709551616
section
variable {P : Program} {ρ : Operand → Value} {h : Heap} {K : Value → Heap → Prop} {dst : Option Tmp} {ty : TypeId} {pos : String} {aft : Array Edge} {g : Option (Nat × Bool)}
/-- The same world, told otherwise: a block that is one's own has more cells, or fewer. -/
theorem Sim.recell {φ : Ren} {w : World} (s : Sim P φ h w) {i : Nat} {b : Blk} (hi : h.get i = some b) (ho : b.own = true) (cs : List Value)
    (hl : ∀ arr fr, w.heap[(φ i).b]? = some (.cells arr b.elem fr) → (φ i).l ≤ arr.size → b.cells.length ≤ arr.size → cs.length ≤ arr.size)
    (hr : ∀ (k : Nat) v, cs[k]? = some v → v = undef ∨ b.cells[k]? = some v) :
    Sim P φ (h.set i ⟨cs, b.elem, true⟩) w ∧ Step φ h w φ (h.set i ⟨cs, b.elem, true⟩) w := by
  obtain ⟨arr, fr, a1, a2, a3, a4, a5⟩ := s.owned hi ho
  have hln := hl arr fr a1 a2.2 a4
  refine s.write hi ho a1 (w' := w) (arr' := arr) rfl a3 (fun k => ?_) rfl rfl rfl cs hln (fun k v hk => ?_)
  · split
    · rename_i e; rw [e]; exact a1
    · rfl
  · have hkl := (List.getElem?_eq_some_iff.1 hk).1
    rcases hr k v hk with rfl | hb
    · exact ⟨arr[k], Array.getElem?_eq_getElem (by omega), .und _⟩
    · exact a5 k v hb
/-- A call is told by each cap that its first argument may have. -/
theorem ACalls.caps {f : FuncId} {avs : List Value} {Q : Value → Heap → Prop} {i n c : Nat} {b : Blk} (hi : h.get i = some b) (ho : b.own = true) (hn : b.cells.length = n)
    (p : ∀ k, n + k ≤ maxLen → ACalls P f (.slice (some ⟨i, 0, some 1⟩) n (n + k + big) :: avs) (h.set i ⟨b.cells ++ List.replicate k undef, b.elem, true⟩) Q) : ACalls P f (.slice (some ⟨i, 0, some 1⟩) n c :: avs) h Q := by
  intro φ w cargs s va
  cases va with
  | cons v1 v2 =>
    rename_i c1 cr
    obtain ⟨cap', a', e1, hlt, q1, q2, q3, q4, q5, q6⟩ := v1.slice_inv
    have h6 := q6 1 rfl
    obtain ⟨k, rfl⟩ : ∃ k, cap' = n + k := ⟨cap' - n, by omega⟩
    obtain ⟨s1, s2⟩ := s.recell hi ho (b.cells ++ List.replicate k undef) (fun arr fr _ h1 h2 => by simp; omega) (fun j v hj => by
      rcases Nat.lt_or_ge j b.cells.length with h1 | h1
      · rw [List.getElem?_append_left h1] at hj
        exact .inr hj
      · rw [List.getElem?_append_right h1] at hj
        exact .inl (List.eq_of_mem_replicate (List.mem_of_getElem? hj)))
    have hv : VRel φ h.next (.slice (some ⟨i, 0, some 1⟩) n (n + k + big)) c1 := by
      rw [e1]
      exact .slice _ _ _ _ _ _ _ hlt (by omega) (by omega) ⟨fun e => by simp only [big] at e; omega, fun _ => by simp only [big]⟩ q4 q5 q6
    refine (p k q5 φ w _ s1 (.cons hv v2)).mono fun e w' hr => ?_
    cases e with
    | returned cv => obtain ⟨v, h', φ', k1, k2, k3, k4⟩ := hr; exact ⟨v, h', φ', k1, k2, k3, s2.trans k4⟩
    | panicked ch => exact hr
    | outgrown => exact hr
/-- What lies behind the cells that count is forgotten. -/
theorem ACalls.shrink {f : FuncId} {avs : List Value} {Q : Value → Heap → Prop}
    (p : ACalls P f avs h fun v h' => ∃ i b m, h'.get i = some b ∧ b.own = true ∧ Q v (h'.set i ⟨b.cells.take m, b.elem, true⟩)) : ACalls P f avs h Q :=
  fun φ w cargs s va => (p φ w cargs s va).mono fun e w' hr => by
    cases e with
    | returned c =>
      obtain ⟨v, h', φ', ⟨i, b, m, hi, ho, q⟩, r1, r2, r3⟩ := hr
      obtain ⟨s1, s2⟩ := r2.recell hi ho (b.cells.take m) (fun arr fr _ h1 h2 => by simp; omega) (fun k v hk => by
        have hkl := (List.getElem?_eq_some_iff.1 hk).1
        simp only [List.length_take] at hkl
        rw [List.getElem?_take_of_lt (by omega)] at hk
        exact .inr hk)
      exact ⟨v, _, φ', q, r1, s1, r3.trans s2⟩
    | panicked ch => exact hr
    | outgrown => exact hr
theorem op_capK {x : Operand} {t e : TypeId} {i o n c : Nat} {s : Option Nat} [td : TyD P t (.slice e)] (hx : ρ x = .slice (some ⟨i, o, s⟩) n (c + big)) (kk : K (.int .i64 c) h) :
    AOp P ⟨dst, .call ⟨.builtin .cap, #[x], #[t]⟩, ty, pos, aft, g⟩ ρ h K :=
  .of_pure kk fun φ ac w r => by
    obtain ⟨cap', a', e1, hlt, q1, q2, q3, q4, q5, q6⟩ := (hx ▸ r.ev x (by simp [Op.operands, Call.operands])).slice_inv
    have : cap' = c := by have := q3.2 (by simp only [big]; omega); simp only [big] at this; omega
    subst this
    refine ⟨_, ?_, .int _ _⟩
    simp [execOp, resolve, invoke, builtin, e1, Builtin.cap_, td.run, goInt]
theorem run_sliceBoundsK {isS : Bool} {len cap : Nat} {lo hi : Option Operand} {l m : Int} {φ : Ren} {ac : Act} {w : World} (rl : ∀ y, lo = some y → VRel φ h.next (ρ y) (ac.eval y)) (rh : ∀ y, hi = some y → VRel φ h.next (ρ y) (ac.eval y)) (hl : bnd ρ lo 0 = some l) (hm : bnd ρ hi len = some m)
    (h0 : 0 ≤ l) (h1 : l ≤ m) (h2 : m ≤ cap) : (Instr.sliceBounds isS len cap (lo.map ac.eval) (hi.map ac.eval) none).run P w = .ok (l.toNat, m.toNat, cap) w := by
  rcases bnd_run rl hl with ⟨rfl, rfl⟩ | ⟨y, k, rfl, e1⟩ <;> rcases bnd_run rh hm with ⟨rfl, rfl⟩ | ⟨y', k', rfl, e2⟩
  · simp [Instr.sliceBounds]
  · simp only [Instr.sliceBounds, Option.map_none, Option.map_some, e2]
    simp [run_sliceBound w (by omega : 0 ≤ m) h2]
  · simp only [Instr.sliceBounds, Option.map_none, Option.map_some, e1]
    simp [run_sliceBound w h0 h1]
  · simp only [Instr.sliceBounds, Option.map_some, e1, e2]
    have h5 : l ≤ (m.toNat : Int) := by omega
    simp [run_sliceBound w (by omega : 0 ≤ m) h2, run_sliceBound w h0 h5]
/-- A piece of a slice, up to its cap. -/
theorem op_sliceK {t e : TypeId} {x : Operand} {lo hi : Option Operand} {i o len c sz by_ : Nat} {z : Value} {s : Option Nat} {l m : Int} [td : TyD P t (.slice e)] [ti : TyI P e sz by_ z]
    (hx : ρ x = .slice (some ⟨i, o, s⟩) len (c + big)) (hl : bnd ρ lo 0 = some l) (hm : bnd ρ hi len = some m) (h0 : 0 ≤ l) (h1 : l ≤ m) (h2 : m ≤ c) (hs : s = none ∨ s = some sz)
    (kk : K (.slice (some ⟨i, o + l.toNat * sz, s⟩) (m - l).toNat (c - l.toNat + big)) h) : AOp P ⟨dst, .slice t x lo hi none, ty, pos, aft, g⟩ ρ h K :=
  .of_pure kk fun φ ac w r => by
    obtain ⟨cap', a', e1, hlt, q1, q2, q3, q4, q5, q6⟩ := (hx ▸ r.ev x (by simp [Op.operands])).slice_inv
    have hcc : cap' = c := by have := q3.2 (by simp only [big]; omega); simp only [big] at this; omega
    subst hcc
    have hb := run_sliceBoundsK (P := P) (w := w) (isS := true) (cap := cap') (fun y hy => r.ev y (by subst hy; simp [Op.operands])) (fun y hy => r.ev y (by subst hy; simp [Op.operands])) hl hm h0 h1 h2
    refine ⟨.slice (some (if cap' = l.toNat then a' else a'.add (l.toNat * sz))) (m - l).toNat (cap' - l.toNat), ?_, ?_⟩
    · have e5 : m.toNat - l.toNat = (m - l).toNat := by omega
      by_cases hc : cap' = l.toNat
      · subst hc; simp [execOp, e1, Instr.sliceAt, td.run, Instr.slice, hb, ti.size, e5]
      · simp [execOp, e1, Instr.sliceAt, td.run, Instr.slice, hb, ti.size, hc, e5]
    · refine .slice _ _ _ _ _ _ _ hlt (by omega) (by omega) ⟨fun e => by simp only [big, maxLen] at e q5; omega, fun _ => by simp only [big]⟩ ?_ (by omega) ?_
      · by_cases hc : cap' = l.toNat
        · exact .inr (by omega)
        · rw [if_neg hc]
          rcases q4 with q4 | q4
          · subst q4; exact .inl (by rw [Addr.add_lit, Nat.add_assoc])
          · exact .inr (by omega)
      · intro t ht
        have h6 := q6 t ht
        rcases hs with hs | hs
        · rw [hs] at ht; cases ht
        · rw [hs] at ht; cases ht
          have : l.toNat * sz + (cap' - l.toNat) * sz = cap' * sz := by rw [← Nat.add_mul]; congr 1; omega
          omega
theorem op_sliceTo {t e : TypeId} {x y : Operand} {i o len c by_ m : Nat} {z : Value} {k : IntKind} [td : TyD P t (.slice e)] [ti : TyI P e 1 by_ z]
    (hx : ρ x = .slice (some ⟨i, o, some 1⟩) len (c + big)) (hy : ρ y = .int k (m : Nat)) (h2 : m ≤ c) (kk : K (.slice (some ⟨i, o, some 1⟩) m (c + big)) h) : AOp P ⟨dst, .slice t x none (some y) none, ty, pos, aft, g⟩ ρ h K :=
  op_sliceK (l := 0) (m := (m : Nat)) hx rfl (by simp [bnd, hy]) (by omega) (by omega) (by omega) (.inr rfl) (by simpa using kk)
theorem op_sliceFrom {t e : TypeId} {x y : Operand} {i o len c by_ l : Nat} {z : Value} {k : IntKind} [td : TyD P t (.slice e)] [ti : TyI P e 1 by_ z]
    (hx : ρ x = .slice (some ⟨i, o, some 1⟩) len (c + big)) (hy : ρ y = .int k (l : Nat)) (h1 : l ≤ len) (h2 : len ≤ c) (kk : K (.slice (some ⟨i, o + l, some 1⟩) (len - l) (c - l + big)) h) : AOp P ⟨dst, .slice t x (some y) none none, ty, pos, aft, g⟩ ρ h K :=
  op_sliceK (l := (l : Nat)) (m := (len : Nat)) hx (by simp [bnd, hy]) rfl (by omega) (by omega) (by omega) (.inr rfl) (by
    rw [show ((len : Int) - (l : Nat)).toNat = len - l by omega, show ((l : Nat) : Int).toNat = l by omega, Nat.mul_one]; exact kk)
/-- append(s, make([]T, k)...), where there is no room. -/
theorem op_appendZK {t t2 e : TypeId} {ik : IntKind} {x y : Operand} {i n k c by_ : Nat} {z : Value} {b : Blk} [td : TyD P t (.slice e)] [t2d : TyD P t2 (.int ik)] [ti : TyI P e 1 by_ z] (hzo : z.cells = #[z]) (hx : ρ x = .slice (some ⟨i, 0, some 1⟩) n (c + big)) (hy : ρ y = .int .i64 (k : Nat)) (hk : 0 < k) (hck : c < n + k)
    (hi : h.get i = some b) (hn : n ≤ b.cells.length) (h1 : n + k ≤ maxLen) (h2 : (n + k) * by_ ≤ 140737488355328) (kk : K (.slice (some ⟨h.next, 0, some 1⟩) (n + k) (n + k + 1)) (h.alloc ⟨b.cells.take n ++ List.replicate k z, e, true⟩)) :
    AOp P ⟨dst, .call ⟨.builtin .append, #[x, y], #[t, t2]⟩, ty, pos, aft, g⟩ ρ h K :=
  .of_run fun φ ac w r => by
    obtain ⟨cap', a', e1, hlt, p1, p2, p3, p4, p5, p6⟩ := (hx ▸ r.ev x (by simp [Op.operands, Call.operands])).slice_inv
    have e2 := (hy ▸ r.ev y (by simp [Op.operands, Call.operands])).int_inv
    have hcc : cap' = c := by have := p3.2 (by simp only [big]; omega); simp only [big] at this; omega
    subst hcc
    have hsrc : Src h 1 (.slice (some ⟨i, 0, some 1⟩) n (cap' + big)) n (b.cells.take n) := by
      have := Src.slice (h := h) (sz := 1) i 0 (some 1) n (cap' + big) b hi (by omega)
      rwa [List.drop_zero, Nat.mul_one] at this
    obtain ⟨os, o1, o2, _, o4⟩ := hsrc.run r.sim (hx ▸ r.ev x (by simp [Op.operands, Call.operands]))
    rw [e1] at o4
    obtain ⟨inf, i1, i2, i3, i4⟩ := ti.ex
    have ht : ∀ w2 : World, (underlying t).run P w2 = .ok (.slice e) w2 := fun w2 => td.run w2
    have ht2 : ∀ w2 : World, (underlying t2).run P w2 = .ok (.int ik) w2 := fun w2 => t2d.run w2
    have hsz : ∀ w2 : World, (sizeOf e).run P w2 = .ok 1 w2 := fun w2 => ti.size w2
    have hod := o4 w.drew rfl
    have hc : ¬ n + k ≤ cap' := by omega
    have hfit : Builtin.nextslicecap (n + k) cap' * inf.bytes ≤ 281474976710656 := by rw [i3]; exact growslice_fits (by omega) h2
    have h63 : ¬ (9223372036854775807 < ((n : Int) + (k : Int))) := by simp only [maxLen] at h1; omega
    have h48 : ¬ (281474976710656 < Builtin.nextslicecap (n + k) cap' * inf.bytes) := by omega
    have hkm : (k : Int) ≤ 9223372036854775807 := by simp only [maxLen] at h1; omega
    have hw : IntKind.i64.wrap (k : Int) = k := by rw [IntKind.wrap_i64]; omega
    have hkb : ¬ (281474976710656 < (k : Int) * (inf.bytes : Int)) := by
      have h3 : k * by_ ≤ (n + k) * by_ := Nat.mul_le_mul_right _ (by omega)
      rw [i3]
      have h4 : ((k * by_ : Nat) : Int) = (k : Int) * (by_ : Int) := by push_cast; rfl
      omega
    have hk0 : ¬ k = 0 := by omega
    have hneg : ¬ (k : Int) < 0 := by omega
    have hle0 : ¬ (k : Int) ≤ 0 := by omega
    have hmax : max (k : Int) 0 = k := by omega
    have hrun : (Builtin.append_ #[t, t2] ty #[.slice (some a') n cap', .int .i64 (k : Nat)]).run P w =
        .ok (.slice (some ⟨w.heap.size, 0, none⟩) (n + k) (grownCap w (n + k) cap' e)) (w.drew.alloc (.cells ((os ++ (Builtin.zeroCells z.cells k).toList).toArray ++ Builtin.zeroCells z.cells (grownCap w (n + k) cap' e - (n + k))) e)) := by
      simp [Builtin.append_, ht, ht2, hsz, hc, h63, h48, typeInfo, i1, zeroValue, i4, Question.forced, hod, newRow, grownCap, asInt, asIntOf, hw, hkb, hk0, hneg, hmax]
      congr 2
      apply Array.ext'
      simp
    have hz : VRels φ h.next (List.replicate k z) (Builtin.zeroCells z.cells k).toList := by
      rw [zeroCells_one hzo]
      refine VRels.scalars (List.all_eq_true.2 fun v hv => ?_)
      rw [List.eq_of_mem_replicate hv]
      have := ti.plain
      rw [hzo] at this
      simpa using this
    have hl : (os ++ (Builtin.zeroCells z.cells k).toList).length = (n + k) * 1 := by
      rw [List.length_append, o2, zeroCells_one hzo, List.length_replicate]
      omega
    obtain ⟨φ', v1, v2, v3⟩ := grown_row (P := P) r.sim (e := e) (cap := cap') (n := n + k) (o1.append hz) hl h1 _ rfl
    refine ⟨_, _, φ', _, _, exec_append ac _ w (by rw [e1, e2]; exact hrun), kk, v1, v2, v3⟩
end
/-- A function without a body, that the model answers. -/
class XtC (P : Program) (f : FuncId) (e : outParam (Array Value → Sem Value)) : Prop where
  ex : ∃ fn, P.funcs[f]? = some fn ∧ (fn.name == "runtime.NumGoroutine") = false ∧ fn.body.isNone = true ∧ Extern.findNext fn = none ∧ Extern.find fn = some e
section
variable {P : Program} {ρ : Operand → Value} {h : Heap} {K : Value → Heap → Prop} {dst : Option Tmp} {ty : TypeId} {pos : String} {aft : Array Edge} {g : Option (Nat × Bool)}
/-- slices.overlaps, of two rows of one's own that are not one, the first of no bytes. -/
theorem op_overlapsF {tS tR e sz by_ : Nat} {z : Value} {d : TypeDesc} {f : FuncId} {fo x y : Operand} {aT : Array TypeId} {i j o p n m c c' : Nat} {s s' : Option Nat} {bi bj : Blk} [td : TyD P tS (.slice e)] [te : TyD P e d] [ti : TyI P e sz by_ z] [xt : XtC P f (Extern.SlicesOverlaps.overlaps #[tS, tS] #[tR])]
    (hd : d ≠ .int .u8) (hf : ρ fo = .func (.func f) #[] #[]) (hx : ρ x = .slice (some ⟨i, o, s⟩) n c) (hy : ρ y = .slice (some ⟨j, p, s'⟩) m c') (hi : h.get i = some bi) (hj : h.get j = some bj) (hio : bi.own = true) (hjo : bj.own = true) (hne : i ≠ j)
    (hie : bi.elem = e) (hn : 0 < n) (hm : 0 < m) (_ho : o < bi.cells.length) (hp : p < bj.cells.length) (kk : K (.bool false) h) : AOp P ⟨dst, .call ⟨.value fo, #[x, y], aT⟩, ty, pos, aft, g⟩ ρ h K :=
  .of_pure kk fun φ ac w r => by
    obtain ⟨f1, d1, e0, s1, s2, _, _⟩ := (hf ▸ r.ev fo (by simp [Op.operands, Call.operands])).func_inv
    obtain rfl : f1 = #[] := by apply Array.eq_empty_of_size_eq_zero; rw [← s1]; rfl
    obtain rfl : d1 = #[] := by apply Array.eq_empty_of_size_eq_zero; rw [← s2]; rfl
    obtain ⟨k1, a1, e1, _, _, u1, _, v1, _⟩ := (hx ▸ r.ev x (by simp [Op.operands, Call.operands])).slice_inv
    obtain ⟨k2, a2, e2, _, _, u2, _, v2, _⟩ := (hy ▸ r.ev y (by simp [Op.operands, Call.operands])).slice_inv
    obtain rfl := v1.resolve_right (by omega)
    obtain rfl := v2.resolve_right (by omega)
    obtain ⟨arr, fr, b1, ⟨b2, _⟩, b3, b4, _⟩ := r.sim.owned hi hio
    obtain ⟨arr', fr', c1, ⟨c2, _⟩, c3, c4, _⟩ := r.sim.owned hj hjo
    have hbn : (φ i).b ≠ (φ j).b := fun e' => hne (r.sim.apart j i bj hj hjo (by rw [hi]; simp) e')
    have hfr : fr.1 = fr.2 := by
      rcases b3 with b3 | ⟨_, b3⟩
      · exact b3
      · rw [hie] at b3
        have := te.eq
        rw [b3] at this
        exact absurd (Option.some.inj this).symm hd
    obtain ⟨fn, q1, q2, q3, q4, q5⟩ := xt.ex
    have hfz : ∀ k, w.frozen? ⟨(φ i).b, k, none⟩ = false := fun k => by
      obtain ⟨lo, hi'⟩ := fr
      have : lo = hi' := hfr
      subst this
      simp only [World.frozen?, b1]
      simp
    refine ⟨.bool false, ?_, .bool _⟩
    have hov := Lib.run_overlaps_apart (P := P) w tS tR e td.eq sz ti.size ⟨(φ i).b, (φ i).o + o, none⟩ ⟨(φ j).b, (φ j).o + p, none⟩ n k1 m k2 hbn bi.elem bj.elem arr.size arr'.size (by simp [World.shape?, b1]) (by simp [World.shape?, c1]) (by omega) (hfz _) (hfz _)
    have := run_callFunc_extern (P := P) q1 q2 q3 q4 q5 #[.slice (some ⟨(φ i).b, (φ i).o + o, none⟩) n k1, .slice (some ⟨(φ j).b, (φ j).o + p, none⟩) m k2] w
    rw [hov] at this
    simp [execOp, resolve, e0, Deferred.ofValue, invoke, e1, e2, this]
end
end Go.Eng

/-
  A row into which one more is put: what two copies make of it.
-/
namespace Go.Dsk
open Go Go.Eng

def insV (vs : List Value) (p : Nat) (x : Value) : List Value := vs.take p ++ x :: vs.drop p
theorem insV_length {vs : List Value} {p : Nat} {x : Value} : (insV vs p x).length = vs.length + 1 := by
  simp only [insV, List.length_append, List.length_take, List.length_cons, List.length_drop]; omega
theorem insV_get {vs : List Value} {p : Nat} {x : Value} (hp : p ≤ vs.length) (j : Nat) : (insV vs p x)[j]? = if j < p then vs[j]? else if j = p then some x else vs[j - 1]? := by
  unfold insV
  rcases Nat.lt_or_ge j p with h1 | h1
  · rw [if_pos h1, List.getElem?_append_left (by simp; omega), List.getElem?_take_of_lt h1]
  · rw [if_neg (by omega), List.getElem?_append_right (by simp; omega), List.length_take, Nat.min_eq_left hp]
    by_cases h2 : j = p
    · rw [if_pos h2, h2, Nat.sub_self]; rfl
    · rw [if_neg h2, show j - p = (j - 1 - p) + 1 by omega, List.getElem?_cons_succ, List.getElem?_drop]
      congr 1; omega
theorem sv_insN {L : List (List UInt8)} {p : Nat} {s : List UInt8} : sv (insN L p s) = insV (sv L) p (.string (bstr s)) := by
  simp [sv, insN, insV, List.map_take, List.map_drop]
theorem insV_end {vs : List Value} {x : Value} : vs ++ [x] = insV vs vs.length x := by simp [insV]
theorem src_grown (vs : List Value) (k p n : Nat) (hn : vs.length = n) (hp : p < n) : ((((vs ++ List.replicate k undef).drop (0 + p)).take ((n - p) * 1)).take (min (n - p) (n + 1 - (p + 1)))) = vs.drop p := by
  rw [show min (n - p) (n + 1 - (p + 1)) = n - p by omega, List.take_take, Nat.mul_one, Nat.min_self, Nat.zero_add, List.drop_append_of_le_length (by omega), List.take_append_of_le_length (by simp; omega), List.take_of_length_le (by simp; omega)]
theorem src_room (vs : List Value) (k p n : Nat) (hn : vs.length = n) (hp : p < n) : ((((vs ++ List.replicate k undef).drop (0 + p)).take ((n + 1 - p) * 1)).take (min (n + 1 - p) (n + 1 - (p + 1)))) = vs.drop p := by
  rw [show min (n + 1 - p) (n + 1 - (p + 1)) = n - p by omega, List.take_take, show min (n - p) ((n + 1 - p) * 1) = n - p by omega, Nat.zero_add, List.drop_append_of_le_length (by omega), List.take_append_of_le_length (by simp; omega), List.take_of_length_le (by simp; omega)]
theorem all_drop {vs : List Value} (h : vs.all oneB = true) (p : Nat) : (vs.drop p).all oneB = true := List.all_eq_true.2 fun v hv => List.all_eq_true.1 h v (List.mem_of_mem_drop hv)
section
variable {P : Program} {ρ : Operand → Value} {h : Heap} {K : Value → Heap → Prop} {dst : Option Tmp} {ty : TypeId} {pos : String} {aft : Array Edge} {g : Option (Nat × Bool)}
/-- A piece up to the length, where the cap is not known. -/
theorem op_sliceFromU {t e : TypeId} {x y : Operand} {i o len cap by_ l : Nat} {z : Value} {k : IntKind} [td : TyD P t (.slice e)] [ti : TyI P e 1 by_ z]
    (hx : ρ x = .slice (some ⟨i, o, some 1⟩) len cap) (hy : ρ y = .int k (l : Nat)) (h1 : l ≤ len) (kk : K (.slice (some ⟨i, o + l, some 1⟩) (len - l) (cap - l)) h) : AOp P ⟨dst, .slice t x (some y) none none, ty, pos, aft, g⟩ ρ h K :=
  op_slice (l := (l : Nat)) (m := (len : Nat)) hx (by simp [bnd, hy]) rfl (by omega) (by omega) (by omega) (.inr rfl) (by
    rw [show ((len : Int) - (l : Nat)).toNat = len - l by omega, show ((l : Nat) : Int).toNat = l by omega, Nat.mul_one]; exact kk)
end
theorem grown_ins (vs : List Value) (k p n : Nat) (x z : Value) (hn : vs.length = n) (hp : p < n) :
    splice (splice ((vs ++ List.replicate k undef).take p ++ List.replicate (n + 1 - p) z) (0 + p) ([x].take (min 1 (n + 1 - p)))) (0 + (p + 1)) ((((vs ++ List.replicate k undef).drop (0 + p)).take ((n - p) * 1)).take (min (n - p) (n + 1 - (p + 1)))) = insV vs p x := by
  have e1 : ([x].take (min 1 (n + 1 - p))) = [x] := by rw [show min 1 (n + 1 - p) = 1 by omega]; rfl
  have e2 := src_grown vs k p n hn hp
  have e3 : (vs ++ List.replicate k undef).take p = vs.take p := List.take_append_of_le_length (by omega)
  rw [e1, e2, e3, Nat.zero_add, Nat.zero_add]
  have h1 : (vs.take p ++ List.replicate (n + 1 - p) z).length = n + 1 := by simp; omega
  have h2 : (splice (vs.take p ++ List.replicate (n + 1 - p) z) p [x]).length = n + 1 := by rw [length_splice (by simp; omega), h1]
  apply List.ext_getElem?
  intro j
  rw [splice_get _ _ _ (by rw [h2]; simp; omega), splice_get _ _ _ (by rw [h1]; simp; omega), insV_get (by omega)]
  simp only [List.length_drop, List.length_singleton, hn]
  by_cases c1 : p + 1 ≤ j ∧ j < p + 1 + (n - p)
  · rw [if_pos c1, if_neg (by omega), if_neg (by omega), List.getElem?_drop]
    congr 1; omega
  · rw [if_neg c1]
    by_cases c2 : p ≤ j ∧ j < p + 1
    · obtain rfl : j = p := by omega
      rw [if_pos c2, if_neg (by omega), if_pos rfl, Nat.sub_self]; rfl
    · rw [if_neg c2]
      by_cases c3 : j < p
      · rw [if_pos c3, List.getElem?_append_left (by simp; omega), List.getElem?_take_of_lt c3]
      · rw [if_neg c3, if_neg (by omega), List.getElem?_eq_none (by omega), List.getElem?_eq_none (by omega)]
theorem grown_len (vs : List Value) (k p n : Nat) (x z : Value) (hn : vs.length = n) (hp : p < n) : (splice ((vs ++ List.replicate k undef).take p ++ List.replicate (n + 1 - p) z) (0 + p) ([x].take (min 1 (n + 1 - p)))).length = n + 1 := by
  have h1 : ((vs ++ List.replicate k undef).take p ++ List.replicate (n + 1 - p) z).length = n + 1 := by simp; omega
  rw [show ([x].take (min 1 (n + 1 - p))) = [x] by rw [show min 1 (n + 1 - p) = 1 by omega]; rfl, length_splice (by rw [h1]; simp; omega), h1]
theorem room_ins (vs : List Value) (k p n : Nat) (x : Value) (hn : vs.length = n) (hp : p < n) (hk : 0 < k) :
    (splice (splice (vs ++ List.replicate k undef) (0 + (p + 1)) ((((vs ++ List.replicate k undef).drop (0 + p)).take ((n + 1 - p) * 1)).take (min (n + 1 - p) (n + 1 - (p + 1))))) (0 + p) ([x].take (min 1 (n + 1 - p)))).take (n + 1) = insV vs p x := by
  have e1 : ([x].take (min 1 (n + 1 - p))) = [x] := by rw [show min 1 (n + 1 - p) = 1 by omega]; rfl
  have e2 := src_room vs k p n hn hp
  rw [e1, e2, Nat.zero_add, Nat.zero_add]
  have h1 : (vs ++ List.replicate k undef).length = n + k := by simp; omega
  have h2 : (splice (vs ++ List.replicate k undef) (p + 1) (vs.drop p)).length = n + k := by rw [length_splice (by rw [h1]; simp; omega), h1]
  apply List.ext_getElem?
  intro j
  rw [insV_get (by omega)]
  by_cases c0 : j < n + 1
  · rw [List.getElem?_take_of_lt c0, splice_get _ _ _ (by rw [h2]; simp; omega), splice_get _ _ _ (by rw [h1]; simp; omega)]
    simp only [List.length_drop, List.length_singleton, hn]
    by_cases c2 : p ≤ j ∧ j < p + 1
    · obtain rfl : j = p := by omega
      rw [if_pos c2, if_neg (by omega), if_pos rfl, Nat.sub_self]; rfl
    · rw [if_neg c2]
      by_cases c1 : p + 1 ≤ j ∧ j < p + 1 + (n - p)
      · rw [if_pos c1, if_neg (by omega), if_neg (by omega), List.getElem?_drop]
        congr 1; omega
      · rw [if_neg c1, if_pos (by omega), List.getElem?_append_left (by omega)]
  · rw [if_neg (by omega), if_neg (by omega), List.getElem?_eq_none (by simp; omega), List.getElem?_eq_none (by omega)]
end Go.Dsk

/-
  One name more in a row of names.
-/
namespace Go.Proofs.Ytiebmncpdnbcjaa
open Go Go.Eng Go.Dsk
attribute [local irreducible] AWp AL DAL AOp

instance : FnC Try.prog 52 := ⟨Try.f52, Try.func52, by kernel_rfl, by kernel_rfl⟩
instance : XtC Try.prog 61 (Extern.SlicesOverlaps.overlaps #[48, 48] #[4]) := ⟨Try.f61, by kernel_rfl, by kernel_rfl, by kernel_rfl, by kernel_rfl, by kernel_rfl⟩
abbrev nameB (s : List UInt8) : Blk := ⟨[.string (bstr s)], 9, true⟩
theorem sv_one (L : List (List UInt8)) : (sv L).all oneB = true := List.all_eq_true.2 (by intro v hv; obtain ⟨b, _, rfl⟩ := List.mem_map.1 hv; rfl)
set_option maxHeartbeats 1000000 in
theorem ins_end (B : Nat) (u : Value) (L : List (List UInt8)) (s : List UInt8) (j c : Nat) (h : Heap) (hu : OS B h 9 u (sv L)) (hj : h.get j = some (nameB s)) (hB : B ≤ h.next) (hl : L.length ≤ 1000000) :
    ACalls Try.prog 52 [u, .int .i64 (L.length : Nat), .slice (some ⟨j, 0, some 1⟩) 1 c] h fun w h' => OS B h' 9 w (sv (insN L L.length s)) ∧ Keeps u h h' ∧ WF h' ∧ h.next ≤ h'.next := by
  refine ACalls.wf fun wf => ?_
  refine ACalls.body Try.func52 rfl rfl ?_
  have hsl := sv_length L
  have hrs : RS h (.slice (some ⟨j, 0, some 1⟩) 1 c) [.string (bstr s)] := RS.own hj rfl
  repeat (first | refine AL.nil ?_ | refine AWp.seq ?_ | refine AWp.region ?_ | refine AL.set rfl rfl (op_moveI rfl ?_) | refine AL.set rfl rfl (op_assignS rfl ?_) | refine AL.set rfl rfl (op_move (v := u) rfl ?_))
  refine AL.set rfl rfl (op_sliceR hu.rs rfl rfl rfl (by omega) (by omega) (by omega) ?_)
  intro u1 hu1
  repeat (first | refine AL.nil ?_ | refine AWp.seq ?_ | refine AWp.region ?_ | refine AWp.condT rfl ?_ | refine AWp.condF rfl ?_ | refine AWp.skip ?_ | refine AL.set rfl rfl (op_moveI rfl ?_) | refine AL.set rfl rfl (op_moveS rfl ?_) | refine AL.set rfl rfl (op_assignI rfl ?_) | refine AL.set rfl rfl (op_move (v := u) rfl ?_) | refine AL.set rfl rfl (op_lenR hu.rs rfl ?_) | refine AL.set rfl rfl (op_intT rfl rfl rfl (by omega) ?_) | refine AL.set rfl rfl (op_intF rfl rfl rfl (by omega) ?_) | refine AL.set rfl rfl (op_lenS rfl ?_))
  refine AL.set rfl rfl (op_appendO (e := 9) (B := B) rfl wf hB hu rfl rfl hrs.src rfl rfl (by simp only [hsl, maxLen, List.length_singleton]; omega) (by simp only [hsl, List.length_singleton]; omega) ?_)
  intro u' h' o' k' wf' hn'
  repeat (first | refine AL.nil ?_ | refine AWp.ret ?_ | refine AL.set rfl rfl (op_assign (v := u') rfl ?_))
  refine ⟨_, ResV.tmp rfl, ?_, k', wf', hn'⟩
  rw [sv_insN, ← hsl, ← insV_end]
  exact o'
set_option maxHeartbeats 4000000 in
theorem ins_mid (B i c0 : Nat) (L : List (List UInt8)) (s : List UInt8) (p : Nat) (j c : Nat) (h : Heap) (hi : h.get i = some ⟨sv L, 9, true⟩) (hBi : B ≤ i) (hj : h.get j = some (nameB s)) (hij : j ≠ i) (hB : B ≤ h.next) (hp : p < L.length) (hl : L.length ≤ 1000000) :
    ACalls Try.prog 52 [.slice (some ⟨i, 0, some 1⟩) (sv L).length c0, .int .i64 (p : Nat), .slice (some ⟨j, 0, some 1⟩) 1 c] h fun w h' =>
      OS B h' 9 w (sv (insN L p s)) ∧ Keeps (.slice (some ⟨i, 0, some 1⟩) (sv L).length c0) h h' ∧ WF h' ∧ h.next ≤ h'.next := by
  refine ACalls.wf fun wf => ACalls.caps hi rfl rfl fun k hk => ?_
  have hsl := sv_length L
  have hso := sv_one L
  rw [sv_insN]
  generalize sv L = vs at hi hsl hso hk ⊢
  obtain ⟨n, hn⟩ : ∃ n, vs.length = n := ⟨_, rfl⟩
  have hpn : p < n := by omega
  have hn1 : n ≤ 1000000 := by omega
  rw [hn] at hk ⊢
  have hni := wf.lt hi
  have gi := Heap.set_at h i ⟨vs ++ List.replicate k undef, 9, true⟩
  have gj : (h.set i ⟨vs ++ List.replicate k undef, 9, true⟩).get j = some (nameB s) := by rw [Heap.set_other hij]; exact hj
  have wfG := wf.set hni ⟨vs ++ List.replicate k undef, 9, true⟩
  have hco : ∀ q b, h.get q = some b → q ≠ i → (h.set i ⟨vs ++ List.replicate k undef, 9, true⟩).get q = some b := fun q b hq hne => by rw [Heap.set_other hne]; exact hq
  have hoo : ∀ q b, h.obj q = some b → (h.set i ⟨vs ++ List.replicate k undef, 9, true⟩).obj q = some b := fun q b hq => hq
  have hGn : (h.set i ⟨vs ++ List.replicate k undef, 9, true⟩).next = h.next := rfl
  show ACalls _ _ _ (h.set i ⟨vs ++ List.replicate k undef, 9, true⟩) _
  generalize h.set i ⟨vs ++ List.replicate k undef, 9, true⟩ = G at gi gj wfG hco hoo hGn ⊢
  have hcl : (vs ++ List.replicate k undef).length = n + k := by simp [hn]
  have hd : (vs.drop p).all oneB = true := all_drop hso p
  by_cases hk0 : n + k < n + 1
  · refine ACalls.body Try.func52 rfl rfl ?_
    repeat (first | refine AL.nil ?_ | refine AWp.seq ?_ | refine AWp.region ?_ | refine AWp.condT rfl ?_ | refine AWp.condF rfl ?_ | refine AWp.skip ?_ | refine AL.set rfl rfl (op_moveI rfl ?_) | refine AL.set rfl rfl (op_moveS rfl ?_) | refine AL.set rfl rfl (op_assignI rfl ?_) | refine AL.set rfl rfl (op_assignS rfl ?_) | refine AL.set rfl rfl (op_sliceFrom (c := n + k) (l := p) rfl rfl (by omega) (by omega) ?_) | refine AL.set rfl rfl (op_capK (c := n + k) rfl ?_) | refine AL.set rfl rfl (op_intT rfl rfl rfl (by omega) ?_) | refine AL.set rfl rfl (op_intF rfl rfl rfl (by omega) ?_) | refine AL.set rfl rfl (op_sliceTo (c := n + k) (m := p) rfl rfl (by omega) ?_) | refine AL.set rfl rfl (op_add64 rfl rfl (by omega) ?_) | refine AL.set rfl rfl (op_sub64 rfl rfl (by omega) ?_) | refine AL.set rfl rfl (op_lenS rfl ?_))
    refine AL.set rfl rfl (op_appendZK (e := 9) (n := p) (k := n + 1 - p) (c := n + k) (z := .string ⟨#[]⟩) rfl rfl (by show Value.int .i64 ((n : Int) + 1 - p) = _; congr 1; omega) (by omega) (by omega) gi (by rw [hcl]; omega) (by simp only [maxLen]; omega) (by omega) ?_)
    rw [show p + (n + 1 - p) = n + 1 by omega]
    have gn := Heap.alloc_new G ⟨(vs ++ List.replicate k undef).take p ++ List.replicate (n + 1 - p) (.string ⟨#[]⟩), 9, true⟩
    have hx2 := wfG.ext ⟨(vs ++ List.replicate k undef).take p ++ List.replicate (n + 1 - p) (.string ⟨#[]⟩), 9, true⟩
    have wf2 := wfG.alloc ⟨(vs ++ List.replicate k undef).take p ++ List.replicate (n + 1 - p) (.string ⟨#[]⟩), 9, true⟩
    have hn2 : (G.alloc ⟨(vs ++ List.replicate k undef).take p ++ List.replicate (n + 1 - p) (.string ⟨#[]⟩), 9, true⟩).next = G.next + 1 := rfl
    generalize G.alloc ⟨(vs ++ List.replicate k undef).take p ++ List.replicate (n + 1 - p) (.string ⟨#[]⟩), 9, true⟩ = G2 at gn hx2 wf2 hn2 ⊢
    have gi2 := hx2.c _ _ gi
    have gj2 := hx2.c _ _ gj
    have hiN : i ≠ G.next := by omega
    have hjN : j ≠ G.next := by have := wfG.lt gj; omega
    have hrs : Src G2 1 (.slice (some ⟨j, 0, some 1⟩) 1 c) 1 [.string (bstr s)] := (RS.own gj2 rfl).src
    repeat (first | refine AL.nil ?_ | refine AWp.seq ?_ | refine AWp.region ?_ | refine AL.set rfl rfl (op_moveI rfl ?_) | refine AL.set rfl rfl (op_moveS rfl ?_) | refine AL.set rfl rfl (op_assignS rfl ?_) | refine AL.set rfl rfl (op_sliceFromU (l := p) rfl rfl (by omega) ?_))
    refine AL.set rfl rfl (op_copyT (e := 9) rfl rfl hrs gn rfl (by simp; omega) (by rw [show min 1 (n + 1 - p) = 1 by omega]; rfl) ?_)
    have gn3 := Heap.set_at G2 G.next ⟨splice ((vs ++ List.replicate k undef).take p ++ List.replicate (n + 1 - p) (.string ⟨#[]⟩)) (0 + p) ([Value.string (bstr s)].take (min 1 (n + 1 - p))), 9, true⟩
    have gi3 : (G2.set G.next ⟨splice ((vs ++ List.replicate k undef).take p ++ List.replicate (n + 1 - p) (.string ⟨#[]⟩)) (0 + p) ([Value.string (bstr s)].take (min 1 (n + 1 - p))), 9, true⟩).get i = _ := (Heap.set_other hiN).trans gi2
    have hsrc : Src (G2.set G.next ⟨splice ((vs ++ List.replicate k undef).take p ++ List.replicate (n + 1 - p) (.string ⟨#[]⟩)) (0 + p) ([Value.string (bstr s)].take (min 1 (n + 1 - p))), 9, true⟩) 1 (.slice (some ⟨i, 0 + p, some 1⟩) (n - p) (n + k - p + big)) (n - p) _ := Src.slice i (0 + p) (some 1) (n - p) (n + k - p + big) _ gi3 (by rw [hcl]; omega)
    have wf3 := wf2.set (show G.next < G2.next by omega) ⟨splice ((vs ++ List.replicate k undef).take p ++ List.replicate (n + 1 - p) (.string ⟨#[]⟩)) (0 + p) ([Value.string (bstr s)].take (min 1 (n + 1 - p))), 9, true⟩
    have ho3 : ∀ q b, G2.get q = some b → q ≠ G.next → (G2.set G.next ⟨splice ((vs ++ List.replicate k undef).take p ++ List.replicate (n + 1 - p) (.string ⟨#[]⟩)) (0 + p) ([Value.string (bstr s)].take (min 1 (n + 1 - p))), 9, true⟩).get q = some b := fun q b hq hne => (Heap.set_other hne).trans hq
    have hn3 : (G2.set G.next ⟨splice ((vs ++ List.replicate k undef).take p ++ List.replicate (n + 1 - p) (.string ⟨#[]⟩)) (0 + p) ([Value.string (bstr s)].take (min 1 (n + 1 - p))), 9, true⟩).next = G2.next := rfl
    have hoo3 : ∀ q b, G2.obj q = some b → (G2.set G.next ⟨splice ((vs ++ List.replicate k undef).take p ++ List.replicate (n + 1 - p) (.string ⟨#[]⟩)) (0 + p) ([Value.string (bstr s)].take (min 1 (n + 1 - p))), 9, true⟩).obj q = some b := fun q b hq => hq
    generalize G2.set G.next ⟨splice ((vs ++ List.replicate k undef).take p ++ List.replicate (n + 1 - p) (.string ⟨#[]⟩)) (0 + p) ([Value.string (bstr s)].take (min 1 (n + 1 - p))), 9, true⟩ = G3 at gn3 gi3 hsrc wf3 ho3 hn3 hoo3 ⊢
    repeat (first | refine AL.nil ?_ | refine AWp.seq ?_)
    refine AWp.draw (σ := [(0, .R), (1, .R), (2, .R), (3, .R), (4, .R), (5, .R), (6, .R), (7, .R), (8, .W)]) mixed (by kernel_rfl) ?_
    repeat (first | refine DAL.r rfl rfl rfl (fun h' hx hn => op_moveI rfl ⟨rfl, rfl⟩) ?_ | refine DAL.r rfl rfl rfl (fun h' hx hn => op_moveS rfl ⟨rfl, rfl⟩) ?_ | refine DAL.r rfl rfl rfl (fun h' hx hn => op_sliceFromU (l := p + 1) rfl rfl (by omega) ⟨rfl, rfl⟩) ?_ | refine DAL.r rfl rfl rfl (fun h' hx hn => op_sliceFrom (c := n + k) (l := p) rfl rfl (by omega) (by omega) ⟨rfl, rfl⟩) ?_ | refine DAL.r rfl rfl rfl (fun h' hx hn => op_add64 rfl rfl (by omega) ⟨rfl, rfl⟩) ?_)
    refine DAL.w rfl rfl rfl (op_copyT (e := 9) rfl rfl hsrc gn3 rfl (by rw [grown_len vs k p n _ _ hn hpn]; omega) (by rw [src_grown vs k p n hn hpn]; exact hd) ?_)
    rw [grown_ins vs k p n _ _ hn hpn]
    refine DAL.nil ?_
    repeat (first | refine AL.nil ?_ | refine AWp.seq ?_ | refine AWp.region ?_ | refine AWp.ret ?_ | refine AL.set rfl rfl (op_moveS rfl ?_) | refine AL.set rfl rfl (op_assignS rfl ?_))
    refine ⟨_, ResV.tmp rfl, .inr ⟨G.next, n + 1 + 1, by omega, by rw [insV_length, hn]; rfl, Heap.set_at _ _ _⟩, ⟨fun q b hq hne => ?_, fun q b hq => hoo3 q b (hx2.o q b (hoo q b hq))⟩, wf3.set (by omega) _, ?_⟩
    · have hqi : q ≠ i := fun e => hne (some 1) n c0 (by rw [e])
      have hqn : q ≠ G.next := by have := wf.lt hq; omega
      rw [Heap.set_other hqn]
      exact ho3 q b (hx2.c q b (hco q b hq hqi)) hqn
    · show h.next ≤ G3.next
      omega
  · refine ACalls.shrink ?_
    refine ACalls.body Try.func52 rfl rfl ?_
    repeat (first | refine AL.nil ?_ | refine AWp.seq ?_ | refine AWp.region ?_ | refine AWp.condT rfl ?_ | refine AWp.condF rfl ?_ | refine AWp.skip ?_ | refine AL.set rfl rfl (op_moveI rfl ?_) | refine AL.set rfl rfl (op_moveS rfl ?_) | refine AL.set rfl rfl (op_assignI rfl ?_) | refine AL.set rfl rfl (op_assignS rfl ?_) | refine AL.set rfl rfl (op_sliceFrom (c := n + k) (l := p) rfl rfl (by omega) (by omega) ?_) | refine AL.set rfl rfl (op_capK (c := n + k) rfl ?_) | refine AL.set rfl rfl (op_intF rfl rfl rfl (by omega) ?_) | refine AL.set rfl rfl (op_sliceTo (c := n + k) (m := n + 1) rfl rfl (by omega) ?_) | refine AL.set rfl rfl (op_sliceFrom (c := n + k) (l := p + 1) rfl rfl (by omega) (by omega) ?_) | refine AL.set rfl rfl (op_overlapsF (d := .string) (by simp) rfl rfl rfl gj gi rfl rfl hij rfl (by omega) (by omega) (by simp) (by rw [hcl]; omega) ?_) | refine AL.set rfl rfl (op_add64 rfl rfl (by omega) ?_) | refine AL.set rfl rfl (op_not rfl ?_) | refine AL.set rfl rfl (op_lenS rfl ?_))
    have hsrc : Src G 1 (.slice (some ⟨i, 0 + p, some 1⟩) (n + 1 - p) (n + k - p + big)) (n + 1 - p) _ := Src.slice i (0 + p) (some 1) (n + 1 - p) (n + k - p + big) _ gi (by rw [hcl]; omega)
    refine AWp.draw (σ := [(0, .R), (1, .R), (2, .R), (3, .R), (4, .R), (5, .R), (6, .R), (7, .R), (8, .W)]) mixed (by kernel_rfl) ?_
    repeat (first | refine DAL.r rfl rfl rfl (fun h' hx hn => op_moveI rfl ⟨rfl, rfl⟩) ?_ | refine DAL.r rfl rfl rfl (fun h' hx hn => op_moveS rfl ⟨rfl, rfl⟩) ?_ | refine DAL.r rfl rfl rfl (fun h' hx hn => op_sliceFrom (c := n + k) (l := p + 1) rfl rfl (by omega) (by omega) ⟨rfl, rfl⟩) ?_ | refine DAL.r rfl rfl rfl (fun h' hx hn => op_sliceFrom (c := n + k) (l := p) rfl rfl (by omega) (by omega) ⟨rfl, rfl⟩) ?_ | refine DAL.r rfl rfl rfl (fun h' hx hn => op_add64 rfl rfl (by omega) ⟨rfl, rfl⟩) ?_)
    refine DAL.w rfl rfl rfl (op_copyT (e := 9) rfl rfl hsrc gi rfl (by rw [hcl]; omega) (by rw [src_room vs k p n hn hpn]; exact hd) ?_)
    refine DAL.nil ?_
    have gi3 := Heap.set_at G i ⟨splice (vs ++ List.replicate k undef) (0 + (p + 1)) ((((vs ++ List.replicate k undef).drop (0 + p)).take ((n + 1 - p) * 1)).take (min (n + 1 - p) (n + 1 - (p + 1)))), 9, true⟩
    have gj3 : (G.set i ⟨splice (vs ++ List.replicate k undef) (0 + (p + 1)) ((((vs ++ List.replicate k undef).drop (0 + p)).take ((n + 1 - p) * 1)).take (min (n + 1 - p) (n + 1 - (p + 1)))), 9, true⟩).get j = some (nameB s) := (Heap.set_other hij).trans gj
    have wf3 := wfG.set (show i < G.next by omega) ⟨splice (vs ++ List.replicate k undef) (0 + (p + 1)) ((((vs ++ List.replicate k undef).drop (0 + p)).take ((n + 1 - p) * 1)).take (min (n + 1 - p) (n + 1 - (p + 1)))), 9, true⟩
    have ho3 : ∀ q b, G.get q = some b → q ≠ i → (G.set i ⟨splice (vs ++ List.replicate k undef) (0 + (p + 1)) ((((vs ++ List.replicate k undef).drop (0 + p)).take ((n + 1 - p) * 1)).take (min (n + 1 - p) (n + 1 - (p + 1)))), 9, true⟩).get q = some b := fun q b hq hne => (Heap.set_other hne).trans hq
    have hn3 : (G.set i ⟨splice (vs ++ List.replicate k undef) (0 + (p + 1)) ((((vs ++ List.replicate k undef).drop (0 + p)).take ((n + 1 - p) * 1)).take (min (n + 1 - p) (n + 1 - (p + 1)))), 9, true⟩).next = G.next := rfl
    have hoo3 : ∀ q b, G.obj q = some b → (G.set i ⟨splice (vs ++ List.replicate k undef) (0 + (p + 1)) ((((vs ++ List.replicate k undef).drop (0 + p)).take ((n + 1 - p) * 1)).take (min (n + 1 - p) (n + 1 - (p + 1)))), 9, true⟩).obj q = some b := fun q b hq => hq
    have hl3 : (splice (vs ++ List.replicate k undef) (0 + (p + 1)) ((((vs ++ List.replicate k undef).drop (0 + p)).take ((n + 1 - p) * 1)).take (min (n + 1 - p) (n + 1 - (p + 1))))).length = n + k := by rw [src_room vs k p n hn hpn, length_splice (by rw [hcl]; simp; omega), hcl]
    have hfin := room_ins vs k p n (.string (bstr s)) hn hpn (by omega)
    generalize splice (vs ++ List.replicate k undef) (0 + (p + 1)) ((((vs ++ List.replicate k undef).drop (0 + p)).take ((n + 1 - p) * 1)).take (min (n + 1 - p) (n + 1 - (p + 1)))) = C3 at gi3 gj3 wf3 ho3 hn3 hoo3 hl3 hfin ⊢
    generalize G.set i ⟨C3, 9, true⟩ = G3 at gi3 gj3 wf3 ho3 hn3 hoo3 ⊢
    have hrs : Src G3 1 (.slice (some ⟨j, 0, some 1⟩) 1 c) 1 [.string (bstr s)] := (RS.own gj3 rfl).src
    repeat (first | refine AWp.seq ?_ | refine AWp.region ?_ | refine AL.set rfl rfl (op_moveI rfl ?_) | refine AL.set rfl rfl (op_moveS rfl ?_) | refine AL.set rfl rfl (op_sliceFrom (c := n + k) (l := p) rfl rfl (by omega) (by omega) ?_))
    refine AL.set rfl rfl (op_copyT (e := 9) rfl rfl hrs gi3 rfl (by rw [hl3]; omega) (by rw [show min 1 (n + 1 - p) = 1 by omega]; rfl) ?_)
    repeat (first | refine AL.nil ?_ | refine AWp.seq ?_ | refine AWp.region ?_ | refine AWp.ret ?_ | refine AL.set rfl rfl (op_moveS rfl ?_) | refine AL.set rfl rfl (op_assignS rfl ?_))
    refine ⟨_, ResV.tmp rfl, i, _, n + 1, Heap.set_at _ _ _, rfl, ?_⟩
    rw [hfin]
    refine ⟨.inr ⟨i, n + k + big, hBi, by rw [insV_length, hn]; rfl, Heap.set_at _ _ _⟩, ⟨fun q b hq hne => ?_, fun q b hq => hoo3 q b (hoo q b hq)⟩, ?_, ?_⟩
    · have hqi : q ≠ i := fun e => hne (some 1) n c0 (by rw [e])
      rw [Heap.set_other hqi, Heap.set_other hqi]
      exact ho3 q b (hco q b hq hqi) hqi
    · exact (wf3.set (by omega) _).set (show i < G3.next by omega) _
    · show h.next ≤ G3.next
      omega
end Go.Proofs.Ytiebmncpdnbcjaa

/-
  A walk over a disk's files: what has been seen, and what is left.
-/
namespace Go.Dsk
open Go Go.Eng

def left (l : FL) (seen : List Nat) : Nat := (l.filter fun e => !seen.contains e.2.2).length
theorem left_le (l : FL) (seen : List Nat) : left l seen ≤ l.length := List.length_filter_le _ _
theorem left_lt {l : FL} {seen : List Nat} {e : List UInt8 × File × Nat} (he : e ∈ l) (hn : e.2.2 ∉ seen) : left l (seen ++ [e.2.2]) < left l seen := by
  have h1 : (l.filter fun x => !(seen ++ [e.2.2]).contains x.2.2) = (l.filter fun x => !seen.contains x.2.2).filter fun x => !(x.2.2 == e.2.2) := by
    rw [List.filter_filter]
    apply List.filter_congr
    intro x _
    by_cases c1 : x.2.2 ∈ seen <;> by_cases c2 : x.2.2 = e.2.2 <;> simp [c1, c2]
  unfold left
  rw [h1]
  refine List.length_filter_lt_length_iff_exists.2 ⟨e, List.mem_filter.2 ⟨he, by simpa using hn⟩, by simp⟩
theorem nodup_inj {α β : Type} {f : α → β} : ∀ {l : List α}, (l.map f).Nodup → ∀ {x y}, x ∈ l → y ∈ l → f x = f y → x = y
  | [], _, _, _, hx, _, _ => by cases hx
  | a :: l, hn, x, y, hx, hy, hf => by
    rw [List.map_cons, List.nodup_cons] at hn
    rcases List.mem_cons.1 hx with h1 | h1 <;> rcases List.mem_cons.1 hy with h2 | h2
    · rw [h1, h2]
    · exact (hn.1 (List.mem_map.2 ⟨y, h2, by rw [← hf, h1]⟩)).elim
    · exact (hn.1 (List.mem_map.2 ⟨x, h1, by rw [hf, h2]⟩)).elim
    · exact nodup_inj hn.2 h1 h2 hf
theorem kvF_mem {l : FL} {e : List UInt8 × Value × Nat} (h : e ∈ kvF l) : ∃ x ∈ l, e = (x.1, fileV x.2.1, x.2.2) := by
  obtain ⟨x, hx, rfl⟩ := List.mem_map.1 h
  exact ⟨x, hx, rfl⟩
theorem kvF_borns (l : FL) : (kvF l).map (·.2.2) = l.map (·.2.2) := by simp [kvF]
/-- The names that have been met. -/
structure Met (l : FL) (N : List (List UInt8)) (seen : List Nat) : Prop where
  rise : Rise N
  mem : ∀ x, x ∈ N ↔ ∃ e ∈ l, e.1 = x ∧ e.2.2 ∈ seen
  cnt : N.length + left l seen ≤ l.length
theorem Met.nil (l : FL) : Met l [] [] := ⟨List.Pairwise.nil, by simp, by simpa using left_le l []⟩
theorem Met.fresh {room c : Nat} {l : FL} {N : List (List UInt8)} {seen : List Nat} (d : Met l N seen) (k : DOk room l c) {e : List UInt8 × File × Nat} (he : e ∈ l) (hn : e.2.2 ∉ seen) : e.1 ∉ N := by
  intro h
  obtain ⟨x, hx, h1, h2⟩ := (d.mem _).1 h
  obtain rfl := nodup_inj k.names hx he h1
  exact hn h2
theorem Met.put {room c p : Nat} {l : FL} {N : List (List UInt8)} {seen : List Nat} (d : Met l N seen) (k : DOk room l c) {e : List UInt8 × File × Nat} (he : e ∈ l) (hn : e.2.2 ∉ seen) (hp : Place N e.1 p) : Met l (insN N p e.1) (seen ++ [e.2.2]) := by
  refine ⟨insN_rise d.rise hp (d.fresh k he hn), fun x => ?_, ?_⟩
  · rw [insN_mem, d.mem]
    constructor
    · rintro (rfl | ⟨y, hy, h1, h2⟩)
      · exact ⟨e, he, rfl, by simp⟩
      · exact ⟨y, hy, h1, by simp [h2]⟩
    · rintro ⟨y, hy, h1, h2⟩
      rcases List.mem_append.1 h2 with h2 | h2
      · exact .inr ⟨y, hy, h1, h2⟩
      · obtain rfl := nodup_inj k.borns hy he (List.mem_singleton.1 h2)
        exact .inl h1.symm
  · have h1 := left_lt he hn
    have h2 := d.cnt
    have h3 : (insN N p e.1).length = N.length + 1 := by simp [insN]; have := hp.le; omega
    omega
theorem Met.all {l : FL} {N : List (List UInt8)} {seen : List Nat} (d : Met l N seen) (h : ∀ e ∈ l, e.2.2 ∈ seen) (x : List UInt8) : x ∈ N ↔ x ∈ l.map (·.1) := by
  rw [d.mem, List.mem_map]
  exact ⟨fun ⟨e, h1, h2, _⟩ => ⟨e, h1, h2⟩, fun ⟨e, h1, h2⟩ => ⟨e, h1, h2, h e h1⟩⟩
/-- What is left, weighed. -/
def wsum (w : List UInt8 × File × Nat → Nat) (seen : List Nat) : FL → Nat
  | [] => 0
  | a :: l => (if a.2.2 ∈ seen then 0 else w a) + wsum w seen l
theorem wsum_other (w : List UInt8 × File × Nat → Nat) (seen : List Nat) (b : Nat) : ∀ {l : FL}, (∀ x ∈ l, x.2.2 ≠ b) → wsum w (seen ++ [b]) l = wsum w seen l
  | [], _ => rfl
  | a :: l, h => by
    have h1 := h a (by simp)
    rw [wsum, wsum, wsum_other w seen b fun x hx => h x (by simp [hx])]
    simp [h1]
theorem wsum_step (w : List UInt8 × File × Nat → Nat) {seen : List Nat} {e : List UInt8 × File × Nat} (hn : e.2.2 ∉ seen) : ∀ {l : FL}, (l.map (·.2.2)).Nodup → e ∈ l → wsum w (seen ++ [e.2.2]) l + w e = wsum w seen l
  | [], _, h => by cases h
  | a :: l, hd, h => by
    rw [List.map_cons, List.nodup_cons] at hd
    rw [wsum, wsum]
    rcases List.mem_cons.1 h with h1 | h1
    · subst h1
      rw [wsum_other w seen e.2.2 fun x hx hq => hd.1 (List.mem_map.2 ⟨x, hx, hq⟩), if_pos (by simp), if_neg hn]
      omega
    · have h2 : a.2.2 ≠ e.2.2 := fun hq => hd.1 (List.mem_map.2 ⟨e, h1, hq.symm⟩)
      have h3 := wsum_step w hn hd.2 h1
      by_cases h4 : a.2.2 ∈ seen <;> simp [h2, h4] <;> omega
theorem wsum_nil (w : List UInt8 × File × Nat → Nat) : ∀ l : FL, wsum w [] l = (l.map w).sum
  | [] => rfl
  | a :: l => by rw [wsum, wsum_nil w l]; simp
theorem wsum_all (w : List UInt8 × File × Nat → Nat) {seen : List Nat} : ∀ {l : FL}, (∀ e ∈ l, e.2.2 ∈ seen) → wsum w seen l = 0
  | [], _ => rfl
  | a :: l, h => by rw [wsum, wsum_all w fun e he => h e (by simp [he]), if_pos (h a (by simp))]
theorem getS_push (l : FL) (s t : List UInt8) (f : File) (c : Nat) : getS (l ++ [(s, f, c)]) t = (getS l t).or (if s = t then some f else none) := by
  unfold getS
  rw [List.find?_append]
  cases h : l.find? (fun e => e.1 == t) with
  | some e => simp
  | none =>
    by_cases h1 : s = t <;> simp [h1]
/-- A copy on its way. -/
structure Cpd (l l' : FL) (seen : List Nat) : Prop where
  get : ∀ s f, getS l' s = some f ↔ ∃ e ∈ l, e.1 = s ∧ e.2.1 = f ∧ e.2.2 ∈ seen
  used : used l' + wsum (fun e => (allF e.2.1).length) seen l = used l
  cnt : l'.length + wsum (fun _ => 1) seen l = l.length
theorem sum_ones {α : Type} : ∀ l : List α, (l.map fun _ => 1).sum = l.length
  | [] => rfl
  | a :: l => by rw [List.map_cons, List.sum_cons, sum_ones l, List.length_cons]; omega
theorem Cpd.nil (l : FL) : Cpd l [] [] := ⟨by simp [getS], by rw [wsum_nil]; simp [Dsk.used], by rw [wsum_nil, sum_ones]; simp⟩
theorem Cpd.fresh {room c : Nat} {l l' : FL} {seen : List Nat} (d : Cpd l l' seen) (k : DOk room l c) {e : List UInt8 × File × Nat} (he : e ∈ l) (hn : e.2.2 ∉ seen) : hasS l' e.1 = false := by
  rw [← getS_none]
  cases h : getS l' e.1 with
  | none => rfl
  | some f =>
    obtain ⟨x, hx, h1, _, h2⟩ := (d.get _ _).1 h
    obtain rfl := nodup_inj k.names hx he h1
    exact (hn h2).elim
theorem Cpd.fit {room c : Nat} {l l' : FL} {seen : List Nat} (d : Cpd l l' seen) (k : DOk room l c) {e : List UInt8 × File × Nat} (he : e ∈ l) (hn : e.2.2 ∉ seen) : Dsk.used (delS l' e.1) + (allF e.2.1).length ≤ room := by
  rw [del_none (d.fresh k he hn)]
  have h1 := wsum_step (fun e => (allF e.2.1).length) hn k.borns he
  have h2 := d.used
  have h3 := k.used
  omega
theorem Cpd.few {room c : Nat} {l l' : FL} {seen : List Nat} (d : Cpd l l' seen) (k : DOk room l c) {e : List UInt8 × File × Nat} (he : e ∈ l) (hn : e.2.2 ∉ seen) : (delS l' e.1).length ≤ 127 := by
  rw [del_none (d.fresh k he hn)]
  have h1 := wsum_step (fun _ => 1) hn k.borns he
  have h2 := d.cnt
  have h3 := k.cnt
  omega
theorem Cpd.put {room c c' : Nat} {l l' : FL} {seen : List Nat} (d : Cpd l l' seen) (k : DOk room l c) {e : List UInt8 × File × Nat} (he : e ∈ l) (hn : e.2.2 ∉ seen) : Cpd l (putD l' e.1 e.2.1 c') (seen ++ [e.2.2]) := by
  have hf := d.fresh k he hn
  unfold putD
  rw [del_none hf]
  refine ⟨fun s f => ?_, ?_, ?_⟩
  · rw [getS_push]
    cases h : getS l' s with
    | some g =>
      obtain ⟨x, hx, h1, h2, h3⟩ := (d.get _ _).1 h
      rw [show ((some g).or (if e.1 = s then some e.2.1 else none)) = some g from rfl, Option.some.injEq]
      constructor
      · rintro rfl; exact ⟨x, hx, h1, h2, by simp [h3]⟩
      · rintro ⟨y, hy, h4, h5, _⟩
        obtain rfl := nodup_inj k.names hx hy (h1.trans h4.symm)
        rw [← h2, h5]
    | none =>
      simp only [Option.none_or]
      constructor
      · intro h1
        by_cases h2 : e.1 = s
        · rw [if_pos h2] at h1; exact ⟨e, he, h2, by simpa using h1, by simp⟩
        · rw [if_neg h2] at h1; cases h1
      · rintro ⟨y, hy, h1, h2, h3⟩
        rcases List.mem_append.1 h3 with h3 | h3
        · have := (d.get s f).2 ⟨y, hy, h1, h2, h3⟩
          rw [h] at this; cases this
        · obtain rfl := nodup_inj k.borns hy he (List.mem_singleton.1 h3)
          rw [if_pos h1, h2]
  · have h1 := wsum_step (fun e => (allF e.2.1).length) hn k.borns he
    have h2 := d.used
    rw [used_push]
    omega
  · have h1 := wsum_step (fun _ => 1) hn k.borns he
    have h2 := d.cnt
    rw [List.length_append]
    simp only [List.length_singleton]
    omega
theorem Cpd.all {room c : Nat} {l l' : FL} {seen : List Nat} (d : Cpd l l' seen) (k : DOk room l c) (h : ∀ e ∈ l, e.2.2 ∈ seen) : (∀ s, getS l' s = getS l s) ∧ Dsk.used l' = Dsk.used l ∧ l'.length = l.length := by
  refine ⟨fun s => ?_, ?_, ?_⟩
  · apply Option.ext
    intro f
    rw [d.get]
    constructor
    · rintro ⟨e, he, h1, h2, _⟩
      subst h1 h2
      exact mem_get k.names he
    · intro hg
      obtain ⟨b, hb⟩ := get_mem hg
      exact ⟨_, hb, rfl, rfl, h _ hb⟩
  · have := d.used
    rw [wsum_all _ h] at this
    omega
  · have := d.cnt
    rw [wsum_all _ h] at this
    omega
end Go.Dsk

/-
  A disk's names.
-/
namespace Go.Proofs.Ytiebmncpdnbcjaa
open Go Go.Eng Go.Dsk
attribute [local irreducible] AWp AL DAL AOp

instance : FnC Try.prog 24 := ⟨Try.f24, Try.func24, by kernel_rfl, by kernel_rfl⟩
theorem insert_c (B : Nat) (u : Value) (L : List (List UInt8)) (s : List UInt8) (p j c : Nat) (h : Heap) (hu : OS B h 9 u (sv L)) (hj : h.get j = some (nameB s)) (hne : ∀ i s' n c', u = .slice (some ⟨i, 0, s'⟩) n c' → j ≠ i) (hB : B ≤ h.next) (hp : p ≤ L.length) (hl : L.length ≤ 1000000) :
    ACalls Try.prog 52 [u, .int .i64 (p : Nat), .slice (some ⟨j, 0, some 1⟩) 1 c] h fun w h' => OS B h' 9 w (sv (insN L p s)) ∧ Keeps u h h' ∧ WF h' ∧ h.next ≤ h'.next := by
  rcases Nat.lt_or_ge p L.length with h1 | h1
  · rcases hu with ⟨_, h2⟩ | ⟨i, c0, hBi, rfl, hi⟩
    · have := sv_length L
      rw [h2] at this
      simp only [List.length_nil] at this
      omega
    · exact ins_mid B i c0 L s p j c h hi hBi hj (hne i _ _ _ rfl) hB h1 hl
  · obtain rfl : p = L.length := by omega
    exact ins_end B u L s j c h hu hj hB hl
/-- A walk over a disk's names, on its way. -/
structure NW (h : Heap) (m c : Nat) (l : FL) (N : List (List UInt8)) (seen : List Nat) (u : Value) (H : Heap) (clk : Nat) : Prop where
  own : OS h.next H 9 u (sv N)
  met : Met l N seen
  it : H.obj h.next = some (.mapIter (some m) c seen clk)
  clk : c ≤ clk
  ext : Ext h H
  wf : WF H
  nx : h.next < H.next
set_option maxHeartbeats 2000000 in
theorem names_c (i m room : Nat) (l : FL) (c : Nat) (h : Heap) (a : At h i m room l c) :
    ACalls Try.prog 24 [ptr i] h fun u h' => ∃ N, OS h.next h' 9 u (sv N) ∧ Rise N ∧ (∀ x, x ∈ N ↔ x ∈ l.map (·.1)) ∧ N.length ≤ 128 ∧ Ext h h' ∧ WF h' ∧ h.next ≤ h'.next := by
  refine ACalls.wf fun wf => ?_
  refine ACalls.body Try.func24 rfl rfl ?_
  obtain ⟨li, lm⟩ := a.lt wf
  repeat (first | refine AL.nil ?_ | refine AWp.seq ?_ | refine AWp.region ?_ | refine AWp.condF rfl ?_ | refine AWp.skip ?_ | refine AL.set rfl rfl (op_moveP rfl ?_) | refine AL.set rfl rfl (op_assignS rfl ?_) | refine AL.set rfl rfl (op_callS rfl rfl (on_c i room (used l : Nat) (some m) h a.box) ?_) | refine AL.set rfl rfl (op_nilCheck rfl ?_) | refine AL.set rfl rfl (op_fa rfl ?_) | refine AL.set rfl rfl (op_load rfl rfl a.box rfl ?_) | refine AL.set rfl rfl (op_not rfl ?_))
  refine AL.set rfl rfl (op_rangeMap (l := kvF l) rfl a.map ?_)
  repeat (first | refine AL.nil ?_ | refine AWp.block ?_)
  have d0 : NW h m c l [] [] (.slice none 0 0) (h.allocO (.mapIter (some m) c [] c)) c :=
    ⟨OS.nil _ _ _, Met.nil l, by simp [Heap.allocO], Nat.le_refl _, ⟨fun j b e => e, fun j b e => by have := wf.ltO e; simp only [Heap.allocO]; rw [if_neg (by omega)]; exact e⟩, wf.allocO _, by simp [Heap.allocO]⟩
  refine AWp.loop (α := List (List UInt8) × List Nat × Value × Heap × Nat) (fun d => [(2, d.2.2.1), (13, .pointer (some ⟨h.next, 0, none⟩))]) (fun d => d.2.2.2.1) (fun d => NW h m c l d.1 d.2.1 d.2.2.1 d.2.2.2.1 d.2.2.2.2) (fun d => left l d.2.1)
    ([], [], .slice none 0 0, h.allocO (.mapIter (some m) c [] c), c) d0 (Weak.same (EW.cons rfl (EW.cons rfl EW.nil))) ?_
  rintro ⟨N, seen, u, H, clk⟩ d
  replace d : NW h m c l N seen u H clk := d
  show AWp _ _ _ _ [(2, u), (13, .pointer (some ⟨h.next, 0, none⟩))] H
  have hm := d.ext.o _ _ a.map
  repeat (first | refine AWp.seq ?_ | refine AWp.region ?_)
  refine AL.set rfl rfl (op_nextMap (l := kvF l) rfl d.it hm (fun e he => by obtain ⟨x, hx, rfl⟩ := kvF_mem he; exact a.ok.lt x hx) d.clk ?_ ?_)
  · intro hend
    repeat (first | refine AL.nil ?_ | refine AWp.seq ?_ | refine AWp.region ?_ | refine AWp.condF rfl ?_ | refine AWp.ret ?_ | refine AWp.exit ?_ | refine AL.set rfl rfl (op_extract rfl rfl ?_) | refine AL.set rfl rfl (op_move (v := u) rfl ?_) | refine AL.set rfl rfl (op_assign (v := u) rfl ?_))
    have hcnt := d.met.cnt
    have hc := a.ok.cnt
    refine ⟨_, ResV.tmp rfl, N, d.own, d.met.rise, d.met.all (fun e he => ?_), by omega, d.ext, d.wf, by have := d.nx; omega⟩
    exact hend (e.1, fileV e.2.1, e.2.2) (List.mem_map.2 ⟨e, he, rfl⟩)
  · intro e he hns
    obtain ⟨x, hx, rfl⟩ := kvF_mem he
    replace hns : x.2.2 ∉ seen := hns
    have g1 := Heap.setO_at H h.next (.mapIter (some m) c (seen ++ [x.2.2]) c)
    have g2 : (H.setO h.next (.mapIter (some m) c (seen ++ [x.2.2]) c)).obj m = some (.map (ents (kvF l)) c) := (Heap.setO_other (by omega)).trans hm
    have o1 : OS h.next (H.setO h.next (.mapIter (some m) c (seen ++ [x.2.2]) c)) 9 u (sv N) := d.own
    have wf1 := d.wf.setO d.nx (.mapIter (some m) c (seen ++ [x.2.2]) c)
    have x1 : Ext h (H.setO h.next (.mapIter (some m) c (seen ++ [x.2.2]) c)) := ⟨fun j b e => d.ext.c j b e, fun j b e => by rw [Heap.setO_other (by have := wf.ltO e; omega)]; exact d.ext.o j b e⟩
    have n1 : h.next < (H.setO h.next (.mapIter (some m) c (seen ++ [x.2.2]) c)).next := d.nx
    generalize H.setO h.next (.mapIter (some m) c (seen ++ [x.2.2]) c) = H1 at g1 g2 o1 wf1 x1 n1 ⊢
    repeat (first | refine AL.nil ?_ | refine AWp.seq ?_ | refine AWp.region ?_ | refine AWp.condT rfl ?_ | refine AWp.block ?_ | refine AWp.skip ?_ | refine AL.set rfl rfl (op_extract rfl rfl ?_))
    refine AL.set rfl rfl (op_entryMap (l := kvF l) rfl g1 g2 he rfl (by rw [kvF_borns]; exact a.ok.borns) ?_)
    have hcnt := d.met.cnt
    have hc := a.ok.cnt
    repeat (first | refine AL.nil ?_ | refine AWp.seq ?_ | refine AWp.region ?_ | refine AL.set rfl rfl (op_moveStr rfl ?_) | refine AL.set rfl rfl (op_assignStr rfl ?_) | refine AL.set rfl rfl (op_extract rfl rfl ?_) | refine AL.set rfl rfl (op_move (v := u) rfl ?_) | refine AL.set rfl rfl (op_call rfl rfl ((bs_c u N x.1 H1 o1.rs d.met.rise (by omega)).mono ?_)))
    rintro _ H' ⟨p, fb, rfl, hp, hH'⟩; cases hH'.symm
    repeat (first | refine AL.nil ?_ | refine AWp.region ?_ | refine AL.set rfl rfl (op_moveI rfl ?_) | refine AL.set rfl rfl (op_moveStr rfl ?_) | refine AL.set rfl rfl (op_moveT rfl ?_) | refine AL.set rfl rfl (op_assignI rfl ?_) | refine AL.set rfl rfl (op_assignB rfl ?_) | refine AL.set rfl rfl (op_extract rfl rfl ?_) | refine AL.set rfl rfl (op_move (v := u) rfl ?_))
    refine AL.set rfl rfl (op_row [.string (bstr x.1)] rfl rfl rfl rfl (by simp [oneB]) ?_)
    have gj := Heap.alloc_new H1 (nameB x.1)
    have hx2 := wf1.ext (nameB x.1)
    have wf2 := wf1.alloc (nameB x.1)
    have n2 : (H1.alloc (nameB x.1)).next = H1.next + 1 := rfl
    have o2 := o1.ext hx2
    have hne : ∀ i s' n c', u = .slice (some ⟨i, 0, s'⟩) n c' → H1.next ≠ i := by
      intro i s' n c' hu
      rcases o1 with ⟨rfl, _⟩ | ⟨i', c'', _, rfl, hg⟩
      · cases hu
      · cases hu
        have := wf1.lt hg
        omega
    generalize H1.alloc (nameB x.1) = H2 at gj hx2 wf2 n2 o2 ⊢
    refine AL.set rfl rfl (op_call rfl rfl ((insert_c h.next u N x.1 p H1.next 1 H2 o2 gj hne (by omega) hp.le (by omega)).mono ?_))
    rintro u' H3 ⟨o3, k3, wf3, n3⟩
    repeat (first | refine AL.nil ?_ | refine AL.set rfl rfl (op_assign (v := u') rfl ?_))
    have x3 := k3.ext o2 wf (Nat.le_refl _) (x1.trans hx2)
    refine ⟨(insN N p x.1, seen ++ [x.2.2], u', H3, c), ⟨o3, d.met.put a.ok hx hns hp, k3.o _ _ (hx2.o _ _ g1), Nat.le_refl _, x3, wf3, by show h.next < H3.next; omega⟩, left_lt hx hns, Weak.same (EW.cons rfl (EW.cons rfl EW.nil))⟩
end Go.Proofs.Ytiebmncpdnbcjaa
