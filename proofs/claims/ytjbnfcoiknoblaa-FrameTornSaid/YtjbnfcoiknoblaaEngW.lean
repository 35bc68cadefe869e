/-
  The engine, part W: appends of bytes, strings of bytes.
-/
import Derived.Test.YtjbnfcoiknoblaaEngN
namespace Go.Eng
open Go

section
variable {P : Program} {ρ : Operand → Value} {h : Heap} {K : Value → Heap → Prop} {dst : Option Tmp} {ty : TypeId} {pos : String} {aft : Array Edge} {g : Option (Nat × Bool)}
/-- append of one or more to a slice of the call's own: the new row lies in a new block. -/
theorem op_appendF {t t2 e : TypeId} {d2 : TypeDesc} {x y : Operand} {by_ B m : Nat} {z u v : Value} {vs news : List Value} [td : TyD P t (.slice e)] [t2d : TyD P t2 d2] [ti : TyI P e 1 by_ z] (hd2 : appB d2 = true) (wf : WF h) (_hB : B ≤ h.next)
    (r : OS B h e u vs) (hx : ρ x = u) (hy : ρ y = v) (hs : Src h 1 v m news) (_hm : news.length = m) (hm0 : 0 < m) (hone : news.all oneB = true) (h1 : vs.length + m ≤ maxLen) (h2 : (vs.length + m) * by_ ≤ 140737488355328)
    (kk : ∀ c h', h'.get h.next = some ⟨vs ++ news, e, true⟩ → Keeps u h h' → WF h' → h.next ≤ h'.next → K (.slice (some ⟨h.next, 0, some 1⟩) (vs.length + m) c) h') : AOp P ⟨dst, .call ⟨.builtin .append, #[x, y], #[t, t2]⟩, ty, pos, aft, g⟩ ρ h K := by
  rcases r with ⟨rfl, rfl⟩ | ⟨i, c, hBi, rfl, hi⟩
  · refine op_appendNil (z := z) hd2 hx hy hs (by simpa using h1) (by simpa using h2) (fun hm0 => by omega) (fun _ => ?_)
    have := kk (m + 1) (h.alloc ⟨news, e, true⟩) (by simp [Heap.alloc_new]) ⟨fun j b hj _ => (wf.ext _).c j b hj, fun j b hj => hj⟩ (wf.alloc _) (by simp [Heap.alloc])
    simpa using this
  · refine op_append (z := z) hd2 hx hy hi rfl rfl (by simp) hs hone h1 h2 ?_
    refine kk _ _ (Heap.kill_alloc_new _ _ _) ⟨fun j b hj hne => ?_, fun j b hj => hj⟩ ((wf.kill i).alloc _) (by simp [Heap.alloc, Heap.kill])
    have := wf.lt hj
    rw [Heap.kill_alloc_old (by omega) (fun e => hne (some 1) vs.length c (by rw [e]))]
    exact hj
/-- A value whose block is not the one of that number. -/
def Off (v : Value) (j : Nat) : Prop := ∀ s n c, v ≠ .slice (some ⟨j, 0, s⟩) n c
theorem Off.nil (j : Nat) (n c : Nat) : Off (.slice none n c) j := fun s n c e => by cases e
theorem Off.of {i j n c : Nat} {s : Option Nat} (h : i ≠ j) : Off (.slice (some ⟨i, 0, s⟩) n c) j := fun s n c e => by cases e; exact h rfl
theorem OS.lt {B : Nat} {e : TypeId} {v : Value} {vs : List Value} {j : Nat} (r : OS B h e v vs) (wf : WF h) (hj : h.next ≤ j) : Off v j := by
  rcases r with ⟨rfl, _⟩ | ⟨i, c, _, rfl, hi⟩
  · exact Off.nil _ _ _
  · exact Off.of (by have := wf.lt hi; omega)
theorem OS.stay {B : Nat} {e : TypeId} {u v : Value} {vs : List Value} {h' : Heap} (r : OS B h e v vs) (k : Keeps u h h') (ho : ∀ i s n c, v = .slice (some ⟨i, 0, s⟩) n c → Off u i) : OS B h' e v vs := by
  rcases r with ⟨rfl, rfl⟩ | ⟨i, c, h1, rfl, h2⟩
  · exact .inl ⟨rfl, rfl⟩
  · exact .inr ⟨i, c, h1, rfl, k i _ h2 (ho i _ _ _ rfl)⟩
/-- A row of rows of bytes that grows, beside a row that grows: all of the call's own, and apart. -/
structure Grows (B : Nat) (ea er eb : TypeId) (H : Heap) (av lv : Value) (as : List Value) (ps : List (List UInt8)) : Prop where
  at_ : OS B H ea av as
  rows : ∃ vs, OS B H er lv vs ∧ vs.length = ps.length ∧ ∀ (k : Nat) (x : Value) (p : List UInt8), vs[k]? = some x → ps[k]? = some p → ∃ i c, x = .slice (some ⟨i, 0, some 1⟩) p.length c ∧ H.get i = some ⟨bv p, eb, true⟩ ∧ Off av i ∧ Off lv i
  apart : ∀ i s n c, lv = .slice (some ⟨i, 0, s⟩) n c → Off av i
section
variable {B : Nat} {ea er eb : TypeId} {H H' : Heap} {av lv : Value} {as : List Value} {ps : List (List UInt8)}
theorem Grows.nil (B : Nat) (ea er eb : TypeId) (H : Heap) : Grows B ea er eb H (.slice none 0 0) (.slice none 0 0) [] [] :=
  ⟨OS.nil _ _ _, ⟨[], OS.nil _ _ _, rfl, fun k x p h => by simp at h⟩, fun i s n c e => by cases e⟩
theorem Grows.ext (g : Grows B ea er eb H av lv as ps) (hx : Ext H H') : Grows B ea er eb H' av lv as ps := by
  obtain ⟨h1, ⟨vs, h2, h3, h4⟩, h5⟩ := g
  refine ⟨h1.ext hx, ⟨vs, h2.ext hx, h3, fun k x p e1 e2 => ?_⟩, h5⟩
  obtain ⟨i, c, q1, q2, q3⟩ := h4 k x p e1 e2
  exact ⟨i, c, q1, hx _ _ q2, q3⟩
theorem Grows.pushA (g : Grows B ea er eb H av lv as ps) (wf : WF H) (hB : B ≤ H.next) {n c : Nat} {news : List Value} (hn : n = (as ++ news).length) (hk : Keeps av H H') (hg : H'.get H.next = some ⟨as ++ news, ea, true⟩) : Grows B ea er eb H' (.slice (some ⟨H.next, 0, some 1⟩) n c) lv (as ++ news) ps := by
  obtain ⟨h1, ⟨vs, h2, h3, h4⟩, h5⟩ := g
  subst hn
  refine ⟨.inr ⟨_, c, hB, rfl, hg⟩, ⟨vs, h2.stay hk h5, h3, fun k x p e1 e2 => ?_⟩, fun i s n c' e => ?_⟩
  · obtain ⟨i, c', q1, q2, q3, q4⟩ := h4 k x p e1 e2
    have := wf.lt q2
    exact ⟨i, c', q1, hk _ _ q2 q3, Off.of (by omega), q4⟩
  · rcases h2 with ⟨rfl, _⟩ | ⟨i', c2, _, rfl, h6⟩
    · cases e
    · cases e
      have := wf.lt h6
      exact Off.of (by omega)
theorem Grows.pushR (g : Grows B ea er eb H av lv as ps) (wf : WF H) (hB : B ≤ H.next) {vs : List Value} {p : List UInt8} {i n c c2 : Nat} (hvs : OS B H er lv vs) (hn : n = vs.length + 1) (hk : Keeps lv H H')
    (hg : H'.get H.next = some ⟨vs ++ [.slice (some ⟨i, 0, some 1⟩) p.length c2], er, true⟩) (hi : H.get i = some ⟨bv p, eb, true⟩) (ha : Off av i) (hl : Off lv i) : Grows B ea er eb H' av (.slice (some ⟨H.next, 0, some 1⟩) n c) as (ps ++ [p]) := by
  obtain ⟨h1, ⟨vs', h2, h3, h4⟩, h5⟩ := g
  have hvv : vs' = vs := by
    rcases h2 with ⟨e1, e2⟩ | ⟨i', c', _, e1, e2⟩
    · rcases hvs with ⟨_, f2⟩ | ⟨i2, c2, _, f1, f2⟩
      · rw [e2, f2]
      · rw [e1] at f1; cases f1
    · rcases hvs with ⟨f1, f2⟩ | ⟨i2, c2, _, f1, f2⟩
      · rw [e1] at f1; cases f1
      · rw [e1] at f1
        injection f1 with q1 _ _
        injection q1 with q1
        injection q1 with q1 _ _
        subst q1
        rw [e2] at f2
        injection f2 with f2
        injection f2
  subst hvv hn
  have hoff : ∀ j, (∃ b, H.get j = some b) → Off (.slice (some ⟨H.next, 0, some 1⟩) (vs'.length + 1) c) j := by
    rintro j ⟨b, hb⟩
    have := wf.lt hb
    exact Off.of (by omega)
  refine ⟨h1.stay hk ?_, ⟨_, .inr ⟨_, c, hB, by rw [List.length_append]; rfl, hg⟩, by simp [h3], fun k x q e1 e2 => ?_⟩, fun j s n c' e => ?_⟩
  · intro j s n c' e s2 n2 c3 e2
    exact h5 j s2 n2 c3 e2 s n c' e
  · by_cases hkl : k < vs'.length
    · rw [List.getElem?_append_left hkl] at e1
      rw [List.getElem?_append_left (by omega)] at e2
      obtain ⟨j, c', q1, q2, q3, q4⟩ := h4 k x q e1 e2
      exact ⟨j, c', q1, hk _ _ q2 q4, q3, hoff j ⟨_, q2⟩⟩
    · have hlt := (List.getElem?_eq_some_iff.1 e1).1
      rw [List.length_append] at hlt
      have hkk : k = vs'.length := by simp at hlt; omega
      subst hkk
      rw [List.getElem?_append_right (Nat.le_refl _), Nat.sub_self] at e1
      rw [List.getElem?_append_right (by omega), show vs'.length - ps.length = 0 from by omega] at e2
      simp at e1 e2
      subst e1 e2
      exact ⟨i, c2, rfl, hk _ _ hi hl, ha, hoff i ⟨_, hi⟩⟩
  · cases e
    rcases h1 with ⟨rfl, _⟩ | ⟨i', c', _, rfl, h6⟩
    · exact Off.nil _ _ _
    · have := wf.lt h6
      exact Off.of (by omega)
theorem Grows.rbb (g : Grows B ea er eb H av lv as ps) : RBB H lv ps := by
  obtain ⟨_, ⟨vs, h2, h3, h4⟩, _⟩ := g
  refine ⟨vs, h2.rs, h3, fun k x p e1 e2 => ?_⟩
  obtain ⟨i, c, rfl, q2, _⟩ := h4 k x p e1 e2
  exact RS.own q2 (bv_length _)
end
theorem OS.ne {B : Nat} {e : TypeId} {v : Value} {vs : List Value} (r : OS B h e v vs) (hn : vs.length ≠ 0) : ∃ i c, B ≤ i ∧ v = .slice (some ⟨i, 0, some 1⟩) vs.length c ∧ h.get i = some ⟨vs, e, true⟩ := by
  rcases r with ⟨_, rfl⟩ | r
  · exact absurd rfl hn
  · exact r
theorem OS.rb {B : Nat} {e : TypeId} {v : Value} {l : List UInt8} (r : OS B h e v (bv l)) : RB h v l := r.rs
/-- Bytes behind nothing: a copy. -/
theorem op_appN {t t2 e : TypeId} {d2 : TypeDesc} {x y : Operand} {B : Nat} {z v : Value} {b : List UInt8} [td : TyD P t (.slice e)] [t2d : TyD P t2 d2] [ti : TyI P e 1 1 z] (hd2 : appB d2 = true) (wf : WF h) (hB : B ≤ h.next)
    (hx : ρ x = .slice none 0 0) (hy : ρ y = v) (hs : RB h v b) (hl : b.length ≤ 1000000000) (kk : ∀ u' h', OS B h' e u' (bv b) → Ext h h' → WF h' → h.next ≤ h'.next → K u' h') : AOp P ⟨dst, .call ⟨.builtin .append, #[x, y], #[t, t2]⟩, ty, pos, aft, g⟩ ρ h K := by
  refine op_appendO (z := z) (B := B) (e := e) hd2 wf hB (OS.nil _ _ _) hx hy hs.src (bv_length _) (bv_one _) (by simp only [List.length_nil, maxLen]; omega) (by simp only [List.length_nil]; omega) ?_
  intro u' h' ho hk wf' hn
  rw [List.nil_append] at ho
  exact kk u' h' ho (hk.ext (OS.nil h.next _ e) wf (Nat.le_refl _) (Ext.refl _)) wf' hn
/-- Bytes, one or more, behind nothing: a copy in a new block. -/
theorem op_appNF {t t2 e : TypeId} {d2 : TypeDesc} {x y : Operand} {z v : Value} {b : List UInt8} [td : TyD P t (.slice e)] [t2d : TyD P t2 d2] [ti : TyI P e 1 1 z] (hd2 : appB d2 = true) (wf : WF h)
    (hx : ρ x = .slice none 0 0) (hy : ρ y = v) (hs : RB h v b) (h0 : 0 < b.length) (hl : b.length ≤ 1000000000) (kk : ∀ c h', h'.get h.next = some ⟨bv b, e, true⟩ → Ext h h' → WF h' → h.next ≤ h'.next → K (.slice (some ⟨h.next, 0, some 1⟩) b.length c) h') : AOp P ⟨dst, .call ⟨.builtin .append, #[x, y], #[t, t2]⟩, ty, pos, aft, g⟩ ρ h K := by
  refine op_appendF (z := z) (B := h.next) (e := e) hd2 wf (Nat.le_refl _) (OS.nil _ _ _) hx hy hs.src (bv_length _) h0 (bv_one _) (by simp only [List.length_nil, maxLen]; omega) (by simp only [List.length_nil]; omega) ?_
  intro c h' hg hk wf' hn
  rw [List.nil_append] at hg
  rw [show ([] : List Value).length + b.length = b.length from Nat.zero_add _]
  exact kk c h' hg (hk.ext (OS.nil h.next _ e) wf (Nat.le_refl _) (Ext.refl _)) wf' hn
/-- Bytes behind bytes of the call's own. -/
theorem op_appB {h0 : Heap} {t t2 e : TypeId} {d2 : TypeDesc} {x y : Operand} {B : Nat} {z u v : Value} {a b : List UInt8} [td : TyD P t (.slice e)] [t2d : TyD P t2 d2] [ti : TyI P e 1 1 z] (hd2 : appB d2 = true) (wf : WF h) (hB : B ≤ h.next)
    (wf0 : WF h0) (h0B : h0.next ≤ B) (hx0 : Ext h0 h) (r : OS B h e u (bv a)) (hx : ρ x = u) (hy : ρ y = v) (hs : RB h v b) (hl : a.length + b.length ≤ 1000000000)
    (kk : ∀ u' h', OS B h' e u' (bv (a ++ b)) → Ext h0 h' → WF h' → h.next ≤ h'.next → K u' h') : AOp P ⟨dst, .call ⟨.builtin .append, #[x, y], #[t, t2]⟩, ty, pos, aft, g⟩ ρ h K := by
  refine op_appendO (z := z) (B := B) (e := e) hd2 wf hB r hx hy hs.src (bv_length _) (bv_one _) (by rw [bv_length]; simp only [maxLen]; omega) (by rw [bv_length]; omega) ?_
  intro u' h' ho hk wf' hn
  rw [show bv a ++ bv b = bv (a ++ b) from (by simp [bv])] at ho
  exact kk u' h' ho (hk.ext r wf0 h0B hx0) wf' hn
theorem bstr_app (a b : List UInt8) : bstr a ++ bstr b = bstr (a ++ b) := by
  apply ByteArray.ext
  simp [bstr]
theorem bstr_toList (l : List UInt8) : (bstr l).toList = l := ByteArray.toList_mk l
theorem op_sEq {t t' : TypeId} {x y : Operand} {a b : List UInt8} (hx : ρ x = .string (bstr a)) (hy : ρ y = .string (bstr b)) (kk : K (.bool (a == b)) h) : AOp P ⟨dst, .binOp .eql t x y t', ty, pos, aft, g⟩ ρ h K :=
  op_strB hx hy (c := a == b) (by simp only [strB, bstr_toList]) kk
theorem op_sEqT {t t' : TypeId} {x y : Operand} {a b : List UInt8} (hx : ρ x = .string (bstr a)) (hy : ρ y = .string (bstr b)) (he : a = b) (kk : K (.bool true) h) : AOp P ⟨dst, .binOp .eql t x y t', ty, pos, aft, g⟩ ρ h K :=
  op_strB hx hy (c := true) (by simp only [strB]; rw [he]; simp) kk
theorem op_sNeF {t t' : TypeId} {x y : Operand} {a b : List UInt8} (hx : ρ x = .string (bstr a)) (hy : ρ y = .string (bstr b)) (he : a = b) (kk : K (.bool false) h) : AOp P ⟨dst, .binOp .neq t x y t', ty, pos, aft, g⟩ ρ h K :=
  op_strB hx hy (c := false) (by simp only [strB]; rw [he]; simp) kk
theorem op_sNeT {t t' : TypeId} {x y : Operand} {a b : List UInt8} (hx : ρ x = .string (bstr a)) (hy : ρ y = .string (bstr b)) (he : ¬ a = b) (kk : K (.bool true) h) : AOp P ⟨dst, .binOp .neq t x y t', ty, pos, aft, g⟩ ρ h K :=
  op_strB hx hy (c := true) (by simp only [strB, bstr_toList]; rw [show (a == b) = false from by simpa using he]; rfl) kk
theorem op_sNe {t t' : TypeId} {x y : Operand} {a b : List UInt8} (hx : ρ x = .string (bstr a)) (hy : ρ y = .string (bstr b)) (kk : K (.bool (!(a == b))) h) : AOp P ⟨dst, .binOp .neq t x y t', ty, pos, aft, g⟩ ρ h K :=
  op_strB hx hy (c := !(a == b)) (by simp only [strB, bstr_toList]) kk
theorem op_sCat {t t' : TypeId} {x y : Operand} {a b : List UInt8} (hx : ρ x = .string (bstr a)) (hy : ρ y = .string (bstr b)) (hs : a.length + b.length ≤ maxLen) (kk : K (.string (bstr (a ++ b))) h) : AOp P ⟨dst, .binOp .add t x y t', ty, pos, aft, g⟩ ρ h K :=
  op_strAdd hx hy (by simpa [bstr, ByteArray.size] using hs) (by rw [bstr_app]; exact kk)
end
end Go.Eng
