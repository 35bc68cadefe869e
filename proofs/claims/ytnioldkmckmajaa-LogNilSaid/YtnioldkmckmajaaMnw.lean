/-
  Texts of one claim, merged: 2 parts.
-/
import Derived.Test.YtnioldkmckmajaaMnp
import Derived.Carry
set_option maxHeartbeats 16000000
/-
  The engine: a law, whatever plain arguments come in.
-/
namespace Go.Eng
open Go
section
variable {P : Program}
def wholeB : Option TypeDesc → Bool
  | some (.struct _) => true
  | some (.array _ _) => true
  | _ => false
def RdV (P : Program) (h : Heap) (n : Nat) (t : TypeId) (v : Value) : Prop :=
  bif wholeB (P.underlying t) then ∃ cs : Array Value, v = .agg cs ∧ Rd P h n t cs.toList else Rd P h n t [v]
theorem RdV.ext {h h' : Heap} (hx : Ext h h') {n : Nat} {t : TypeId} {v : Value} (r : RdV P h n t v) : RdV P h' n t v := by
  unfold RdV at r ⊢
  cases hw : wholeB (P.underlying t) with
  | true =>
    rw [hw] at r
    obtain ⟨cs, h1, h2⟩ := r
    exact ⟨cs, h1, h2.ext hx⟩
  | false => rw [hw] at r; exact Rd.ext hx r
variable {H : Type} {enc : TypeId × Value → H} {W : World}
theorem one_of_ok {n : Nat} {t : TypeId} {v : Value} {r : Reach} {base : Nat} (hp : plainT P (n + 1) t = true) (hk : Value.okWide P W r base t v) (hw : wholeB (P.underlying t) = false) : v.cells = #[v] := by
  unfold plainT at hp
  unfold Value.okWide at hk
  cases hu : P.underlying t with
  | none => rw [hu] at hp; cases hp
  | some d =>
    rw [hu] at hp hk hw
    cases d <;> first | (cases hw; done) | skip
    all_goals first
      | (cases hp; done)
      | (simp only [Cell.okWide, hu, Cell.ok] at hk; cases v <;> first | rfl | (exact hk.elim) | (simp at hk))
theorem opens_arg {G n fuel : Nat} {t : TypeId} {v : Value} {r : Reach} {base b0 : Nat} {spare : Nat → Bool} {held : Bool} {x : DataW H × List MemPlace} (hall : ∀ b, spare b = true) (hp : plainT P (n + 1) t = true) (hk : Value.okWide P W r base t v) (ht : DataW.trod enc P W b0 spare held fuel t v.cells.toList = some x)
    (hs : (x.1.weights P t).all (· ≤ reachBytes) = true) : ∀ bs : List RoB, ∃ (bs' : List RoB) (a : Value), RoAll G (bs ++ bs') bs' W ∧ VRel (roRen G (bs ++ bs')) (G + (bs ++ bs').length) a v ∧ RdV P (roHeap G (bs ++ bs')) (n + 1) t a := by
  intro bs
  obtain ⟨b1, avs, r1, v1, d1⟩ := opens (G := G) hall (n + 1) t fuel _ x hp ht hs bs
  cases hw : wholeB (P.underlying t) with
  | true =>
    have hv : ∃ cs, v = .agg cs := by
      unfold Value.okWide at hk
      cases hu : P.underlying t with
      | none => rw [hu] at hw; cases hw
      | some d =>
        rw [hu] at hw hk
        cases d <;> first | (cases hw; done) | (obtain ⟨cs, h1, _⟩ := hk; exact ⟨cs, h1⟩)
    obtain ⟨cs, rfl⟩ := hv
    refine ⟨b1, .agg avs.toArray, r1, ?_, ?_⟩
    · refine .agg _ _ ?_ ?_
      · have := v1.length
        simpa [Value.cells] using this
      · intro k x y hx hy
        have hx' : avs[k]? = some x := by simpa using hx
        obtain ⟨c, hc, hv⟩ := v1.get hx'
        have : cs[k]? = some c := by simpa [Value.cells] using hc
        rw [this] at hy
        cases hy
        exact hv
    · unfold RdV
      rw [hw]
      exact ⟨avs.toArray, rfl, by simpa using d1⟩
  | false =>
    have h1 := one_of_ok hp hk hw
    rw [h1] at v1
    obtain ⟨a, rfl⟩ : ∃ a, avs = [a] := by
      have := v1.length
      match avs, this with
      | [a], _ => exact ⟨a, rfl⟩
    refine ⟨b1, a, r1, ?_, ?_⟩
    · cases v1 with
      | cons h t => exact h
    · unfold RdV
      rw [hw]
      exact d1
theorem opens_args {G n : Nat} {r : Reach} {base : Nat} {spare : Nat → Bool} {held : Bool} (hall : ∀ b, spare b = true) : ∀ (ts : List TypeId) (vs : List Value) (ds : List (DataW H)) (ps : List MemPlace), DataW.TrodAll enc P W 0 spare held ts vs ds ps →
    (∀ t ∈ ts, plainT P (n + 1) t = true) → (∀ (j : Nat) t v, ts[j]? = some t → vs[j]? = some v → Value.okWide P W r base t v) → (DataW.weightsEach P ts ds).all (· ≤ reachBytes) = true → ∀ bs : List RoB,
    ∃ (bs' : List RoB) (avs : List Value), RoAll G (bs ++ bs') bs' W ∧ VRels (roRen G (bs ++ bs')) (G + (bs ++ bs').length) avs vs ∧ ∀ (j : Nat) t a, ts[j]? = some t → avs[j]? = some a → RdV P (roHeap G (bs ++ bs')) (n + 1) t a
  | [], vs, ds, ps, h, _, _, _, bs => by
    obtain ⟨rfl, rfl, rfl⟩ := Go.ChangeShapes.trodAll_nil h
    exact ⟨[], [], (fun b hb => by cases hb), .nil, fun j t a ht => by simp at ht⟩
  | t :: ts, vs, ds, ps, h, hp, hk, hs, bs => by
    obtain ⟨v, vs', d, ds', p, q, rfl, rfl, rfl, ⟨fuel, h0⟩, hr⟩ := Go.ChangeShapes.trodAll_cons h
    have hs1 : (d.weights P t).all (· ≤ reachBytes) = true := List.all_eq_true.2 fun x hx => List.all_eq_true.1 hs x (by simp only [DataW.weightsEach, List.mem_append]; exact .inl hx)
    have hs2 : (DataW.weightsEach P ts ds').all (· ≤ reachBytes) = true := List.all_eq_true.2 fun x hx => List.all_eq_true.1 hs x (by simp only [DataW.weightsEach, List.mem_append]; exact .inr hx)
    obtain ⟨b1, a, r1, v1, d1⟩ := opens_arg (G := G) hall (hp t (by simp)) (hk 0 t v rfl rfl) h0 hs1 bs
    obtain ⟨b2, avs, r2, v2, d2⟩ := opens_args hall ts vs' ds' q hr (fun t' ht => hp t' (List.mem_cons_of_mem _ ht)) (fun j t' v' ht hv => hk (j + 1) t' v' ht hv) hs2 (bs ++ b1)
    refine ⟨b1 ++ b2, a :: avs, ?_, ?_, fun j t' a' ht ha => ?_⟩
    · rw [← List.append_assoc]; exact r1.app.two r2
    · rw [← List.append_assoc]
      exact .cons (v1.mono roRen_app (by simp)) v2
    · rw [← List.append_assoc]
      cases j with
      | zero =>
        simp only [List.getElem?_cons_zero, Option.some.injEq] at ht ha
        subst ht ha
        exact d1.ext roHeap_ext
      | succ j =>
        simp only [List.getElem?_cons_succ] at ht ha
        exact d2 j t' a' ht ha
theorem trodAll_stays (hl : laidOutB P = true) {W' : World} (hb : Go.RowKit.Below W.heap.size W W') : ∀ (ts : List TypeId) (vs : List Value) (ds : List (DataW H)) (ps : List MemPlace), (∀ t ∈ ts, P.readableRec t = true ∧ t < P.types.size) →
    DataW.TrodAll enc P W 0 (fun _ => true) true ts vs ds ps → DataW.TrodAll enc P W' 0 (fun b => decide (b < W.heap.size)) true ts vs ds ps
  | [], vs, ds, ps, _, h => by
    obtain ⟨rfl, rfl, rfl⟩ := Go.ChangeShapes.trodAll_nil h
    rfl
  | t :: ts, vs, ds, ps, hr, h => by
    obtain ⟨v, vs', d, ds', p, q, rfl, rfl, rfl, h0, hr'⟩ := Go.ChangeShapes.trodAll_cons h
    obtain ⟨h1, h2⟩ := hr t (by simp)
    have hlt : ∀ x ∈ p, x.block < W.heap.size := by obtain ⟨m, hm⟩ := h0; exact DataW.trod_lt m _ _ _ hm
    exact trodAll_cons_mk (Go.RowKit.Below.trod hl h1 h2 h0 hb hlt) (trodAll_stays hl hb ts vs' ds' q (fun t' ht => hr t' (List.mem_cons_of_mem _ ht)) hr')
theorem trodAll_len {base : Nat} {spare : Nat → Bool} {held : Bool} : ∀ {ts : List TypeId} {vs : List Value} {ds : List (DataW H)} {ps : List MemPlace}, DataW.TrodAll enc P W base spare held ts vs ds ps → vs.length = ts.length
  | [], vs, ds, ps, h => by
    obtain ⟨rfl, rfl, rfl⟩ := Go.ChangeShapes.trodAll_nil h
    rfl
  | t :: ts, vs, ds, ps, h => by
    obtain ⟨v, vs', d, ds', p, q, rfl, rfl, rfl, _, hr⟩ := Go.ChangeShapes.trodAll_cons h
    simp [trodAll_len hr]
theorem law_any {f : FuncId} {n : Nat} {ts : List TypeId} {args : Array Value} {ds : List (DataW H)} {ps : List MemPlace} {r : Reach} {base : Nat} {held : Bool} (h0 : DataW.TrodAll enc P W 0 (fun _ => true) held ts args.toList ds ps)
    (hp : ∀ t ∈ ts, plainT P (n + 1) t = true) (hk : ∀ (j : Nat) t v, ts[j]? = some t → args.toList[j]? = some v → Value.okWide P W r base t v) (hs : (DataW.weightsEach P ts ds).all (· ≤ reachBytes) = true)
    (p : ∀ h avs, avs.length = ts.length → (∀ (j : Nat) t a, ts[j]? = some t → avs[j]? = some a → RdV P h (n + 1) t a) → ACalls P f avs h fun v _ => v = .bool true) :
    Calls P f args W fun e W' => e = .returned (.bool true) ∧ Go.RowKit.Below W.heap.size W W' := by
  obtain ⟨bs, avs, r1, v1, d1⟩ := opens_args (G := P.globals.size) (n := n) (fun _ => rfl) ts args.toList ds ps h0 hp hk hs []
  rw [List.nil_append] at r1 v1 d1
  have hlen : args.toList.length = ts.length := trodAll_len h0
  have := law_calls (P := P) (f := f) (bs := bs) (W := W) (args := avs) (cargs := args.toList) r1 v1 (p _ avs (by rw [v1.length, hlen]) d1)
  simpa using this
end
end Go.Eng
/-
  The engine: what plain arguments read avs, by the forms that contracts ask for.
-/
namespace Go.Eng
open Go
section
variable {P : Program} {h : Heap} {n : Nat} {t e : TypeId} {cs : List Value}
end
end Go.Eng
