/-
  DiskRoom.
-/
import Derived.Test.YtiebmncpdnbcjaaMrgh
namespace Go.Proofs.Ytiebmncpdnbcjaa
open Go Go.Eng Go.Dsk
attribute [local irreducible] AWp AL DAL AOp TAL

section
variable {room c : Nat} {l : FL} {s b : List UInt8}
theorem appE_ok (hg : goodN s = true) (hh : hasS l s = true ∨ l.length < 128) (hu : used l + b.length ≤ room) : appE room l s b = 0 := by
  unfold appE fullB
  rw [hg]
  have : ((!hasS l s && decide (128 ≤ l.length)) || decide (room < used l + b.length)) = false := by
    rw [Bool.or_eq_false_iff, Bool.and_eq_false_iff]
    refine ⟨hh.imp (fun e => by rw [e]; rfl) (fun e => decide_eq_false (by omega)), decide_eq_false (by omega)⟩
  rw [this]
  rfl
theorem appE_full (hg : goodN s = true) (hu : room < used l + b.length) : appE room l s b = 5 := by
  unfold appE fullB
  rw [hg]
  have : ((!hasS l s && decide (128 ≤ l.length)) || decide (room < used l + b.length)) = true := by
    rw [Bool.or_eq_true]
    exact .inr (decide_eq_true hu)
  rw [this]
  rfl
theorem used_app (h : appE room l s b = 0) : used (appL room l c s b) = used l + b.length := by
  unfold appL
  rw [if_pos h]
  unfold putD
  rw [used_push]
  have := used_del l s
  unfold fileOf
  simp only [allF, List.length_append] at this ⊢
  omega
theorem app_names (h : appE room l s b = 0) : (appL room l c s b).map (·.1) = (delS l s).map (·.1) ++ [s] := by
  unfold appL
  rw [if_pos h]
  simp [putD]
theorem app_has (hn : (l.map (·.1)).Nodup) (h : appE room l s b = 0) (t : List UInt8) : hasS (appL room l c s b) t = (hasS l t || t == s) := by
  rw [Bool.eq_iff_iff, has_mem, app_names h, List.mem_append, ← has_mem, del_has hn, Bool.or_eq_true, Bool.and_eq_true]
  by_cases ht : t = s
  · subst ht; simp
  · have : (t == s) = false := by simpa using ht
    rw [this]
    simp [ht]
theorem app_len (h : appE room l s b = 0) : (appL room l c s b).length = (delS l s).length + 1 := by
  have := congrArg List.length (app_names (c := c) h)
  simpa using this
end
theorem names_len {l : FL} {N : List (List UInt8)} (hn : (l.map (·.1)).Nodup) (hr : Rise N) (hm : ∀ x, x ∈ N ↔ x ∈ l.map (·.1)) : N.length = l.length := by
  have := ((List.perm_ext_iff_of_nodup (rise_nodup' hr) hn).2 hm).length_eq
  simpa using this
theorem app_same {room c : Nat} {l : FL} {s b : List UInt8} (h : appE room l s b ≠ 0) : appL room l c s b = l ∧ appC room l c s b = c := by
  unfold appL appC
  rw [if_neg h, if_neg h]
  exact ⟨rfl, rfl⟩
theorem openE_ok {l : FL} {s : List UInt8} (hg : goodN s = true) (hh : hasS l s = true) : openE l s [] = 0 := by
  unfold openE
  rw [hg, hh]
  rfl
theorem app_facts {room c : Nat} {l : FL} {s b : List UInt8} (d : DOk room l c) (h : appE room l s b = 0) : used (appL room l c s b) = used l + b.length ∧ (∀ t, hasS (appL room l c s b) t = (hasS l t || t == s)) ∧ (hasS l s = false → (appL room l c s b).length = l.length + 1) :=
  ⟨used_app h, app_has d.names h, fun hn => by rw [app_len h, del_none hn]⟩
abbrev zs (n : Nat) : List UInt8 := List.replicate n 0
theorem zs_len (n : Nat) : (zs n).length = n := List.length_replicate
theorem op_subZ {P : Program} {ρ : Operand → Value} {h : Heap} {K : Value → Heap → Prop} {dst : Option Tmp} {ty : TypeId} {pos : String} {aft : Array Edge} {g : Option (Nat × Bool)} {t t' : TypeId} {x y : Operand} {a b : Int} {z : Nat} (e : a - b = (z : Nat)) (hz : z ≤ 1048576)
    (hx : ρ x = .int .i64 a) (hy : ρ y = .int .i64 b) (kk : K (.int .i64 (z : Nat)) h) : AOp P ⟨dst, .binOp .sub t x y t', ty, pos, aft, g⟩ ρ h K := op_sub64 hx hy (by omega) (by rw [e]; exact kk)
theorem sub_ex {rm u : Nat} (h : u ≤ rm) (hb : rm ≤ 1048576) : ∃ z : Nat, (rm : Int) - ((u : Nat) : Int) = (z : Nat) ∧ z ≤ 1048576 ∧ u + z = rm := ⟨rm - u, by omega, by omega, by omega⟩
theorem mk1 {z : Nat} (h : z ≤ 1048576) : ((1 : Nat) : Int) * (z : Int) ≤ 281474976710656 := by omega
theorem mk2 {z : Nat} (h : z ≤ 1048576) : (z : Int) ≤ 9223372036854775807 := by omega
set_option maxHeartbeats 4000000 in
set_option maxRecDepth 4000 in
theorem room_walk (h : Heap) (room n m : Int) : ACalls Try.prog 4 [.int .i64 room, .int .i64 n, .int .i64 m] h fun v _ => v = .bool true := by
  refine ACalls.wf fun wf => ?_
  refine ACalls.body Try.func4 rfl rfl ?_
  cases hok : newOk room with
  | false =>
    repeat (first | refine AL.nil ?_ | refine AL.skip rfl rfl ?_ | refine AWp.seq ?_ | refine AWp.region ?_ | refine AWp.condT rfl ?_ | refine AWp.ret ?_ | refine AL.set rfl rfl (op_moveI rfl ?_) | refine AL.set rfl rfl (op_moveB rfl ?_) | refine AL.set rfl rfl (op_moveP rfl ?_) | refine AL.set rfl rfl (op_moveT rfl ?_) | refine AL.set rfl rfl (op_assignI rfl ?_) | refine AL.set rfl rfl (op_assignB rfl ?_) | refine AL.set rfl rfl (op_assignP rfl ?_) | refine AL.set rfl rfl (op_callS rfl rfl (new_no room h hok) ?_) | refine AL.set rfl rfl (op_extract rfl rfl ?_) | refine AL.set rfl rfl (op_callS rfl rfl (num_c _ h) ?_) | refine AL.set rfl rfl (op_callS rfl rfl (known_c h) ?_) | refine AL.set rfl rfl (op_eqPtrNil rfl rfl ?_) | refine AL.set rfl rfl (op_intT rfl rfl rfl (by decide) ?_) | refine AL.set rfl rfl (op_intF rfl rfl rfl (by decide) ?_) | refine AL.set rfl rfl (op_pick (v := .bool _) rfl rfl ?_))
    exact ⟨_, ResV.tmp rfl, rfl⟩
  | true =>
    have hb : 1024 ≤ room ∧ room ≤ 1048576 := of_decide_eq_true hok
    obtain ⟨rm, rfl⟩ : ∃ n : Nat, room = n := ⟨room.toNat, by omega⟩
    repeat (first | refine AL.nil ?_ | refine AWp.seq ?_ | refine AWp.region ?_ | refine AL.set rfl rfl (op_moveI rfl ?_) | refine AL.set rfl rfl (op_assignB rfl ?_))
    refine AL.set rfl rfl (op_call rfl rfl ((new_yes rm h (by omega) (by omega)).wf_post.mono ?_))
    rintro _ H1 ⟨⟨i, m0, rfl, q1, q2, a1, hx1⟩, wf1, _⟩
    have k : Kn h H1 rm i m0 [] 0 := ⟨a1, wf1, hx1, wf.c i q1, wf.o m0 q2⟩
    by_cases c1 : n < 0
    · repeat (first | refine AL.nil ?_ | refine AL.skip rfl rfl ?_ | refine AWp.seq ?_ | refine AWp.region ?_ | refine AWp.condT rfl ?_ | refine AWp.ret ?_ | refine AL.set rfl rfl (op_moveI rfl ?_) | refine AL.set rfl rfl (op_moveB rfl ?_) | refine AL.set rfl rfl (op_moveT rfl ?_) | refine AL.set rfl rfl (op_assignI rfl ?_) | refine AL.set rfl rfl (op_assignB rfl ?_) | refine AL.set rfl rfl (op_assignP rfl ?_) | refine AL.set rfl rfl (op_extract rfl rfl ?_) | refine AL.set rfl rfl (op_callS rfl rfl (num_c _ H1) ?_) | refine AL.set rfl rfl (op_intF rfl rfl rfl (by exact fun e => e rfl) ?_) | refine AL.set rfl rfl (op_intT rfl rfl rfl (by exact c1) ?_) | refine AL.set rfl rfl (op_callS rfl rfl (known_c H1) ?_) | refine AL.set rfl rfl (op_intT rfl rfl rfl (by decide) ?_) | refine AL.set rfl rfl (op_pick (v := .bool _) rfl rfl ?_))
      exact ⟨_, ResV.tmp rfl, rfl⟩
    by_cases c2 : m < 0
    · repeat (first | refine AL.nil ?_ | refine AL.skip rfl rfl ?_ | refine AWp.seq ?_ | refine AWp.region ?_ | refine AWp.condT rfl ?_ | refine AWp.ret ?_ | refine AL.set rfl rfl (op_moveI rfl ?_) | refine AL.set rfl rfl (op_moveB rfl ?_) | refine AL.set rfl rfl (op_moveT rfl ?_) | refine AL.set rfl rfl (op_assignI rfl ?_) | refine AL.set rfl rfl (op_assignB rfl ?_) | refine AL.set rfl rfl (op_assignP rfl ?_) | refine AL.set rfl rfl (op_extract rfl rfl ?_) | refine AL.set rfl rfl (op_callS rfl rfl (num_c _ H1) ?_) | refine AL.set rfl rfl (op_intF rfl rfl rfl (by exact fun e => e rfl) ?_) | refine AL.set rfl rfl (op_intF rfl rfl rfl (by exact c1) ?_) | refine AL.set rfl rfl (op_intT rfl rfl rfl (by exact c2) ?_) | refine AL.set rfl rfl (op_callS rfl rfl (known_c H1) ?_) | refine AL.set rfl rfl (op_intT rfl rfl rfl (by decide) ?_) | refine AL.set rfl rfl (op_pick (v := .bool _) rfl rfl ?_))
      exact ⟨_, ResV.tmp rfl, rfl⟩
    by_cases c3 : n > (rm : Nat)
    · repeat (first | refine AL.nil ?_ | refine AL.skip rfl rfl ?_ | refine AWp.seq ?_ | refine AWp.region ?_ | refine AWp.condT rfl ?_ | refine AWp.ret ?_ | refine AL.set rfl rfl (op_moveI rfl ?_) | refine AL.set rfl rfl (op_moveB rfl ?_) | refine AL.set rfl rfl (op_moveT rfl ?_) | refine AL.set rfl rfl (op_assignI rfl ?_) | refine AL.set rfl rfl (op_assignB rfl ?_) | refine AL.set rfl rfl (op_assignP rfl ?_) | refine AL.set rfl rfl (op_extract rfl rfl ?_) | refine AL.set rfl rfl (op_callS rfl rfl (num_c _ H1) ?_) | refine AL.set rfl rfl (op_intF rfl rfl rfl (by exact fun e => e rfl) ?_) | refine AL.set rfl rfl (op_intF rfl rfl rfl (by exact c1) ?_) | refine AL.set rfl rfl (op_intF rfl rfl rfl (by exact c2) ?_) | refine AL.set rfl rfl (op_intT rfl rfl rfl (by exact c3) ?_) | refine AL.set rfl rfl (op_callS rfl rfl (known_c H1) ?_) | refine AL.set rfl rfl (op_intT rfl rfl rfl (by decide) ?_) | refine AL.set rfl rfl (op_pick (v := .bool _) rfl rfl ?_))
      exact ⟨_, ResV.tmp rfl, rfl⟩
    by_cases c4 : m > (rm : Nat)
    · repeat (first | refine AL.nil ?_ | refine AL.skip rfl rfl ?_ | refine AWp.seq ?_ | refine AWp.region ?_ | refine AWp.condT rfl ?_ | refine AWp.ret ?_ | refine AL.set rfl rfl (op_moveI rfl ?_) | refine AL.set rfl rfl (op_moveB rfl ?_) | refine AL.set rfl rfl (op_moveT rfl ?_) | refine AL.set rfl rfl (op_assignI rfl ?_) | refine AL.set rfl rfl (op_assignB rfl ?_) | refine AL.set rfl rfl (op_assignP rfl ?_) | refine AL.set rfl rfl (op_extract rfl rfl ?_) | refine AL.set rfl rfl (op_callS rfl rfl (num_c _ H1) ?_) | refine AL.set rfl rfl (op_intF rfl rfl rfl (by exact fun e => e rfl) ?_) | refine AL.set rfl rfl (op_intF rfl rfl rfl (by exact c1) ?_) | refine AL.set rfl rfl (op_intF rfl rfl rfl (by exact c2) ?_) | refine AL.set rfl rfl (op_intF rfl rfl rfl (by exact c3) ?_) | refine AL.set rfl rfl (op_intT rfl rfl rfl (by exact c4) ?_) | refine AL.set rfl rfl (op_callS rfl rfl (known_c H1) ?_) | refine AL.set rfl rfl (op_intT rfl rfl rfl (by decide) ?_) | refine AL.set rfl rfl (op_pick (v := .bool _) rfl rfl ?_))
      exact ⟨_, ResV.tmp rfl, rfl⟩
    obtain ⟨x, rfl⟩ : ∃ x : Nat, n = x := ⟨n.toNat, by omega⟩
    obtain ⟨y, rfl⟩ : ∃ y : Nat, m = y := ⟨m.toNat, by omega⟩
    have hxl : x ≤ 1048576 := by omega
    have hyl : y ≤ 1048576 := by omega
    have gA : goodN nA = true := by kernel_rfl
    have gB : goodN nB = true := by kernel_rfl
    repeat (first | refine AL.nil ?_ | refine AWp.seq ?_ | refine AWp.region ?_ | refine AWp.condF rfl ?_ | refine AWp.skip ?_ | refine AL.set rfl rfl (op_moveI rfl ?_) | refine AL.set rfl rfl (op_moveB rfl ?_) | refine AL.set rfl rfl (op_moveP rfl ?_) | refine AL.set rfl rfl (op_moveT rfl ?_) | refine AL.set rfl rfl (op_assignI rfl ?_) | refine AL.set rfl rfl (op_assignP rfl ?_) | refine AL.set rfl rfl (op_extract rfl rfl ?_) | refine AL.set rfl rfl (op_callS rfl rfl (num_c _ H1) ?_) | refine AL.set rfl rfl (op_intF rfl rfl rfl (by exact fun e => e rfl) ?_) | refine AL.set rfl rfl (op_intF rfl rfl rfl (by exact c1) ?_) | refine AL.set rfl rfl (op_intF rfl rfl rfl (by exact c2) ?_) | refine AL.set rfl rfl (op_intF rfl rfl rfl (by exact c3) ?_) | refine AL.set rfl rfl (op_intF rfl rfl rfl (by exact c4) ?_) | refine AL.set rfl rfl (op_pick (v := .bool _) rfl rfl ?_) | refine AL.set rfl rfl (op_eqPtrNil rfl rfl ?_))
    refine AL.set rfl rfl (op_make (l := (x : Nat)) (c := (x : Nat)) rfl rfl (Int.natCast_nonneg _) (Int.le_refl _) (mk1 hxl) (mk2 hxl) rfl ?_)
    refine AL.heap (show _ = H1.alloc (byB (zs x)) from congrArg (fun x => H1.alloc ⟨x, 5, true⟩) (zeros x)) ?_
    have hxH2 := k.wf.ext (byB (zs x))
    have gH2 := Heap.alloc_new H1 (byB (zs x))
    replace k := k.grow hxH2 (k.wf.alloc _)
    have rb : RB (H1.alloc (byB (zs x))) (.slice (some ⟨H1.next, 0, some 1⟩) ((x : Nat) : Int).toNat ((x : Nat) : Int).toNat) (zs x) := RS.own gH2 (by simp [bv_length])
    generalize H1.alloc (byB (zs x)) = H2 at hxH2 gH2 k rb ⊢
    have e1 : appE rm [] nA (zs x) = 0 := appE_ok gA (.inr (by decide)) (by rw [zs_len]; show 0 + x ≤ rm; omega)
    obtain ⟨u1, s1, n1⟩ := app_facts k.dk.ok e1
    have ca := append_c i m0 rm [] 0 nA _ (zs x) H2 k.dk (by decide) rb (by rw [zs_len]; exact Nat.le_trans hxl (by decide))
    rw [e1] at ca
    have d := DOk.app k.dk.ok nA (zs x)
    skip
    refine AL.set rfl rfl (op_call rfl rfl (ca.mono ?_))
    rintro _ _ ⟨rfl, rfl⟩
    replace k := k.st d
    clear ca d
    rw [zs_len, show used [] = 0 from rfl, Nat.zero_add] at u1
    have hA1 := s1 nA
    have hB1 := s1 nB
    rw [show (hasS ([] : FL) nA || nA == nA) = true from by kernel_rfl] at hA1
    rw [show (hasS ([] : FL) nB || nB == nA) = false from by kernel_rfl] at hB1
    replace n1 := n1 rfl
    replace n1 : (appL rm [] 0 nA (zs x)).length = 1 := n1
    clear s1
    generalize appL rm [] 0 nA (zs x) = l1 at k u1 hA1 hB1 n1 ⊢
    generalize appC rm [] 0 nA (zs x) = c1' at k ⊢
    generalize stD H2 i m0 rm l1 c1' = H3 at k ⊢
    repeat (first | refine AL.nil ?_ | refine AWp.seq ?_ | refine AWp.region ?_ | refine AWp.condF rfl ?_ | refine AWp.skip ?_ | refine AL.set rfl rfl (op_moveI rfl ?_) | refine AL.set rfl rfl (op_moveP rfl ?_) | refine AL.set rfl rfl (op_callS rfl rfl (num_c _ H3) ?_) | refine AL.set rfl rfl (op_intF rfl rfl rfl (by exact fun e => e rfl) ?_) | refine AL.set rfl rfl (op_pick (v := .bool _) rfl rfl ?_))
    refine AL.set rfl rfl (op_make (l := (y : Nat)) (c := (y : Nat)) rfl rfl (Int.natCast_nonneg _) (Int.le_refl _) (mk1 hyl) (mk2 hyl) rfl ?_)
    refine AL.heap (show _ = H3.alloc (byB (zs y)) from congrArg (fun x => H3.alloc ⟨x, 5, true⟩) (zeros y)) ?_
    have hxH4 := k.wf.ext (byB (zs y))
    have gH4 := Heap.alloc_new H3 (byB (zs y))
    replace k := k.grow hxH4 (k.wf.alloc _)
    have rb : RB (H3.alloc (byB (zs y))) (.slice (some ⟨H3.next, 0, some 1⟩) ((y : Nat) : Int).toNat ((y : Nat) : Int).toNat) (zs y) := RS.own gH4 (by simp [bv_length])
    generalize H3.alloc (byB (zs y)) = H4 at hxH4 gH4 k rb ⊢
    apply share3 (C := fun L C H6 => Kn h H6 rm i m0 L C ∧ hasS L nA = true)
    · intro tail
      by_cases hf : x + y ≤ rm
      · have e2 : appE rm l1 nB (zs y) = 0 := appE_ok gB (.inr (by omega)) (by rw [zs_len]; omega)
        obtain ⟨u2, s2, n2⟩ := app_facts k.dk.ok e2
        have ca := append_c i m0 rm l1 c1' nB _ (zs y) H4 k.dk (by decide) rb (by rw [zs_len]; exact Nat.le_trans hyl (by decide))
        rw [e2] at ca
        have d := DOk.app k.dk.ok nB (zs y)
        skip
        refine AL.set rfl rfl (op_call rfl rfl (ca.mono ?_))
        rintro _ _ ⟨rfl, rfl⟩
        replace k := k.st d
        clear ca d
        rw [zs_len, u1] at u2
        have hA2 := s2 nA
        rw [hA1, Bool.true_or] at hA2
        replace n2 := n2 hB1
        rw [n1] at n2
        clear s2
        generalize appL rm l1 c1' nB (zs y) = l2 at k u2 hA2 n2 ⊢
        generalize appC rm l1 c1' nB (zs y) = c2 at k ⊢
        generalize stD H4 i m0 rm l2 c2 = H5 at k ⊢
        have cu0 := used_c i m0 rm l2 c2 H5 k.dk
        rw [u2] at cu0
        by_cases hy : y = 0
        · repeat (first | refine AL.nil ?_ | refine AL.skip rfl rfl ?_ | refine AWp.seq ?_ | refine AWp.region ?_ | refine AL.set rfl rfl (op_moveI rfl ?_) | refine AL.set rfl rfl (op_moveB rfl ?_) | refine AL.set rfl rfl (op_moveP rfl ?_) | refine AL.set rfl rfl (op_assignI rfl ?_) | refine AL.set rfl rfl (op_assignB rfl ?_) | refine AL.set rfl rfl (op_intT rfl rfl rfl (by omega) ?_) | refine AL.set rfl rfl (op_intF rfl rfl rfl (by omega) ?_) | refine AL.set rfl rfl (op_boolNeF rfl rfl rfl ?_) | refine AL.set rfl rfl (op_pick (v := .bool _) rfl rfl ?_) | refine AL.set rfl rfl (op_callS rfl rfl (num_c _ H5) ?_) | refine AL.set rfl rfl (op_callS rfl rfl cu0 ?_) | refine AL.set rfl rfl (op_add64 rfl rfl (by omega) ?_) | refine AL.set rfl rfl (op_not rfl ?_))
          refine AL.set rfl rfl (op_call rfl rfl ((names_c i m0 rm l2 c2 H5 k.dk).mono ?_))
          rintro wH5b H5b ⟨NH5b, nnH5b, hRH5b, hNH5b, _, hxH5b, wfH5b, _⟩
          have nlH5b : (sv NH5b).length = l2.length := by rw [sv_length]; exact names_len k.dk.ok.names hRH5b hNH5b
          replace k := k.grow hxH5b wfH5b
          repeat (first | refine AL.skip rfl rfl ?_ | refine AL.set rfl rfl (op_moveB rfl ?_) | refine AL.set rfl rfl (op_moveP rfl ?_) | refine AL.set rfl rfl (op_lenR nnH5b.rs rfl ?_) | refine AL.set rfl rfl (op_intF rfl rfl rfl (by omega) ?_) | refine AL.set rfl rfl (op_pick (v := .bool _) rfl rfl ?_))
          skip
          refine AL.set rfl rfl (op_call rfl rfl ((names_c i m0 rm l2 c2 H5b k.dk).mono ?_))
          rintro wH6 H6 ⟨NH6, nnH6, hRH6, hNH6, _, hxH6, wfH6, _⟩
          have nlH6 : (sv NH6).length = l2.length := by rw [sv_length]; exact names_len k.dk.ok.names hRH6 hNH6
          replace k := k.grow hxH6 wfH6
          repeat (first | refine AL.nil ?_ | refine AWp.seq ?_ | refine AWp.region ?_ | refine AWp.condF rfl ?_ | refine AWp.skip ?_ | refine AL.set rfl rfl (op_moveI rfl ?_) | refine AL.set rfl rfl (op_moveB rfl ?_) | refine AL.set rfl rfl (op_moveP rfl ?_) | refine AL.set rfl rfl (op_lenR nnH6.rs rfl ?_) | refine AL.set rfl rfl (op_intT rfl rfl rfl (by omega) ?_) | refine AL.set rfl rfl (op_pick (v := .bool _) rfl rfl ?_) | refine AL.set rfl rfl (op_not rfl ?_))
          exact AL.drop (env0 := [(0, .int .i64 (rm : Nat)), (7, ptr i), (119, ptr i), (120, .int .i64 (rm : Nat)), (121, ptr i)]) (EW.cons rfl (EW.cons rfl (EW.cons rfl (EW.cons rfl (EW.cons rfl EW.nil))))) (tail l2 c2 H6 ⟨k, hA2⟩)
        · repeat (first | refine AL.nil ?_ | refine AL.skip rfl rfl ?_ | refine AWp.seq ?_ | refine AWp.region ?_ | refine AL.set rfl rfl (op_moveI rfl ?_) | refine AL.set rfl rfl (op_moveB rfl ?_) | refine AL.set rfl rfl (op_moveP rfl ?_) | refine AL.set rfl rfl (op_assignI rfl ?_) | refine AL.set rfl rfl (op_assignB rfl ?_) | refine AL.set rfl rfl (op_intT rfl rfl rfl (by omega) ?_) | refine AL.set rfl rfl (op_intF rfl rfl rfl (by omega) ?_) | refine AL.set rfl rfl (op_boolNeF rfl rfl rfl ?_) | refine AL.set rfl rfl (op_pick (v := .bool _) rfl rfl ?_) | refine AL.set rfl rfl (op_callS rfl rfl (num_c _ H5) ?_) | refine AL.set rfl rfl (op_callS rfl rfl cu0 ?_) | refine AL.set rfl rfl (op_add64 rfl rfl (by omega) ?_) | refine AL.set rfl rfl (op_not rfl ?_))
          refine AL.set rfl rfl (op_call rfl rfl ((names_c i m0 rm l2 c2 H5 k.dk).mono ?_))
          rintro wH5b H5b ⟨NH5b, nnH5b, hRH5b, hNH5b, _, hxH5b, wfH5b, _⟩
          have nlH5b : (sv NH5b).length = l2.length := by rw [sv_length]; exact names_len k.dk.ok.names hRH5b hNH5b
          replace k := k.grow hxH5b wfH5b
          repeat (first | refine AL.skip rfl rfl ?_ | refine AL.set rfl rfl (op_moveB rfl ?_) | refine AL.set rfl rfl (op_moveP rfl ?_) | refine AL.set rfl rfl (op_lenR nnH5b.rs rfl ?_) | refine AL.set rfl rfl (op_intF rfl rfl rfl (by omega) ?_) | refine AL.set rfl rfl (op_pick (v := .bool _) rfl rfl ?_))
          skip
          refine AL.set rfl rfl (op_call rfl rfl ((names_c i m0 rm l2 c2 H5b k.dk).mono ?_))
          rintro wH6 H6 ⟨NH6, nnH6, hRH6, hNH6, _, hxH6, wfH6, _⟩
          have nlH6 : (sv NH6).length = l2.length := by rw [sv_length]; exact names_len k.dk.ok.names hRH6 hNH6
          replace k := k.grow hxH6 wfH6
          repeat (first | refine AL.nil ?_ | refine AWp.seq ?_ | refine AWp.region ?_ | refine AWp.condF rfl ?_ | refine AWp.skip ?_ | refine AL.set rfl rfl (op_moveI rfl ?_) | refine AL.set rfl rfl (op_moveB rfl ?_) | refine AL.set rfl rfl (op_moveP rfl ?_) | refine AL.set rfl rfl (op_lenR nnH6.rs rfl ?_) | refine AL.set rfl rfl (op_intT rfl rfl rfl (by omega) ?_) | refine AL.set rfl rfl (op_pick (v := .bool _) rfl rfl ?_) | refine AL.set rfl rfl (op_not rfl ?_))
          exact AL.drop (env0 := [(0, .int .i64 (rm : Nat)), (7, ptr i), (119, ptr i), (120, .int .i64 (rm : Nat)), (121, ptr i)]) (EW.cons rfl (EW.cons rfl (EW.cons rfl (EW.cons rfl (EW.cons rfl EW.nil))))) (tail l2 c2 H6 ⟨k, hA2⟩)
      · have e2 : appE rm l1 nB (zs y) = 5 := appE_full gB (by rw [zs_len]; omega)
        obtain ⟨w1, w2⟩ := app_same (room := rm) (c := c1') (l := l1) (s := nB) (b := zs y) (by rw [e2]; decide)
        have ca := append_c i m0 rm l1 c1' nB _ (zs y) H4 k.dk (by decide) rb (by rw [zs_len]; exact Nat.le_trans hyl (by decide))
        rw [e2] at ca
        have d := DOk.app k.dk.ok nB (zs y)
        skip
        refine AL.set rfl rfl (op_call rfl rfl (ca.mono ?_))
        rintro _ _ ⟨rfl, rfl⟩
        replace k := k.st d
        clear ca d
        rw [w1, w2] at k ⊢
        clear w1 w2
        have hA2 := hA1
        generalize stD H4 i m0 rm l1 c1' = H5 at k ⊢
        have cu0 := used_c i m0 rm l1 c1' H5 k.dk
        rw [u1] at cu0
        repeat (first | refine AL.nil ?_ | refine AL.skip rfl rfl ?_ | refine AWp.seq ?_ | refine AWp.region ?_ | refine AL.set rfl rfl (op_moveI rfl ?_) | refine AL.set rfl rfl (op_moveB rfl ?_) | refine AL.set rfl rfl (op_moveP rfl ?_) | refine AL.set rfl rfl (op_assignI rfl ?_) | refine AL.set rfl rfl (op_assignB rfl ?_) | refine AL.set rfl rfl (op_intT rfl rfl rfl (by omega) ?_) | refine AL.set rfl rfl (op_intF rfl rfl rfl (by omega) ?_) | refine AL.set rfl rfl (op_boolNeF rfl rfl rfl ?_) | refine AL.set rfl rfl (op_pick (v := .bool _) rfl rfl ?_) | refine AL.set rfl rfl (op_callS rfl rfl (num_c _ H5) ?_) | refine AL.set rfl rfl (op_callS rfl rfl cu0 ?_) | refine AL.set rfl rfl (op_add64 rfl rfl (by omega) ?_) | refine AL.set rfl rfl (op_not rfl ?_))
        refine AL.set rfl rfl (op_call rfl rfl ((names_c i m0 rm l1 c1' H5 k.dk).mono ?_))
        rintro wH5b H5b ⟨NH5b, nnH5b, hRH5b, hNH5b, _, hxH5b, wfH5b, _⟩
        have nlH5b : (sv NH5b).length = l1.length := by rw [sv_length]; exact names_len k.dk.ok.names hRH5b hNH5b
        replace k := k.grow hxH5b wfH5b
        repeat (first | refine AL.set rfl rfl (op_moveB rfl ?_) | refine AL.set rfl rfl (op_moveP rfl ?_) | refine AL.set rfl rfl (op_lenR nnH5b.rs rfl ?_) | refine AL.set rfl rfl (op_intT rfl rfl rfl (by omega) ?_) | refine AL.set rfl rfl (op_pick (v := .bool _) rfl rfl ?_))
        skip
        refine AL.set rfl rfl (op_call rfl rfl ((names_c i m0 rm l1 c1' H5b k.dk).mono ?_))
        rintro wH6 H6 ⟨NH6, nnH6, hRH6, hNH6, _, hxH6, wfH6, _⟩
        have nlH6 : (sv NH6).length = l1.length := by rw [sv_length]; exact names_len k.dk.ok.names hRH6 hNH6
        replace k := k.grow hxH6 wfH6
        repeat (first | refine AL.nil ?_ | refine AL.skip rfl rfl ?_ | refine AWp.seq ?_ | refine AWp.region ?_ | refine AWp.condF rfl ?_ | refine AWp.skip ?_ | refine AL.set rfl rfl (op_moveI rfl ?_) | refine AL.set rfl rfl (op_moveB rfl ?_) | refine AL.set rfl rfl (op_moveP rfl ?_) | refine AL.set rfl rfl (op_lenR nnH6.rs rfl ?_) | refine AL.set rfl rfl (op_intF rfl rfl rfl (by omega) ?_) | refine AL.set rfl rfl (op_pick (v := .bool _) rfl rfl ?_))
        exact AL.drop (env0 := [(0, .int .i64 (rm : Nat)), (7, ptr i), (119, ptr i), (120, .int .i64 (rm : Nat)), (121, ptr i)]) (EW.cons rfl (EW.cons rfl (EW.cons rfl (EW.cons rfl (EW.cons rfl EW.nil))))) (tail l1 c1' H6 ⟨k, hA2⟩)
    · rintro L C H6 ⟨k, hA2⟩
      obtain ⟨z, hz, hzl, hz2⟩ := sub_ex k.dk.ok.used k.dk.big
      repeat (first | refine AL.set rfl rfl (op_callS rfl rfl (used_c i m0 rm L C H6 k.dk) ?_) | refine AL.set rfl rfl (op_subZ hz hzl rfl rfl ?_))
      refine AL.set rfl rfl (op_make (l := (z : Nat)) (c := (z : Nat)) rfl rfl (Int.natCast_nonneg _) (Int.le_refl _) (mk1 hzl) (mk2 hzl) rfl ?_)
      refine AL.heap (show _ = H6.alloc (byB (zs z)) from congrArg (fun x => H6.alloc ⟨x, 5, true⟩) (zeros z)) ?_
      have hxH7 := k.wf.ext (byB (zs z))
      have gH7 := Heap.alloc_new H6 (byB (zs z))
      replace k := k.grow hxH7 (k.wf.alloc _)
      have rb : RB (H6.alloc (byB (zs z))) (.slice (some ⟨H6.next, 0, some 1⟩) ((z : Nat) : Int).toNat ((z : Nat) : Int).toNat) (zs z) := RS.own gH7 (by simp [bv_length])
      generalize H6.alloc (byB (zs z)) = H7 at hxH7 gH7 k rb ⊢
      have e3 : appE rm L nA (zs z) = 0 := appE_ok gA (.inl hA2) (by rw [zs_len, hz2]; exact Nat.le_refl _)
      obtain ⟨u3, s3, _⟩ := app_facts k.dk.ok e3
      have ca := append_c i m0 rm L C nA _ (zs z) H7 k.dk (by decide) rb (by rw [zs_len]; exact Nat.le_trans hzl (by decide))
      rw [e3] at ca
      have d := DOk.app k.dk.ok nA (zs z)
      skip
      refine AL.set rfl rfl (op_call rfl rfl (ca.mono ?_))
      rintro _ _ ⟨rfl, rfl⟩
      replace k := k.st d
      clear ca d
      rw [zs_len] at u3
      replace s3 := s3 nA
      rw [hA2, Bool.true_or] at s3
      generalize appL rm L C nA (zs z) = l3 at k u3 s3 ⊢
      generalize appC rm L C nA (zs z) = c3 at k ⊢
      generalize stD H7 i m0 rm l3 c3 = H8 at k ⊢
      replace u3 : used l3 = rm := u3.trans hz2
      have cu := used_c i m0 rm l3 c3 H8 k.dk
      rw [u3] at cu
      repeat (first | refine AL.set rfl rfl (op_moveI rfl ?_) | refine AL.set rfl rfl (op_moveB rfl ?_) | refine AL.set rfl rfl (op_moveP rfl ?_) | refine AL.set rfl rfl (op_callS rfl rfl (num_c _ H8) ?_) | refine AL.set rfl rfl (op_intF rfl rfl rfl (by exact fun e => e rfl) ?_) | refine AL.set rfl rfl (op_pick (v := .bool _) rfl rfl ?_) | refine AL.set rfl rfl (op_callS rfl rfl cu ?_))
      refine AL.set rfl rfl (op_row (bv [1]) rfl rfl rfl rfl (bv_ones _) ?_)
      refine AL.heap (show _ = H8.alloc (byB [1]) from rfl) ?_
      have hx9 := k.wf.ext (byB [1])
      have g9 := Heap.alloc_new H8 (byB [1])
      replace k := k.grow hx9 (k.wf.alloc _)
      have rb : RB (H8.alloc (byB [1])) (.slice (some ⟨H8.next, 0, some 1⟩) 1 1) [1] := RS.own g9 rfl
      generalize H8.alloc (byB [1]) = H9 at hx9 g9 k rb ⊢
      have e4 : appE rm l3 nA [1] = 5 := appE_full gA (by rw [u3]; exact Nat.lt_succ_self _)
      obtain ⟨w1, w2⟩ := app_same (room := rm) (c := c3) (l := l3) (s := nA) (b := [1]) (by rw [e4]; decide)
      have ca := append_c i m0 rm l3 c3 nA _ [1] H9 k.dk (by decide) rb (by decide)
      rw [e4] at ca
      have d := DOk.app k.dk.ok nA [1]
      skip
      refine AL.set rfl rfl (op_call rfl rfl (ca.mono ?_))
      rintro _ _ ⟨rfl, rfl⟩
      replace k := k.st d
      clear ca d
      rw [w1, w2] at k ⊢
      generalize stD H9 i m0 rm l3 c3 = H10 at k ⊢
      repeat (first | refine AL.set rfl rfl (op_moveB rfl ?_) | refine AL.set rfl rfl (op_moveP rfl ?_) | refine AL.set rfl rfl (op_callS rfl rfl (num_c _ H10) ?_) | refine AL.set rfl rfl (op_intF rfl rfl rfl (by exact fun e => e rfl) ?_) | refine AL.set rfl rfl (op_pick (v := .bool _) rfl rfl ?_))
      have rb : RB H10 (.slice none 0 0) [] := RS.nil _
      have e5 : appE rm l3 nA [] = 0 := appE_ok gA (.inl s3) (by rw [u3]; exact Nat.le_refl _)
      obtain ⟨u5, s5, _⟩ := app_facts k.dk.ok e5
      have ca := append_c i m0 rm l3 c3 nA _ [] H10 k.dk (by decide) rb (by decide)
      rw [e5] at ca
      have d := DOk.app k.dk.ok nA []
      skip
      refine AL.set rfl rfl (op_call rfl rfl (ca.mono ?_))
      rintro _ _ ⟨rfl, rfl⟩
      replace k := k.st d
      clear ca d
      replace s5 := s5 nA
      rw [s3, Bool.true_or] at s5
      generalize appL rm l3 c3 nA [] = l5 at k u5 s5 ⊢
      generalize appC rm l3 c3 nA [] = c5 at k ⊢
      generalize stD H10 i m0 rm l5 c5 = H11 at k ⊢
      have cr := remove_c i m0 rm l5 c5 nA H11 k.dk (by decide)
      rw [openE_ok gA s5] at cr
      have d := DOk.del k.dk.ok nA
      repeat (first | refine AL.set rfl rfl (op_moveB rfl ?_) | refine AL.set rfl rfl (op_moveP rfl ?_) | refine AL.set rfl rfl (op_callS rfl rfl (num_c _ H11) ?_) | refine AL.set rfl rfl (op_intF rfl rfl rfl (by exact fun e => e rfl) ?_) | refine AL.set rfl rfl (op_pick (v := .bool _) rfl rfl ?_))
      refine AL.set rfl rfl (op_call rfl rfl (cr.mono ?_))
      rintro _ _ ⟨rfl, rfl⟩
      have hl6 := del_length s5
      have hl5 := k.dk.ok.cnt
      replace k := k.st d
      clear cr d
      generalize delS l5 nA = l6 at k hl6 ⊢
      generalize stD H11 i m0 rm l6 c5 = H12 at k ⊢
      obtain ⟨z6, hz6, hzl6, hz62⟩ := sub_ex k.dk.ok.used k.dk.big
      repeat (first | refine AL.nil ?_ | refine AWp.seq ?_ | refine AWp.region ?_ | refine AWp.condF rfl ?_ | refine AWp.skip ?_ | refine AL.set rfl rfl (op_moveI rfl ?_) | refine AL.set rfl rfl (op_moveP rfl ?_) | refine AL.set rfl rfl (op_callS rfl rfl (num_c _ H12) ?_) | refine AL.set rfl rfl (op_intF rfl rfl rfl (by exact fun e => e rfl) ?_) | refine AL.set rfl rfl (op_pick (v := .bool _) rfl rfl ?_) | refine AL.set rfl rfl (op_callS rfl rfl (used_c i m0 rm l6 c5 H12 k.dk) ?_) | refine AL.set rfl rfl (op_subZ hz6 hzl6 rfl rfl ?_))
      refine AL.set rfl rfl (op_make (l := (z6 : Nat)) (c := (z6 : Nat)) rfl rfl (Int.natCast_nonneg _) (Int.le_refl _) (mk1 hzl6) (mk2 hzl6) rfl ?_)
      refine AL.heap (show _ = H12.alloc (byB (zs z6)) from congrArg (fun x => H12.alloc ⟨x, 5, true⟩) (zeros z6)) ?_
      have hxH13 := k.wf.ext (byB (zs z6))
      have gH13 := Heap.alloc_new H12 (byB (zs z6))
      replace k := k.grow hxH13 (k.wf.alloc _)
      have rb : RB (H12.alloc (byB (zs z6))) (.slice (some ⟨H12.next, 0, some 1⟩) ((z6 : Nat) : Int).toNat ((z6 : Nat) : Int).toNat) (zs z6) := RS.own gH13 (by simp [bv_length])
      generalize H12.alloc (byB (zs z6)) = H13 at hxH13 gH13 k rb ⊢
      have e7 : appE rm l6 nA (zs z6) = 0 := appE_ok gA (.inr (Nat.lt_of_succ_le (by show l6.length + 1 ≤ 128; rw [hl6]; exact hl5))) (by rw [zs_len, hz62]; exact Nat.le_refl _)
      obtain ⟨u7, _, _⟩ := app_facts k.dk.ok e7
      have ca := append_c i m0 rm l6 c5 nA _ (zs z6) H13 k.dk (by decide) rb (by rw [zs_len]; exact Nat.le_trans hzl6 (by decide))
      rw [e7] at ca
      have d := DOk.app k.dk.ok nA (zs z6)
      skip
      refine AL.set rfl rfl (op_call rfl rfl (ca.mono ?_))
      rintro _ _ ⟨rfl, rfl⟩
      replace k := k.st d
      clear ca d
      rw [zs_len] at u7
      generalize appL rm l6 c5 nA (zs z6) = l7 at k u7 ⊢
      generalize appC rm l6 c5 nA (zs z6) = c7 at k ⊢
      generalize stD H13 i m0 rm l7 c7 = H14 at k ⊢
      replace u7 : used l7 = rm := u7.trans hz62
      have cu2 := used_c i m0 rm l7 c7 H14 k.dk
      rw [u7] at cu2
      repeat (first | refine AL.nil ?_ | refine AWp.ret ?_ | refine AL.set rfl rfl (op_moveI rfl ?_) | refine AL.set rfl rfl (op_moveB rfl ?_) | refine AL.set rfl rfl (op_moveP rfl ?_) | refine AL.set rfl rfl (op_assignB rfl ?_) | refine AL.set rfl rfl (op_callS rfl rfl (num_c _ H14) ?_) | refine AL.set rfl rfl (op_intT rfl rfl rfl rfl ?_) | refine AL.set rfl rfl (op_pick (v := .bool _) rfl rfl ?_) | refine AL.set rfl rfl (op_callS rfl rfl cu2 ?_) | refine AL.set rfl rfl (op_callS rfl rfl (known_c H14) ?_))
      exact ⟨_, ResV.tmp rfl, rfl⟩
end Go.Proofs.Ytiebmncpdnbcjaa
