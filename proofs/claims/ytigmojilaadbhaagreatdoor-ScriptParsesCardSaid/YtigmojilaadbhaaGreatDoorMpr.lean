/-
  Texts of one claim, merged: 8 parts.
-/
import Derived.Test.YtigmojilaadbhaaGreatDoorMpq
import Derived.Test.YtigmojilaadbhaaGreatDoorMph
import Derived.Test.YtigmojilaadbhaaGreatDoorMpe
import Derived.Test.YtigmojilaadbhaaGreatDoorMpk
set_option maxHeartbeats 16000000
/- . -/
namespace Go.Proofs.YtigmojilaadbhaaGreatDoor
open Go Go.Eng Go.Pln Go.Lib Go.Proofs.Tryz
attribute [local irreducible] AWp AL DAL AOp TAL
instance i_lay : FnC prog 61 := ⟨Tryz.f61, func61, by kernel_rfl, by kernel_rfl⟩
theorem qfH {B c : Nat} {h h' : Heap} {e : TypeId} {u : Value} {rows : List (List Value)} (k : Keeps u h h') (r : ON B c h e u rows) : ∀ j b, h.get j = some b → (j < B ∨ b.elem ≠ e) → h'.get j = some b := by
 intro j b hj hb
 refine k.c j b hj fun s n c' hu => ?_
 rcases r.at_ with ⟨h1, _⟩ | ⟨i, cap, h0, h1, h3⟩
 ·
  rw [h1] at hu; cases hu
 ·
  rw [h1] at hu
  cases hu
  rw [hj] at h3
  cases h3
  rcases hb with hb | hb
  ·
   omega
  ·
   exact hb rfl
theorem qiz {B : Nat} {h h' : Heap} {e : TypeId} {u : Value} {vs : List Value} (k : Keeps u h h') (r : OS B h e u vs) : ∀ j b, h.get j = some b → (j < B ∨ b.elem ≠ e) → h'.get j = some b := by
 intro j b hj hb
 refine k.c j b hj fun s n c' hu => ?_
 rcases r with ⟨h1, _⟩ | ⟨i, cap, h0, h1, h3⟩
 ·
  rw [h1] at hu; cases hu
 ·
  rw [h1] at hu
  cases hu
  rw [hj] at h3
  cases h3
  rcases hb with hb | hb
  ·
   omega
  ·
   exact hb rfl
structure GO (B : Nat) (h : Heap) (vg : Value) (gs : List (List Int)) : Prop where
 ex : ∃ vs, OS B h 77 vg vs ∧ vs.length = gs.length ∧ ∀ (k : Nat) v g, vs[k]? = some v → gs[k]? = some g → ∃ B', OS B' h 3 v (iv64 g)
 len : gs.length ≤ 5
 all : ∀ g ∈ gs, g.length ≤ 4
structure AO (B : Nat) (h : Heap) (va : Value) (ac : List ActM) : Prop where
 ex : ∃ rows, ON B 33 h 40 va rows ∧ rows.length = ac.length ∧ ∀ (k : Nat) row a, rows[k]? = some row → ac[k]? = some a → ∃ q, row = actC q a ∧ ∃ B', ActO B' h q a
 len : ac.length ≤ 65536
 all : ∀ a ∈ ac, a.keep.length ≤ 1000
theorem GO.rg {B : Nat} {h : Heap} {vg : Value} {gs : List (List Int)} (g : GO B h vg gs) : RG h vg gs := by
 obtain ⟨vs, h1, h2, h3⟩ := g.ex
 refine ⟨vs, bW h1, h2, by have := g.len; omega, fun k v x hv hx => ?_⟩
 obtain ⟨B', h4⟩ := h3 k v x hv hx
 exact ⟨bW h4, by have := g.all x (Aw hx); omega⟩
theorem AO.ra {B : Nat} {h : Heap} {va : Value} {ac : List ActM} (g : AO B h va ac) : RA h va ac := by
 obtain ⟨rows, h1, h2, h3⟩ := g.ex
 refine ⟨⟨rows, h1.rn, h2, fun k row a hr ha => ?_⟩, by have := g.len; omega⟩
 obtain ⟨q, e, B', h4⟩ := h3 k row a hr ha
 exact ⟨q, e, h4.r (by have := g.all a (Aw ha); omega)⟩
theorem GO.pres {B : Nat} {h h' : Heap} {vg : Value} {gs : List (List Int)} (g : GO B h vg gs) (p : ∀ j b, h.get j = some b → b.elem = 77 ∨ b.elem = 3 → h'.get j = some b) : GO B h' vg gs := by
 obtain ⟨vs, h1, h2, h3⟩ := g.ex
 refine ⟨⟨vs, bV h1 fun j b hj he => p j b hj (.inl he), h2, fun k v x hv hx => ?_⟩, g.len, g.all⟩
 obtain ⟨B', h4⟩ := h3 k v x hv hx
 exact ⟨B', bV h4 fun j b hj he => p j b hj (.inr he)⟩
theorem AO.pres {B : Nat} {h h' : Heap} {va : Value} {ac : List ActM} (g : AO B h va ac) (p : ∀ j b, h.get j = some b → b.elem = 40 ∨ b.elem = 5 ∨ b.elem = 79 → h'.get j = some b) : AO B h' va ac := by
 obtain ⟨rows, h1, h2, h3⟩ := g.ex
 refine ⟨⟨rows, ⟨h1.len, h1.at_.imp id fun ⟨j, c, g1, g2, g3⟩ => ⟨j, c, g1, g2, p _ _ g3 (.inl rfl)⟩⟩, h2, fun k row a hr ha => ?_⟩, g.len, g.all⟩
 obtain ⟨q, e, B', h4⟩ := h3 k row a hr ha
 exact ⟨q, e, B', h4.elem (fun j b hj he => p j b hj (.inr (.inl he))) (fun j b hj he => p j b hj (.inr (.inr he)))⟩
theorem GO.nil (B : Nat) (h : Heap) : GO B h (.slice none 0 0) [] := ⟨⟨[], bP _ _ _, rfl, fun k v g hv => by simp at hv⟩, Ao _, fun g hg => by cases hg⟩
abbrev dA := @GO.nil
theorem AO.nil (B : Nat) (h : Heap) : AO B h (.slice none 0 0) [] := ⟨⟨[], ON.nil _ _ _ _, rfl, fun k v g hv => by simp at hv⟩, Ao _, fun g hg => by cases hg⟩
abbrev dF := @AO.nil
structure Kp2 (B i : Nat) (h h' : Heap) : Prop where
 c : ∀ j b, h.get j = some b → j ≠ i → (j < B ∨ (b.elem ≠ 40 ∧ b.elem ≠ 77)) → h'.get j = some b
 o : ∀ j b, h.obj j = some b → h'.obj j = some b
 n : h.next ≤ h'.next
theorem Kp2.trans {B i : Nat} {a b c : Heap} (x : Kp2 B i a b) (y : Kp2 B i b c) : Kp2 B i a c := ⟨fun j b h1 h2 h3 => y.c j b (x.c j b h1 h2 h3) h2 h3, fun j b h1 => y.o j b (x.o j b h1), Bi x.n y.n⟩
theorem Kp2.ext {B i : Nat} {a b : Heap} (x : Ext a b) (n : a.next ≤ b.next) : Kp2 B i a b := ⟨fun j b h1 _ _ => x.c j b h1, fun j b h1 => x.o j b h1, n⟩
theorem Kp2.set {B i : Nat} (a : Heap) (b : Blk) : Kp2 B i a (a.set i b) := ⟨fun _j _x h1 h2 _ => (aH h2).trans h1, fun _j _x h1 => h1, Aa _⟩
theorem Kp2.act {B i : Nat} {a b : Heap} {u : Value} {rows : List (List Value)} (k : Keeps u a b) (r : ON B 33 a 40 u rows) (n : a.next ≤ b.next) : Kp2 B i a b := ⟨fun j x h1 _ h3 => qfH k r j x h1 (h3.imp id fun e => e.1), fun j x h1 => k.o j x h1, n⟩
theorem Kp2.grp {B i : Nat} {a b : Heap} {u : Value} {vs : List Value} (k : Keeps u a b) (r : OS B a 77 u vs) (n : a.next ≤ b.next) : Kp2 B i a b := ⟨fun j x h1 _ h3 => qiz k r j x h1 (h3.imp id fun e => e.2), fun j x h1 => k.o j x h1, n⟩
theorem qc0 : (44 : TypeId) ≠ 77 ∧ (44 : TypeId) ≠ 3 ∧ (44 : TypeId) ≠ 40 ∧ (44 : TypeId) ≠ 5 ∧ (44 : TypeId) ≠ 79 := by decide
theorem GO.set {B i : Nat} {h : Heap} {vg : Value} {gs : List (List Int)} {x y : Blk} (g : GO B h vg gs) (hi : h.get i = some x) (hx : x.elem = 44) : GO B (h.set i y) vg gs :=
 g.pres fun j b hj he => (aH fun e => by
  subst e; rw [hi] at hj; cases hj
  rcases he with he | he
  ·
   exact qc0.1 (hx.symm.trans he)
  ·
   exact qc0.2.1 (hx.symm.trans he)).trans hj
theorem AO.set {B i : Nat} {h : Heap} {va : Value} {ac : List ActM} {x y : Blk} (g : AO B h va ac) (hi : h.get i = some x) (hx : x.elem = 44) : AO B (h.set i y) va ac :=
 g.pres fun j b hj he => (aH fun e => by
  subst e; rw [hi] at hj; cases hj
  rcases he with he | he | he
  ·
   exact qc0.2.2.1 (hx.symm.trans he)
  ·
   exact qc0.2.2.2.1 (hx.symm.trans he)
  ·
   exact qc0.2.2.2.2 (hx.symm.trans he)).trans hj
structure ScO (B i : Nat) (h : Heap) (s : ScrM) : Prop where
 ex : ∃ vg va, h.get i = some (scrB vg va s.setup) ∧ GO B h vg s.setup.groups ∧ AO B h va s.acts
theorem lay_c (B i : Nat) (s : ScrM) (line : Bytes) (h : Heap) (t : Tabs h) (h8 : 8 ≤ h.next) (hl : line.length ≤ 100000000) (hB : B ≤ h.next) (_hi : B ≤ i) (o : ScO B i h s) (hn : 1 ≤ s.setup.nodes ∧ s.setup.nodes ≤ 5) :
  ACalls prog 61 [ptr i, str line] h fun u h' => u = .bool (layP s line).isSome ∧ ScO B i h' ((layP s line).getD s) ∧ Kp2 B i h h' := by
 refine aL fun wf => ?_
 obtain ⟨vg, va, g1, g2, g3⟩ := o.ex
 refine aD func61 rfl rfl ?_
 repeat (first | refine W.w ?_ | refine zz rfl (qaj rfl ?_) | refine zz rfl (qaa rfl ?_))
 refine zz rfl (qat rfl rfl ((members_c line h t h8 (by omega)).wf_post.mono ?_))
 rintro _ H1 ⟨⟨v, rfl, ov, x1⟩, w1, n1⟩
 have q1 := x1.c _ _ g1
 have q2 := g2.pres fun j b hj _ => x1.c j b hj
 have q3 := g3.pres fun j b hj _ => x1.c j b hj
 obtain ⟨vs, c1, c2, c3⟩ := q2.ex
 obtain ⟨rows, d1, d2, d3⟩ := q3.ex
 have gl := q2.len
 have al := q3.len
 obtain ⟨ga, gc, hvg⟩ := bC c1.rs
 have no : layP s line = none → (Value.bool false = .bool (layP s line).isSome ∧ ScO B i H1 ((layP s line).getD s) ∧ Kp2 B i h H1) := fun e => by
  rw [e]; exact ⟨rfl, ⟨vg, va, q1, q2, q3⟩, Kp2.ext x1 n1⟩
 have hml : (membersP line).1.length ≤ 4 := by
  have key : ∀ (f : Nat) (r : Bytes), (membersV f r).length ≤ f := by
   intro f
   induction f with
   | zero => intro r; exact Aa _
   | succ f ih =>
    intro r
    rw [membersV]
    split
    ·
     exact Ao _
    ·
     have := ih (numS r).2
     simp only [Ad]
     omega
  exact key 4 _
 have cg := qfq s.setup.nodes v (membersP line).1 H1 (bW ov) hn (by omega)
 have hlp : layP s line = if (membersP line).2 then (if s.acts = [] ∧ s.setup.groups.length < 5 ∧ mayGroup s.setup.nodes (membersP line).1 = true then some { s with setup := { s.setup with groups := s.setup.groups ++ [(membersP line).1] } } else none) else (match unlineP line with
  | some a => if mayIn s.setup a = true ∧ s.acts.length < 65536 then some { s with acts := s.acts ++ [a] } else none
  | none => none) := rfl
 generalize (membersP line).1 = mem at hml ov cg hlp no
 cases hm : (membersP line).2 with
 | true =>
  rw [hm, Ah rfl] at hlp
  by_cases ha : s.acts = []
  ·
   have ha0 : rows.length = 0 := by rw [d2, ha]; rfl
   by_cases hg5 : s.setup.groups.length < 5
   ·
    cases hmg : mayGroup s.setup.nodes mem with
    | true =>
     rw [hmg] at cg
     rw [Ah ⟨ha, hg5, hmg⟩] at hlp
     have hv1 : oneB v = true := (cV (bW ov)).1
     repeat (first | refine W.w ?_ | refine aE rfl ?_ | refine aG rfl ?_ | (refine zz rfl ?_; first | refine qae rfl ?_ | refine qaB rfl ?_ | refine qaC rfl ?_ | refine qaa rfl ?_ | refine qav rfl rfl ?_ | refine qao (v := v) rfl ?_ | refine qal (v := v) rfl ?_ | refine qaH rfl ?_ | refine qan rfl ?_ | refine qaf rfl rfl q1 rfl ?_ | refine qaA d1.rn rfl ?_ | refine qaz c1.rs rfl ?_ | refine qab rfl rfl cg ?_ | refine qai rfl rfl rfl (by omega) ?_ | refine qag (v := .bool _) rfl rfl ?_ | refine qaN [v] rfl rfl rfl rfl (by intro w hw; rw [Ax.1 hw]; exact hv1) ?_ | refine qaF rfl ?_))
     obtain ⟨H2, hQ, gr, xr, wr, nr⟩ := aq w1 ⟨[v], 77, true⟩
     rw [hQ]
     have rb : RS H2 (.slice (some ⟨H1.next, 0, some 1⟩) 1 1) [v] := bK gr rfl
     have c1' := c1.ext xr
     refine zz rfl (qaX (by_ := 24) (z := .slice none 0 0) (B := B) (e := 77) rfl wr (by omega) c1' rfl rfl rb.src rfl (by simp [hv1]) (by rw [c2]; simp only [maxLen, Ad, Ag]; omega) (by rw [c2]; simp only [Ad, Ag]; omega) ?_)
     intro u' H3 o3 k3 wf3 n3
     have p3 := qiz k3 c1'
     have e3 := p3 _ _ (xr.c _ _ q1) (.inr qc0.1)
     repeat (first | refine W.w ?_ | refine aJ rfl (qaw (b := scrB vg va s.setup) rfl rfl (cV o3.rs).1 e3 rfl (by exact Ab rfl) ?_) | (refine zz rfl ?_; first | refine qaa rfl ?_ | refine qaH rfl ?_ | refine qan rfl ?_))
     refine ⟨_, aC rfl, by rw [hlp]; rfl, ?_, ((Kp2.ext x1 n1).trans (Kp2.ext xr (by omega))).trans ((Kp2.grp k3 c1' n3).trans (Kp2.set _ _))⟩
     rw [hlp]
     have sg : GO B H3 u' (s.setup.groups ++ [mem]) := by
      refine ⟨⟨vs ++ [v], o3, by simp [c2], fun k w g hw hg => ?_⟩, by rw [An, Ad, Ag]; omega, fun g hg => ?_⟩
      ·
       rcases Bx k vs.length with hk | hk
       ·
        rw [Bs hk] at hw
        rw [Bs (by omega)] at hg
        obtain ⟨B', h4⟩ := c3 k w g hw hg
        exact ⟨B', bV (h4.ext xr) fun j b hj he => p3 j b hj (.inr (by rw [he]; decide))⟩
       ·
        rw [Bn hk] at hw
        rw [Bn (by omega)] at hg
        have hk0 : k - vs.length = 0 := by
         have := (Av.1 hw).1
         simp at this; omega
        rw [hk0] at hw
        rw [show k - s.setup.groups.length = 0 by omega] at hg
        simp at hw hg
        subst hw hg
        exact ⟨h.next, bV (ov.ext xr) fun j b hj he => p3 j b hj (.inr (by rw [he]; decide))⟩
      ·
       rcases Bh.1 hg with hg | hg
       ·
        exact q2.all g hg
       ·
        rw [Ax.1 hg]; exact hml
     have sa : AO B H3 va s.acts := (q3.pres fun j b hj _ => xr.c j b hj).pres fun j b hj he => p3 j b hj (.inr (by rcases he with he | he | he <;> rw [he] <;> decide))
     exact ⟨u', va, aF _ _ _, sg.set e3 rfl, sa.set e3 rfl⟩
    | false =>
     rw [hmg] at cg
     rw [Ac fun e => by rw [hmg] at e; cases e.2.2] at hlp
     repeat (first | refine W.w ?_ | refine aE rfl ?_ | (refine zz rfl ?_; first | refine qae rfl ?_ | refine qaB rfl ?_ | refine qaC rfl ?_ | refine qaa rfl ?_ | refine qav rfl rfl ?_ | refine qao (v := v) rfl ?_ | refine qal (v := v) rfl ?_ | refine qaH rfl ?_ | refine qan rfl ?_ | refine qaf rfl rfl q1 rfl ?_ | refine qaA d1.rn rfl ?_ | refine qaz c1.rs rfl ?_ | refine qab rfl rfl cg ?_ | refine qai rfl rfl rfl (by omega) ?_ | refine qag (v := .bool _) rfl rfl ?_ | refine qaF rfl ?_))
     exact ⟨_, aC rfl, no hlp⟩
   ·
    rw [Ac fun e => hg5 e.2.1] at hlp
    repeat (first | refine W.w ?_ | refine aK rfl rfl ?_ | refine aE rfl ?_ | (refine zz rfl ?_; first | refine qae rfl ?_ | refine qaB rfl ?_ | refine qaC rfl ?_ | refine qaa rfl ?_ | refine qav rfl rfl ?_ | refine qao (v := v) rfl ?_ | refine qaH rfl ?_ | refine qan rfl ?_ | refine qaf rfl rfl q1 rfl ?_ | refine qaA d1.rn rfl ?_ | refine qaz c1.rs rfl ?_ | refine qak rfl rfl rfl (by omega) ?_ | refine qai rfl rfl rfl (by omega) ?_ | refine qag (v := .bool _) rfl rfl ?_))
    exact ⟨_, aC rfl, no hlp⟩
  ·
   have ha0 : rows.length ≠ 0 := fun e => ha (Ce.1 (d2 ▸ e))
   rw [Ac fun e => ha e.1] at hlp
   repeat (first | refine W.w ?_ | refine aK rfl rfl ?_ | refine aE rfl ?_ | (refine zz rfl ?_; first | refine qae rfl ?_ | refine qaB rfl ?_ | refine qaC rfl ?_ | refine qaa rfl ?_ | refine qav rfl rfl ?_ | refine qao (v := v) rfl ?_ | refine qaH rfl ?_ | refine qan rfl ?_ | refine qaf rfl rfl q1 rfl ?_ | refine qaA d1.rn rfl ?_ | refine qak rfl rfl rfl (by omega) ?_ | refine qag (v := .bool _) rfl rfl ?_))
   exact ⟨_, aC rfl, no hlp⟩
 | false =>
  rw [hm, Ac Bool.false_ne_true] at hlp
  repeat (first | refine W.w ?_ | refine aG rfl ?_ | (refine zz rfl ?_; first | refine qae rfl ?_ | refine qaj rfl ?_ | refine qaC rfl ?_ | refine qaa rfl ?_ | refine qav rfl rfl ?_ | refine qao (v := v) rfl ?_))
  refine zz rfl (qat rfl rfl ((qdc line H1 (t.ext x1) (by omega) (by omega)).wf_post.mono ?_))
  rintro _ H2 ⟨⟨q, rfl, ⟨⟨B2, oa⟩, hkl⟩, x2⟩, w2, n2⟩
  have hua : unA line = match unlineP line with | some a => (a, 0) | none => (act0, 4) := rfl
  have ar := oa.r hkl
  repeat (first | refine W.w ?_ | refine aJ rfl (qaL (vs := actC q (unA line).1) rfl rfl rfl rfl (qaO ar) ?_) | (refine zz rfl ?_; first | refine qaC rfl ?_ | refine qad rfl ?_ | refine qav rfl rfl ?_ | refine qax ?_))
  have x3 := w2.ext ⟨actC q (unA line).1, 40, true⟩
  have w3 := w2.alloc ⟨actC q (unA line).1, 40, true⟩
  have g7 := aB H2 ⟨actC q (unA line).1, 40, true⟩
  have n3 : (H2.alloc ⟨actC q (unA line).1, 40, true⟩).next = H2.next + 1 := rfl
  refine cX (h := H2.alloc ⟨actC q (unA line).1, 40, true⟩) rfl ?_
  have n3b : H2.next ≤ (H2.alloc ⟨actC q (unA line).1, 40, true⟩).next := Ci _
  have n2b : h.next ≤ H2.next := by omega
  replace n2b := Bi n2b n3b
  clear n3b
  generalize H2.next = j7 at g7 n3 ⊢
  generalize H2.alloc ⟨actC q (unA line).1, 40, true⟩ = H3 at g7 x3 w3 n3 n2b ⊢
  have x13 := x2.trans x3
  have e1 := x13.c _ _ q1
  have e2 := q2.pres fun j b hj _ => x13.c j b hj
  have e3 := q3.pres fun j b hj _ => x13.c j b hj
  have oa3 : ActO B2 H3 q (unA line).1 := oa.elem (fun j b hj _ => x3.c j b hj) (fun j b hj _ => x3.c j b hj)
  have ar3 := oa3.r hkl
  have k03 := Kp2.ext (B := B) (i := i) (x1.trans x13) n2b
  have no3 : layP s line = none → (Value.bool false = .bool (layP s line).isSome ∧ ScO B i H3 ((layP s line).getD s) ∧ Kp2 B i h H3) := fun e => by
   rw [e]; exact ⟨rfl, ⟨vg, va, e1, e2, e3⟩, k03⟩
  obtain ⟨rows3, d13, d23, d33⟩ := e3.ex
  cases hu : unlineP line with
  | none =>
   rw [hu] at hlp hua
   simp only at hlp hua
   have h4 : (unA line).2 = 4 := by rw [hua]
   refine bN mixed (by kernel_rfl) ?_
   rw [h4]
   repeat' (first | refine bX rfl rfl rfl ?_ | refine aX ?_ | refine dr rfl rfl (fun _ hx _ => qac rfl ⟨rfl, rfl⟩) ?_ | refine dr rfl rfl (fun _ hx _ => qae rfl ⟨rfl, rfl⟩) ?_ | refine dr rfl rfl (fun _ hx _ => qak rfl rfl rfl (by omega) ⟨rfl, rfl⟩) ?_ | refine dr rfl rfl (fun _ hx _ => qag (v := .bool _) rfl rfl ⟨rfl, rfl⟩) ?_)
   repeat' (first | refine W.w ?_ | refine aE rfl ?_ | refine zz rfl (qaa rfl ?_))
   exact ⟨_, aC rfl, no3 hlp⟩
  | some a =>
   rw [hu] at hlp hua
   simp only at hlp hua
   rw [hua] at g7 oa3 ar3
   have h4 : (unA line).2 = 0 := by rw [hua]
   have hka : a.keep.length ≤ 1000 := by
    have hml := (qbI line a).1 hu
    have hq := (qev (by omega) (by omega) a).1 hml.1
    have := hq.2.2.2.2.2.2.2.2
    unfold kp at this
    rw [Ae] at this
    have := of_decide_eq_true this.2
    omega
   have cm := fun (h' : Heap) (hx : Ext H3 h') => mayIn_c s.setup vg q a h' (e2.rg.ext hx) (ar3.ext hx)
   cases hmi : mayIn s.setup a with
   | false =>
    rw [Ac fun e => by rw [hmi] at e; cases e.1] at hlp
    rw [hmi] at cm
    refine bN mixed (by kernel_rfl) ?_
    rw [h4]
    repeat' (first | refine bX rfl rfl rfl ?_ | refine aX ?_ | refine dr rfl rfl (fun _ hx _ => qac rfl ⟨rfl, rfl⟩) ?_ | refine dr rfl rfl (fun _ hx _ => qae rfl ⟨rfl, rfl⟩) ?_ | refine dr rfl rfl (fun _ hx _ => qaB rfl ⟨rfl, rfl⟩) ?_ | refine dr rfl rfl (fun _ hx _ => qaH rfl ⟨rfl, rfl⟩) ?_ | refine dr rfl rfl (fun _ hx _ => qan rfl ⟨rfl, rfl⟩) ?_ | refine dr rfl rfl (fun _ hx _ => qam (sz := 5) rfl rfl (hx.c _ _ e1) (Ab rfl) ⟨rfl, rfl⟩) ?_ | refine dr rfl rfl (fun _ hx _ => qam (sz := 33) rfl rfl (hx.c _ _ g7) (Aa _) ⟨rfl, rfl⟩) ?_ | refine dr rfl rfl (fun h' hx _ => qab rfl rfl (cm h' hx) ⟨rfl, rfl⟩) ?_ | refine dr rfl rfl (fun _ hx _ => qai rfl rfl rfl (by omega) ⟨rfl, rfl⟩) ?_ | refine dr rfl rfl (fun _ hx _ => qaF rfl ⟨rfl, rfl⟩) ?_ | refine dr rfl rfl (fun _ hx _ => qag (v := .bool _) rfl rfl ⟨rfl, rfl⟩) ?_)
    repeat' (first | refine W.w ?_ | refine aE rfl ?_ | refine zz rfl (qaa rfl ?_))
    exact ⟨_, aC rfl, no3 hlp⟩
   | true =>
    rw [hmi] at cm
    by_cases hfull : s.acts.length < 65536
    ·
     rw [Ah ⟨hmi, hfull⟩] at hlp
     refine bN mixed (by kernel_rfl) ?_
     rw [h4]
     repeat' (first | refine aX ?_ | refine dr rfl rfl (fun _ hx _ => qac rfl ⟨rfl, rfl⟩) ?_ | refine dr rfl rfl (fun _ hx _ => qae rfl ⟨rfl, rfl⟩) ?_ | refine dr rfl rfl (fun _ hx _ => qaB rfl ⟨rfl, rfl⟩) ?_ | refine dr rfl rfl (fun _ hx _ => qaH rfl ⟨rfl, rfl⟩) ?_ | refine dr rfl rfl (fun _ hx _ => qan rfl ⟨rfl, rfl⟩) ?_ | refine dr rfl rfl (fun _ hx _ => qam (sz := 5) rfl rfl (hx.c _ _ e1) (Ab rfl) ⟨rfl, rfl⟩) ?_ | refine dr rfl rfl (fun _ hx _ => qam (sz := 33) rfl rfl (hx.c _ _ g7) (Aa _) ⟨rfl, rfl⟩) ?_ | refine dr rfl rfl (fun h' hx _ => qab rfl rfl (cm h' hx) ⟨rfl, rfl⟩) ?_ | refine dr rfl rfl (fun _ hx _ => qaf rfl rfl (hx.c _ _ e1) rfl ⟨rfl, rfl⟩) ?_ | refine dr rfl rfl (fun _ hx _ => qaA (d13.rn.ext hx) rfl ⟨rfl, rfl⟩) ?_ | refine dr rfl rfl (fun _ hx _ => qai rfl rfl rfl (by omega) ⟨rfl, rfl⟩) ?_ | refine dr rfl rfl (fun _ hx _ => qaF rfl ⟨rfl, rfl⟩) ?_ | refine dr rfl rfl (fun _ hx _ => qag (v := .bool _) rfl rfl ⟨rfl, rfl⟩) ?_)
     repeat (first | refine W.w ?_ | refine aG rfl ?_)
     refine cD (t := OT.seq [(0, .P), (1, .R), (2, .R), (3, .R), (4, .R), (5, .R), (6, .X), (7, .W), (8, .P), (9, .P), (10, .W)] .nil) mixed (by kernel_rfl) ?_
     repeat (first | refine tr rfl rfl (fun _ hx _ => qaB rfl ⟨rfl, rfl⟩) ?_ | refine tr rfl rfl (fun _ hx _ => qaH rfl ⟨rfl, rfl⟩) ?_ | refine tr rfl rfl (fun _ hx _ => qan rfl ⟨rfl, rfl⟩) ?_ | refine tr rfl rfl (fun _ hx _ => qaf rfl rfl (hx.c _ _ e1) rfl ⟨rfl, rfl⟩) ?_ | refine tr rfl rfl (fun _ hx _ => qam (sz := 33) rfl rfl (hx.c _ _ g7) (Aa _) ⟨rfl, rfl⟩) ?_ | refine tp rfl rfl (fun h' hn => qaB rfl ⟨rfl, rfl⟩) ?_)
     refine cW rfl rfl rfl (qd5 (sz := 33) (row := actC q a) (by decide) (by decide) rfl rfl ⟨w3.ext _, ?_⟩)
     obtain ⟨H4, hQ, gr, xr, wr, nr⟩ := aq w3 ⟨actC q a, 40, true⟩
     rw [hQ]
     have rb : RN 33 H4 (.slice (some ⟨H3.next, 0, some 33⟩) 1 1) [actC q a] := RN.row1 rfl gr
     have d14 := d13.ext xr
     refine TAL.w rfl rfl rfl (qcy (m := 1) (B := B) (e := 40) (news := [actC q a]) rfl wr (by omega) d14 rfl rfl rb.src rfl (by intro w hw; rw [Ax.1 hw]; rfl) (by simpa using qaO ar3) (by rw [d23]; simp only [maxLen]; omega) (by rw [d23]; omega) ?_)
     intro u' H5 o5 _ k5 wf5 n5
     have p5 := qfH k5 d14
     have e5 := p5 _ _ (xr.c _ _ e1) (.inr qc0.2.2.1)
     repeat (first | refine tp rfl rfl (fun h' hn => qaH rfl ⟨rfl, rfl⟩) ?_ | refine tp rfl rfl (fun h' hn => qan rfl ⟨rfl, rfl⟩) ?_)
     refine dG rfl rfl (qaw (b := scrB vg va s.setup) rfl rfl o5.one e5 rfl (by exact Ab rfl) ?_)
     refine bD ?_
     repeat (first | refine W.w ?_ | refine zz rfl (qaa rfl ?_))
     refine ⟨_, aC rfl, by rw [hlp]; rfl, ?_, (k03.trans (Kp2.ext xr (by omega))).trans ((Kp2.act k5 d14 n5).trans (Kp2.set _ _))⟩
     rw [hlp]
     have sg : GO B H5 vg s.setup.groups := (e2.pres fun j b hj _ => xr.c j b hj).pres fun j b hj he => p5 j b hj (.inr (by rcases he with he | he <;> rw [he] <;> decide))
     have sa : AO B H5 u' (s.acts ++ [a]) := by
      refine ⟨⟨rows3 ++ [actC q a], o5, by simp [d23], fun k w g hw hg => ?_⟩, by rw [An, Ad, Ag]; omega, fun g hg => ?_⟩
      ·
       rcases Bx k rows3.length with hk | hk
       ·
        rw [Bs hk] at hw
        rw [Bs (by omega)] at hg
        obtain ⟨q', er, B', h4⟩ := d33 k w g hw hg
        exact ⟨q', er, B', h4.elem (fun j b hj he => p5 j b (xr.c j b hj) (.inr (by rw [he]; decide))) (fun j b hj he => p5 j b (xr.c j b hj) (.inr (by rw [he]; decide)))⟩
       ·
        rw [Bn hk] at hw
        rw [Bn (by omega)] at hg
        have hk0 : k - rows3.length = 0 := by
         have := (Av.1 hw).1
         simp at this; omega
        rw [hk0] at hw
        rw [show k - s.acts.length = 0 by omega] at hg
        simp at hw hg
        subst hw hg
        exact ⟨q, rfl, B2, oa3.elem (fun j b hj he => p5 j b (xr.c j b hj) (.inr (by rw [he]; decide))) (fun j b hj he => p5 j b (xr.c j b hj) (.inr (by rw [he]; decide)))⟩
      ·
       rcases Bh.1 hg with hg | hg
       ·
        exact e3.all g hg
       ·
        rw [Ax.1 hg]; exact hka
     exact ⟨vg, u', aF _ _ _, sg.set e5 rfl, sa.set e5 rfl⟩
    ·
     rw [Ac fun e => hfull e.2] at hlp
     refine bN mixed (by kernel_rfl) ?_
     rw [h4]
     repeat' (first | refine aX ?_ | refine dr rfl rfl (fun _ hx _ => qac rfl ⟨rfl, rfl⟩) ?_ | refine dr rfl rfl (fun _ hx _ => qae rfl ⟨rfl, rfl⟩) ?_ | refine dr rfl rfl (fun _ hx _ => qaB rfl ⟨rfl, rfl⟩) ?_ | refine dr rfl rfl (fun _ hx _ => qaH rfl ⟨rfl, rfl⟩) ?_ | refine dr rfl rfl (fun _ hx _ => qan rfl ⟨rfl, rfl⟩) ?_ | refine dr rfl rfl (fun _ hx _ => qam (sz := 5) rfl rfl (hx.c _ _ e1) (Ab rfl) ⟨rfl, rfl⟩) ?_ | refine dr rfl rfl (fun _ hx _ => qam (sz := 33) rfl rfl (hx.c _ _ g7) (Aa _) ⟨rfl, rfl⟩) ?_ | refine dr rfl rfl (fun h' hx _ => qab rfl rfl (cm h' hx) ⟨rfl, rfl⟩) ?_ | refine dr rfl rfl (fun _ hx _ => qaf rfl rfl (hx.c _ _ e1) rfl ⟨rfl, rfl⟩) ?_ | refine dr rfl rfl (fun _ hx _ => qaA (d13.rn.ext hx) rfl ⟨rfl, rfl⟩) ?_ | refine dr rfl rfl (fun _ hx _ => qak rfl rfl rfl (by omega) ⟨rfl, rfl⟩) ?_ | refine dr rfl rfl (fun _ hx _ => qai rfl rfl rfl (by omega) ⟨rfl, rfl⟩) ?_ | refine dr rfl rfl (fun _ hx _ => qaF rfl ⟨rfl, rfl⟩) ?_ | refine dr rfl rfl (fun _ hx _ => qag (v := .bool _) rfl rfl ⟨rfl, rfl⟩) ?_)
     repeat' (first | refine W.w ?_ | refine aE rfl ?_ | refine zz rfl (qaa rfl ?_))
     exact ⟨_, aC rfl, no3 hlp⟩
end Go.Proofs.YtigmojilaadbhaaGreatDoor
/- . -/
namespace Go.Pln
open Go Go.Lib
def PI (text : Bytes) (n : Nat) (rest : Bytes) (s : ScrM) : Prop :=
 (n = 0 ∧ rest = text ∧ s = scr0) ∨ ∃ x l, n = l.length + 1 ∧ splitN text = (x :: (l ++ (splitN rest).1), (splitN rest).2) ∧ (firstP x).2 = true ∧ layAll layP ⟨(firstP x).1, []⟩ 1 l = (some s, n)
theorem qfg {text x : Bytes} {l : List Bytes} {r : Bytes} (hl : text.length ≤ 1048576) (hs : splitN text = (x :: l, r)) (hf : (firstP x).2 = true) : parseP text = match layAll layP ⟨(firstP x).1, []⟩ 1 l with
  | (some s, n) => if r ≠ [] ∨ s.setup.groups.length < 2 then (scr0, (n : Int), 4) else (s, 0, 0)
  | (none, n) => (scr0, (n : Int), 4) := by
 unfold parseP parseW
 rw [Ac (by omega), hs]
 simp only
 rw [Ah hf]
 rcases layAll layP ⟨(firstP x).1, []⟩ 1 l with ⟨_ | s, n⟩ <;> rfl
theorem PI.fin {text : Bytes} {n : Nat} {s : ScrM} (hl : text.length ≤ 1048576) (p : PI text n [] s) : parseP text = if s.setup.groups.length < 2 then (scr0, (n : Int), 4) else (s, 0, 0) := by
 rcases p with ⟨rfl, rfl, rfl⟩ | ⟨x, l, h1, h2, h3, h4⟩
 ·
  rfl
 ·
  have h2' : splitN text = (x :: l, []) := by
   rw [h2]
   show (x :: (l ++ (splitN []).1), (splitN []).2) = _
   simp [splitN]
  rw [qfg hl h2' h3, h4]
  simp
theorem PI.step0 {text : Bytes} (hw : (cutN text).2.2 = true) (hf : (firstP (cutN text).1).2 = true) : PI text 1 (cutN text).2.1 ⟨(firstP (cutN text).1).1, []⟩ := by
 refine .inr ⟨(cutN text).1, [], rfl, ?_, hf, rfl⟩
 rw [qcu text, Ah hw]
 rfl
theorem PI.bad0 {text : Bytes} (hl : text.length ≤ 1048576) (hb : ¬ ((firstP (cutN text).1).2 = true ∧ (cutN text).2.2 = true)) : parseP text = (scr0, 0, 4) := by
 unfold parseP parseW
 rw [Ac (by omega), qcu text]
 by_cases hw : (cutN text).2.2 = true
 ·
  rw [Ah hw]
  simp only
  rw [Ac fun e => hb ⟨e, hw⟩]
 ·
  rw [Ac hw]
theorem PI.step {text rest : Bytes} {n : Nat} {s t : ScrM} (p : PI text n rest s) (hn : n ≠ 0) (hw : (cutN rest).2.2 = true) (hs : layP s (cutN rest).1 = some t) : PI text (n + 1) (cutN rest).2.1 t := by
 rcases p with ⟨h, _⟩ | ⟨x, l, h1, h2, h3, h4⟩
 ·
  exact absurd h hn
 ·
  refine .inr ⟨x, l ++ [(cutN rest).1], by simp [h1], ?_, h3, ?_⟩
  ·
   rw [h2, qcu rest, Ah hw]
   simp
  ·
   rw [layAll_app layP l [(cutN rest).1] 1 h4, layAll, hs]
   rfl
theorem PI.bad {text rest : Bytes} {n : Nat} {s : ScrM} (hl : text.length ≤ 1048576) (p : PI text n rest s) (hn : n ≠ 0) (hne : rest ≠ []) (hb : ¬ ((layP s (cutN rest).1).isSome = true ∧ (cutN rest).2.2 = true)) : parseP text = (scr0, (n : Int), 4) := by
 rcases p with ⟨h, _⟩ | ⟨x, l, h1, h2, h3, h4⟩
 ·
  exact absurd h hn
 ·
  rw [qfg hl h2 h3, layAll_app layP l _ 1 h4, qcu rest]
  by_cases hw : (cutN rest).2.2 = true
  ·
   rw [Ah hw]
   cases hs : layP s (cutN rest).1 with
   | some t => exact absurd ⟨by rw [hs]; rfl, hw⟩ hb
   | none => rw [layAll, hs]
  ·
   rw [Ac hw]
   simp only [layAll]
   rw [Ah (.inl hne)]
theorem PI.nodes {text rest : Bytes} {n : Nat} {s : ScrM} (p : PI text n rest s) (hn : n ≠ 0) : 1 ≤ s.setup.nodes ∧ s.setup.nodes ≤ 5 := by
 rcases p with ⟨h, _⟩ | ⟨x, l, h1, h2, h3, h4⟩
 ·
  exact absurd h hn
 ·
  obtain ⟨g1, g2, g3, _⟩ := qcp h3
  obtain ⟨gs, ac, h5, _⟩ := qcS l 1 (s := ⟨(firstP x).1, []⟩) g1 h4
  have hsz := of_decide_eq_true g2
  rw [h5]
  exact ⟨hsz.1, hsz.2.1⟩
end Go.Pln
/- . -/
namespace Go.Eng
open Go
variable {P : Program} {h : Heap}
theorem ResV.cell3 {fn : Func} {env : Env} {a u y : Tmp} {t : TypeId} {i o sz by_ : Nat} {z : Value} {s : Option Nat} {b : Blk} {d : TypeDesc} [td : TyD P t d] [ti : TyI P t sz by_ z] (hr : fn.results = #[.cell a t, .tmp u, .tmp y]) (hx : env.get a = .pointer (some ⟨i, o, s⟩)) (ha : aggB d = true)
  (hi : h.get i = some b) (hl : o + sz ≤ b.cells.length) : ResV P fn env h (.tuple #[.agg ((b.cells.drop o).take sz).toArray, env.get u, env.get y]) := by
 intro N φ tmps w r
 obtain ⟨v, h1, h2⟩ := qdO (P := P) (t := t) r.sim (hx ▸ r.env a) ha hi hl
 refine ⟨.tuple #[v, tmps.getD u undef, tmps.getD y undef], ?_, .tuple3 h2 (r.env u) (r.env y)⟩
 have h3 : (results fn tmps).run P w = (do let x ← loadVar t (← asAddr (tmps.getD a undef)); pure (.tuple #[x, tmps.getD u undef, tmps.getD y undef]) : Sem Value).run P w := by
  simp only [results, hr]
  simp only [De, Dr, El, Sem.run_bind, Sem.run_map, Sem.run_pure]
  cases (asAddr (tmps.getD a undef)).run P w with
  | halt x w1 => rfl
  | ok x w1 =>
   simp only [Result.andThen_ok]
   cases (loadVar t x).run P w1 with
   | halt y w2 => rfl
   | ok y w2 => rfl
 rw [h3]
 simp only [Sem.run_bind] at h1 ⊢
 cases h4 : (asAddr (tmps.getD a undef)).run P w with
 | halt x w1 => rw [h4] at h1; cases h1
 | ok x w1 =>
  rw [h4] at h1
  simp only [Result.andThen_ok] at h1 ⊢
  rw [h1]
  simp
abbrev bY := @ResV.cell3
end Go.Eng
/- . -/
namespace Go.Proofs.YtigmojilaadbhaaGreatDoor
open Go Go.Eng Go.Pln Go.Lib Go.Proofs.Tryz
attribute [local irreducible] AWp AL DAL AOp TAL
instance i_parse : FnC prog 26 := ⟨Tryz.f26, func26, by kernel_rfl, by kernel_rfl⟩
instance i_StD_api_Script : StD prog 44 [(0, 5), (5, 1)] := ⟨_, underlying44, by kernel_rfl⟩
abbrev scrB0 : Blk := scrB nilS nilS set0
theorem Kp2.over {B i : Nat} {h H H' : Heap} (k : Kp2 B i H H') (wf : WF h) (hB : h.next ≤ B) (hi : h.next ≤ i) (x : Ext h H) : Ext h H' :=
 ⟨fun j b hj => by have := wf.lt hj; exact k.c j b (x.c j b hj) (by omega) (.inl (by omega)), fun j o hj => k.o j o (x.o j o hj)⟩
structure PaI (h : Heap) (j2 j5 : Nat) (text : Bytes) (n : Nat) (rest : Bytes) (s : ScrM) (H : Heap) : Prop where
 pi : PI text n rest s
 ext : Ext h H
 wf : WF H
 nx : h.next ≤ H.next
 n2 : h.next ≤ j2
 n5 : h.next ≤ j5
 ne : j2 ≠ j5
 g2 : H.get j2 = some scrB0
 o : ScO h.next j5 H s
 len : rest.length ≤ text.length
 lt : n + rest.length ≤ text.length
def PaOk (h : Heap) (text : Bytes) (u : Value) (h' : Heap) : Prop := ∃ B vg va, u = .tuple #[.agg (scrC vg va (parseP text).1.setup).toArray, .int .i64 (parseP text).2.1, .int .i64 (parseP text).2.2] ∧ GO B h' vg (parseP text).1.setup.groups ∧ AO B h' va (parseP text).1.acts ∧ Ext h h'
theorem qcB {vg va : Value} (h1 : oneB vg = true) (h2 : oneB va = true) (x : SetM) : (scrC vg va x).all oneB = true := by
 unfold scrC
 simp only [Bc, h1, h2]
 rfl
theorem GO.one {B : Nat} {h : Heap} {vg : Value} {gs : List (List Int)} (g : GO B h vg gs) : oneB vg = true := by
 obtain ⟨vs, h1, _⟩ := g.ex
 exact (cV (bW h1)).1
theorem AO.one {B : Nat} {h : Heap} {va : Value} {ac : List ActM} (g : AO B h va ac) : oneB va = true := by
 obtain ⟨rows, h1, _⟩ := g.ex
 exact h1.one
theorem scr_nil : (44 : TypeId) ≠ 40 ∧ (44 : TypeId) ≠ 77 := by decide
def PaOk2 (h : Heap) (text : Bytes) (u : Value) (h' : Heap) : Prop := ∃ B vg va, u = .tuple #[.agg (scrC vg va (parseP text).1.setup).toArray, .int .i64 (parseP text).2.1, .int .i64 (parseP text).2.2] ∧ GO B h' vg (parseP text).1.setup.groups ∧ AO B h' va (parseP text).1.acts ∧ Ext h h' ∧ h.next ≤ B
theorem parse_c2 (text : Bytes) (h : Heap) (t : Tabs h) (h8 : 8 ≤ h.next) (hl : text.length ≤ 100000000) : ACalls prog 26 [str text] h fun u h' => PaOk2 h text u h' := by
 refine aL fun wf => ?_
 refine aD func26 rfl rfl ?_
 repeat (first | refine W.w ?_)
 refine zz rfl (qax ?_)
 refine aS (h := h.alloc scrB0) rfl ?_
 obtain ⟨H1, hQ, g2, x2, w2, n2⟩ := aq wf scrB0
 rw [hQ]
 by_cases hlong : 1048576 < text.length
 ·
  have hbad : parseP text = (scr0, 0, 3) := by unfold parseP parseW; rw [Ah hlong]
  repeat (first | refine W.w ?_ | refine aE rfl ?_ | refine AWp.scope ?_ | refine aJ rfl (qaq (vs := scrC nilS nilS set0) rfl rfl rfl rfl g2 rfl ?_) | (refine zz rfl ?_; first | refine qaj rfl ?_ | refine qad rfl ?_ | refine qaG rfl ?_ | refine qak rfl rfl rfl (by omega) ?_ | refine qay (out := scrC nilS nilS set0) rfl rfl ?_))
  exact ⟨_, bY rfl rfl rfl (aF _ _ _) (Aa _), h.next, nilS, nilS, by rw [hbad]; rfl, by rw [hbad]; exact dA _ _, by rw [hbad]; exact dF _ _, wf.ext_set x2 (Aa _) _, Aa _⟩
 have hle : text.length ≤ 1048576 := by omega
 repeat (first | refine W.w ?_ | refine aG rfl ?_ | refine AWp.scope ?_ | (refine zz rfl ?_; first | refine qaj rfl ?_ | refine qad rfl ?_ | refine qaG rfl ?_ | refine qai rfl rfl rfl (by omega) ?_))
 refine zz rfl (qax ?_)
 refine aS (h := H1.alloc scrB0) rfl ?_
 have g5 := aB H1 scrB0
 have x5 := w2.ext scrB0
 have w5 := w2.alloc scrB0
 have n5 : (H1.alloc scrB0).next = H1.next + 1 := rfl
 have i0 : PaI h h.next H1.next text 0 text scr0 (H1.alloc scrB0) := ⟨.inl ⟨rfl, rfl, rfl⟩, x2.trans x5, w5, by omega, Aa _, by omega, by omega, x5.c _ _ g2, ⟨nilS, nilS, g5, dA _ _, dF _ _⟩, Aa _, by omega⟩
 generalize H1.alloc scrB0 = H2 at i0 ⊢
 generalize H1.next = j5 at i0 ⊢
 clear g2 x2 w2 n2 g5 x5 w5 n5
 repeat (first | refine W.w ?_ | refine AWp.label ?_ | (refine zz rfl ?_; first | refine qaj rfl ?_ | refine qad rfl ?_ | refine qaa rfl ?_ | refine qah rfl ?_))
 refine bB (α := Nat × Bytes × ScrM × Heap) (fun d => [(0, str text), (2, ptr h.next), (5, ptr j5), (6, .int .i64 (d.1 : Nat)), (7, .bool true), (8, str d.2.1)]) (fun d => d.2.2.2) (fun d => PaI h h.next j5 text d.1 d.2.1 d.2.2.1 d.2.2.2) (fun d => d.2.1.length) (0, text, scr0, H2) i0
  (aI (aA rfl (aA rfl (aA rfl (aA rfl (aA rfl (aA rfl aN))))))) ?_
 rintro ⟨n, rest, s, H⟩ k
 replace k : PaI h h.next j5 text n rest s H := k
 show AWp _ _ _ _ [(0, str text), (2, ptr h.next), (5, ptr j5), (6, .int .i64 (n : Nat)), (7, .bool true), (8, str rest)] H
 clear i0
 obtain ⟨vg, va, o1, o2, o3⟩ := k.o.ex
 have tH := t.ext k.ext
 have klt := k.lt
 have knx := k.nx
 have gl := o2.len
 obtain ⟨vs, c1, c2, c3⟩ := o2.ex
 by_cases hr : rest = []
 ·
  have hp := k.pi
  rw [hr] at hp
  have hfin := hp.fin hle
  by_cases hg2 : s.setup.groups.length < 2
  ·
   have hbad : parseP text = (scr0, (n : Int), 4) := by rw [hfin, Ah hg2]
   repeat (first | refine aW ?_ | refine aR ?_ | refine aY ?_ | refine aE rfl ?_ | refine aG rfl ?_ | refine aM ?_ | refine aP ?_ | refine aJ rfl (qaq (vs := scrC nilS nilS set0) rfl rfl rfl rfl k.g2 rfl ?_) | (refine zz rfl ?_; first | refine qac rfl ?_ | refine qae rfl ?_ | refine qaj rfl ?_ | refine qad rfl ?_ | refine qbi (a := rest) (b := []) rfl rfl hr ?_ | refine qan rfl ?_ | refine qaf rfl rfl o1 rfl ?_ | refine qaz c1.rs rfl ?_ | refine qak rfl rfl rfl (by omega) ?_ | refine qag (v := .bool _) rfl rfl ?_ | refine qay (out := scrC nilS nilS set0) rfl rfl ?_ | refine qaF rfl ?_))
   exact ⟨_, bY rfl rfl rfl (aF _ _ _) (Aa _), h.next, nilS, nilS, by rw [hbad]; rfl, by rw [hbad]; exact dA _ _, by rw [hbad]; exact dF _ _, wf.ext_set k.ext (Aa _) _, Aa _⟩
  ·
   have hgood : parseP text = (s, 0, 0) := by rw [hfin, Ac hg2]
   repeat (first | refine aW ?_ | refine aR ?_ | refine aY ?_ | refine aG rfl ?_ | refine aM ?_ | refine aP ?_ | refine dD ?_ | refine aJ rfl (qaq (vs := scrC vg va s.setup) rfl rfl rfl (qcB o2.one o3.one _) k.g2 rfl ?_) | (refine zz rfl ?_; first | refine qae rfl ?_ | refine qaj rfl ?_ | refine qad rfl ?_ | refine qbi (a := rest) (b := []) rfl rfl hr ?_ | refine qan rfl ?_ | refine qaf rfl rfl o1 rfl ?_ | refine qaz c1.rs rfl ?_ | refine qai rfl rfl rfl (by omega) ?_ | refine qag (v := .bool _) rfl rfl ?_ | refine qam (sz := 6) rfl rfl o1 (Aa _) ?_ | refine qaF rfl ?_))
   exact ⟨_, bY rfl rfl rfl (aF _ _ _) (Aa _), h.next, vg, va, by rw [hgood]; rfl, by rw [hgood]; exact o2.set k.g2 rfl, by rw [hgood]; exact o3.set k.g2 rfl, wf.ext_set k.ext (Aa _) _, Aa _⟩
 ·
  have cc := cut_c rest 10 H (by omega)
  have hcn := cutN_eq rest
  unfold cutV at cc
  rw [← hcn] at cc
  have hcl : (cutN rest).1.length ≤ rest.length := by
   have key : ∀ z : Bytes, (cutN z).1.length ≤ z.length := by
    intro z
    induction z with
    | nil => exact Aa _
    | cons c z ih =>
     rw [cutN]
     split
     ·
      exact Ao _
     ·
      simp only [Ad]; omega
   exact key rest
  by_cases hn : n = 0
  ·
   subst hn
   obtain ⟨rfl, rfl⟩ : rest = text ∧ s = scr0 := by
    rcases k.pi with ⟨_, h2, h3⟩ | ⟨x, l, h1, _⟩
    ·
     exact ⟨h2, h3⟩
    ·
     omega
   repeat (first | refine W.w ?_ | refine aE rfl ?_ | (refine zz rfl ?_; first | refine qac rfl ?_ | refine qaj rfl ?_ | refine qaC rfl ?_ | refine qaa rfl ?_ | refine qah rfl ?_ | refine qbg (a := rest) (b := []) rfl rfl hr ?_ | refine qab rfl rfl cc ?_ | refine qav rfl rfl ?_ | refine qak rfl rfl rfl (by omega) ?_))
   refine zz rfl (qat (evs := [str (cutN rest).1]) rfl rfl ((first_c (cutN rest).1 H tH (by omega) (by omega)).wf_post.mono ?_))
   rintro _ H1 ⟨⟨rfl, x1⟩, w1, n1⟩
   have q1 := x1.c _ _ o1
   repeat (first | refine W.w ?_ | refine aJ rfl (qbt (vs := (setC nilS (firstP (cutN rest).1).1).toArray) rfl rfl rfl rfl q1 rfl (Ab rfl) ?_) | (refine zz rfl ?_; first | refine qae rfl ?_ | refine qaC rfl ?_ | refine qaa rfl ?_ | refine qav rfl rfl ?_ | refine qan rfl ?_))
   have hG : H1.set j5 ⟨splice (scrB vg va scr0.setup).cells 0 (setC nilS (firstP (cutN rest).1).1).toArray.toList, (scrB vg va scr0.setup).elem, true⟩ = H1.set j5 (scrB nilS va (firstP (cutN rest).1).1) := rfl
   have e2 : (H1.set j5 (scrB nilS va (firstP (cutN rest).1).1)).get h.next = some scrB0 := (aH k.ne).trans (x1.c _ _ k.g2)
   have e5 : (H1.set j5 (scrB nilS va (firstP (cutN rest).1).1)).get j5 = some (scrB nilS va (firstP (cutN rest).1).1) := aF _ _ _
   have ex : Ext h (H1.set j5 (scrB nilS va (firstP (cutN rest).1).1)) := wf.ext_set (k.ext.trans x1) k.n5 _
   have ew : WF (H1.set j5 (scrB nilS va (firstP (cutN rest).1).1)) := w1.set (w1.lt q1) _
   have en : h.next ≤ (H1.set j5 (scrB nilS va (firstP (cutN rest).1).1)).next := by show h.next ≤ H1.next; omega
   have eo : ScO h.next j5 (H1.set j5 (scrB nilS va (firstP (cutN rest).1).1)) ⟨(firstP (cutN rest).1).1, []⟩ := ⟨nilS, va, e5, dA _ _, (o3.pres fun j b hj _ => x1.c j b hj).set q1 rfl⟩
   rw [hG]
   generalize H1.set j5 (scrB nilS va (firstP (cutN rest).1).1) = G at e2 ex ew en eo ⊢
   have hb0 := PI.bad0 hle
   cases hf : (firstP (cutN rest).1).2 <;> cases hw : (cutN rest).2.2
   case true.true =>
    have hcut := qhh hw
    repeat (first | refine W.w ?_ | refine aG rfl ?_ | (refine zz rfl ?_; first | refine qac rfl ?_ | refine qae rfl ?_ | refine qaj rfl ?_ | refine qad rfl ?_ | refine qaa rfl ?_ | refine qah rfl ?_ | refine qag (v := .bool _) rfl rfl ?_ | refine qau rfl rfl (by omega) ?_ | refine qaF rfl ?_))
    exact ⟨(1, (cutN rest).2.1, ⟨(firstP (cutN rest).1).1, []⟩, G), ⟨PI.step0 hw hf, ex, ew, en, k.n2, k.n5, k.ne, e2, eo, by show (cutN rest).2.1.length ≤ _; omega, by show 1 + (cutN rest).2.1.length ≤ _; omega⟩, hcut, aI (aA rfl (aA rfl (aA rfl (aA rfl (aA rfl (aA rfl aN))))))⟩
   all_goals (
    have hbad := hb0 (by rw [hf, hw]; simp)
    repeat (first | refine aW ?_ | refine aK rfl rfl ?_ | refine aR ?_ | refine aY ?_ | refine aE rfl ?_ | refine aM ?_ | refine aP ?_ | refine aJ rfl (qaq (vs := scrC nilS nilS set0) rfl rfl rfl rfl e2 rfl ?_) | (refine zz rfl ?_; first | refine qac rfl ?_ | refine qae rfl ?_ | refine qad rfl ?_ | refine qaa rfl ?_ | refine qag (v := .bool _) rfl rfl ?_ | refine qay (out := scrC nilS nilS set0) rfl rfl ?_ | refine qaF rfl ?_))
    exact ⟨_, bY rfl rfl rfl (aF _ _ _) (Aa _), h.next, nilS, nilS, by rw [hbad]; rfl, by rw [hbad]; exact dA _ _, by rw [hbad]; exact dF _ _, wf.ext_set ex (Aa _) _, Aa _⟩)
  ·
   repeat (first | refine W.w ?_ | refine aE rfl ?_ | refine aG rfl ?_ | (refine zz rfl ?_; first | refine qac rfl ?_ | refine qaj rfl ?_ | refine qaC rfl ?_ | refine qaa rfl ?_ | refine qah rfl ?_ | refine qbg (a := rest) (b := []) rfl rfl hr ?_ | refine qab rfl rfl cc ?_ | refine qav rfl rfl ?_ | refine qai rfl rfl rfl (by omega) ?_))
   refine zz rfl (qat (evs := [ptr j5, str (cutN rest).1]) rfl rfl ((lay_c h.next j5 s (cutN rest).1 H tH (by omega) (by omega) knx k.n5 k.o (k.pi.nodes hn)).wf_post.mono ?_))
   rintro _ G ⟨⟨rfl, eo, ek⟩, ew, en0⟩
   have e2 := ek.c _ _ k.g2 k.ne (.inr scr_nil)
   have ex := ek.over wf (Aa _) k.n5 k.ext
   have en : h.next ≤ G.next := by omega
   have hb0 := PI.bad hle k.pi hn hr
   have hst := fun t hw hs => PI.step (t := t) k.pi hn hw hs
   cases hf : layP s (cutN rest).1 <;> cases hw : (cutN rest).2.2
   case some.true s' =>
    have hcut := qhh hw
    rw [hf] at eo
    repeat (first | refine W.w ?_ | refine aG rfl ?_ | (refine zz rfl ?_; first | refine qac rfl ?_ | refine qae rfl ?_ | refine qaj rfl ?_ | refine qad rfl ?_ | refine qaa rfl ?_ | refine qah rfl ?_ | refine qag (v := .bool _) rfl rfl ?_ | refine qau rfl rfl (by omega) ?_ | refine qaF rfl ?_))
    exact ⟨(n + 1, (cutN rest).2.1, s', G), ⟨hst s' hw hf, ex, ew, en, k.n2, k.n5, k.ne, e2, eo, by show (cutN rest).2.1.length ≤ _; have := k.len; omega, by show n + 1 + (cutN rest).2.1.length ≤ _; omega⟩, hcut, aI (aA rfl (aA rfl (aA rfl (aA rfl (aA rfl (aA rfl aN))))))⟩
   all_goals (
    have hbad := hb0 (by rw [hf, hw]; simp)
    repeat (first | refine aW ?_ | refine aK rfl rfl ?_ | refine aR ?_ | refine aY ?_ | refine aE rfl ?_ | refine aM ?_ | refine aP ?_ | refine aJ rfl (qaq (vs := scrC nilS nilS set0) rfl rfl rfl rfl e2 rfl ?_) | (refine zz rfl ?_; first | refine qac rfl ?_ | refine qae rfl ?_ | refine qad rfl ?_ | refine qaa rfl ?_ | refine qag (v := .bool _) rfl rfl ?_ | refine qay (out := scrC nilS nilS set0) rfl rfl ?_ | refine qaF rfl ?_))
    exact ⟨_, bY rfl rfl rfl (aF _ _ _) (Aa _), h.next, nilS, nilS, by rw [hbad]; rfl, by rw [hbad]; exact dA _ _, by rw [hbad]; exact dF _ _, wf.ext_set ex (Aa _) _, Aa _⟩)
theorem qhr (text : Bytes) (h : Heap) (t : Tabs h) (h8 : 8 ≤ h.next) (hl : text.length ≤ 100000000) : ACalls prog 26 [str text] h fun u h' => PaOk h text u h' :=
 (parse_c2 text h t h8 hl).mono fun _ _ ⟨B, vg, va, h1, h2, h3, h4, _⟩ => ⟨B, vg, va, h1, h2, h3, h4⟩
end Go.Proofs.YtigmojilaadbhaaGreatDoor
/- . -/
namespace Go.Proofs.YtigmojilaadbhaaGreatDoor
open Go Go.Eng Go.Pln Go.Lib Go.Proofs.Tryz
attribute [local irreducible] AWp AL DAL AOp
instance i_sameAskR : FnC prog 53 := ⟨Tryz.f53, func53, by kernel_rfl, by kernel_rfl⟩
theorem qfs (p q : AskV) (a b : AskM) (h : Heap) (ra : AskR h p a) (rb : AskR h q b) : ACalls prog 53 [.agg (askC p a).toArray, .agg (askC q b).toArray] h fun u h' => u = .bool (decide (a = b)) ∧ h' = h := by
 refine aL fun wf => aO ?_
 refine aD func53 rfl rfl ?_
 repeat (first | refine W.w ?_ | refine zz rfl (qaa rfl ?_) | refine zz rfl (qaS rfl (by intro e; cases e) ?_))
 generalize hH : h.alloc _ = H1
 have hg0 : H1.get h.next = some ⟨askC p a, 29, true⟩ := hH ▸ aB _ _
 have hx1 : Ext h H1 := hH ▸ wf.ext _
 have wf1 : WF H1 := hH ▸ wf.alloc _
 have ra1 := ra.ext hx1
 skip
 generalize hH2 : H1.alloc _ = H
 have hg2 : H.get H1.next = some ⟨askC q b, 29, true⟩ := hH2 ▸ aB _ _
 have hx2 : Ext H1 H := hH2 ▸ wf1.ext _
 have hg1 : H.get h.next = some ⟨askC p a, 29, true⟩ := hx2.c _ _ hg0
 have hx : Ext h H := ⟨fun i o e => hx2.c i o (hx1.c i o e), fun i o e => hx2.o i o (hx1.o i o e)⟩
 have ra2 := ra.ext hx
 have rb2 := rb.ext hx
 by_cases c_kind : a.kind = b.kind
 ·
  by_cases c_key : a.key = b.key
  ·
   by_cases c_to : a.to = b.to
   ·
    by_cases c_value : a.value = b.value
    ·
     by_cases c_was : a.was = b.was
     ·
      by_cases c_none : a.none = b.none
      ·
       by_cases c_most : a.most = b.most
       ·
        repeat (first | refine W.w ?_ | (refine zz rfl ?_; first | refine qae rfl ?_ | refine qaa rfl ?_ | refine qan rfl ?_ | refine qaf rfl rfl hg1 rfl ?_ | refine qaf rfl rfl hg2 rfl ?_ | refine qap ra2.k rfl ?_ | refine qap rb2.k rfl ?_ | refine qap ra2.t rfl ?_ | refine qap rb2.t rfl ?_ | refine qap ra2.v rfl ?_ | refine qap rb2.v rfl ?_ | refine qap ra2.w rfl ?_ | refine qap rb2.w rfl ?_ | refine qak rfl rfl rfl c_kind ?_ | refine qaP rfl rfl c_key ?_ | refine qaP rfl rfl c_to ?_ | refine qaP rfl rfl c_value ?_ | refine qaP rfl rfl c_was ?_ | refine qb5 rfl rfl c_none ?_ | refine qak rfl rfl rfl c_most ?_ | refine qag (v := .bool _) rfl rfl ?_))
        exact ⟨_, aC rfl, rfl, hx, by rw [Al (ask_ext c_kind c_key c_to c_value c_was c_none c_most)]; rfl, rfl⟩
       ·
        repeat (first | refine W.w ?_ | (refine zz rfl ?_; first | refine qae rfl ?_ | refine qaa rfl ?_ | refine qan rfl ?_ | refine qaf rfl rfl hg1 rfl ?_ | refine qaf rfl rfl hg2 rfl ?_ | refine qap ra2.k rfl ?_ | refine qap rb2.k rfl ?_ | refine qap ra2.t rfl ?_ | refine qap rb2.t rfl ?_ | refine qap ra2.v rfl ?_ | refine qap rb2.v rfl ?_ | refine qap ra2.w rfl ?_ | refine qap rb2.w rfl ?_ | refine qak rfl rfl rfl c_kind ?_ | refine qaP rfl rfl c_key ?_ | refine qaP rfl rfl c_to ?_ | refine qaP rfl rfl c_value ?_ | refine qaP rfl rfl c_was ?_ | refine qb5 rfl rfl c_none ?_ | refine qai rfl rfl rfl c_most ?_ | refine qag (v := .bool _) rfl rfl ?_))
        exact ⟨_, aC rfl, rfl, hx, by rw [Af fun e => c_most (congrArg AskM.most e)]; rfl, rfl⟩
      ·
       repeat (first | refine W.w ?_ | refine aK rfl rfl ?_ | (refine zz rfl ?_; first | refine qae rfl ?_ | refine qaa rfl ?_ | refine qan rfl ?_ | refine qaf rfl rfl hg1 rfl ?_ | refine qaf rfl rfl hg2 rfl ?_ | refine qap ra2.k rfl ?_ | refine qap rb2.k rfl ?_ | refine qap ra2.t rfl ?_ | refine qap rb2.t rfl ?_ | refine qap ra2.v rfl ?_ | refine qap rb2.v rfl ?_ | refine qap ra2.w rfl ?_ | refine qap rb2.w rfl ?_ | refine qak rfl rfl rfl c_kind ?_ | refine qaP rfl rfl c_key ?_ | refine qaP rfl rfl c_to ?_ | refine qaP rfl rfl c_value ?_ | refine qaP rfl rfl c_was ?_ | refine qfd rfl rfl c_none ?_ | refine qag (v := .bool _) rfl rfl ?_))
       exact ⟨_, aC rfl, rfl, hx, by rw [Af fun e => c_none (congrArg AskM.none e)]; rfl, rfl⟩
     ·
      repeat (first | refine W.w ?_ | refine aK rfl rfl ?_ | (refine zz rfl ?_; first | refine qae rfl ?_ | refine qaa rfl ?_ | refine qan rfl ?_ | refine qaf rfl rfl hg1 rfl ?_ | refine qaf rfl rfl hg2 rfl ?_ | refine qap ra2.k rfl ?_ | refine qap rb2.k rfl ?_ | refine qap ra2.t rfl ?_ | refine qap rb2.t rfl ?_ | refine qap ra2.v rfl ?_ | refine qap rb2.v rfl ?_ | refine qap ra2.w rfl ?_ | refine qap rb2.w rfl ?_ | refine qak rfl rfl rfl c_kind ?_ | refine qaP rfl rfl c_key ?_ | refine qaP rfl rfl c_to ?_ | refine qaP rfl rfl c_value ?_ | refine qaM rfl rfl c_was ?_ | refine qag (v := .bool _) rfl rfl ?_))
      exact ⟨_, aC rfl, rfl, hx, by rw [Af fun e => c_was (congrArg AskM.was e)]; rfl, rfl⟩
    ·
     repeat (first | refine W.w ?_ | refine aK rfl rfl ?_ | (refine zz rfl ?_; first | refine qae rfl ?_ | refine qaa rfl ?_ | refine qan rfl ?_ | refine qaf rfl rfl hg1 rfl ?_ | refine qaf rfl rfl hg2 rfl ?_ | refine qap ra2.k rfl ?_ | refine qap rb2.k rfl ?_ | refine qap ra2.t rfl ?_ | refine qap rb2.t rfl ?_ | refine qap ra2.v rfl ?_ | refine qap rb2.v rfl ?_ | refine qak rfl rfl rfl c_kind ?_ | refine qaP rfl rfl c_key ?_ | refine qaP rfl rfl c_to ?_ | refine qaM rfl rfl c_value ?_ | refine qag (v := .bool _) rfl rfl ?_))
     exact ⟨_, aC rfl, rfl, hx, by rw [Af fun e => c_value (congrArg AskM.value e)]; rfl, rfl⟩
   ·
    repeat (first | refine W.w ?_ | refine aK rfl rfl ?_ | (refine zz rfl ?_; first | refine qae rfl ?_ | refine qaa rfl ?_ | refine qan rfl ?_ | refine qaf rfl rfl hg1 rfl ?_ | refine qaf rfl rfl hg2 rfl ?_ | refine qap ra2.k rfl ?_ | refine qap rb2.k rfl ?_ | refine qap ra2.t rfl ?_ | refine qap rb2.t rfl ?_ | refine qak rfl rfl rfl c_kind ?_ | refine qaP rfl rfl c_key ?_ | refine qaM rfl rfl c_to ?_ | refine qag (v := .bool _) rfl rfl ?_))
    exact ⟨_, aC rfl, rfl, hx, by rw [Af fun e => c_to (congrArg AskM.to e)]; rfl, rfl⟩
  ·
   repeat (first | refine W.w ?_ | refine aK rfl rfl ?_ | (refine zz rfl ?_; first | refine qae rfl ?_ | refine qaa rfl ?_ | refine qan rfl ?_ | refine qaf rfl rfl hg1 rfl ?_ | refine qaf rfl rfl hg2 rfl ?_ | refine qap ra2.k rfl ?_ | refine qap rb2.k rfl ?_ | refine qak rfl rfl rfl c_kind ?_ | refine qaM rfl rfl c_key ?_ | refine qag (v := .bool _) rfl rfl ?_))
   exact ⟨_, aC rfl, rfl, hx, by rw [Af fun e => c_key (congrArg AskM.key e)]; rfl, rfl⟩
 ·
  repeat (first | refine W.w ?_ | refine aK rfl rfl ?_ | (refine zz rfl ?_; first | refine qae rfl ?_ | refine qaa rfl ?_ | refine qan rfl ?_ | refine qaf rfl rfl hg1 rfl ?_ | refine qaf rfl rfl hg2 rfl ?_ | refine qai rfl rfl rfl c_kind ?_ | refine qag (v := .bool _) rfl rfl ?_))
  exact ⟨_, aC rfl, rfl, hx, by rw [Af fun e => c_kind (congrArg AskM.kind e)]; rfl, rfl⟩
instance i_sameMoveR : FnC prog 103 := ⟨Tryz.f103, func103, by kernel_rfl, by kernel_rfl⟩
instance i_sameEntR : FnC prog 140 := ⟨Tryz.f140, func140, by kernel_rfl, by kernel_rfl⟩
theorem qhB (p q : MoveV) (a b : MoveM) (h : Heap) (ra : MoveR h p a) (rb : MoveR h q b) : ACalls prog 103 [.agg (moveC p a).toArray, .agg (moveC q b).toArray] h fun u h' => u = .bool (decide (a = b)) ∧ h' = h := by
 refine aL fun wf => aO ?_
 refine aD func103 rfl rfl ?_
 repeat (first | refine W.w ?_ | refine zz rfl (qaa rfl ?_) | refine zz rfl (qaS rfl (by intro e; cases e) ?_))
 generalize hH : h.alloc _ = H1
 have hg0 : H1.get h.next = some ⟨moveC p a, 34, true⟩ := hH ▸ aB _ _
 have hx1 : Ext h H1 := hH ▸ wf.ext _
 have wf1 : WF H1 := hH ▸ wf.alloc _
 skip
 generalize hH2 : H1.alloc _ = H
 have hg2 : H.get H1.next = some ⟨moveC q b, 34, true⟩ := hH2 ▸ aB _ _
 have hx2 : Ext H1 H := hH2 ▸ wf1.ext _
 have hg1 : H.get h.next = some ⟨moveC p a, 34, true⟩ := hx2.c _ _ hg0
 have hx : Ext h H := hx1.trans hx2
 clear hH hH2
 obtain ⟨a1, a2⟩ := ra.ext hx
 obtain ⟨b1, b2⟩ := rb.ext hx
 repeat' (first | refine W.w ?_ | refine aK rfl rfl ?_ | (refine zz rfl ?_; first | refine qae rfl ?_ | refine qaa rfl ?_ | refine qan rfl ?_ | refine qaf rfl rfl hg1 rfl ?_ | refine qaf rfl rfl hg2 rfl ?_ | refine qap a1 rfl ?_ | refine qap a2 rfl ?_ | refine qap b1 rfl ?_ | refine qap b2 rfl ?_ | refine qhL rfl rfl (fun c => ?_) (fun c => ?_) | refine qfc rfl rfl (fun c => ?_) (fun c => ?_) | refine qaT rfl rfl rfl (fun c => ?_) (fun c => ?_) | refine qag (v := .bool _) rfl rfl ?_))
 all_goals refine ⟨_, aC rfl, rfl, hx, congrArg Value.bool ?_, rfl⟩
 all_goals grind [qix]
theorem sameEntR_c (k1 v1 k2 v2 : Value) (a b : EntM) (h : Heap) (ra1 : RB h k1 a.key) (ra2 : RB h v1 a.value) (rb1 : RB h k2 b.key) (rb2 : RB h v2 b.value) : ACalls prog 140 [.agg (entC k1 v1 a).toArray, .agg (entC k2 v2 b).toArray] h fun u h' => u = .bool (decide (a = b)) ∧ h' = h := by
 refine aL fun wf => aO ?_
 refine aD func140 rfl rfl ?_
 repeat (first | refine W.w ?_ | refine zz rfl (qaa rfl ?_) | refine zz rfl (qaS rfl (by intro e; cases e) ?_))
 generalize hH : h.alloc _ = H1
 have hg0 : H1.get h.next = some ⟨entC k1 v1 a, 171, true⟩ := hH ▸ aB _ _
 have hx1 : Ext h H1 := hH ▸ wf.ext _
 have wf1 : WF H1 := hH ▸ wf.alloc _
 skip
 generalize hH2 : H1.alloc _ = H
 have hg2 : H.get H1.next = some ⟨entC k2 v2 b, 171, true⟩ := hH2 ▸ aB _ _
 have hx2 : Ext H1 H := hH2 ▸ wf1.ext _
 have hg1 : H.get h.next = some ⟨entC k1 v1 a, 171, true⟩ := hx2.c _ _ hg0
 have hx : Ext h H := hx1.trans hx2
 clear hH hH2
 have a1 := ra1.ext hx
 have a2 := ra2.ext hx
 have b1 := rb1.ext hx
 have b2 := rb2.ext hx
 repeat' (first | refine W.w ?_ | refine aK rfl rfl ?_ | (refine zz rfl ?_; first | refine qae rfl ?_ | refine qaa rfl ?_ | refine qan rfl ?_ | refine qaf rfl rfl hg1 rfl ?_ | refine qaf rfl rfl hg2 rfl ?_ | refine qap a1 rfl ?_ | refine qap a2 rfl ?_ | refine qap b1 rfl ?_ | refine qap b2 rfl ?_ | refine qhL rfl rfl (fun c => ?_) (fun c => ?_) | refine qaT rfl rfl rfl (fun c => ?_) (fun c => ?_) | refine qag (v := .bool _) rfl rfl ?_))
 all_goals refine ⟨_, aC rfl, rfl, hx, congrArg Value.bool ?_, rfl⟩
 all_goals grind [ent_ext]
instance i_sameListR : FnC prog 104 := ⟨Tryz.f104, func104, by kernel_rfl, by kernel_rfl⟩
theorem qhm (u v : Value) (a b : List EntM) (h : Heap) (ra : RE h u a) (rb : RE h v b) : ACalls prog 104 [u, v] h fun x h' => x = .bool (decide (a = b)) ∧ h' = h := by
 refine aD func104 rfl rfl ?_
 obtain ⟨ro, r1, r2, r3⟩ := ra.ex
 obtain ⟨so, s1, s2, s3⟩ := rb.ex
 obtain ⟨ua, uc, hu⟩ := r1.slice
 obtain ⟨va, vc, hv⟩ := s1.slice
 have hlen := ra.len
 by_cases hl : a.length = b.length
 ·
  repeat (first | refine W.w ?_ | refine aG rfl ?_ | (refine zz rfl ?_; first | refine qad rfl ?_ | refine qaa rfl ?_ | refine qal (v := u) rfl ?_ | refine qal (v := v) rfl ?_ | refine qaA r1 rfl ?_ | refine qaA s1 rfl ?_ | refine qai rfl rfl rfl (by omega) ?_))
  refine bB (α := Nat) (fun k => [(0, u), (1, v), (5, .int .i64 (k : Nat))]) (fun _ => h) (fun k => k ≤ a.length ∧ a.take k = b.take k) (fun k => a.length - k) 0 ⟨Ao _, rfl⟩ (aI (aA rfl (aA rfl (aA rfl aN)))) ?_
  rintro k ⟨hk, hp⟩
  by_cases hlt : k < a.length
  ·
   obtain ⟨x, hxa⟩ := gX (l := a) (k := k) hlt
   obtain ⟨y, hyb⟩ := gX (l := b) (k := k) (by omega)
   obtain ⟨p, hpa⟩ := gX (l := ro) (k := k) (by omega)
   obtain ⟨q, hqb⟩ := gX (l := so) (k := k) (by omega)
   obtain ⟨k1, v1, rfl, a1, a2⟩ := r3 k p x hpa hxa
   obtain ⟨k2, v2, rfl, b1, b2⟩ := s3 k q y hqb hyb
   have hte := qeJ hp hxa hyb
   have hx2 : ro[((k : Nat) : Int).toNat]? = some (entC k1 v1 x) := hpa
   have hy2 : so[((k : Nat) : Int).toNat]? = some (entC k2 v2 y) := hqb
   have px := r1.elt hx2
   have py := s1.elt hy2
   have cb := fun (h' : Heap) (hx : Ext h h') => sameEntR_c k1 v1 k2 v2 x y h' (a1.ext hx) (a2.ext hx) (b1.ext hx) (b2.ext hx)
   by_cases hxy : x = y
   ·
    rw [Al hxy] at cb
    repeat (first | refine W.w ?_ | refine aE rfl ?_ | (refine zz rfl ?_; first | refine qac rfl ?_ | refine qal (v := u) rfl ?_ | refine qaA r1 rfl ?_ | refine qak rfl rfl rfl (by omega) ?_))
    refine bJ (σ := [(0, .R), (1, .R), (2, .R), (3, .R), (4, .R), (5, .R), (6, .R), (7, .R), (8, .R), (9, .R)]) mixed (by kernel_rfl) ?_
    repeat (first | refine dr rfl rfl (fun _ hx _ => qac rfl ⟨rfl, rfl⟩) ?_ | refine dr rfl rfl (fun _ hx _ => qal (v := u) rfl ⟨rfl, rfl⟩) ?_ | refine dr rfl rfl (fun _ hx _ => qal (v := v) rfl ⟨rfl, rfl⟩) ?_ | refine dr rfl rfl (fun _ hx _ => qaD (r1.ext hx) rfl rfl (by omega) hx2 ⟨rfl, rfl⟩) ?_ | refine dr rfl rfl (fun _ hx _ => qaD (s1.ext hx) rfl rfl (by omega) hy2 ⟨rfl, rfl⟩) ?_ | refine dr rfl rfl (fun _ hx _ => qaW (px.ext hx) rfl rfl rfl ⟨rfl, rfl⟩) ?_ | refine dr rfl rfl (fun _ hx _ => qaW (py.ext hx) rfl rfl rfl ⟨rfl, rfl⟩) ?_ | refine dr rfl rfl (fun h' hx _ => qab rfl rfl (cb h' hx) ⟨rfl, rfl⟩) ?_ | refine dr rfl rfl (fun _ hx _ => qaF rfl ⟨rfl, rfl⟩) ?_)
    refine aX ?_
    repeat (first | refine W.w ?_ | refine aG rfl ?_ | (refine zz rfl ?_; first | refine qac rfl ?_ | refine qad rfl ?_ | refine qau rfl rfl (by omega) ?_))
    exact ⟨k + 1, ⟨hlt, hte.2 hxy⟩, by omega, aI (aA rfl (aA rfl (aA rfl aN)))⟩
   ·
    rw [Af hxy] at cb
    repeat (first | refine W.w ?_ | refine aE rfl ?_ | (refine zz rfl ?_; first | refine qac rfl ?_ | refine qal (v := u) rfl ?_ | refine qaA r1 rfl ?_ | refine qak rfl rfl rfl (by omega) ?_))
    refine bJ (σ := [(0, .R), (1, .R), (2, .R), (3, .R), (4, .R), (5, .R), (6, .R), (7, .R), (8, .R), (9, .R)]) mixed (by kernel_rfl) ?_
    repeat (first | refine dr rfl rfl (fun _ hx _ => qac rfl ⟨rfl, rfl⟩) ?_ | refine dr rfl rfl (fun _ hx _ => qal (v := u) rfl ⟨rfl, rfl⟩) ?_ | refine dr rfl rfl (fun _ hx _ => qal (v := v) rfl ⟨rfl, rfl⟩) ?_ | refine dr rfl rfl (fun _ hx _ => qaD (r1.ext hx) rfl rfl (by omega) hx2 ⟨rfl, rfl⟩) ?_ | refine dr rfl rfl (fun _ hx _ => qaD (s1.ext hx) rfl rfl (by omega) hy2 ⟨rfl, rfl⟩) ?_ | refine dr rfl rfl (fun _ hx _ => qaW (px.ext hx) rfl rfl rfl ⟨rfl, rfl⟩) ?_ | refine dr rfl rfl (fun _ hx _ => qaW (py.ext hx) rfl rfl rfl ⟨rfl, rfl⟩) ?_ | refine dr rfl rfl (fun h' hx _ => qab rfl rfl (cb h' hx) ⟨rfl, rfl⟩) ?_ | refine dr rfl rfl (fun _ hx _ => qaF rfl ⟨rfl, rfl⟩) ?_)
    refine aX ?_
    repeat (first | refine W.w ?_ | refine aE rfl ?_ | refine zz rfl (qaa rfl ?_))
    refine ⟨_, aC rfl, congrArg Value.bool (Af fun e => hxy (hte.1 (by rw [e]))).symm, rfl⟩
  ·
   obtain rfl : k = a.length := by omega
   rw [Au, hl, Au] at hp
   repeat (first | refine aW ?_ | refine aR ?_ | refine aY ?_ | refine aG rfl ?_ | refine aM ?_ | refine aP ?_ | (refine zz rfl ?_; first | refine qac rfl ?_ | refine qaa rfl ?_ | refine qal (v := u) rfl ?_ | refine qaA r1 rfl ?_ | refine qai rfl rfl rfl (by omega) ?_))
   exact ⟨_, aC rfl, congrArg Value.bool (Al hp).symm, rfl⟩
 ·
  repeat (first | refine W.w ?_ | refine aE rfl ?_ | (refine zz rfl ?_; first | refine qaa rfl ?_ | refine qal (v := u) rfl ?_ | refine qal (v := v) rfl ?_ | refine qaA r1 rfl ?_ | refine qaA s1 rfl ?_ | refine qak rfl rfl rfl (by omega) ?_))
  exact ⟨_, aC rfl, congrArg Value.bool (Af fun e => hl (by rw [e])).symm, rfl⟩
instance i_sameCmdR : FnC prog 54 := ⟨Tryz.f54, func54, by kernel_rfl, by kernel_rfl⟩
theorem qff (p q : CmdV) (a b : CmdM) (h : Heap) (ra : CmdR h p a) (rb : CmdR h q b) : ACalls prog 54 [.agg (cmdC p a).toArray, .agg (cmdC q b).toArray] h fun u h' => u = .bool (decide (a = b)) ∧ h' = h := by
 refine aL fun wf => aO ?_
 refine aD func54 rfl rfl ?_
 repeat (first | refine W.w ?_ | refine zz rfl (qaa rfl ?_) | refine zz rfl (qaS rfl (by intro e; cases e) ?_))
 generalize hH : h.alloc _ = H1
 have hg0 : H1.get h.next = some ⟨cmdC p a, 37, true⟩ := hH ▸ aB _ _
 have hx1 : Ext h H1 := hH ▸ wf.ext _
 have wf1 : WF H1 := hH ▸ wf.alloc _
 skip
 generalize hH2 : H1.alloc _ = H
 have hg2 : H.get H1.next = some ⟨cmdC q b, 37, true⟩ := hH2 ▸ aB _ _
 have hx2 : Ext H1 H := hH2 ▸ wf1.ext _
 have hg1 : H.get h.next = some ⟨cmdC p a, 37, true⟩ := hx2.c _ _ hg0
 have hx : Ext h H := hx1.trans hx2
 clear hH hH2
 obtain ⟨a1, a2, a3, a4, a5⟩ := ra.ext hx
 obtain ⟨b1, b2, b3, b4, b5⟩ := rb.ext hx
 have cA := qfs p.r q.r a.req.ask b.req.ask H a1 b1
 have cM := qhB p.m q.m a.move b.move H a2 b2
 have cE := qhm p.e q.e a.entries b.entries H a3 b3
 repeat' (first | refine W.w ?_ | refine aK rfl rfl ?_ | (refine zz rfl ?_; first | refine qae rfl ?_ | refine qaa rfl ?_ | refine qan rfl ?_ | refine qaf rfl rfl hg1 rfl ?_ | refine qaf rfl rfl hg2 rfl ?_ | refine qam (sz := 7) rfl rfl hg1 (Ab rfl) ?_ | refine qam (sz := 7) rfl rfl hg2 (Ab rfl) ?_ | refine qam (sz := 6) rfl rfl hg1 (Ab rfl) ?_ | refine qam (sz := 6) rfl rfl hg2 (Ab rfl) ?_ | refine qaU rfl rfl cA (fun c => ?_) (fun c => ?_) | refine qaU rfl rfl cM (fun c => ?_) (fun c => ?_) | refine qaU rfl rfl cE (fun c => ?_) (fun c => ?_) | refine qap a4 rfl ?_ | refine qap a5 rfl ?_ | refine qap b4 rfl ?_ | refine qap b5 rfl ?_ | refine qhL rfl rfl (fun c => ?_) (fun c => ?_) | refine qaT rfl rfl rfl (fun c => ?_) (fun c => ?_) | refine qag (v := .bool _) rfl rfl ?_))
 all_goals refine ⟨_, aC rfl, rfl, hx, congrArg Value.bool ?_, rfl⟩
 all_goals clear a1 a2 a3 a4 a5 b1 b2 b3 b4 b5 cA cM cE hg0 hg1 hg2 hx1 hx2 hx wf wf1 ra rb
 all_goals grind [cmd_ext]
end Go.Proofs.YtigmojilaadbhaaGreatDoor
