/-
  Texts of one claim, merged: 7 parts.
-/
import Derived.Test.YtigmojilaadbhaaGreatDoorMpx
import Derived.Test.YtigmojilaadbhaaGreatDoorMpt
import Derived.Test.YtigmojilaadbhaaGreatDoorMpq
import Derived.Test.YtigmojilaadbhaaGreatDoorMpd
import Derived.Test.YtigmojilaadbhaaGreatDoorMpe
import Derived.Test.YtigmojilaadbhaaGreatDoorMpw
import Derived.Test.YtigmojilaadbhaaGreatDoorMps
set_option maxHeartbeats 16000000
/- . -/
namespace Go.Proofs.YtigmojilaadbhaaGreatDoor
open Go Go.Eng Go.Pln Go.Lib
attribute [local irreducible] AWp AL DAL AOp TAL
end Go.Proofs.YtigmojilaadbhaaGreatDoor
/- . -/
namespace Go.Eng
open Go
section
variable {P : Program} {h : Heap} {n : Nat} {t e : TypeId} {cs : List Value}
end
end Go.Eng
/- . -/
namespace Go.Proofs.YtigmojilaadbhaaGreatDoor
open Go Go.Eng Go.Pln Go.Lib
attribute [local irreducible] Rd RdV AWp AL DAL AOp TAL
def entX (x : EntM × Value × Value) : List Value := [x.2.1, .int .i64 x.1.seq, .int .i64 x.1.kind, x.2.2]
def SetW (x : SetM) : Prop := In64 x.nodes ∧ In64 x.disk ∧ In64 x.memory ∧ In64 x.level ∧ ∀ g ∈ x.groups, ∀ n ∈ g, In64 n
end Go.Proofs.YtigmojilaadbhaaGreatDoor
/- . -/
namespace Go.Proofs.YtigmojilaadbhaaGreatDoor
open Go Go.Eng Go.Pln Go.Proofs.Tryz
open Go.Lib hiding splitN
attribute [local irreducible] AWp AL DAL AOp TAL
theorem parse_scr (text : Bytes) : (parseP text).1 = scr0 ∨ checkM (parseP text).1 = (0, 0) := by
 by_cases h : (parseP text).2.2 = 0
 ·
  refine .inr ((parseP_iff text _).1 ⟨(parseP text).2.1, ?_⟩).1
  rw [← h]
 ·
  refine .inl ?_
  unfold parseP parseW at h ⊢
  repeat' split
  all_goals first | rfl | (exfalso; apply h; simp only [*]; rfl) | skip
  all_goals simp_all
theorem setJ0 : SetJ set0 := ⟨⟨by decide, by decide⟩, ⟨by decide, by decide⟩, ⟨by decide, by decide⟩, ⟨by decide, by decide⟩, fun l hl => by cases hl⟩
theorem parse_setJ (text : Bytes) : SetJ (parseP text).1.setup := by
 rcases parse_scr text with h | h
 ·
  rw [h]; exact setJ0
 ·
  exact (setJ_of ((qeh _).1 h).1).1
theorem qhn (s : Bytes) (h : Heap) (t : Tabs h) (h8 : 8 ≤ h.next) : ACalls prog 7 [str s] h fun u h' => u = .bool true ∧ h' = h := by
 refine aL fun wf => aO ?_
 refine aD func7 rfl rfl ?_
 by_cases hl : 30000 < s.length
 ·
  have c0 := qio h t h8
  repeat (first | refine W.w ?_ | refine aE rfl ?_ | (refine zz rfl ?_; first | refine qaj rfl ?_ | refine qaa rfl ?_ | refine qaG rfl ?_ | refine qak rfl rfl rfl (by omega) ?_ | refine qab rfl rfl c0 ?_))
  exact ⟨_, aC rfl, rfl, aU _, rfl, rfl⟩
 ·
  repeat (first | refine W.w ?_ | refine aG rfl ?_ | (refine zz rfl ?_; first | refine qaj rfl ?_ | refine qaa rfl ?_ | refine qaG rfl ?_ | refine qai rfl rfl rfl (by omega) ?_))
  refine zz rfl (qat (evs := [str s]) rfl rfl ((qhr s h t h8 (by omega)).wf_post.mono ?_))
  rintro _ K1 ⟨⟨B1, vg1, va1, rfl, o1, a1, y1⟩, v1, m1⟩
  have e1 := qcB o1.one a1.one (parseP s).1.setup
  repeat (first | (refine zz rfl ?_; first | refine qaC rfl ?_ | refine qav rfl rfl ?_ | refine qax ?_))
  refine aJ rfl (qaL (vs := scrC vg1 va1 (parseP s).1.setup) rfl rfl rfl rfl e1 ?_)
  refine aS (h := K1.alloc (scrB vg1 va1 (parseP s).1.setup)) rfl ?_
  obtain ⟨H1, hQ, g1, z1, w1, nQ⟩ := aq v1 (scrB vg1 va1 (parseP s).1.setup)
  rw [hQ]
  have n1 : 8 ≤ H1.next := by omega
  have x1 := y1.trans z1
  repeat (first | refine W.w ?_ | refine zz rfl (qaj rfl ?_) | refine zz rfl (qad rfl ?_))
  refine zz rfl (qat (evs := [str s]) rfl rfl ((rparse_c s H1 (t.ext x1) n1 (by omega)).wf_post.mono ?_))
  rintro _ K2 ⟨⟨B2, Ba2, vg2, va2, rfl, o2, a2, y2⟩, v2, m2⟩
  rw [← qia] at o2 a2
  rw [← qia]
  have e2 := qcB o2.one a2.one (parseP s).1.setup
  repeat (first | (refine zz rfl ?_; first | refine qaC rfl ?_ | refine qav rfl rfl ?_ | refine qax ?_))
  refine aJ rfl (qaL (vs := scrC vg2 va2 (parseP s).1.setup) rfl rfl rfl rfl e2 ?_)
  refine aS (h := K2.alloc (scrB vg2 va2 (parseP s).1.setup)) rfl ?_
  obtain ⟨H2, hQ, g2, z2, _, nQ⟩ := aq v2 (scrB vg2 va2 (parseP s).1.setup)
  rw [hQ]
  have n2 : 8 ≤ H2.next := by omega
  have x2 := x1.trans (y2.trans z2)
  have yz := y2.trans z2
  have f1 := yz.c _ _ g1
  have j := parse_setJ s
  have cs := rsame_c (parseP s).1 (parseP s).1 vg1 vg2 va1 va2 H2 (t.ext x2) j j ((o1.rg.ext z1).ext yz) (o2.rg.ext z2) ((a1.ra.ext z1).ext yz) (a2.ra.ext z2)
  rw [Al rfl] at cs
  have cn := qgU (parseP s).2.2 H2
  have ck := qio H2 (t.ext x2) n2
  repeat (first | refine W.w ?_ | (refine zz rfl ?_; first | refine qac rfl ?_ | refine qae rfl ?_ | refine qad rfl ?_ | refine qaa rfl ?_ | refine qam (sz := 6) rfl rfl f1 (Aa _) ?_ | refine qam (sz := 6) rfl rfl g2 (Aa _) ?_ | refine qab rfl rfl cs ?_ | refine qab rfl rfl cn ?_ | refine qab rfl rfl ck ?_ | refine qak (a := (parseP s).2.1) (b := (parseP s).2.1) rfl rfl rfl rfl ?_ | refine qak (a := (parseP s).2.2) (b := (parseP s).2.2) rfl rfl rfl rfl ?_ | refine qag (v := .bool _) rfl rfl ?_))
  exact ⟨_, aC rfl, rfl, x2, rfl, rfl⟩
end Go.Proofs.YtigmojilaadbhaaGreatDoor
