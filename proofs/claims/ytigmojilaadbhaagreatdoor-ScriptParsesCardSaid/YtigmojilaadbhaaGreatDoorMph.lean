/-
  Texts of one claim, merged: 15 parts.
-/
import Derived.Test.YtigmojilaadbhaaGreatDoorRows
import Derived.Test.YtigmojilaadbhaaGreatDoorMpa
import Derived.Test.YtigmojilaadbhaaGreatDoorMpe
import Derived.Test.YtigmojilaadbhaaGreatDoorMpf
import Derived.Test.YtigmojilaadbhaaGreatDoorMpg
import Derived.Lib.AppendIntMem
import Derived.Lib.Fields
import Derived.Lib.LaidTab
import Derived.LaidSub
import Derived.LaidMore
import Derived.LaidHandle
import Derived.Stop.Joined
import Derived.Lib.Bytealg
import Derived.Test.YtigmojilaadbhaaGreatDoorMpc
import Derived.Lib.Overlaps
import Derived.Lib.Builder
import Derived.Lib.UnsafeStr
set_option maxHeartbeats 16000000
/- . -/
namespace Go.Proofs.YtigmojilaadbhaaGreatDoor
open Go Go.Eng Go.Pln Go.Lib Go.Proofs.Tryz
abbrev powG : Nat := 3
abbrev spaceG : Nat := 0
abbrev synG : Nat := 4
abbrev rngG : Nat := 5
structure Tabs (h : Heap) : Prop where
 pow : h.get powG = some (tabB .u64 Lib.pow10Tab)
 space : h.get spaceG = some (tabB .u8 Lib.asciiSpaceTab)
 syn : h.get synG = some (errB 262)
 rng : h.get rngG = some (errB 262)
theorem Tabs.ext {h h' : Heap} (t : Tabs h) (hx : Ext h h') : Tabs h' := ⟨hx.c _ _ t.pow, hx.c _ _ t.space, hx.c _ _ t.syn, hx.c _ _ t.rng⟩
theorem pow_n : prog.globalNamed "internal/strconv.uint64pow10" = some powG := by kernel_rfl
theorem qhe : prog.globalNamed "strings.asciiSpace" = some spaceG := by kernel_rfl
theorem globals_n : 7 < prog.globals.size := by decide +kernel
theorem qis (n : Int) (h : Heap) (t : Tabs h) (h0 : -9223372036854775808 ≤ n) (h1 : n ≤ 9223372036854775807) : ACalls prog 92 [.int .i64 n] h fun u h' => u = .string (bstr (Lib.itoa n)) ∧ h' = h := by
 refine ACalls.of_sim rfl rfl fun φ w s => ?_
 refine (Tryz.strconv_Itoa n h0 h1 w (s.tab pow_n (by decide +kernel) t.pow)).mono fun e w' ⟨he, k, os, hw⟩ => ⟨he, ?_⟩
 subst hw
 exact below_grow w.heap.size w (Aa _) k os
theorem qbE (s : List UInt8) : (bstr s).data.toList = s := by simp [bstr]
theorem bstr_size (s : List UInt8) : (bstr s).size = s.length := by
 show (bstr s).data.size = _
 simp [bstr]
abbrev errT : TypeId := 241
theorem atoi_c (s : List UInt8) (h : Heap) (t : Tabs h) (hl : s.length ≤ 1000000000) : ACalls prog 129 [.string (bstr s)] h fun u h' => h' = h ∧ ∃ (z : Int) (e : Value), u = .tuple #[.int .i64 z, e] ∧
  ((e = .nilIface ∧ Lib.atoiAll s = .ok z) ∨ (e = .iface errT undef ∧ ∀ v, Lib.atoiAll s ≠ .ok v)) := by
 have hsz := bstr_size s
 have rel : ∀ (z : Int) (φ : Ren) (p : Value), VRel φ h.next (.tuple #[.int .i64 z, .iface errT undef]) (.tuple #[.int .i64 z, .iface errT p]) := fun z φ p => by
  refine .tuple _ _ rfl fun k x y hx hy => ?_
  match k, hx, hy with
  | 0, hx, hy => cases hx; cases hy; exact .int _ _
  | 1, hx, hy => cases hx; cases hy; exact .iface _ _ _ (.und p)
 have rel0 : ∀ (z : Int) (φ : Ren), VRel φ h.next (.tuple #[.int .i64 z, .nilIface]) (.tuple #[.int .i64 z, .nilIface]) := fun z φ => by
  refine .tuple _ _ rfl fun k x y hx hy => ?_
  match k, hx, hy with
  | 0, hx, hy => cases hx; cases hy; exact .int _ _
  | 1, hx, hy => cases hx; cases hy; exact .nilIface
 rcases ha : Lib.atoiAll s with v | _ | _
 ·
  refine (ACalls.of_rel (v := .tuple #[.int .i64 v, .nilIface]) fun φ w cargs s' va => ?_).mono fun u h' ⟨e1, e2⟩ => ⟨e2, v, _, e1, .inl ⟨rfl, rfl⟩⟩
  rw [va.solid_inv rfl]
  refine (Tryz.strconv_Atoi_ok (bstr s) (by omega) v (by rw [qbE]; exact ha) w).mono fun e w' ⟨he, hw⟩ => ⟨_, he, rel0 v φ, ?_⟩
  rcases hw with rfl | ⟨t, rfl⟩
  ·
   exact Go.RowKit.Below.refl _ _
  ·
   exact Lib.bytesWorld_below w 5 t
 ·
  refine (ACalls.of_rel (v := .tuple #[.int .i64 0, .iface errT undef]) fun φ w cargs s' va => ?_).mono fun u h' ⟨e1, e2⟩ => ⟨e2, 0, _, e1, .inr ⟨rfl, fun v hv => by cases hv⟩⟩
  rw [va.solid_inv rfl]
  obtain ⟨c, hc, hv⟩ := s'.cell t.syn (k := 0) rfl
  obtain ⟨⟨e1, e2⟩, _⟩ := s'.glob synG (by decide +kernel)
  rw [e1, e2] at hc
  cases hv with
  | iface _ _ v' _ =>
   refine (Tryz.strconv_Atoi_syntax (bstr s) (by omega) (by rw [qbE]; exact ha) _ w hc (.inr ⟨_, _, rfl⟩)).mono fun e w' ⟨N, he, _, _, hb⟩ => ⟨_, he, rel 0 φ _, hb⟩
 ·
  refine (ACalls.of_rel (v := .tuple #[.int .i64 (Lib.atoiSat s), .iface errT undef]) fun φ w cargs s' va => ?_).mono fun u h' ⟨e1, e2⟩ => ⟨e2, Lib.atoiSat s, _, e1, .inr ⟨rfl, fun v hv => by cases hv⟩⟩
  rw [va.solid_inv rfl]
  obtain ⟨c, hc, hv⟩ := s'.cell t.rng (k := 0) rfl
  obtain ⟨⟨e1, e2⟩, _⟩ := s'.glob rngG (by decide +kernel)
  rw [e1, e2] at hc
  cases hv with
  | iface _ _ v' _ =>
   refine (Tryz.strconv_Atoi_range (bstr s) (by omega) (by rw [qbE]; exact ha) _ w hc (.inr ⟨_, _, rfl⟩)).mono fun e w' ⟨N, he, _, _, hb⟩ => ⟨_, he, ?_, hb⟩
   rw [qbE]
   exact rel _ φ _
theorem fields_c (s : List UInt8) (h : Heap) (t : Tabs h) (hl : s.length ≤ 1000000000) (hn : (Lib.fields s).length ≤ 1000000000) (ha : ∀ (j : Nat) b, s[j]? = some b → b.toNat < 128) : ACalls prog 96 [.string (bstr s)] h fun u h' => u = .slice (some ⟨h.next, 0, none⟩) (Lib.fields s).length (Lib.fields s).length ∧
  h' = h.alloc ⟨(Lib.fields s).map fun l => .string (bstr l), 9, true⟩ := by
 intro φ w cargs s' va
 rw [va.solid_inv rfl]
 have hsz := bstr_size s
 have hc := Tryz.strings_Fields (bstr s) w (by omega) (by rw [qbE]; exact ha) (s'.tab qhe (by decide +kernel) t.space)
 rw [qbE] at hc
 refine hc.mono fun e w' ⟨he, hw⟩ => ?_
 subst he
 subst hw
 obtain ⟨q1, q2⟩ := s'.alloc ((Lib.fields s).map fun l => .string (bstr l)) ((Lib.fields s).map fun l => Value.string (bstr l)).toArray 9 (0, 0) (.inl rfl) (by simp) (fun k v hk => ⟨v, by simpa using hk, by
  obtain ⟨l, _, rfl⟩ := Bp.1 (Aw hk)
  exact .string _⟩)
 refine ⟨_, _, _, ⟨rfl, rfl⟩, ?_, q1, q2⟩
 have hp : (Ren.put φ h.next ⟨w.heap.size, 0, ((Lib.fields s).map fun l => Value.string (bstr l)).toArray.size⟩) h.next = ⟨w.heap.size, 0, ((Lib.fields s).map fun l => Value.string (bstr l)).toArray.size⟩ := bM
 refine .slice _ _ _ _ _ _ _ (by show h.next < h.next + 1; omega) (Aa _) (Aa _) ⟨fun _ => rfl, fun e => by omega⟩ (.inl (by rw [hp])) (by unfold maxLen; omega) (fun t ht => by cases ht)
theorem join_eq : ∀ (ws : List Bytes), Lib.join ws [32] = joinW ws
 | [] => rfl
 | [w] => by simp [Lib.join, List.intercalate, joinW]
 | w :: v :: ws => by
  have ih := join_eq (v :: ws)
  unfold Lib.join List.intercalate at ih ⊢
  rw [joinW, ← ih]
  simp
theorem join_c (v : Value) (L : List Bytes) (h : Heap) (r : RS h v (L.map fun s => .string (bstr s))) (hl : (joinW L).length ≤ 100000000000) (hn : L.length ≤ 100000000000) : ACalls prog 94 [v, .string (bstr [32])] h fun u h' => u = .string (bstr (joinW L)) ∧ h' = h := by
 refine ACalls.of_conc rfl fun φ w cargs s va => ?_
 cases va with
 | cons v1 va =>
  cases va with
  | cons v2 va =>
   cases va
   rw [v2.string_inv]
   obtain ⟨a, cap, rfl, h1, h2, h3⟩ := r.conc (Ai.2 fun x hx => by obtain ⟨b, _, rfl⟩ := Bp.1 hx; rfl) s v1
   rw [Ap] at h1
   rcases h3 with h3 | ⟨b, o, rfl, hb, h3⟩
   ·
    have hL : L = [] := List.map_eq_nil_iff.1 h3
    subst hL
    refine (Tryz.strings_Join_none a cap (bstr [32]) w).mono fun e w' ⟨he, hw⟩ => ⟨he, ?_⟩
    rw [hw]
    exact Go.RowKit.Below.refl _ _
   ·
    have hj := Tryz.strings_Join b o cap (L.map bstr) (bstr [32]) w (fun j x hx => by
     obtain ⟨s0, hs0, rfl⟩ : ∃ s0, L[j]? = some s0 ∧ bstr s0 = x := by
      rw [Bm] at hx
      exact Option.map_eq_some_iff.1 hx
     exact h3 j _ (by rw [Bm, hs0]; rfl)) hb (by rw [Ap]; omega) (by rw [Ap]; exact h1)
    have hm : (L.map bstr).map (fun x : ByteArray => x.data.toList) = L := by
     rw [List.map_map]
     exact (List.map_congr_left fun x _ => qbE x).trans (List.map_id L)
    rw [hm, qbE, join_eq, Ap] at hj
    rw [Ap]
    exact hj (by omega)
end Go.Proofs.YtigmojilaadbhaaGreatDoor
/- . -/
namespace Go.Eng
open Go
section
variable {P : Program} {W : World} {H : Type} {enc : TypeId × Value → H}
end
end Go.Eng
/- . -/
namespace Go.Proofs.YtigmojilaadbhaaGreatDoor
open Go Go.Eng Go.Lib Go.Proofs.Tryz
noncomputable abbrev laidL : List (String × DataW Unit) := Rows.scriptUnlinesRow.laid
def tabsT : List (Nat × Blk) := [(powG, tabB .u64 Lib.pow10Tab), (spaceG, tabB .u8 Lib.asciiSpaceTab), (synG, errB 262), (rngG, errB 262)]
theorem qho : (tabsT.map (·.1)).Nodup := by decide
theorem star : "*" ++ "errors.errorString" = "*errors.errorString" := by decide
theorem star_row (u : TypeId) (h : prog.typeName? 3 u = some "*errors.errorString") : u = 262 :=
 typeName_ptr_named (nm := "errors.errorString") (by rw [star]; kernel_rfl) (by kernel_rfl) (by decide) u (by rw [star]; exact h)
theorem laid_plain {W : World} (h : laidMetH prog laidL W) : laidMet prog laidL W := by
 rwa [MakeChecks.laidMetH_plain _ _ _ (by kernel_rfl)] at h
theorem qeH {W : World} {name : String} {g : Nat} {k : IntKind} {zs : List Int} (hn : prog.globalNamed name = some g) (hg : g < prog.globals.size) (h : TabIs prog W name k zs) : Go.Eng.Told prog W g (tabB k zs) := by
 unfold TabIs World.var? at h
 rw [hn] at h
 simp only [Da] at h
 cases hw : W.heap[g]? with
 | none => rw [hw] at h; cases h
 | some o =>
  rw [hw] at h
  cases o <;> try (cases h; done)
  rename_i cs t fr
  cases h
  exact told_tab (t := t) (fr := fr) hg hw
theorem qed {W : World} {name : String} {g : Nat} {d : DataW Unit} {rest : List (String × DataW Unit)} (hn : prog.globalNamed name = some g) (hg : g < prog.globals.size) (hty : (prog.globals[g]?).map (·.type) = some 131)
  (h : laidMet prog ((name, .iface "*errors.errorString" d) :: rest) W) : Go.Eng.Told prog W g (errB 262) := by
 obtain ⟨ps, ⟨g', t', cs, fuel, p, q, hg', ht', hvar, hd, _, _⟩, _⟩ := h
 obtain rfl := Option.some.inj (hn.symm.trans hg')
 obtain rfl := Option.some.inj (hty.symm.trans ht')
 obtain ⟨_, u, v, hcs, hu, _⟩ := iface_of_trod underlying131 hd
 obtain rfl := star_row u hu
 refine told_err (v := v) hg ?_
 have := World.var?_cell hn hvar 0
 rw [Array.eq_one_of_toList hcs] at this
 simpa using this
theorem told_tabs {W : World} (h : laidMetH prog laidL W) : ∀ x ∈ tabsT, Go.Eng.Told prog W x.1 x.2 := by
 have hp := laid_plain h
 have h1 := hp.filter fun x => x.1 == "internal/strconv.uint64pow10"
 have h2 := hp.filter fun x => x.1 == "strings.asciiSpace"
 have h3 := hp.filter fun x => x.1 == "strconv.ErrSyntax"
 have h4 := hp.filter fun x => x.1 == "strconv.ErrRange"
 rw [show laidL.filter (fun x => x.1 == "internal/strconv.uint64pow10") = [("internal/strconv.uint64pow10", Lib.tabData .u64 Lib.pow10Tab)] by kernel_rfl] at h1
 rw [show laidL.filter (fun x => x.1 == "strings.asciiSpace") = [("strings.asciiSpace", Lib.tabData .u8 Lib.asciiSpaceTab)] by kernel_rfl] at h2
 rw [show laidL.filter (fun x => x.1 == "strconv.ErrSyntax") = [("strconv.ErrSyntax", Rows.laid_strconv_ErrSyntax)] by kernel_rfl] at h3
 rw [show laidL.filter (fun x => x.1 == "strconv.ErrRange") = [("strconv.ErrRange", Rows.laid_strconv_ErrRange)] by kernel_rfl] at h4
 intro x hx
 simp only [tabsT, Ak, As, or_false] at hx
 rcases hx with rfl | rfl | rfl | rfl
 ·
  exact qeH pow_n (by decide +kernel) (tabIs_of_head pow_n (t := 252) (e := 221) (n := 20) (by kernel_rfl) underlying252 underlying221 (by kernel_rfl) (by kernel_rfl) h1)
 ·
  exact qeH qhe (by decide +kernel) (tabIs_of_head qhe (t := 184) (e := 5) (n := 256) (by kernel_rfl) underlying184 underlying5 (by kernel_rfl) (by kernel_rfl) h2)
 ·
  exact qed (name := "strconv.ErrSyntax") (by kernel_rfl) (by decide +kernel) (by kernel_rfl) h3
 ·
  exact qed (name := "strconv.ErrRange") (by kernel_rfl) (by decide +kernel) (by kernel_rfl) h4
theorem tabs_of {h : Heap} (ht : ∀ x ∈ tabsT, h.get x.1 = some x.2) : Tabs h :=
 ⟨ht (powG, tabB .u64 Lib.pow10Tab) (by simp [tabsT]), ht (spaceG, tabB .u8 Lib.asciiSpaceTab) (by simp [tabsT]), ht (synG, errB 262) (by simp [tabsT]), ht (rngG, errB 262) (by simp [tabsT])⟩
theorem door_met (os : Os) (args : Array Value) : laidMetH prog laidL ((World.doorLaid prog 86 os).forCall (fun _ _ => 0) ⟨#[], args, []⟩).memory :=
 laidMetH_of_parts3 (fuel := 8) (laidMet_of_run' 8 (by kernel_rfl) (by kernel_rfl)) (by kernel_rfl) (by kernel_rfl)
theorem qhy (os : Os) (args : Array Value) : ((World.doorLaid prog 86 os).forCall (fun _ _ => 0) ⟨#[], args, []⟩).Shaped prog := World.shaped_of_RefB (by kernel_rfl) (by kernel_rfl)
end Go.Proofs.YtigmojilaadbhaaGreatDoor
/- . -/
namespace Go.Eng
open Go
section
variable {P : Program} {h : Heap} {K : Value → Heap → Prop} {ρ : Operand → Value} {dst : Option Tmp} {ty : TypeId} {pos : String} {aft : Array Edge} {g : Option (Nat × Bool)}
theorem qfO {t : TypeId} {ms : Array (String × TypeId)} [td : TyD P t (.interface ms)] (w : World) (d : Nat) : (Op.equalIn (d + 1) t .nilIface .nilIface).run P w = .ok true w := by
 simp [Op.equalIn, td.run]
theorem qf1 {t : TypeId} {ms : Array (String × TypeId)} [td : TyD P t (.interface ms)] (u : TypeId) (v : Value) (w : World) (d : Nat) : (Op.equalIn (d + 1) t (.iface u v) .nilIface).run P w = .ok false w := by
 simp [Op.equalIn, td.run]
theorem qfY {t t' : TypeId} {x : Operand} {ms : Array (String × TypeId)} [td : TyD P t (.interface ms)] (hx : ρ x = .nilIface) (kk : K (.bool false) h) : AOp P ⟨dst, .binOp .neq t x (.const .nilIface) t', ty, pos, aft, g⟩ ρ h K :=
 .of_pure kk fun φ ac w r => by
  have e1 := (hx ▸ r.ev x (by simp [Op.operands])).nilIface_inv
  have e2 : ac.eval (.const .nilIface) = .nilIface := rfl
  have e4 : (Op.equal t .nilIface .nilIface).run P w = .ok true w := qfO w 9999
  exact ⟨.bool false, by simp [execOp, e1, e2, eqGuard, binOp, e4], .bool _⟩
theorem qim {t t' u : TypeId} {v : Value} {x : Operand} {ms : Array (String × TypeId)} [td : TyD P t (.interface ms)] (hx : ρ x = .iface u v) (kk : K (.bool true) h) : AOp P ⟨dst, .binOp .neq t x (.const .nilIface) t', ty, pos, aft, g⟩ ρ h K :=
 .of_pure kk fun φ ac w r => by
  obtain ⟨v', e1⟩ : ∃ v', ac.eval x = .iface u v' := by
   have := hx ▸ r.ev x (by simp [Op.operands])
   generalize ac.eval x = c at this
   cases this with
   | iface _ _ v' _ => exact ⟨v', rfl⟩
  have e2 : ac.eval (.const .nilIface) = .nilIface := rfl
  have e4 : (Op.equal t (.iface u v') .nilIface).run P w = .ok false w := qf1 u v' w 9999
  exact ⟨.bool true, by simp [execOp, e1, e2, eqGuard, binOp, e4], .bool _⟩
def notIf : TypeDesc → Bool
 | .interface _ => false
 | _ => true
theorem qa5 {t : TypeId} {x : Operand} {v : Value} {d : TypeDesc} [td : TyD P t d] (hd : notIf d = true) (hx : ρ x = v) (kk : K (.iface t v) h) : AOp P ⟨dst, .makeInterface t x, ty, pos, aft, g⟩ ρ h K :=
 .of_pure kk fun φ ac w r => by
  have e1 := hx ▸ r.ev x (by simp [Op.operands])
  refine ⟨.iface t (ac.eval x), ?_, .iface _ _ _ e1⟩
  cases d <;> first | (cases hd; done) | simp [execOp, Instr.makeInterface, run_underlying td.eq]
theorem op_taY {t xt : TypeId} {x : Operand} {v : Value} {d : TypeDesc} [td : TyD P t d] (hd : notIf d = true) (hx : ρ x = .iface t v) (kk : K (.tuple #[v, .bool true]) h) : AOp P ⟨dst, .typeAssert x xt t true, ty, pos, aft, g⟩ ρ h K :=
 .of_pure kk fun φ ac w r => by
  have e1 := hx ▸ r.ev x (by simp [Op.operands])
  generalize he : ac.eval x = c at e1
  cases e1 with
  | iface _ _ v' hv =>
   refine ⟨.tuple #[v', .bool true], ?_, .tuple _ _ rfl fun k a b ha hb => ?_⟩
   ·
    cases d <;> first | (cases hd; done) | simp [execOp, Instr.typeAssert, run_underlying td.eq, he]
   ·
    match k, ha, hb with
    | 0, ha, hb => cases ha; cases hb; exact hv
    | 1, ha, hb => cases ha; cases hb; exact .bool _
theorem op_taN {t xt u : TypeId} {sz by_ : Nat} {z : Value} {x : Operand} {v : Value} {d : TypeDesc} [td : TyD P t d] [ti : TyI P t sz by_ z] (hd : notIf d = true) (hz : plainV z = true) (hx : ρ x = .iface u v) (hne : u ≠ t) (kk : K (.tuple #[z, .bool false]) h) : AOp P ⟨dst, .typeAssert x xt t true, ty, pos, aft, g⟩ ρ h K :=
 .of_pure kk fun φ ac w r => by
  have e1 := hx ▸ r.ev x (by simp [Op.operands])
  generalize he : ac.eval x = c at e1
  cases e1 with
  | iface _ _ v' hv =>
   refine ⟨.tuple #[z, .bool false], ?_, .tuple _ _ rfl fun k a b ha hb => ?_⟩
   ·
    cases d <;> first | (cases hd; done) | simp [execOp, Instr.typeAssert, run_underlying td.eq, he, hne, ti.zero]
   ·
    match k, ha, hb with
    | 0, ha, hb => cases ha; cases hb; exact .of_plain hz
    | 1, ha, hb => cases ha; cases hb; exact .bool _
end
end Go.Eng
/- . -/
namespace Go.Pln
open Go Go.Lib
def cutC (c : UInt8) : Bytes → Bytes × Bytes × Bool
 | [] => ([], [], false)
 | b :: s => if b = c then ([], s, true) else (b :: (cutC c s).1, (cutC c s).2.1, (cutC c s).2.2)
theorem cutN_eq : ∀ s : Bytes, cutN s = cutC 10 s
 | [] => rfl
 | b :: s => by rw [cutN, cutC, cutN_eq s]
theorem cutS_eq : ∀ s : Bytes, cutS s = ((cutC 32 s).1, (cutC 32 s).2.1)
 | [] => rfl
 | b :: s => by
  rw [cutS, cutC, cutS_eq s]
  split <;> rfl
theorem qiE {c : UInt8} : ∀ {s : Bytes}, (cutC c s).2.2 = true → indexByte s c = (cutC c s).1.length ∧ s = (cutC c s).1 ++ c :: (cutC c s).2.1
 | [], h => by cases h
 | b :: s, h => by
  rw [cutC] at h ⊢
  rw [indexByte]
  by_cases hb : b = c
  ·
   subst hb
   simp
  ·
   rw [Ac hb] at h ⊢
   obtain ⟨h1, h2⟩ := qiE (s := s) h
   rw [h1, Ac (by simpa using hb), Ac (by simp)]
   simp only [Ad, Bw]
   exact ⟨by omega, congrArg (b :: ·) h2⟩
theorem cutC_no {c : UInt8} : ∀ {s : Bytes}, (cutC c s).2.2 = false → indexByte s c = -1 ∧ cutC c s = (s, [], false)
 | [], _ => ⟨rfl, rfl⟩
 | b :: s, h => by
  rw [cutC] at h ⊢
  rw [indexByte]
  by_cases hb : b = c
  ·
   rw [Ah hb] at h
   cases h
  ·
   rw [Ac hb] at h ⊢
   obtain ⟨h1, h2⟩ := cutC_no (s := s) h
   rw [h1, h2, Ac (by simpa using hb), Ah (by rfl)]
   exact ⟨rfl, rfl⟩
end Go.Pln
/- . -/
namespace Go.Proofs.YtigmojilaadbhaaGreatDoor
open Go Go.Eng Go.Pln Go.Lib Go.Proofs.Tryz
attribute [local irreducible] AWp AL DAL AOp
instance i_TyD_int : TyD prog 3 (.int .i64) := ⟨underlying3⟩
instance i_TyD_uint8 : TyD prog 5 (.int .u8) := ⟨underlying5⟩
instance i_TyD_bool : TyD prog 4 .bool := ⟨underlying4⟩
instance i_TyD_string : TyD prog 9 .string := ⟨underlying9⟩
instance i_TyD_Sl_uint8 : TyD prog 27 (.slice 5) := ⟨underlying27⟩
instance i_TyD_Sl_int : TyD prog 77 (.slice 3) := ⟨underlying77⟩
instance i_TyD_Sl_string : TyD prog 99 (.slice 9) := ⟨underlying99⟩
instance i_TyI_int : TyI prog 3 1 8 (.int .i64 0) := ⟨qaV (by kernel_rfl), rfl, rfl⟩
instance i_TyI_uint8 : TyI prog 5 1 1 (.int .u8 0) := ⟨qaV (by kernel_rfl), rfl, rfl⟩
instance i_TyI_bool : TyI prog 4 1 1 (.bool false) := ⟨qaV (by kernel_rfl), rfl, rfl⟩
instance i_TyI_string : TyI prog 9 1 16 (.string ⟨#[]⟩) := ⟨qaV (by kernel_rfl), rfl, rfl⟩
instance i_TyI_Sl_uint8 : TyI prog 27 1 24 (.slice none 0 0) := ⟨qaV (by kernel_rfl), rfl, rfl⟩
instance i_TyI_Sl_int : TyI prog 77 1 24 (.slice none 0 0) := ⟨qaV (by kernel_rfl), rfl, rfl⟩
abbrev fd (n : String) (t o : Nat) (p : String) (b : Nat) : Field := { name := n, type := t, offset := o, embedded := false, tag := "", pkgPath := p, byteOffset := b }
instance qfK : FAd prog 89 0 0 := bA (ft := 9) underlying89 rfl rfl rfl rfl
abbrev str (s : Bytes) : Value := .string (bstr s)
abbrev ptr (i : Nat) : Value := .pointer (some ⟨i, 0, none⟩)
abbrev rdB (s : Bytes) : Blk := ⟨[str s], 89, true⟩
instance qdh : FnC prog 142 := ⟨Tryz.f142, func142, by kernel_rfl, by kernel_rfl⟩
instance qdB : FnC prog 107 := ⟨Tryz.f107, func107, by kernel_rfl, by kernel_rfl⟩
instance i_FnC_strings_Cut : FnC prog 59 := ⟨Tryz.f59, func59, by kernel_rfl, by kernel_rfl⟩
instance qcF : FnC prog 46 := ⟨Tryz.f46, func46, by kernel_rfl, by kernel_rfl⟩
instance qh1 : FnC prog 129 := ⟨Tryz.f129, func129, by kernel_rfl, by kernel_rfl⟩
instance qiy : FnC prog 92 := ⟨Tryz.f92, func92, by kernel_rfl, by kernel_rfl⟩
theorem mixed : prog.toTables.follows Departure.mixedOrders = true := by kernel_rfl
theorem index_c (s : Bytes) (c : UInt8) (h : Heap) : ACalls prog 142 [str s, str [c]] h fun u h' => u = .int .i64 (Lib.indexByte s c) ∧ h' = h := by
 refine ACalls.of_sim rfl rfl fun φ w s' => ?_
 have hc := Tryz.stringslite_Index_one (bstr s) c w
 rw [qbE] at hc
 refine hc.mono fun e w' ⟨he, hw⟩ => ⟨he, ?_⟩
 rw [hw]
 exact Go.RowKit.Below.refl _ _
abbrev cutV (c : UInt8) (s : Bytes) : Value := .tuple #[str (cutC c s).1, str (cutC c s).2.1, .bool (cutC c s).2.2]
theorem slcut_c (s : Bytes) (c : UInt8) (h : Heap) (hl : s.length ≤ 1000000000) : ACalls prog 107 [str s, str [c]] h fun u h' => u = cutV c s ∧ h' = h := by
 refine aD func107 rfl rfl ?_
 have ci := index_c s c h
 cases hb : (cutC c s).2.2 with
 | true =>
  obtain ⟨h1, h2⟩ := qiE hb
  rw [h1] at ci
  have hv : cutV c s = .tuple #[str (cutC c s).1, str (cutC c s).2.1, .bool true] := by simp only [cutV, hb]
  rw [hv]
  generalize (cutC c s).1 = a at h1 h2 ci ⊢
  generalize (cutC c s).2.1 = b at h2 ⊢
  have e1 : (s.take a.length).drop 0 = a := by rw [h2]; simp
  have e2 : (s.take s.length).drop (a.length + 1) = b := by rw [Au, h2, show a ++ c :: b = (a ++ [c]) ++ b by simp, List.drop_left' (by simp)]
  have hc1 : (bstr [c]).size = 1 := rfl
  have hlen := congrArg List.length h2
  rw [An, Ad] at hlen
  repeat (first | refine W.w ?_ | refine aE rfl ?_ | (refine zz rfl ?_; first | refine qac rfl ?_ | refine qaj rfl ?_ | refine qad rfl ?_ | refine qaa rfl ?_ | refine qah rfl ?_ | refine qab rfl rfl ci ?_ | refine qak rfl rfl rfl (by omega) ?_))
  refine bJ (σ := [(0, .R), (1, .R), (2, .R), (3, .R), (4, .R), (5, .R), (6, .R), (7, .R), (8, .R), (9, .R), (10, .R), (11, .R)]) mixed (by kernel_rfl) ?_
  repeat (first | refine dr rfl rfl (fun _ hx _ => qac rfl ⟨rfl, rfl⟩) ?_ | refine dr rfl rfl (fun _ hx _ => qaj rfl ⟨rfl, rfl⟩) ?_ | refine dr rfl rfl (fun _ hx _ => qaa rfl ⟨rfl, rfl⟩) ?_ | refine dr rfl rfl (fun _ hx _ => qah rfl ⟨rfl, rfl⟩) ?_ | refine dr rfl rfl (fun _ hx _ => qa8 (l := 0) (m := (a.length : Nat)) rfl rfl rfl (by omega) (by omega) (by omega) ⟨rfl, rfl⟩) ?_ | refine dr rfl rfl (fun _ hx _ => qgq rfl ⟨rfl, rfl⟩) ?_ | refine dr rfl rfl (fun _ hx _ => qa8 (m := (s.length : Nat)) rfl rfl rfl (by omega) (by omega) (by omega) ⟨rfl, rfl⟩) ?_ | refine dr rfl rfl (fun _ hx _ => qau rfl rfl (by omega) ⟨rfl, rfl⟩) ?_)
  refine aX ?_
  repeat (first | refine aM ?_)
  refine ⟨_, ResV.tmp3 rfl, ?_, rfl⟩
  show Value.tuple #[str ((s.take a.length).drop 0), str ((s.take s.length).drop (a.length + 1)), .bool true] = _
  rw [e1, e2]
 | false =>
  obtain ⟨h1, h2⟩ := cutC_no hb
  rw [h1] at ci
  repeat (first | refine W.w ?_ | refine aG rfl ?_ | (refine zz rfl ?_; first | refine qac rfl ?_ | refine qaj rfl ?_ | refine qad rfl ?_ | refine qaa rfl ?_ | refine qah rfl ?_ | refine qab rfl rfl ci ?_ | refine qai rfl rfl rfl (by omega) ?_))
  refine ⟨_, ResV.tmp3 rfl, ?_, rfl⟩
  simp only [cutV, h2]
  rfl
theorem cut_c (s : Bytes) (c : UInt8) (h : Heap) (hl : s.length ≤ 1000000000) : ACalls prog 59 [str s, str [c]] h fun u h' => u = cutV c s ∧ h' = h := by
 refine aD func59 rfl rfl ?_
 repeat (first | refine W.w ?_ | (refine zz rfl ?_; first | refine qaj rfl ?_ | refine qaa rfl ?_ | refine qah rfl ?_ | refine qab rfl rfl (slcut_c s c h hl) ?_ | refine qav rfl rfl ?_))
 exact ⟨_, ResV.tmp3 rfl, rfl, rfl⟩
theorem qii (i : Nat) (s : Bytes) (h : Heap) (hi : h.get i = some (rdB s)) (hl : s.length ≤ 1000000000) : ACalls prog 46 [ptr i] h fun u h' => u = str (cutS s).1 ∧ h' = h.set i (rdB (cutS s).2) := by
 refine aD func46 rfl rfl ?_
 rw [cutS_eq]
 repeat (first | refine W.w ?_ | refine aJ rfl (qaw (v := str (cutC 32 s).2.1) rfl rfl rfl hi rfl (by show 0 < 1; omega) ?_) | (refine zz rfl ?_; first | refine qaB rfl ?_ | refine qaj rfl ?_ | refine qaC rfl ?_ | refine qah rfl ?_ | refine qaH rfl ?_ | refine qan rfl ?_ | refine qaf rfl rfl hi rfl ?_ | refine qab rfl rfl (cut_c s 32 h hl) ?_ | refine qav rfl rfl ?_))
 exact ⟨_, aC rfl, rfl, rfl⟩
instance i_TyD_error : TyD prog 131 (.interface #[("Error", 90)]) := ⟨underlying131⟩
theorem Tabs.set {h : Heap} (t : Tabs h) {i : Nat} {b : Blk} (hn : 8 ≤ i) : Tabs (h.set i b) := by
 have e : ∀ g, g < 8 → (h.set i b).get g = h.get g := fun g hg => by
  simp only [Heap.set]
  rw [Ac (by omega)]
 exact ⟨(e _ (by decide)).trans t.pow, (e _ (by decide)).trans t.space, (e _ (by decide)).trans t.syn, (e _ (by decide)).trans t.rng⟩
theorem qbu : ∀ s : Bytes, (cutS s).1.length ≤ s.length ∧ (cutS s).2.length ≤ s.length
 | [] => ⟨Aa _, Aa _⟩
 | c :: s => by
  rw [cutS]
  have := qbu s
  split <;> simp only [Ad, Ag] <;> omega
theorem num_c (i : Nat) (s : Bytes) (h : Heap) (hi : h.get i = some (rdB s)) (hl : s.length ≤ 1000000000) (t : Tabs h) (hn : 8 ≤ i) : ACalls prog 97 [ptr i] h fun u h' => u = .int .i64 (numS s).1 ∧ h' = h.set i (rdB (numS s).2) := by
 refine aD func97 rfl rfl ?_
 have hw := (qbu s).1
 unfold numS numP
 generalize hH : h.set i (rdB (cutS s).2) = H
 have tH : Tabs H := hH ▸ t.set hn
 have cn := qii i s h hi hl
 rw [hH] at cn
 generalize (cutS s).1 = w at hw cn ⊢
 repeat (first | refine W.w ?_ | refine zz rfl (qaB rfl ?_) | refine zz rfl (qad rfl ?_))
 refine zz rfl (qat rfl rfl (cn.mono ?_))
 rintro _ H1 ⟨rfl, hH1⟩
 cases hH1.symm
 repeat (first | refine W.w ?_ | refine zz rfl (qaj rfl ?_) | refine zz rfl (qah rfl ?_))
 refine zz rfl (qat rfl rfl ((atoi_c w H tH (by omega)).mono ?_))
 rintro _ H1 ⟨hH1, z, e, rfl, he0⟩
 cases hH1.symm
 rcases he0 with ⟨rfl, ha⟩ | ⟨rfl, ha⟩
 ·
  have hr := qfn ha
  have ci := qis z H tH hr.1 hr.2
  by_cases he : itoa z = w
  ·
   repeat (first | refine W.w ?_ | refine aG rfl ?_ | (refine zz rfl ?_; first | refine qac rfl ?_ | refine qae rfl ?_ | refine qaj rfl ?_ | refine qaC rfl ?_ | refine qad rfl ?_ | refine qav rfl rfl ?_ | refine qfY rfl ?_ | refine qab rfl rfl ci ?_ | refine qbi rfl rfl he ?_ | refine qag (v := .bool _) rfl rfl ?_ | refine qal (by conv => lhs; whnf) ?_ | refine qao (by conv => lhs; whnf) ?_))
   refine ⟨_, aC rfl, ?_, rfl⟩
   rw [ha]
   simp only
   rw [Ah he]
   rfl
  ·
   repeat (first | refine W.w ?_ | refine aE rfl ?_ | (refine zz rfl ?_; first | refine qac rfl ?_ | refine qae rfl ?_ | refine qaj rfl ?_ | refine qaC rfl ?_ | refine qad rfl ?_ | refine qav rfl rfl ?_ | refine qfY rfl ?_ | refine qab rfl rfl ci ?_ | refine qbg rfl rfl he ?_ | refine qag (v := .bool _) rfl rfl ?_ | refine qal (by conv => lhs; whnf) ?_ | refine qao (by conv => lhs; whnf) ?_))
   refine ⟨_, aC rfl, ?_, rfl⟩
   rw [ha]
   simp only
   rw [Ac he]
   rfl
 ·
  repeat (first | refine W.w ?_ | refine aK rfl rfl ?_ | refine aE rfl ?_ | (refine zz rfl ?_; first | refine qae rfl ?_ | refine qaC rfl ?_ | refine qad rfl ?_ | refine qav rfl rfl ?_ | refine qim rfl ?_ | refine qag (v := .bool _) rfl rfl ?_ | refine qal (by conv => lhs; whnf) ?_ | refine qao (by conv => lhs; whnf) ?_))
  refine ⟨_, aC rfl, ?_, rfl⟩
  rcases hz : Lib.atoiAll w with v | _ | _
  ·
   exact absurd hz (ha v)
  ·
   rfl
  ·
   rfl
end Go.Proofs.YtigmojilaadbhaaGreatDoor
/- . -/
namespace Go.Proofs.YtigmojilaadbhaaGreatDoor
open Go Go.Eng Go.Pln Go.Lib Go.Proofs.Tryz
def nums (l : Bytes) : List Int := l.map fun b => (b.toNat : Int)
theorem qiq (l : Bytes) : (nums l).length = l.length := by simp [nums]
theorem qfl (l : Bytes) : Lib.bytesOf (nums l) = l := by
 unfold Lib.bytesOf nums
 rw [List.map_map]
 exact (List.map_congr_left fun b _ => by simp).trans (List.map_id l)
theorem bytesIn {h : Heap} {φ : Go.Eng.Ren} {w : World} {v c : Value} {l : Bytes} (r : RB h v l) (s : Sim prog φ h w) (rv : VRel φ h.next v c) : ∃ a cap, c = .slice a l.length cap ∧ Lib.BytesIn w a l.length (nums l) := by
 obtain ⟨a, cap, rfl, _, _, h3⟩ := RS.conc r (Ai.2 fun x hx => by obtain ⟨b, _, rfl⟩ := Bp.1 hx; rfl) s rv
 rw [qaE]
 refine ⟨a, cap, rfl, fun hn => ?_⟩
 rcases h3 with h3 | ⟨b, o, rfl, _, h3⟩
 ·
  have : l = [] := List.map_eq_nil_iff.1 h3
  subst this
  exact absurd hn (Nat.lt_irrefl 0)
 ·
  refine ⟨b, o, rfl, fun i hi => ?_⟩
  have hb : (bv l)[i]? = some (.int .u8 (l[i].toNat : Int)) := by
   unfold bv
   rw [Bm, At hi]
   rfl
  rw [h3 i _ hb]
  congr 2
  unfold nums
  rw [Cv, Bm, At hi]
  rfl
theorem qcn (u v : Value) (a b : Bytes) (h : Heap) (ra : RB h u a) (rb : RB h v b) : ACalls prog 143 [u, v] h fun x h' => x = .bool (a == b) ∧ h' = h := by
 refine ACalls.of_conc rfl fun φ w cargs s va => ?_
 cases va with
 | cons v1 va =>
  cases va with
  | cons v2 va =>
   cases va
   obtain ⟨p1, c1, rfl, i1⟩ := bytesIn ra s v1
   obtain ⟨p2, c2, rfl, i2⟩ := bytesIn rb s v2
   have hc := Tryz.bytes_Equal_all p1 p2 a.length c1 b.length c2 (nums a) (nums b) w (qiq a) (qiq b) i1 i2
   rw [qfl, qfl] at hc
   refine hc.mono fun e w' ⟨he, hw⟩ => ⟨he, ?_⟩
   rw [hw]
   exact Go.RowKit.Below.refl _ _
end Go.Proofs.YtigmojilaadbhaaGreatDoor
/- . -/
namespace Go.Eng
open Go
section
variable {P : Program} {ρ : Operand → Value} {h : Heap} {K : Value → Heap → Prop} {dst : Option Tmp} {ty : TypeId} {pos : String} {aft : Array Edge} {g : Option (Nat × Bool)}
end
@[irreducible] def big : Nat := 18446744073709551616
section
variable {P : Program} {ρ : Operand → Value} {h : Heap} {K : Value → Heap → Prop} {dst : Option Tmp} {ty : TypeId} {pos : String} {aft : Array Edge} {g : Option (Nat × Bool)}
end
class XtC (P : Program) (f : FuncId) (e : outParam (Array Value → Sem Value)) : Prop where
 ex : ∃ fn, P.funcs[f]? = some fn ∧ (fn.name == "runtime.NumGoroutine") = false ∧ fn.body.isNone = true ∧ Extern.findNext fn = none ∧ Extern.find fn = some e
section
variable {P : Program} {ρ : Operand → Value} {h : Heap} {K : Value → Heap → Prop} {dst : Option Tmp} {ty : TypeId} {pos : String} {aft : Array Edge} {g : Option (Nat × Bool)}
end
theorem TyI.cells {P : Program} {t : TypeId} {s b : Nat} {z : Value} [k : TyI P t s b z] : P.cellsOf t = s := by
 obtain ⟨i, h1, h2, _⟩ := k.ex
 simp [Program.cellsOf, h1, h2]
theorem liesAt_own {P : Program} {e : TypeId} {count : Nat} (h0 : P.cellsOf e ≠ 0) (hn : 1 ≤ count) : liesAt P P.depth e count 0 e 1 = true := by
 have hd : P.depth = (2 * (P.types.size + Made.depth) + 1) + 1 := rfl
 rw [hd]
 simp only [liesAt, Cw]
 left
 rw [hd]
 simp [rowAt, h0, hn, sameLayout]
section
variable {P : Program} {ρ : Operand → Value} {h : Heap} {K : Value → Heap → Prop} {dst : Option Tmp} {ty : TypeId} {pos : String} {aft : Array Edge} {g : Option (Nat × Bool)}
theorem op_toUns {s d t : TypeId} {x : Operand} {i o sz by_ : Nat} {sp : Option Nat} {z : Value} {b : Blk} [ts : TyD P s (.pointer t)] [td : TyD P d .unsafePointer] [ti : TyI P t sz by_ z] (hs : (sz == 0) = false) (hx : ρ x = .pointer (some ⟨i, o, sp⟩)) (hi : h.get i = some b) (ho : b.own = true) (hl : o < b.cells.length)
  (kk : K (.pointer (some ⟨i, o, sp⟩)) h) : AOp P ⟨dst, .convert s d x, ty, pos, aft, g⟩ ρ h K :=
 .of_pure kk fun φ ac w r => by
  have hv := hx ▸ r.ev x (by simp [Op.operands])
  obtain ⟨rfl, _, e1⟩ := hv.ptr_inv
  obtain ⟨arr, fr, a1, ⟨a2, _⟩, _, a4, _⟩ := r.sim.owned hi ho
  obtain ⟨inf, q1, q2, _⟩ := ti.ex
  have hsh : w.shape? (φ i).b = some (b.elem, arr.size) := by simp [World.shape?, a1]
  have hrun := Lib.run_to_unsafe (P := P) (w := w) (src := s) (dst := d) ⟨(φ i).b, (φ i).o + o, none⟩ ts.eq td.eq q1 (by rw [q2]; simpa using hs) hsh (by show (φ i).o + o < arr.size; omega)
  exact ⟨_, by simp [execOp, e1, hrun], e1 ▸ hv⟩
theorem op_fromUns {s d u : TypeId} {x : Operand} {i sz by_ : Nat} {sp : Option Nat} {z : Value} {b : Blk} [ts : TyD P s .unsafePointer] [td : TyD P d (.pointer u)] [ti : TyI P u sz by_ z] (hs : (sz == 0) = false) (hx : ρ x = .pointer (some ⟨i, 0, sp⟩)) (hi : h.get i = some b) (ho : b.own = true) (he : b.elem = u) (hl : sz ≤ b.cells.length)
  (kk : K (.pointer (some ⟨i, 0, sp⟩)) h) : AOp P ⟨dst, .convert s d x, ty, pos, aft, g⟩ ρ h K :=
 .of_pure kk fun φ ac w r => by
  have hv := hx ▸ r.ev x (by simp [Op.operands])
  obtain ⟨rfl, _, e1⟩ := hv.ptr_inv
  obtain ⟨arr, fr, a1, ⟨a2, _⟩, _, a4, _⟩ := r.sim.owned hi ho
  obtain ⟨inf, q1, _⟩ := ti.ex
  have hs0 : sz ≠ 0 := by simpa using hs
  have hsh : w.shape? (φ i).b = some (u, arr.size) := by simp [World.shape?, a1, he]
  have hrun := Lib.run_from_unsafe (P := P) (w := w) (src := s) (dst := d) ⟨(φ i).b, (φ i).o + 0, none⟩ ts.eq td.eq q1 hsh (by
   rw [a2]
   refine liesAt_own ?_ ?_
   ·
    rw [TyI.cells (t := u)]; exact hs0
   ·
    rw [TyI.cells (t := u)]
    exact (Nat.le_div_iff_mul_le (by omega)).2 (by omega))
  rw [Dw] at hrun e1
  exact ⟨_, by simp [execOp, e1, hrun], e1 ▸ hv⟩
theorem qhH {f : FuncId} {fo x : Operand} {aT : Array TypeId} {v : Value} [xt : XtC P f Extern.AbiNoEscape.same] (hf : ρ fo = .func (.func f) #[] #[]) (hx : ρ x = v) (kk : K v h) : AOp P ⟨dst, .call ⟨.value fo, #[x], aT⟩, ty, pos, aft, g⟩ ρ h K :=
 .of_pure kk fun φ ac w r => by
  obtain ⟨f1, d1, e0, s1, s2, _, _⟩ := (hf ▸ r.ev fo (by simp [Op.operands, Call.operands])).func_inv
  obtain rfl : f1 = #[] := by apply Cd; rw [← s1]; rfl
  obtain rfl : d1 = #[] := by apply Cd; rw [← s2]; rfl
  have e1 := hx ▸ r.ev x (by simp [Op.operands, Call.operands])
  obtain ⟨fn, q1, q2, q3, q4, q5⟩ := xt.ex
  refine ⟨ac.eval x, ?_, e1⟩
  have := run_callFunc_extern (P := P) q1 q2 q3 q4 q5 #[ac.eval x] w
  have hcmp : (Extern.AbiNoEscape.same #[ac.eval x]).run P w = .ok (ac.eval x) w := rfl
  rw [hcmp] at this
  simp [execOp, resolve, e0, Deferred.ofValue, invoke, this]
theorem qcM {t e : TypeId} {sz by_ : Nat} {z : Value} [ti : TyD P t (.pointer e)] [te : TyI P e sz by_ z] (p : Addr) (hp : p.spot = none) (w : World) (d : Nat) : (Op.equalIn (d + 1) t (.pointer (some p)) (.pointer (some p))).run P w = .ok true w := by
 obtain ⟨a, b, c⟩ := p
 subst hp
 simp [Op.equalIn, ti.run, sameAddr, te.size]
theorem qgp {t t' e : TypeId} {x y : Operand} {i o sz by_ : Nat} {z : Value} {s s' : Option Nat} [td : TyD P t (.pointer e)] [te : TyI P e sz by_ z] (hx : ρ x = .pointer (some ⟨i, o, s⟩)) (hy : ρ y = .pointer (some ⟨i, o, s'⟩)) (kk : K (.bool false) h) : AOp P ⟨dst, .binOp .neq t x y t', ty, pos, aft, g⟩ ρ h K :=
 .of_pure kk fun φ ac w r => by
  obtain ⟨_, _, e1⟩ := (hx ▸ r.ev x (by simp [Op.operands])).ptr_inv
  obtain ⟨_, _, e2⟩ := (hy ▸ r.ev y (by simp [Op.operands])).ptr_inv
  have e4 : (Op.equal t (.pointer (some ⟨(φ i).b, (φ i).o + o, none⟩)) (.pointer (some ⟨(φ i).b, (φ i).o + o, none⟩))).run P w = .ok true w := qcM _ rfl w 9999
  exact ⟨.bool false, by simp [execOp, e1, e2, eqGuard, binOp, e4], .bool _⟩
theorem op_unsData {x : Operand} {i o n c : Nat} {s : Option Nat} {aT : Array TypeId} (hx : ρ x = .slice (some ⟨i, o, s⟩) n c) (hn : 0 < n) (kk : K (.pointer (some ⟨i, o, none⟩)) h) : AOp P ⟨dst, .call ⟨.builtin .unsafeSliceData, #[x], aT⟩, ty, pos, aft, g⟩ ρ h K :=
 .of_pure kk fun φ ac w r => by
  obtain ⟨cap', a', e1, hlt, q1, q2, q3, q4, q5, q6⟩ := (hx ▸ r.ev x (by simp [Op.operands, Call.operands])).slice_inv
  obtain rfl := q4.resolve_right (by omega)
  have := Lib.run_unsafeSliceData_row (P := P) (w := w) aT ty ⟨(φ i).b, (φ i).o + o, none⟩ n cap' (by omega)
  exact ⟨.pointer (some ⟨(φ i).b, (φ i).o + o, none⟩), by simp [execOp, resolve, invoke, builtin, e1, this], .ptr _ _ hlt⟩
theorem qhY {x : Operand} {n c : Nat} {aT : Array TypeId} (hx : ρ x = .slice none n c) (kk : K (.pointer none) h) : AOp P ⟨dst, .call ⟨.builtin .unsafeSliceData, #[x], aT⟩, ty, pos, aft, g⟩ ρ h K :=
 .of_pure kk fun φ ac w r => by
  obtain ⟨_, _, e1⟩ := (hx ▸ r.ev x (by simp [Op.operands, Call.operands])).nilSlice_inv
  have := Lib.run_unsafeSliceData_nil (P := P) (w := w) aT ty 0 0
  exact ⟨.pointer none, by simp [execOp, resolve, invoke, builtin, e1, this], .nilPtr⟩
theorem op_unsStr0 {x y : Operand} {t t2 : TypeId} (hx : ρ x = .pointer none) (hy : ρ y = .int .i64 0) (kk : K (.string ByteArray.empty) h) : AOp P ⟨dst, .call ⟨.builtin .unsafeString, #[x, y], #[t, t2]⟩, ty, pos, aft, g⟩ ρ h K :=
 .of_pure kk fun φ ac w r => by
  have e1 := (hx ▸ r.ev x (by simp [Op.operands, Call.operands])).nilPtr_inv
  have e2 := (hy ▸ r.ev y (by simp [Op.operands, Call.operands])).int_inv
  have hr : (Builtin.unsafeString_ #[t, t2] ty #[.pointer none, .int .i64 0]).run P w = .ok (.string ByteArray.empty) w := rfl
  exact ⟨.string ByteArray.empty, by simp [execOp, resolve, invoke, builtin, e1, e2, hr], .string _⟩
theorem Sim.lose {φ : Ren} {w w' : World} (s : Sim P φ h w) {i : Nat} {b : Blk} (hi : h.get i = some b) (ho : b.own = true) (hos : w'.os = w.os) (htape : w'.tape = w.tape) (hout : w'.output = w.output) (hsz : w'.heap.size = w.heap.size) (hw : ∀ k, k ≠ (φ i).b → w'.heap[k]? = w.heap[k]?) :
  Sim P φ (h.kill i) w' ∧ Step φ h w φ (h.kill i) w' := by
 have hold : ∀ j bj, (h.kill i).get j = some bj → h.get j = some bj ∧ j ≠ i := by
  intro j bj hj
  simp only [Heap.kill] at hj
  split at hj
  ·
   cases hj
  ·
   exact ⟨hj, by assumption⟩
 have hne : ∀ j bj, (h.kill i).get j = some bj → (φ j).b ≠ (φ i).b := by
  intro j bj hj e
  obtain ⟨h1, h2⟩ := hold j bj hj
  exact h2 (s.apart i j b hi ho (by rw [h1]; simp) e)
 have hobj : ∀ j o, h.obj j = some o → (φ j).b ≠ (φ i).b := by
  intro j o hj e
  obtain ⟨x, h1, _, h3⟩ := (s.objs j o hj).obj
  obtain ⟨arr, fr, h4, _⟩ := s.owned hi ho
  rw [e, h4] at h1
  cases h1
  exact h3 _ _ _ rfl
 have hx : Ext (h.kill i) h := ⟨fun j bj hj => (hold j bj hj).1, fun _ _ e => e⟩
 refine ⟨⟨s.next.kill i, fun j bj hj => ?_, fun j bj hj => ?_, fun j k bj hj hoj hk e => ?_, fun g hg => s.glob g hg, fun j o hj => ?_, fun j k o hj hk e => s.apartO j k o hj hk e⟩, ⟨Aa _, fun _ _ => rfl, hos, htape, hout, Nat.le_of_eq hsz.symm, fun k hk hno => ?_, fun k ho' => .inl (ho'.forget hx)⟩⟩
 ·
  have h1 := hold j bj hj
  exact (s.blk j bj h1.1).world (fun _ _ => rfl) (s.lt h1.1) (Aa _) (hw _ (hne j bj hj))
 ·
  rw [hsz]
  exact s.low j bj (hold j bj hj).1
 ·
  have h1 := hold j bj hj
  refine s.apart j k bj h1.1 hoj ?_ e
  intro hn
  apply hk
  simp only [Heap.kill]
  split
  ·
   rfl
  ·
   exact hn
 ·
  exact (s.objs j o hj).world (fun _ _ => rfl) (s.ltO hj) (Aa _) (hw _ (hobj j o hj))
 ·
  refine hw k fun e => hno (.inl ⟨i, b, hi, ho, e.symm⟩)
theorem qgz {x y : Operand} {t t2 e : TypeId} {i by_ : Nat} {s : Option Nat} {z : Value} {l : List UInt8} [tp : TyD P t (.pointer e)] [ti : TyI P e 1 by_ z] (hx : ρ x = .pointer (some ⟨i, 0, s⟩)) (hy : ρ y = .int .i64 (l.length : Nat)) (h0 : l ≠ []) (hl : l.length ≤ 9223372036854775807) (hi : h.get i = some ⟨bv l, e, true⟩)
  (kk : K (.string (bstr l)) (h.kill i)) : AOp P ⟨dst, .call ⟨.builtin .unsafeString, #[x, y], #[t, t2]⟩, ty, pos, aft, g⟩ ρ h K :=
 .of_run fun φ ac w r => by
  obtain ⟨_, hlt, e1⟩ := (hx ▸ r.ev x (by simp [Op.operands, Call.operands])).ptr_inv
  have e2 := (hy ▸ r.ev y (by simp [Op.operands, Call.operands])).int_inv
  obtain ⟨arr, fr, a1, ⟨a2, _⟩, _, a4, a5⟩ := r.sim.owned hi rfl
  have hlen : l.length ≤ arr.size := by rw [← qaE l]; exact a4
  have hsh : w.shape? (φ i).b = some (e, arr.size) := by simp [World.shape?, a1]
  rw [a2] at e1
  have hrun := Lib.run_unsafeString_row (P := P) w t t2 ty e tp.eq TyI.cells (φ i).b arr.size hsh l h0 hlen hl (fun j x hj => by
   obtain ⟨c, hc, hv⟩ := a5 j _ (qgJ l j x hj)
   rw [hv.int_inv] at hc
   by_cases h0 : j = 0
   ·
    subst h0
    simp [World.cell?, Addr.add, a1, hc]
   ·
    simp [World.cell?, Addr.add, h0, a1, hc])
  have hfz : ∀ k, k ≠ (φ i).b → (w.freeze ⟨(φ i).b, 0, none⟩ l.length).heap[k]? = w.heap[k]? := by
   intro k hk
   have hl0 : l.length ≠ 0 := by simpa using h0
   simp only [World.freeze, Ac hl0, Array.getElem?_modify]
   rw [Ac fun e => hk e.symm]
  have hl0 : l.length ≠ 0 := by simpa using h0
  obtain ⟨s1, s2⟩ := r.sim.lose hi rfl (w' := w.freeze ⟨(φ i).b, 0, none⟩ l.length) (by simp [World.freeze, hl0]) (by simp [World.freeze, hl0]) (by simp [World.freeze, hl0]) (by simp [World.freeze, hl0]) hfz
  refine ⟨.string (bstr l), _, φ, h.kill i, .string (bstr l), ?_, kk, .string _, s1, s2⟩
  simp only [execOp, resolve, invoke, builtin, Sem.run_bind, Sem.run_pure, Result.andThen_ok, List.map_toArray, Bq, List.map_nil, e1, e2]
  rw [Dw, hrun]
  rfl
end
def eqV : Value → Value → Bool
 | .string a, .string b => a == b
 | .int _ a, .int _ b => a == b
 | .bool a, .bool b => a == b
 | _, _ => false
def eqOk : TypeDesc → Value → Value → Bool
 | .string, .string _, .string _ => true
 | .int _, .int k _, .int k' _ => decide (k = k')
 | .bool, .bool _, .bool _ => true
 | _, _, _ => false
class EqD (P : Program) (t : TypeId) (ds : outParam (List (Nat × TypeDesc))) : Prop where
 ex : ∃ fs : List Field, P.underlying t = some (.struct fs.toArray) ∧ P.stoodInHeld t = false ∧ P.eqGuardType P.depth t = false ∧ fs.map (fun f => (f.name != "_", f.offset, P.underlying f.type)) = ds.map fun d => (true, d.1, some d.2)
section
variable {P : Program} {ρ : Operand → Value} {h : Heap} {K : Value → Heap → Prop} {dst : Option Tmp} {ty : TypeId} {pos : String} {aft : Array Edge} {g : Option (Nat × Bool)}
theorem qg6 {t : TypeId} {d : TypeDesc} (ht : P.underlying t = some d) (ha : aggB d = false) (w : World) {cs : Array Value} {o : Nat} {v : Value} (hv : cs[o]? = some v) : (part t cs o).run P w = .ok v w := by
 haveI : TyD P t d := ⟨ht⟩
 simp [part, TyD.isAgg (t := t) (d := d), ha, hv]
theorem run_eqCell {t : TypeId} {d : TypeDesc} (ht : P.underlying t = some d) (w : World) (n : Nat) {x y : Value} (hok : eqOk d x y = true) : (Op.equalIn (n + 1) t x y).run P w = .ok (eqV x y) w := by
 haveI : TyD P t d := ⟨ht⟩
 unfold eqOk at hok
 split at hok
 ·
  simp [Op.equalIn, TyD.run (t := t), eqV]
 ·
  have := of_decide_eq_true hok
  simp [Op.equalIn, TyD.run (t := t), eqV, this]
 ·
  simp [Op.equalIn, TyD.run (t := t), eqV]
 ·
  cases hok
theorem eqOk_agg {d : TypeDesc} {x y : Value} (hok : eqOk d x y = true) : aggB d = false := by
 unfold eqOk at hok
 split at hok <;> first | rfl | (cases hok)
theorem qdD (w : World) (n : Nat) (xs ys : Array Value) : ∀ (fs : List Field) (ds : List (Nat × TypeDesc)), fs.map (fun f => (f.name != "_", f.offset, P.underlying f.type)) = (ds.map fun d => (true, d.1, some d.2)) →
  (∀ d ∈ ds, ∃ x y, xs[d.1]? = some x ∧ ys[d.1]? = some y ∧ eqOk d.2 x y = true) →
  ((forIn fs ((none, ()) : Option Bool × Unit) fun f _ => (do
    if f.name ≠ "_" then
     if !(← Op.equalIn (n + 1) f.type (← part f.type xs f.offset) (← part f.type ys f.offset)) then pure (ForInStep.done (some false, ()))
     else pure (ForInStep.yield (none, ()))
    else pure (ForInStep.yield (none, ())) : Sem (ForInStep (Option Bool × Unit)))) : Sem _).run P w = .ok ((if (ds.all fun d => eqV (xs.getD d.1 undef) (ys.getD d.1 undef)) = true then none else some false), ()) w
 | [], [], _, _ => by simp
 | [], _ :: _, h, _ => by simp at h
 | _ :: _, [], h, _ => by simp at h
 | f :: fs, d :: ds, h, hd => by
  simp only [Bq, List.cons.injEq, Prod.mk.injEq] at h
  obtain ⟨⟨h1, h2, h3⟩, h4⟩ := h
  obtain ⟨x, y, q1, q2, q3⟩ := hd d (by simp)
  have ih := qdD w n xs ys fs ds h4 fun d hd' => hd d (Ay _ hd')
  have hag := eqOk_agg q3
  have p1 := qg6 (P := P) h3 hag w (cs := xs) (o := f.offset) (by rw [h2]; exact q1)
  have p2 := qg6 (P := P) h3 hag w (cs := ys) (o := f.offset) (by rw [h2]; exact q2)
  have p3 := run_eqCell (P := P) h3 w n q3
  have hn : f.name ≠ "_" := by simpa using h1
  have e1 : xs.getD d.1 undef = x := by rw [Am, q1]; rfl
  have e2 : ys.getD d.1 undef = y := by rw [Am, q2]; rfl
  rw [List.forIn_cons]
  simp only [hn, ne_eq, not_false_eq_true, if_true, Sem.run_bind, p1, p2, p3, Result.andThen_ok, Bc, e1, e2]
  cases hb : eqV x y with
  | true =>
   simp only [Cf, Bk, if_false, Sem.run_pure, Result.andThen_ok, Cp]
   exact ih
  | false => simp
theorem qgj {t : TypeId} {ds : List (Nat × TypeDesc)} [q : EqD P t ds] (w : World) (n : Nat) (xs ys : Array Value) (hd : ∀ d ∈ ds, ∃ x y, xs[d.1]? = some x ∧ ys[d.1]? = some y ∧ eqOk d.2 x y = true) :
  (Op.equalIn (n + 2) t (.agg xs) (.agg ys)).run P w = .ok (ds.all fun d => eqV (xs.getD d.1 undef) (ys.getD d.1 undef)) w := by
 obtain ⟨fs, h1, h2, _, h4⟩ := q.ex
 haveI : TyD P t (.struct fs.toArray) := ⟨h1⟩
 have key := qdD (P := P) w n xs ys fs ds h4 hd
 unfold Op.equalIn
 simp only [Sem.run_bind, TyD.run (t := t), Result.andThen_ok, run_program, h2, Bk, if_false, List.forIn_toArray]
 generalize (ds.all fun d => eqV (xs.getD d.1 undef) (ys.getD d.1 undef)) = b at key ⊢
 simp only [ne_eq, ite_not] at key ⊢
 rw [key]
 cases b <;> simp
theorem VRel.eqInv {φ : Ren} {n : Nat} {d : TypeDesc} {x y c e : Value} (hok : eqOk d x y = true) (h1 : VRel φ n x c) (h2 : VRel φ n y e) : c = x ∧ e = y := by
 unfold eqOk at hok
 split at hok
 ·
  exact ⟨h1.string_inv, h2.string_inv⟩
 ·
  exact ⟨h1.int_inv, h2.int_inv⟩
 ·
  exact ⟨h1.bool_inv, h2.bool_inv⟩
 ·
  cases hok
def eqRows (ds : List (Nat × TypeDesc)) (xs ys : List Value) : Bool := ds.all fun d => eqV (xs.getD d.1 undef) (ys.getD d.1 undef)
def okRows (ds : List (Nat × TypeDesc)) (xs ys : List Value) : Bool := ds.all fun d => Nat.blt d.1 xs.length && Nat.blt d.1 ys.length && eqOk d.2 (xs.getD d.1 undef) (ys.getD d.1 undef)
theorem eqSt_run {t : TypeId} {ds : List (Nat × TypeDesc)} [q : EqD P t ds] {φ : Ren} {n : Nat} {xs ys : List Value} {c e : Value} (hok : okRows ds xs ys = true) (h1 : VRel φ n (.agg xs.toArray) c) (h2 : VRel φ n (.agg ys.toArray) e) (w : World) (x y : Operand) :
  ∃ cs es, c = .agg cs ∧ e = .agg es ∧ (∀ op, (eqGuard op t x y c e).run P w = .ok () w) ∧ (Op.equal t c e).run P w = .ok (eqRows ds xs ys) w := by
 obtain ⟨cs, rfl, s1, r1⟩ := h1.agg_inv
 obtain ⟨es, rfl, s2, r2⟩ := h2.agg_inv
 obtain ⟨fs, q1, q2, q3, q4⟩ := q.ex
 have key : ∀ d ∈ ds, cs[d.1]? = some (xs.getD d.1 undef) ∧ es[d.1]? = some (ys.getD d.1 undef) ∧ eqOk d.2 (xs.getD d.1 undef) (ys.getD d.1 undef) = true := by
  intro d hd
  have h3 := Ai.1 hok d hd
  simp only [Ae, Cu] at h3
  obtain ⟨⟨l1, l2⟩, h4⟩ := h3
  simp only [Ef] at s1 s2
  have u1 : xs.toArray[d.1]? = some (xs.getD d.1 undef) := by simp [l1]
  have u2 : ys.toArray[d.1]? = some (ys.getD d.1 undef) := by simp [l2]
  have v1 := r1 d.1 _ _ u1 (Ar (by omega))
  have v2 := r2 d.1 _ _ u2 (Ar (by omega))
  obtain ⟨e1, e2⟩ := VRel.eqInv h4 v1 v2
  exact ⟨by rw [Ar (by omega), e1], by rw [Ar (by omega), e2], h4⟩
 refine ⟨cs, es, rfl, rfl, fun op => ?_, ?_⟩
 ·
  simp [eqGuard, q3]
 ·
  have h5 := qgj (P := P) (t := t) w 9998 cs es fun d hd => ⟨_, _, (key d hd).1, (key d hd).2.1, (key d hd).2.2⟩
  have h6 : (ds.all fun d => eqV (cs.getD d.1 undef) (es.getD d.1 undef)) = eqRows ds xs ys := by
   unfold eqRows
   rw [Dd, Ai, Ai]
   constructor
   ·
    intro h7 d hd
    have := h7 d hd
    rw [Am, Am, (key d hd).1, (key d hd).2.1] at this
    exact this
   ·
    intro h7 d hd
    rw [Am, Am, (key d hd).1, (key d hd).2.1]
    exact h7 d hd
  rw [h6] at h5
  exact h5
theorem op_neSt {t t' : TypeId} {x y : Operand} {ds : List (Nat × TypeDesc)} {xs ys : List Value} [q : EqD P t ds] (hx : ρ x = .agg xs.toArray) (hy : ρ y = .agg ys.toArray) (hok : okRows ds xs ys = true) (kk : K (.bool (!eqRows ds xs ys)) h) : AOp P ⟨dst, .binOp .neq t x y t', ty, pos, aft, g⟩ ρ h K :=
 .of_pure kk fun φ ac w r => by
  obtain ⟨cs, es, e1, e2, e3, e4⟩ := eqSt_run (P := P) (t := t) hok (hx ▸ r.ev x (by simp [Op.operands])) (hy ▸ r.ev y (by simp [Op.operands])) w x y
  have e3 := e3 .neq
  rw [e1, e2] at e3 e4
  exact ⟨_, by simp [execOp, e1, e2, e3, binOp, e4], .bool _⟩
theorem qd4 {t t' : TypeId} {x y : Operand} {ds : List (Nat × TypeDesc)} {xs ys : List Value} {b : Bool} [q : EqD P t ds] (hx : ρ x = .agg xs.toArray) (hy : ρ y = .agg ys.toArray) (hok : okRows ds xs ys = true) (hb : eqRows ds xs ys = b) (kk : K (.bool (!b)) h) : AOp P ⟨dst, .binOp .neq t x y t', ty, pos, aft, g⟩ ρ h K :=
 op_neSt hx hy hok (by rw [hb]; exact kk)
theorem eqV_str (a b : List UInt8) : eqV (.string (bstr a)) (.string (bstr b)) = (a == b) := by
 simp only [eqV]
 rw [beq_toListBytes, qbv, qbv]
end
section
variable {P : Program} {ρ : Operand → Value} {h : Heap} {K : Value → Heap → Prop} {dst : Option Tmp} {ty : TypeId} {pos : String} {aft : Array Edge} {g : Option (Nat × Bool)}
theorem qaT {op : BinOp} {t t' : TypeId} {x y : Operand} {k k' : IntKind} {a b : Int} {p : Prop} {ip : Decidable p} (hx : ρ x = .int k a) (hy : ρ y = .int k' b) (hv : binI op k a k' b = some (.bool (@decide p ip))) (kt : p → K (.bool true) h) (kf : ¬ p → K (.bool false) h) :
  AOp P ⟨dst, .binOp op t x y t', ty, pos, aft, g⟩ ρ h K := by
 by_cases hp : p
 ·
  exact qak hx hy hv hp (kt hp)
 ·
  exact qai hx hy hv hp (kf hp)
theorem qhL {t t' : TypeId} {x y : Operand} {a b : List UInt8} (hx : ρ x = .string (bstr a)) (hy : ρ y = .string (bstr b)) (kt : a = b → K (.bool true) h) (kf : ¬ a = b → K (.bool false) h) : AOp P ⟨dst, .binOp .eql t x y t', ty, pos, aft, g⟩ ρ h K := by
 by_cases hp : a = b
 ·
  exact qaP hx hy hp (kt hp)
 ·
  exact qaM hx hy hp (kf hp)
theorem qfc {t t' : TypeId} {x y : Operand} {a b : Bool} [ti : TyD P t .bool] (hx : ρ x = .bool a) (hy : ρ y = .bool b) (kt : a = b → K (.bool true) h) (kf : ¬ a = b → K (.bool false) h) : AOp P ⟨dst, .binOp .eql t x y t', ty, pos, aft, g⟩ ρ h K := by
 by_cases hp : a = b
 ·
  exact qb5 hx hy hp (kt hp)
 ·
  exact qeL hx hy (by rw [beq_eq_false_iff_ne.2 hp]; exact kf hp)
theorem qaU {x : Operand} {f : FuncId} {fi ca : Array Value} {args : Array Operand} {aT : Array TypeId} [fc : FnC P f] {evs : List Value} {b : Bool} (hx : ρ x = .func (.func f) fi ca) (he : fi.toList ++ (args.toList.map ρ ++ ca.toList) = evs)
  (c : ACalls P f evs h fun u h' => u = .bool b ∧ h' = h) (kt : b = true → K (.bool true) h) (kf : b = false → K (.bool false) h) : AOp P ⟨dst, .call ⟨.value x, args, aT⟩, ty, pos, aft, g⟩ ρ h K := by
 refine qab hx he c ?_
 cases b with
 | true => exact kt rfl
 | false => exact kf rfl
theorem qd1 {t : TypeId} {x : Operand} {i o : Nat} {s : Option Nat} {bl : Blk} {b : Bool} {d : TypeDesc} [td : TyD P t d] (hx : ρ x = .pointer (some ⟨i, o, s⟩)) (ha : aggB d = false) (hi : h.get i = some bl) (hv : bl.cells[o]? = some (.bool b))
  (kt : b = true → K (.bool true) h) (kf : b = false → K (.bool false) h) : AOp P ⟨dst, .load t x, ty, pos, aft, g⟩ ρ h K := by
 refine qaf hx ha hi hv ?_
 cases b with
 | true => exact kt rfl
 | false => exact kf rfl
theorem qaL {t e : TypeId} {x y : Operand} {H : Heap} {sz by_ : Nat} {z : Value} {s : Option Nat} {old vs : List Value} [ti : TyI P t sz by_ z] (hx : ρ x = .pointer (some ⟨H.next, 0, s⟩)) (hy : ρ y = .agg vs.toArray) (hsz : vs.length = sz) (ho : old.length = sz) (h1 : vs.all oneB = true)
  (kk : K undef (H.alloc ⟨vs, e, true⟩)) : AOp P ⟨dst, .store t x y, ty, pos, aft, g⟩ ρ (H.alloc ⟨old, e, true⟩) K := by
 refine qbt (vs := vs.toArray) hx hy (by simpa using h1) (by simpa using hsz) (aB _ _) rfl (by show 0 + sz ≤ old.length; omega) ?_
 have e1 : splice old 0 vs = vs := by
  unfold splice
  rw [Dl (by omega)]
  simp
 show K undef ((H.alloc ⟨old, e, true⟩).set H.next ⟨splice old 0 vs, e, true⟩)
 rw [e1, cU]
 exact kk
theorem qeD {t e : TypeId} {x y : Operand} {H : Heap} {by_ : Nat} {z u v : Value} {s : Option Nat} [ti : TyI P t 1 by_ z] (hx : ρ x = .pointer (some ⟨H.next, 0, s⟩)) (hy : ρ y = v) (h1 : oneB v = true)
  (kk : K undef (H.alloc ⟨[v], e, true⟩)) : AOp P ⟨dst, .store t x y, ty, pos, aft, g⟩ ρ (H.alloc ⟨[u], e, true⟩) K := by
 refine qaw (b := ⟨[u], e, true⟩) hx hy h1 (aB _ _) rfl (by show 0 < 1; omega) ?_
 show K undef ((H.alloc ⟨[u], e, true⟩).set H.next ⟨[v], e, true⟩)
 rw [cU]
 exact kk
end
def allR : Nat → Nat → List (Nat × Kd)
 | _, 0 => []
 | k, n + 1 => (k, .R) :: allR (k + 1) n
section
variable {P : Program} {N : Nat} {ops : Array Oper} {Q : Exit → Env → Heap → Prop} {env : Env} {h : Heap}
theorem AWp.drawR {id : Nat} (hm : P.follows .mixedOrders = true) (hb : drawB ops (allR 0 ops.size) = true) (p : DAL P N ops Q (allR 0 ops.size) env h) : AWp P N (.region id ops true) Q env h := .draw hm hb p
abbrev bN := @AWp.drawR
variable {σ : List (Nat × Kd)} {i : Nat} {d : Tmp} {op : Op} {ty : TypeId} {pos : String} {aft : Array Edge} {g : Option (Nat × Bool)}
theorem DAL.rP {p : Prop} {ip : Decidable p} (ho : ops[i]? = some ⟨some d, op, ty, pos, aft, g⟩) (hd : Nat.blt d N = true) (hg : gv ops env ⟨some d, op, ty, pos, aft, g⟩ = some true) (hv : ∀ h', Ext h h' → h.next ≤ h'.next → AOp P ⟨some d, op, ty, pos, aft, g⟩ (ev P env) h' fun v' h'' => v' = .bool (@decide p ip) ∧ h'' = h')
  (kt : p → DAL P N ops Q σ ((d, .bool true) :: env) h) (kf : ¬ p → DAL P N ops Q σ ((d, .bool false) :: env) h) : DAL P N ops Q ((i, .R) :: σ) env h := by
 by_cases hp : p
 ·
  exact .r ho hd hg (by rw [Al hp] at hv; exact hv) (kt hp)
 ·
  exact .r ho hd hg (by rw [Af hp] at hv; exact hv) (kf hp)
theorem DAL.rB {b : Bool} (ho : ops[i]? = some ⟨some d, op, ty, pos, aft, g⟩) (hd : Nat.blt d N = true) (hg : gv ops env ⟨some d, op, ty, pos, aft, g⟩ = some true) (hv : ∀ h', Ext h h' → h.next ≤ h'.next → AOp P ⟨some d, op, ty, pos, aft, g⟩ (ev P env) h' fun v' h'' => v' = .bool b ∧ h'' = h')
  (kt : b = true → DAL P N ops Q σ ((d, .bool true) :: env) h) (kf : b = false → DAL P N ops Q σ ((d, .bool false) :: env) h) : DAL P N ops Q ((i, .R) :: σ) env h := by
 cases b with
 | true => exact .r ho hd hg hv (kt rfl)
 | false => exact .r ho hd hg hv (kf rfl)
end
section
variable {P : Program} {ρ : Operand → Value} {h : Heap} {K : Value → Heap → Prop} {dst : Option Tmp} {ty : TypeId} {pos : String} {aft : Array Edge} {g : Option (Nat × Bool)}
theorem qir (s : List UInt8) : (bstr s).data.toList = s := by simp [bstr]
theorem qiu {sT dT e : TypeId} {x : Operand} {s : List UInt8} [ts : TyD P sT .string] [te : TyD P e (.int .u8)] [td : TyD P dT (.slice e)] (hx : ρ x = .string (bstr s)) (hs : s.length ≤ maxLen)
  (kk : K (.slice (some ⟨h.next, 0, some 1⟩) s.length (s.length + 1)) (h.alloc ⟨bv s, e, true⟩)) : AOp P ⟨dst, .convert sT dT x, ty, pos, aft, g⟩ ρ h K := by
 refine qhq hx (by rw [bstr_size]; exact hs) ?_
 rw [bstr_size, qir]
 exact kk
theorem qbx {t kt et : TypeId} {x y : Operand} {i esz eb clock : Nat} {z u : Value} {s : List UInt8} {l : KV} [td : TyD P t (.map kt et)] [tk : TyD P kt .string] [te : TyI P et esz eb z] (hx : ρ x = .map (some i)) (hy : ρ y = .string (bstr s)) (hi : h.obj i = some (.map (ents l) clock)) (hz : plainV z = true)
  (he : (getS l s).getD z = u) (kk : K u h) : AOp P ⟨dst, .lookup t x y false, ty, pos, aft, g⟩ ρ h K := op_lookup hx hy hi hz (he ▸ kk)
end
end Go.Eng
