/-
  Texts of one claim, merged: 3 parts.
-/
import Derived.WalkKit
import Derived.Shelf.Strings.Builder1
import Derived.Shelf.Strings.Builder2
import Derived.Shelf.Strings.OnBuilder
import Derived.Shelf.Strings.BuilderF
import Derived.Shelf.Strings.Builder2Cap
import Derived.Shelf.Strconv.Atoi
import Derived.Shelf.Strconv.Itoa0
import Derived.Shelf.Strconv.Itoa1
import Derived.Shelf.LaysM
import Derived.Shelf.Strconv.Itoa2
import Derived.Shelf.Strconv.Itoa3
import Derived.Shelf.Strconv.AtoiErrFast
import Derived.Shelf.Strconv.ParseIntEmpty
import Derived.Shelf.Strconv.AtoiFail
import Derived.Shelf.Strconv.Clone
import Derived.Shelf.Strconv.SyntaxError
import Derived.Shelf.LaysC
import Derived.Shelf.Strconv.ToError
import Derived.Shelf.Strconv.Lower
import Derived.Shelf.Strconv.ParseUint10
import Derived.Shelf.Strconv.ParseUint10Empty
import Derived.Shelf.Strconv.ParseUint10Any
import Derived.Shelf.Strconv.ParseInt10
import Derived.Shelf.Strconv.AtoiLong
import Derived.Shelf.Strconv.AtoiInnerAll
import Derived.Shelf.Strconv.RangeError
import Derived.Shelf.Strconv.ToErrorRange
import Derived.Shelf.Strconv.AtoiAll
import Derived.Shelf.Strconv.ParseUintEmpty
import Derived.Shelf.Strings.Search1
import Derived.Shelf.Strings.Search2
import Derived.Shelf.Strings.Cut
import Derived.Shelf.Strings.Shaped
import Derived.Shelf.Strings.Fields
import Derived.Shelf.Strings.SplitShaped
import Derived.Shelf.Unicode.Latin
import Derived.Shelf.Unicode.Is16White
import Derived.Shelf.Unicode.IsSpaceAny
import Derived.Shelf.Unicode.Is16Any
import Derived.Shelf.Unicode.Is32Any
import Derived.Shelf.Unicode.ExclAny
import Derived.Shelf.Slices.Equal
import Derived.Ground.SlgnProg
import Derived.Shelf.SlicesG.SearchI
import Derived.Shelf.Bytes.SlEqualAll
import Derived.Shelf.Bytes.Small
import Derived.Test.YtigmojilaadbhaaGreatDoorProg
import Derived.WalkSpells
import Derived.WalkLawsBesides
set_option maxHeartbeats 16000000
/- . -/
namespace Go
abbrev Aa := @Nat.le_refl
abbrev Ab := @Nat.le_of_ble_eq_true
abbrev Ac := @if_neg
abbrev Ad := @List.length_cons
abbrev Ae := @Bool.and_eq_true
abbrev Af := @decide_eq_false
abbrev Ag := @List.length_nil
abbrev Ah := @if_pos
abbrev Ai := @List.all_eq_true
abbrev Aj := @Nat.ne_of_beq_eq_false
abbrev Ak := @List.mem_cons
abbrev Al := @decide_eq_true
abbrev Am := @Array.getD_eq_getD_getElem?
abbrev An := @List.length_append
abbrev Ao := @Nat.zero_le
abbrev Ap := @List.length_map
abbrev Aq := @decide_eq_true_iff
abbrev Ar := @Array.getElem?_eq_getElem
abbrev As := @List.not_mem_nil
abbrev At := @List.getElem?_eq_getElem
abbrev Au := @List.take_length
abbrev Av := @List.getElem?_eq_some_iff
abbrev Aw := @List.mem_of_getElem?
abbrev Ax := @List.mem_singleton
abbrev Ay := @List.mem_cons_of_mem
abbrev Az := @Array.getElem?_eq_some_iff
abbrev Bb := @List.length_take
abbrev Bc := @List.all_cons
abbrev Be := @Array.all_eq_true_iff_forall_mem
abbrev Bf := @List.take_add_one
abbrev Bh := @List.mem_append
abbrev Bi := @Nat.le_trans
abbrev Bj := @Option.getD_some
abbrev Bk := @Bool.false_eq_true
abbrev Bl := @List.mem_cons_self
abbrev Bm := @List.getElem?_map
abbrev Bn := @List.getElem?_append_right
abbrev Bo := @Nat.mul_le_mul_right
abbrev Bp := @List.mem_map
abbrev Bq := @List.map_cons
abbrev Br := @List.mem_append_right
abbrev Bs := @List.getElem?_append_left
abbrev Bt := @List.getElem?_take_of_lt
abbrev Bu := @List.eq_nil_of_length_eq_zero
abbrev Bw := @List.cons_append
abbrev Bx := @Nat.lt_or_ge
abbrev By := @Array.mem_of_getElem?
abbrev Bz := @Nat.eq_of_beq_eq_true
abbrev Cc := @List.getElem?_eq_none
abbrev Cd := @Array.eq_empty_of_size_eq_zero
abbrev Ce := @List.length_eq_zero_iff
abbrev Cf := @Bool.not_true
abbrev Cg := @List.mem_of_mem_take
abbrev Ch := @List.mem_append_left
abbrev Ci := @Nat.le_succ
abbrev Cj := @Nat.ne_of_lt
abbrev Ck := @List.append_nil
abbrev Cl := @List.mem_range
abbrev Cm := @Bool.not_eq_eq_eq_not
abbrev Cn := @List.flatMap_cons
abbrev Co := @Nat.lt_of_lt_of_le
abbrev Cp := @Bool.true_and
abbrev Cq := @Array.getElem?_eq_none
abbrev Cr := @List.take_of_length_le
abbrev Cs := @List.drop_append_of_le_length
abbrev Ct := @List.nil_append
abbrev Cu := @Nat.blt_eq
abbrev Cv := @List.getD_eq_getElem?_getD
abbrev Cw := @Bool.or_eq_true
abbrev Cx := @List.map_append
abbrev Cy := @List.getElem?_toArray
abbrev Cz := @List.any_eq_true
abbrev Da := @Option.bind_some
abbrev Db := @List.getElem?_drop
abbrev Dc := @List.take_append_drop
abbrev Dd := @Bool.eq_iff_iff
abbrev De := @List.mapM_toArray
abbrev Df := @Bool.and_true
abbrev Dg := @List.take_succ_cons
abbrev Dh := @List.eq_nil_iff_forall_not_mem
abbrev Di := @List.getElem?_cons_succ
abbrev Dj := @List.length_drop
abbrev Dk := @Nat.add_mul
abbrev Dl := @List.drop_of_length_le
abbrev Dm := @Option.map_some
abbrev Dn := @List.all_append
abbrev Do := @Bool.false_or
abbrev Dp := @Array.getElem?_toList
abbrev Dq := @Int.toNat_natCast
abbrev Dr := @List.mapM_cons
abbrev Dt := @List.getElem?_of_mem
abbrev Du := @List.drop_zero
abbrev Dv := @Nat.pow_le_pow_right
abbrev Dw := @Nat.add_zero
abbrev Dx := @Nat.zero_add
abbrev Dy := @Nat.le_of_lt
abbrev Dz := @List.drop_eq_getElem_cons
abbrev Ea := @List.length_pos_iff
abbrev Eb := @Nat.add_assoc
abbrev Ec := @Nat.zero_lt_one
abbrev Ed := @Nat.mul_one
abbrev Ee := @List.getElem?_cons_zero
abbrev Ef := @List.size_toArray
abbrev Eg := @List.ext_getElem?
abbrev Eh := @List.all_nil
abbrev Ei := @Nat.add_comm
abbrev Ej := @List.getElem_mem
abbrev Ek := @List.flatMap_nil
abbrev El := @List.mapM_nil
theorem gX {α : Type} {l : List α} {k : Nat} (h : k < l.length) : ∃ x, l[k]? = some x := ⟨_, List.getElem?_eq_getElem h⟩
end Go
/- . -/
namespace Go.Proofs
open Go.Shelf
def Tryz.lays169_ren : Go.Shelf.Ren := ⟨fun | 169 => 84 | n => n, fun | 70 => 127 | 9 => 9 | 0 => 0 | 72 => 129 | 37 => 27 | 127 => 168 | 3 => 3 | 5 => 5 | n => n, fun | n => n⟩
def Tryz.lays156_ren : Go.Shelf.Ren := ⟨fun | 156 => 94 | 165 => 126 | 166 => 82 | 169 => 84 | 240 => 115 | 241 => 159 | 276 => 147 | 277 => 181 | n => n, fun | 31 => 99 | 9 => 9 | 3 => 3 | 4 => 4 | 0 => 0 | 20 => 20 | 72 => 129 | 76 => 132 | 70 => 127 | 37 => 27 | 75 => 131 | 127 => 168 | 164 => 193 | 5 => 5 | 80 => 90 | n => n, fun | n => n⟩
theorem Tryz.lays156 : Go.Proofs.Lays.n156 prog Tryz.lays156_ren := {
 mixed := by kernel_rfl
 f156 := func94.trans (congrArg some (by kernel_rfl))
 f165 := func126.trans (congrArg some (by kernel_rfl))
 f166 := func82.trans (congrArg some (by kernel_rfl))
 f169 := func84.trans (congrArg some (by kernel_rfl))
 f240 := func115.trans (congrArg some (by kernel_rfl))
 f241 := func159.trans (congrArg some (by kernel_rfl))
 f276 := func147.trans (congrArg some (by kernel_rfl))
 f277 := func181.trans (congrArg some (by kernel_rfl))
 t0 := underlying0
 a0 := Tryz.isAgg0
 z0 := Tryz.sizeOf0
 v0 := Tryz.zeroValue0
 t3 := underlying3
 a3 := Tryz.isAgg3
 z3 := Tryz.sizeOf3
 v3 := Tryz.zeroValue3
 t4 := underlying4
 a4 := Tryz.isAgg4
 z4 := Tryz.sizeOf4
 v4 := Tryz.zeroValue4
 t9 := underlying9
 a9 := Tryz.isAgg9
 z9 := Tryz.sizeOf9
 v9 := Tryz.zeroValue9
 t20 := underlying20
 a20 := Tryz.isAgg20
 z20 := Tryz.sizeOf20
 v20 := Tryz.zeroValue20
 t31 := underlying99
 a31 := Tryz.isAgg99
 z31 := Tryz.sizeOf99
 v31 := Tryz.zeroValue99
 t37 := underlying27
 a37 := Tryz.isAgg27
 z37 := Tryz.sizeOf27
 v37 := Tryz.zeroValue27
 t70 := underlying127
 a70 := Tryz.isAgg127
 z70 := Tryz.sizeOf127
 v70 := Tryz.zeroValue127
 t72 := underlying129
 a72 := Tryz.isAgg129
 z72 := Tryz.sizeOf129
 v72 := Tryz.zeroValue129
 t75 := underlying131
 a75 := Tryz.isAgg131
 z75 := Tryz.sizeOf131
 v75 := Tryz.zeroValue131
 t76 := underlying132
 a76 := Tryz.isAgg132
 z76 := Tryz.sizeOf132
 v76 := Tryz.zeroValue132
 t127 := underlying168
 a127 := Tryz.isAgg168
 z127 := Tryz.sizeOf168
 v127 := Tryz.zeroValue168
 t164 := underlying193
 a164 := Tryz.isAgg193
 z164 := Tryz.sizeOf193
 v164 := Tryz.zeroValue193 }
theorem Tryz.Builder_Extra_156 : Builder.Extra prog Tryz.lays156_ren := {
 sizeBuilder := by kernel_rfl
 liesBuilder := by kernel_rfl
 t5 := underlying5
 a5 := Tryz.isAgg5
 z5 := Tryz.sizeOf5
 v5 := Tryz.zeroValue5
 infoByte := by kernel_rfl
 cellsByte := by kernel_rfl
 sizeByte := by kernel_rfl
 neB5 := by decide }
open Go.RowKit in
/-- No element: the empty string; the world is avs it was. (Whatever the slice's address and capacity: a nil slice too.) (LAID: no walk: one application.) -/
theorem Tryz.strings_Join_none (a : Option Addr) (c : Nat) (sep : ByteArray) (w : World) :
  Calls prog 94 #[.slice a 0 c, .string sep] w fun e w' => e = .returned (.string ⟨#[]⟩) ∧ w' = w := Any.strings_Join_none Tryz.lays156 Tryz.Builder_Extra_156 a c sep w
open Go.RowKit in
/-- strings.Join: "Join concatenates the elements of its first argument «to» create a single string. The separator string sep is placed between elements in the resulting string.": HOWEVER MANY ELEMENTS. Below the heap's end the world is avs it was. (LAID: no walk: one application.) -/
theorem Tryz.strings_Join (bk o c : Nat) (xs : List ByteArray) (sep : ByteArray) (w : World) (hcells : ∀ (j : Nat) x, xs[j]? = some x → w.cell? ⟨bk, o + j, none⟩ = some (.string x)) (hbk : bk < w.heap.size) (hN : xs.length ≤ 140737488355328) (hcap : xs.length ≤ c) (hlen : (Lib.join (xs.map (·.data.toList)) sep.data.toList).length ≤ 140737488355328) :
  Calls prog 94 #[.slice (some ⟨bk, o, none⟩) xs.length c, .string sep] w fun e w' => e = .returned (.string ⟨(Lib.join (xs.map (·.data.toList)) sep.data.toList).toArray⟩) ∧ Below w.heap.size w w' := Any.strings_Join Tryz.lays156 Tryz.Builder_Extra_156 bk o c xs sep w hcells hbk hN hcap hlen
def Tryz.laysM171_ren : Go.Shelf.Ren := ⟨fun | 171 => 92 | 243 => 124 | 246 => 158 | 283 => 177 | 284 => 178 | 285 => 179 | 286 => 180 | 129 => 198 | 317 => 197 | 318 => 199 | 319 => 200 | 320 => 201 | 337 => 208 | 338 => 209 | n => n, fun | 3 => 3 | 9 => 9 | 2 => 2 | 4 => 4 | 171 => 220 | 0 => 0 | 53 => 221 | 37 => 27 | 5 => 5 | 173 => 224 | 212 => 252 | 51 => 205 | 20 => 20 | 213 => 253 | 46 => 182 | 232 => 267 | 233 => 268 | n => n, fun | 17 => 3 | 18 => 6 | 19 => 7 | n => n⟩
theorem Tryz.laysM171 : Go.Proofs.LaysM.n171 prog Tryz.laysM171_ren := {
 mixed := by kernel_rfl
 f129 := func198.trans (congrArg some (by kernel_rfl))
 f171 := func92.trans (congrArg some (by kernel_rfl))
 f243 := func124.trans (congrArg some (by kernel_rfl))
 f246 := func158.trans (congrArg some (by kernel_rfl))
 f283 := func177.trans (congrArg some (by kernel_rfl))
 f284 := func178.trans (congrArg some (by kernel_rfl))
 f285 := func179.trans (congrArg some (by kernel_rfl))
 f286 := func180.trans (congrArg some (by kernel_rfl))
 f317 := func197.trans (congrArg some (by kernel_rfl))
 f318 := func199.trans (congrArg some (by kernel_rfl))
 f319 := func200.trans (congrArg some (by kernel_rfl))
 f320 := func201.trans (congrArg some (by kernel_rfl))
 f337 := func208.trans (congrArg some (by kernel_rfl))
 f338 := func209.trans (congrArg some (by kernel_rfl))
 t0 := underlying0
 a0 := Tryz.isAgg0
 z0 := Tryz.sizeOf0
 v0 := Tryz.zeroValue0
 t2 := underlying2
 a2 := Tryz.isAgg2
 z2 := Tryz.sizeOf2
 v2 := Tryz.zeroValue2
 t3 := underlying3
 a3 := Tryz.isAgg3
 z3 := Tryz.sizeOf3
 v3 := Tryz.zeroValue3
 t4 := underlying4
 a4 := Tryz.isAgg4
 z4 := Tryz.sizeOf4
 v4 := Tryz.zeroValue4
 t5 := underlying5
 a5 := Tryz.isAgg5
 z5 := Tryz.sizeOf5
 v5 := Tryz.zeroValue5
 t9 := underlying9
 a9 := Tryz.isAgg9
 z9 := Tryz.sizeOf9
 v9 := Tryz.zeroValue9
 t20 := underlying20
 a20 := Tryz.isAgg20
 z20 := Tryz.sizeOf20
 v20 := Tryz.zeroValue20
 t37 := underlying27
 a37 := Tryz.isAgg27
 z37 := Tryz.sizeOf27
 v37 := Tryz.zeroValue27
 t46 := underlying182
 a46 := Tryz.isAgg182
 z46 := Tryz.sizeOf182
 v46 := Tryz.zeroValue182
 t51 := underlying205
 a51 := Tryz.isAgg205
 z51 := Tryz.sizeOf205
 v51 := Tryz.zeroValue205
 t53 := underlying221
 a53 := Tryz.isAgg221
 z53 := Tryz.sizeOf221
 v53 := Tryz.zeroValue221
 t171 := underlying220
 a171 := Tryz.isAgg220
 z171 := Tryz.sizeOf220
 v171 := Tryz.zeroValue220
 t173 := underlying224
 a173 := Tryz.isAgg224
 z173 := Tryz.sizeOf224
 v173 := Tryz.zeroValue224
 t212 := underlying252
 a212 := Tryz.isAgg252
 z212 := Tryz.sizeOf252
 v212 := Tryz.zeroValue252
 t213 := underlying253
 a213 := Tryz.isAgg253
 z213 := Tryz.sizeOf253
 t232 := underlying267
 a232 := Tryz.isAgg267
 z232 := Tryz.sizeOf267
 v232 := Tryz.zeroValue267
 t233 := underlying268
 a233 := Tryz.isAgg268
 z233 := Tryz.sizeOf268
 v233 := Tryz.zeroValue268
 g17 := by kernel_rfl
 g18 := by kernel_rfl
 g19 := by kernel_rfl
 i0 := by kernel_rfl
 i2 := by kernel_rfl
 i3 := by kernel_rfl
 i4 := by kernel_rfl
 i5 := by kernel_rfl
 i9 := by kernel_rfl
 i20 := by kernel_rfl
 i37 := by kernel_rfl
 i46 := by kernel_rfl
 i51 := by kernel_rfl
 i53 := by kernel_rfl
 i171 := by kernel_rfl
 i173 := by kernel_rfl
 i212 := by kernel_rfl
 i232 := by kernel_rfl
 i233 := by kernel_rfl
 m17 := by kernel_rfl
 m18 := by kernel_rfl
 m19 := by kernel_rfl }
open Go.RowKit Go.Sort Go.Lib in
/-- strconv.Itoa: "Itoa is equivalent «to» FormatInt(int64(i), 10).": i's DECIMAL NUMERAL ('Lib.itoa': a '-' where i is negative, then the digits), FOR EVERY int. The world behind the call: the world before it, new blocks behind the heap (the library's 'var a [24]byte'), draws. (LAID: no walk: one application.) -/
theorem Tryz.strconv_Itoa (n : Int) (h0 : -9223372036854775808 ≤ n) (h1 : n ≤ 9223372036854775807) (w : World) (htab : Lib.TabIs prog w "internal/strconv.uint64pow10" .u64 Lib.pow10Tab) :
  Calls prog 92 #[.int .i64 n] w fun e w' => e = .returned (.string ⟨(Lib.itoa n).toArray⟩) ∧ ∃ k os, w' = grow (w.drewN k) os := Any.strconv_Itoa Tryz.laysM171 n h0 h1 w htab
def Tryz.laysC172_ren : Go.Shelf.Ren := ⟨fun | 172 => 129 | 244 => 161 | 245 => 162 | 247 => 184 | 279 => 185 | 280 => 186 | 281 => 187 | 282 => 188 | 287 => 202 | 316 => 203 | 171 => 92 | 205 => 204 | 321 => 210 | 322 => 211 | 243 => 124 | 246 => 158 | 283 => 177 | 284 => 178 | 285 => 179 | 286 => 180 | 129 => 198 | 317 => 197 | 318 => 199 | 319 => 200 | 320 => 201 | 337 => 208 | 338 => 209 | n => n, fun | 9 => 9 | 3 => 3 | 75 => 131 | 76 => 132 | 4 => 4 | 5 => 5 | 167 => 238 | 37 => 27 | 0 => 0 | 85 => 239 | 2 => 2 | 168 => 241 | 53 => 221 | 175 => 244 | 46 => 182 | 210 => 259 | 127 => 168 | 145 => 264 | 143 => 262 | 21 => 21 | 171 => 220 | 173 => 224 | 212 => 252 | 51 => 205 | 20 => 20 | 213 => 253 | 232 => 267 | 233 => 268 | 80 => 90 | n => n, fun | 15 => 4 | 16 => 5 | 17 => 3 | 18 => 6 | 19 => 7 | n => n⟩
theorem Tryz.laysC172 : Go.Proofs.LaysC.n172 prog Tryz.laysC172_ren := {
 mixed := by kernel_rfl
 f129 := func198.trans (congrArg some (by kernel_rfl))
 f171 := func92.trans (congrArg some (by kernel_rfl))
 f172 := func129.trans (congrArg some (by kernel_rfl))
 f205 := func204.trans (congrArg some (by kernel_rfl))
 f243 := func124.trans (congrArg some (by kernel_rfl))
 f244 := func161.trans (congrArg some (by kernel_rfl))
 f245 := func162.trans (congrArg some (by kernel_rfl))
 f246 := func158.trans (congrArg some (by kernel_rfl))
 f247 := func184.trans (congrArg some (by kernel_rfl))
 f279 := func185.trans (congrArg some (by kernel_rfl))
 f280 := func186.trans (congrArg some (by kernel_rfl))
 f281 := func187.trans (congrArg some (by kernel_rfl))
 f282 := func188.trans (congrArg some (by kernel_rfl))
 f283 := func177.trans (congrArg some (by kernel_rfl))
 f284 := func178.trans (congrArg some (by kernel_rfl))
 f285 := func179.trans (congrArg some (by kernel_rfl))
 f286 := func180.trans (congrArg some (by kernel_rfl))
 f287 := func202.trans (congrArg some (by kernel_rfl))
 f316 := func203.trans (congrArg some (by kernel_rfl))
 f317 := func197.trans (congrArg some (by kernel_rfl))
 f318 := func199.trans (congrArg some (by kernel_rfl))
 f319 := func200.trans (congrArg some (by kernel_rfl))
 f320 := func201.trans (congrArg some (by kernel_rfl))
 f321 := func210.trans (congrArg some (by kernel_rfl))
 f322 := func211.trans (congrArg some (by kernel_rfl))
 f337 := func208.trans (congrArg some (by kernel_rfl))
 f338 := func209.trans (congrArg some (by kernel_rfl))
 t0 := underlying0
 a0 := Tryz.isAgg0
 z0 := Tryz.sizeOf0
 v0 := Tryz.zeroValue0
 t2 := underlying2
 a2 := Tryz.isAgg2
 z2 := Tryz.sizeOf2
 v2 := Tryz.zeroValue2
 t3 := underlying3
 a3 := Tryz.isAgg3
 z3 := Tryz.sizeOf3
 v3 := Tryz.zeroValue3
 t4 := underlying4
 a4 := Tryz.isAgg4
 z4 := Tryz.sizeOf4
 v4 := Tryz.zeroValue4
 t5 := underlying5
 a5 := Tryz.isAgg5
 z5 := Tryz.sizeOf5
 v5 := Tryz.zeroValue5
 t9 := underlying9
 a9 := Tryz.isAgg9
 z9 := Tryz.sizeOf9
 v9 := Tryz.zeroValue9
 t20 := underlying20
 a20 := Tryz.isAgg20
 z20 := Tryz.sizeOf20
 v20 := Tryz.zeroValue20
 t21 := underlying21
 a21 := Tryz.isAgg21
 z21 := Tryz.sizeOf21
 v21 := Tryz.zeroValue21
 t37 := underlying27
 a37 := Tryz.isAgg27
 z37 := Tryz.sizeOf27
 v37 := Tryz.zeroValue27
 t46 := underlying182
 a46 := Tryz.isAgg182
 z46 := Tryz.sizeOf182
 v46 := Tryz.zeroValue182
 t51 := underlying205
 a51 := Tryz.isAgg205
 z51 := Tryz.sizeOf205
 v51 := Tryz.zeroValue205
 t53 := underlying221
 a53 := Tryz.isAgg221
 z53 := Tryz.sizeOf221
 v53 := Tryz.zeroValue221
 t75 := underlying131
 a75 := Tryz.isAgg131
 z75 := Tryz.sizeOf131
 v75 := Tryz.zeroValue131
 t76 := underlying132
 a76 := Tryz.isAgg132
 z76 := Tryz.sizeOf132
 v76 := Tryz.zeroValue132
 t85 := underlying239
 a85 := Tryz.isAgg239
 z85 := Tryz.sizeOf239
 v85 := Tryz.zeroValue239
 t127 := underlying168
 a127 := Tryz.isAgg168
 z127 := Tryz.sizeOf168
 v127 := Tryz.zeroValue168
 t143 := underlying262
 a143 := Tryz.isAgg262
 z143 := Tryz.sizeOf262
 v143 := Tryz.zeroValue262
 t145 := underlying264
 a145 := Tryz.isAgg264
 z145 := Tryz.sizeOf264
 v145 := Tryz.zeroValue264
 t167 := underlying238
 a167 := Tryz.isAgg238
 z167 := Tryz.sizeOf238
 v167 := Tryz.zeroValue238
 t168 := underlying241
 a168 := Tryz.isAgg241
 z168 := Tryz.sizeOf241
 v168 := Tryz.zeroValue241
 t171 := underlying220
 a171 := Tryz.isAgg220
 z171 := Tryz.sizeOf220
 v171 := Tryz.zeroValue220
 t173 := underlying224
 a173 := Tryz.isAgg224
 z173 := Tryz.sizeOf224
 v173 := Tryz.zeroValue224
 t175 := underlying244
 a175 := Tryz.isAgg244
 z175 := Tryz.sizeOf244
 v175 := Tryz.zeroValue244
 t210 := underlying259
 a210 := Tryz.isAgg259
 z210 := Tryz.sizeOf259
 v210 := Tryz.zeroValue259
 t212 := underlying252
 a212 := Tryz.isAgg252
 z212 := Tryz.sizeOf252
 v212 := Tryz.zeroValue252
 t213 := underlying253
 a213 := Tryz.isAgg253
 z213 := Tryz.sizeOf253
 t232 := underlying267
 a232 := Tryz.isAgg267
 z232 := Tryz.sizeOf267
 v232 := Tryz.zeroValue267
 t233 := underlying268
 a233 := Tryz.isAgg268
 z233 := Tryz.sizeOf268
 v233 := Tryz.zeroValue268
 g15 := by kernel_rfl
 g16 := by kernel_rfl
 g17 := by kernel_rfl
 g18 := by kernel_rfl
 g19 := by kernel_rfl
 t80 := underlying90
 a80 := Tryz.isAgg90
 z80 := Tryz.sizeOf90
 v80 := Tryz.zeroValue90
 i0 := by kernel_rfl
 i2 := by kernel_rfl
 i3 := by kernel_rfl
 i4 := by kernel_rfl
 i5 := by kernel_rfl
 i9 := by kernel_rfl
 i20 := by kernel_rfl
 i21 := by kernel_rfl
 i37 := by kernel_rfl
 i46 := by kernel_rfl
 i51 := by kernel_rfl
 i53 := by kernel_rfl
 i75 := by kernel_rfl
 i76 := by kernel_rfl
 i80 := by kernel_rfl
 i85 := by kernel_rfl
 i127 := by kernel_rfl
 i143 := by kernel_rfl
 i145 := by kernel_rfl
 i167 := by kernel_rfl
 i168 := by kernel_rfl
 i171 := by kernel_rfl
 i173 := by kernel_rfl
 i175 := by kernel_rfl
 i210 := by kernel_rfl
 i212 := by kernel_rfl
 i232 := by kernel_rfl
 i233 := by kernel_rfl
 m15 := by kernel_rfl
 m16 := by kernel_rfl
 m17 := by kernel_rfl
 m18 := by kernel_rfl
 m19 := by kernel_rfl
 c0 := by kernel_rfl
 c2 := by kernel_rfl
 c3 := by kernel_rfl
 c4 := by kernel_rfl
 c5 := by kernel_rfl
 c9 := by kernel_rfl
 c20 := by kernel_rfl
 c21 := by kernel_rfl
 c37 := by kernel_rfl
 c46 := by kernel_rfl
 c51 := by kernel_rfl
 c53 := by kernel_rfl
 c75 := by kernel_rfl
 c76 := by kernel_rfl
 c80 := by kernel_rfl
 c85 := by kernel_rfl
 c127 := by kernel_rfl
 c143 := by kernel_rfl
 c145 := by kernel_rfl
 c167 := by kernel_rfl
 c168 := by kernel_rfl
 c171 := by kernel_rfl
 c173 := by kernel_rfl
 c175 := by kernel_rfl
 c210 := by kernel_rfl
 c212 := by kernel_rfl
 c213 := by kernel_rfl
 c232 := by kernel_rfl
 c233 := by kernel_rfl }
open Go.RowKit in
/-- strconv.Atoi, AT EVERY STRING THAT SPELLS AN int ('Lib.atoiAll .. = .ok v'; of whatever length: leading zeros count): v, AND NO ERROR. The world: avs it was, or with the one new row that '[]byte(..)' lays. (LAID: no walk: one application.) -/
theorem Tryz.strconv_Atoi_ok (s : ByteArray) (hmax : s.size ≤ 9223372036854775806) (v : Int) (h : Lib.atoiAll s.data.toList = .ok v) (w : World) :
  Calls prog 129 #[.string s] w fun e w' => e = .returned (.tuple #[.int .i64 v, .nilIface]) ∧ (w' = w ∨ ∃ t, w' = Lib.bytesWorld w 5 t) := Any.strconv_Atoi_ok Tryz.laysC172 s hmax v h w
open Go.RowKit in
/-- strconv.Atoi, AT EVERY STRING THAT IS NO DECIMAL NUMERAL : 0, AND AN ERROR THAT IS NOT nil: a *NumError in a new block N: {Func: "Atoi", Num: s's bytes, Err: what the variable ErrSyntax holds}. Of what was there nothing has turned. (LAID: no walk: one application.) -/
theorem Tryz.strconv_Atoi_syntax (s : ByteArray) (hlim : s.size ≤ 281474976710656) (h : Lib.atoiAll s.data.toList = Go.Lib.NumEnd.syntax) (ev : Value) (w : World) (hv : w.cell? ⟨4, 0, none⟩ = some ev) (hev : ev = .nilIface ∨ ∃ te pe, ev = .iface te pe) :
  Calls prog 129 #[.string s] w fun e w' => ∃ N, e = .returned (.tuple #[.int .i64 (0), .iface 241 (.pointer (some ⟨N, 0, none⟩))]) ∧ w.heap.size ≤ N ∧ w'.heap[N]? = some (.cells #[.string ⟨#[65, 116, 111, 105]⟩, .string s, ev] 259 (0, 0)) ∧ Below w.heap.size w w' := Any.strconv_Atoi_syntax Tryz.laysC172 s hlim h ev w hv hev
open Go.RowKit in
/-- strconv.Atoi, AT EVERY NUMERAL THAT NO int HOLDS ('.range'): THE GREATEST OR THE LEAST int, BY THE SIGN ('Lib.atoiSat'), AND AN ERROR THAT IS NOT nil: a *NumError in a new block N: {Func: "Atoi", Num: s's bytes, Err: what the variable ErrRange holds}. Of what was there nothing has turned. (LAID: no walk: one application.) -/
theorem Tryz.strconv_Atoi_range (s : ByteArray) (hlim : s.size ≤ 281474976710656) (h : Lib.atoiAll s.data.toList = .range) (ev : Value) (w : World) (hv : w.cell? ⟨5, 0, none⟩ = some ev) (hev : ev = .nilIface ∨ ∃ te pe, ev = .iface te pe) :
  Calls prog 129 #[.string s] w fun e w' => ∃ N, e = .returned (.tuple #[.int .i64 (Lib.atoiSat s.data.toList), .iface 241 (.pointer (some ⟨N, 0, none⟩))]) ∧ w.heap.size ≤ N ∧ w'.heap[N]? = some (.cells #[.string ⟨#[65, 116, 111, 105]⟩, .string s, ev] 259 (0, 0)) ∧ Below w.heap.size w w' := Any.strconv_Atoi_range Tryz.laysC172 s hlim h ev w hv hev
def Tryz.lays219_ren : Go.Shelf.Ren := ⟨fun | 219 => 142 | 217 => 165 | 225 => 166 | 224 => 167 | 267 => 168 | 266 => 190 | 314 => 191 | n => n, fun | 9 => 9 | 3 => 3 | 4 => 4 | 5 => 5 | 46 => 182 | 146 => 246 | 51 => 205 | n => n, fun | 1 => 2 | n => n⟩
theorem Tryz.lays219 : Go.Proofs.Lays.n219 prog Tryz.lays219_ren := {
 mixed := by kernel_rfl
 f217 := func165.trans (congrArg some (by kernel_rfl))
 f219 := func142.trans (congrArg some (by kernel_rfl))
 f224 := func167.trans (congrArg some (by kernel_rfl))
 f225 := func166.trans (congrArg some (by kernel_rfl))
 f266 := func190.trans (congrArg some (by kernel_rfl))
 f267 := func168.trans (congrArg some (by kernel_rfl))
 f314 := func191.trans (congrArg some (by kernel_rfl))
 t3 := underlying3
 a3 := Tryz.isAgg3
 z3 := Tryz.sizeOf3
 v3 := Tryz.zeroValue3
 t4 := underlying4
 a4 := Tryz.isAgg4
 z4 := Tryz.sizeOf4
 v4 := Tryz.zeroValue4
 t5 := underlying5
 a5 := Tryz.isAgg5
 z5 := Tryz.sizeOf5
 v5 := Tryz.zeroValue5
 t9 := underlying9
 a9 := Tryz.isAgg9
 z9 := Tryz.sizeOf9
 v9 := Tryz.zeroValue9
 t46 := underlying182
 a46 := Tryz.isAgg182
 z46 := Tryz.sizeOf182
 v46 := Tryz.zeroValue182
 t51 := underlying205
 a51 := Tryz.isAgg205
 z51 := Tryz.sizeOf205
 v51 := Tryz.zeroValue205
 t146 := underlying246
 a146 := Tryz.isAgg246
 z146 := Tryz.sizeOf246
 v146 := Tryz.zeroValue246
 g1 := by kernel_rfl }
open Go.RowKit Go.Lib in
/-- internal/stringslite.Index (what strings.Index calls) AT A substr OF ONE BYTE c: IT RETURNS 'Lib.indexByte s c'; the world is avs it was. (LAID: no walk: one application.) -/
theorem Tryz.stringslite_Index_one (s : ByteArray) (c : UInt8) (w : World) :
  Calls prog 142 #[.string s, .string ⟨#[c]⟩] w fun e w' => e = .returned (.int .i64 (Lib.indexByte s.data.toList c)) ∧ w' = w := Any.stringslite_Index_one Tryz.lays219 s c w
def Tryz.lays157_ren : Go.Shelf.Ren := ⟨fun | 157 => 96 | 229 => 127 | 199 => 128 | 261 => 160 | 311 => 182 | 312 => 183 | n => n, fun | 9 => 9 | 31 => 99 | 3 => 3 | 5 => 5 | 4 => 4 | 119 => 184 | 0 => 0 | 40 => 186 | 152 => 202 | 21 => 21 | 154 => 204 | 51 => 205 | 141 => 207 | 196 => 230 | 193 => 227 | 198 => 233 | 49 => 231 | 194 => 228 | 201 => 236 | 226 => 255 | 46 => 182 | 227 => 256 | n => n, fun | 0 => 0 | 6 => 1 | n => n⟩
theorem Tryz.lays157 : Go.Proofs.Lays.n157 prog Tryz.lays157_ren := {
 mixed := by kernel_rfl
 f157 := func96.trans (congrArg some (by kernel_rfl))
 f199 := func128.trans (congrArg some (by kernel_rfl))
 f229 := func127.trans (congrArg some (by kernel_rfl))
 f261 := func160.trans (congrArg some (by kernel_rfl))
 f311 := func182.trans (congrArg some (by kernel_rfl))
 f312 := func183.trans (congrArg some (by kernel_rfl))
 t0 := underlying0
 a0 := Tryz.isAgg0
 z0 := Tryz.sizeOf0
 v0 := Tryz.zeroValue0
 t3 := underlying3
 a3 := Tryz.isAgg3
 z3 := Tryz.sizeOf3
 v3 := Tryz.zeroValue3
 t4 := underlying4
 a4 := Tryz.isAgg4
 z4 := Tryz.sizeOf4
 v4 := Tryz.zeroValue4
 t5 := underlying5
 a5 := Tryz.isAgg5
 z5 := Tryz.sizeOf5
 v5 := Tryz.zeroValue5
 t9 := underlying9
 a9 := Tryz.isAgg9
 z9 := Tryz.sizeOf9
 v9 := Tryz.zeroValue9
 t21 := underlying21
 a21 := Tryz.isAgg21
 z21 := Tryz.sizeOf21
 v21 := Tryz.zeroValue21
 t31 := underlying99
 a31 := Tryz.isAgg99
 z31 := Tryz.sizeOf99
 v31 := Tryz.zeroValue99
 t40 := underlying186
 a40 := Tryz.isAgg186
 z40 := Tryz.sizeOf186
 v40 := Tryz.zeroValue186
 t46 := underlying182
 a46 := Tryz.isAgg182
 z46 := Tryz.sizeOf182
 v46 := Tryz.zeroValue182
 t49 := underlying231
 a49 := Tryz.isAgg231
 z49 := Tryz.sizeOf231
 v49 := Tryz.zeroValue231
 t51 := underlying205
 a51 := Tryz.isAgg205
 z51 := Tryz.sizeOf205
 v51 := Tryz.zeroValue205
 t119 := underlying184
 a119 := Tryz.isAgg184
 z119 := Tryz.sizeOf184
 t141 := underlying207
 a141 := Tryz.isAgg207
 z141 := Tryz.sizeOf207
 v141 := Tryz.zeroValue207
 t152 := underlying202
 a152 := Tryz.isAgg202
 z152 := Tryz.sizeOf202
 v152 := Tryz.zeroValue202
 t154 := underlying204
 a154 := Tryz.isAgg204
 z154 := Tryz.sizeOf204
 v154 := Tryz.zeroValue204
 t193 := underlying227
 a193 := Tryz.isAgg227
 z193 := Tryz.sizeOf227
 v193 := Tryz.zeroValue227
 t194 := underlying228
 a194 := Tryz.isAgg228
 z194 := Tryz.sizeOf228
 v194 := Tryz.zeroValue228
 t196 := underlying230
 a196 := Tryz.isAgg230
 z196 := Tryz.sizeOf230
 v196 := Tryz.zeroValue230
 t198 := underlying233
 a198 := Tryz.isAgg233
 z198 := Tryz.sizeOf233
 v198 := Tryz.zeroValue233
 t201 := underlying236
 a201 := Tryz.isAgg236
 z201 := Tryz.sizeOf236
 v201 := Tryz.zeroValue236
 t226 := underlying255
 a226 := Tryz.isAgg255
 z226 := Tryz.sizeOf255
 v226 := Tryz.zeroValue255
 t227 := underlying256
 a227 := Tryz.isAgg256
 z227 := Tryz.sizeOf256
 v227 := Tryz.zeroValue256
 g0 := by kernel_rfl
 g6 := by kernel_rfl }
open Go.RowKit Go.Lib in
/-- strings.Fields, the table by 'Lib.TabIs' (avs strings.TrimSpace's contract). 'hg': the table's number, by its name: at a dump 'by kernel_rfl'. (LAID: no walk: one application.) -/
theorem Tryz.strings_Fields (s : ByteArray) (w : World) (hs : s.size < 4294967281) (hascii : ∀ (j : Nat) b, s.data.toList[j]? = some b → b.toNat < 128) (htab : Lib.TabIs prog w "strings.asciiSpace" .u8 Lib.asciiSpaceTab) :
  Calls prog 96 #[.string s] w fun e w' =>
   e = .returned (.slice (some ⟨w.heap.size, 0, none⟩) (Lib.fields s.data.toList).length (Lib.fields s.data.toList).length) ∧ w' = w.alloc (.cells ((Lib.fields s.data.toList).map fun l => Value.string ⟨l.toArray⟩).toArray 9) := Any.strings_Fields Tryz.lays157 (by kernel_rfl) (by kernel_rfl) s w hs hascii htab
def Tryz.laysnb115_ren : Go.Shelf.Ren := ⟨fun | 115 => 143 | n => n, fun | 37 => 27 | 4 => 4 | 9 => 9 | 5 => 5 | n => n, fun | n => n⟩
theorem Tryz.laysnb115 : Go.Proofs.Lays.nb115 prog Tryz.laysnb115_ren := {
 mixed := by kernel_rfl
 f115 := func143.trans (congrArg some (by kernel_rfl))
 t4 := underlying4
 a4 := Tryz.isAgg4
 z4 := Tryz.sizeOf4
 v4 := Tryz.zeroValue4
 t9 := underlying9
 a9 := Tryz.isAgg9
 z9 := Tryz.sizeOf9
 v9 := Tryz.zeroValue9
 t37 := underlying27
 a37 := Tryz.isAgg27
 z37 := Tryz.sizeOf27
 v37 := Tryz.zeroValue27
 t5 := underlying5
 a5 := Tryz.isAgg5
 z5 := Tryz.sizeOf5
 v5 := Tryz.zeroValue5 }
theorem Tryz.bytes_Equal_all (p1 p2 : Option Addr) (n c m d : Nat) (xs ys : List Int) (w : World) (hx : xs.length = n) (hy : ys.length = m) (h1 : Lib.BytesIn w p1 n xs) (h2 : Lib.BytesIn w p2 m ys) :
  Calls prog 143 #[.slice p1 n c, .slice p2 m d] w fun e w' => e = .returned (.bool (Lib.bytesOf xs == Lib.bytesOf ys)) ∧ w' = w := Any.bytes_Equal_all Tryz.laysnb115 p1 p2 n c m d xs ys w hx hy h1 h2
end Go.Proofs
/- . -/
namespace Go.Eng
open Go
structure Blk where
 cells : List Value
 elem : TypeId
 own : Bool
structure AEnt where
 key : Value
 val : Value
 born : Nat
inductive AObj where
 | map (es : List AEnt) (clock : Nat)
 | mapIter (m : Option Nat) (since : Nat) (seen : List Nat) (stepped : Nat)
 | strIter (s : ByteArray) (pos : Nat)
structure Heap where
 get : Nat → Option Blk
 next : Nat
 obj : Nat → Option AObj
def Heap.alloc (h : Heap) (b : Blk) : Heap := ⟨fun i => if i = h.next then some b else h.get i, h.next + 1, h.obj⟩
def Heap.set (h : Heap) (i : Nat) (b : Blk) : Heap := ⟨fun j => if j = i then some b else h.get j, h.next, h.obj⟩
def Heap.kill (h : Heap) (i : Nat) : Heap := ⟨fun j => if j = i then none else h.get j, h.next, h.obj⟩
def Heap.allocO (h : Heap) (o : AObj) : Heap := ⟨h.get, h.next + 1, fun i => if i = h.next then some o else h.obj i⟩
def Heap.setO (h : Heap) (i : Nat) (o : AObj) : Heap := ⟨h.get, h.next, fun j => if j = i then some o else h.obj j⟩
structure Ext (h h' : Heap) : Prop where
 c : ∀ i b, h.get i = some b → h'.get i = some b
 o : ∀ i b, h.obj i = some b → h'.obj i = some b
instance (h h' : Heap) : CoeFun (Ext h h') (fun _ => ∀ i b, h.get i = some b → h'.get i = some b) := ⟨Ext.c⟩
structure WF (h : Heap) : Prop where
 c : ∀ i, h.next ≤ i → h.get i = none
 o : ∀ i, h.next ≤ i → h.obj i = none
instance (h : Heap) : CoeFun (WF h) (fun _ => ∀ i, h.next ≤ i → h.get i = none) := ⟨WF.c⟩
def skipV : Value := .chan none
structure Pl where
 b : Nat
 o : Nat
 l : Nat
abbrev Ren := Nat → Pl
inductive VRel (φ : Ren) (n : Nat) : Value → Value → Prop
 | und (c : Value) : VRel φ n undef c
 | skip : VRel φ n (.chan none) undef
 | bool (b : Bool) : VRel φ n (.bool b) (.bool b)
 | int (k : IntKind) (a : Int) : VRel φ n (.int k a) (.int k a)
 | float (k : FloatKind) (a : Nat) : VRel φ n (.float k a) (.float k a)
 | complex (k : FloatKind) (a b : Nat) : VRel φ n (.complex k a b) (.complex k a b)
 | string (s : ByteArray) : VRel φ n (.string s) (.string s)
 | nilPtr : VRel φ n (.pointer none) (.pointer none)
 | ptr (i o : Nat) (hi : i < n) : VRel φ n (.pointer (some ⟨i, o, none⟩)) (.pointer (some ⟨(φ i).b, (φ i).o + o, none⟩))
 | nilSlice : VRel φ n (.slice none 0 0) (.slice none 0 0)
 | slice (i o len cap cap' : Nat) (s : Option Nat) (a' : Addr) (hi : i < n) (h1 : len ≤ cap) (h2 : len ≤ cap') (h3 : (cap = len → cap' = len) ∧ (18446744073709551616 ≤ cap → cap' + 18446744073709551616 = cap))
   (h4 : a' = ⟨(φ i).b, (φ i).o + o, none⟩ ∨ cap' = 0) (h5 : cap' ≤ maxLen) (h6 : ∀ t, s = some t → o + cap' * t ≤ (φ i).l) : VRel φ n (.slice (some ⟨i, o, s⟩) len cap) (.slice (some a') len cap')
 | func (fn : Fn) (f c f' c' : Array Value) (h1 : f.size = f'.size) (h2 : c.size = c'.size) (h3 : ∀ (k : Nat) x y, f[k]? = some x → f'[k]? = some y → VRel φ n x y)
   (h4 : ∀ (k : Nat) x y, c[k]? = some x → c'[k]? = some y → VRel φ n x y) : VRel φ n (.func fn f c) (.func fn f' c')
 | nilFunc : VRel φ n .nilFunc .nilFunc
 | iface (t : TypeId) (v v' : Value) (h : VRel φ n v v') : VRel φ n (.iface t v) (.iface t v')
 | nilIface : VRel φ n .nilIface .nilIface
 | agg (c c' : Array Value) (h1 : c.size = c'.size) (h2 : ∀ (k : Nat) x y, c[k]? = some x → c'[k]? = some y → VRel φ n x y) : VRel φ n (.agg c) (.agg c')
 | tuple (c c' : Array Value) (h1 : c.size = c'.size) (h2 : ∀ (k : Nat) x y, c[k]? = some x → c'[k]? = some y → VRel φ n x y) : VRel φ n (.tuple c) (.tuple c')
 | nilMap : VRel φ n (.map none) (.map none)
 | map (i : Nat) (hi : i < n) : VRel φ n (.map (some i)) (.map (some (φ i).b))
theorem VRel.mono {φ φ' : Ren} {n n' : Nat} (ha : ∀ i, i < n → φ' i = φ i) (hn : n ≤ n') {v c : Value} (h : VRel φ n v c) : VRel φ' n' v c := by
 induction h with
 | und c => exact .und c
 | skip => exact .skip
 | bool b => exact .bool b
 | int k a => exact .int k a
 | float k a => exact .float k a
 | complex k a b => exact .complex k a b
 | string s => exact .string s
 | nilPtr => exact .nilPtr
 | ptr i o hi => rw [← ha i hi]; exact .ptr i o (by omega)
 | nilSlice => exact .nilSlice
 | slice i o len cap cap' s a' hi h1 h2 h3 h4 h5 h6 => exact .slice i o len cap cap' s a' (by omega) h1 h2 h3 (by rw [ha i hi]; exact h4) h5 (by rw [ha i hi]; exact h6)
 | func fn f c f' c' h1 h2 _ _ i3 i4 => exact .func fn f c f' c' h1 h2 (fun k x y hx hy => i3 k x y hx hy) (fun k x y hx hy => i4 k x y hx hy)
 | nilFunc => exact .nilFunc
 | iface t v v' _ ih => exact .iface t v v' ih
 | nilIface => exact .nilIface
 | agg c c' h1 _ ih => exact .agg c c' h1 ih
 | tuple c c' h1 _ ih => exact .tuple c c' h1 ih
 | nilMap => exact .nilMap
 | map i hi => rw [← ha i hi]; exact .map i (by omega)
def scalar : Value → Bool
 | .bool _ | .int _ _ | .float _ _ | .complex _ _ _ | .string _ | .pointer none | .slice none 0 0 | .map none | .nilFunc | .nilIface => true
 | .func _ f c => f.size == 0 && c.size == 0
 | .tuple c => c.size == 0
 | _ => false
def plainV : Value → Bool
 | .agg c => c.all scalar
 | .tuple c => c.all scalar
 | .iface _ v => scalar v
 | v => scalar v
theorem qcq {α : Type} {a : Array α} (h : (a.size == 0) = true) : a = #[] := by
 simpa using h
theorem VRel.of_scalar {φ : Ren} {n : Nat} {v : Value} (h : scalar v = true) : VRel φ n v v := by
 unfold scalar at h
 split at h
 ·
  exact .bool _
 ·
  exact .int _ _
 ·
  exact .float _ _
 ·
  exact .complex _ _ _
 ·
  exact .string _
 ·
  exact .nilPtr
 ·
  exact .nilSlice
 ·
  exact .nilMap
 ·
  exact .nilFunc
 ·
  exact .nilIface
 ·
  simp only [Ae] at h
  have h1 := qcq h.1
  have h2 := qcq h.2
  subst h1 h2
  exact .func _ _ _ _ _ rfl rfl (by simp) (by simp)
 ·
  have h1 := qcq h
  subst h1
  exact .und _
 ·
  cases h
theorem VRel.of_plain {φ : Ren} {n : Nat} {v : Value} (h : plainV v = true) : VRel φ n v v := by
 unfold plainV at h
 split at h
 ·
  rename_i c
  refine .agg _ _ rfl fun k x y hx hy => ?_
  rw [hx] at hy; cases hy
  exact .of_scalar (Be.1 h x (By hx))
 ·
  rename_i c
  refine .tuple _ _ rfl fun k x y hx hy => ?_
  rw [hx] at hy; cases hy
  exact .of_scalar (Be.1 h x (By hx))
 ·
  exact .iface _ _ _ (.of_scalar h)
 ·
  exact .of_scalar h
section inversions
variable {φ : Ren} {n : Nat} {c : Value}
theorem VRel.bool_inv {b : Bool} (h : VRel φ n (.bool b) c) : c = .bool b := by cases h; rfl
theorem VRel.int_inv {k : IntKind} {a : Int} (h : VRel φ n (.int k a) c) : c = .int k a := by cases h; rfl
theorem VRel.string_inv {s : ByteArray} (h : VRel φ n (.string s) c) : c = .string s := by cases h; rfl
theorem VRel.nilPtr_inv (h : VRel φ n (.pointer none) c) : c = .pointer none := by cases h; rfl
theorem VRel.ptr_inv {i o : Nat} {s : Option Nat} (h : VRel φ n (.pointer (some ⟨i, o, s⟩)) c) : s = none ∧ i < n ∧ c = .pointer (some ⟨(φ i).b, (φ i).o + o, none⟩) := by
 cases h with
 | ptr _ _ hi => exact ⟨rfl, hi, rfl⟩
theorem VRel.nilSlice_inv {k m : Nat} (h : VRel φ n (.slice none k m) c) : k = 0 ∧ m = 0 ∧ c = .slice none 0 0 := by cases h; exact ⟨rfl, rfl, rfl⟩
theorem VRel.slice_inv {i o len cap : Nat} {s : Option Nat} (h : VRel φ n (.slice (some ⟨i, o, s⟩) len cap) c) :
  ∃ cap' a', c = .slice (some a') len cap' ∧ i < n ∧ len ≤ cap ∧ len ≤ cap' ∧ ((cap = len → cap' = len) ∧ (18446744073709551616 ≤ cap → cap' + 18446744073709551616 = cap)) ∧ (a' = ⟨(φ i).b, (φ i).o + o, none⟩ ∨ cap' = 0) ∧ cap' ≤ maxLen ∧ (∀ t, s = some t → o + cap' * t ≤ (φ i).l) := by
 cases h with
 | slice _ _ _ _ cap' _ a' hi h1 h2 h3 h4 h5 h6 => exact ⟨cap', a', rfl, hi, h1, h2, h3, h4, h5, h6⟩
theorem VRel.func_inv {fn : Fn} {f d : Array Value} (h : VRel φ n (.func fn f d) c) :
  ∃ f' d', c = .func fn f' d' ∧ f.size = f'.size ∧ d.size = d'.size ∧ (∀ (k : Nat) x y, f[k]? = some x → f'[k]? = some y → VRel φ n x y) ∧ (∀ (k : Nat) x y, d[k]? = some x → d'[k]? = some y → VRel φ n x y) := by
 cases h with
 | func _ _ _ f' c' h1 h2 h3 h4 => exact ⟨f', c', rfl, h1, h2, h3, h4⟩
theorem VRel.nilFunc_inv (h : VRel φ n .nilFunc c) : c = .nilFunc := by cases h; rfl
theorem VRel.iface_inv {t : TypeId} {v : Value} (h : VRel φ n (.iface t v) c) : ∃ v', c = .iface t v' ∧ VRel φ n v v' := by
 cases h with
 | iface _ _ v' h => exact ⟨v', rfl, h⟩
theorem VRel.nilIface_inv (h : VRel φ n .nilIface c) : c = .nilIface := by cases h; rfl
theorem VRel.agg_inv {v : Array Value} (h : VRel φ n (.agg v) c) : ∃ v', c = .agg v' ∧ v.size = v'.size ∧ ∀ (k : Nat) x y, v[k]? = some x → v'[k]? = some y → VRel φ n x y := by
 cases h with
 | agg _ c' h1 h2 => exact ⟨c', rfl, h1, h2⟩
theorem VRel.tuple_inv {v : Array Value} (h : VRel φ n (.tuple v) c) (h0 : v.size ≠ 0) : ∃ v', c = .tuple v' ∧ v.size = v'.size ∧ ∀ (k : Nat) x y, v[k]? = some x → v'[k]? = some y → VRel φ n x y := by
 generalize hv : Value.tuple v = u at h
 cases h with
 | und => simp only [undef, Value.tuple.injEq] at hv; subst hv; simp at h0
 | tuple c c' h1 h2 => cases hv; exact ⟨c', rfl, h1, h2⟩
 | _ => cases hv
theorem VRel.skip_inv (h : VRel φ n (.chan none) c) : c = undef := by cases h; rfl
theorem VRel.map_inv {i : Nat} (h : VRel φ n (.map (some i)) c) : i < n ∧ c = .map (some (φ i).b) := by
 cases h with
 | map _ hi => exact ⟨hi, rfl⟩
end inversions
def ByteT (P : Program) (e : TypeId) : Prop := P.underlying e = some (.int .u8)
def Whole (φ : Ren) (i : Nat) (b : Blk) (w : World) : Prop := b.elem = 0 ∨ ((φ i).o = 0 ∧ ∃ arr t fr, w.heap[(φ i).b]? = some (.cells arr t fr) ∧ arr.size = b.cells.length)
def BRel (P : Program) (φ : Ren) (n : Nat) (i : Nat) (b : Blk) (w : World) : Prop :=
 if b.own = true then
  ∃ arr fr, w.heap[(φ i).b]? = some (.cells arr b.elem fr) ∧ ((φ i).o = 0 ∧ (φ i).l ≤ arr.size) ∧ (fr.1 = fr.2 ∨ (arr.size ≤ fr.1 ∧ ByteT P b.elem)) ∧ b.cells.length ≤ arr.size ∧
   ∀ (k : Nat) v, b.cells[k]? = some v → ∃ c, arr[k]? = some c ∧ VRel φ n v c
 else Whole φ i b w ∧ ∀ (k : Nat) v, b.cells[k]? = some v → ∃ c, w.cell? ⟨(φ i).b, (φ i).o + k, none⟩ = some c ∧ VRel φ n v c
def ERel (φ : Ren) (n : Nat) (e : AEnt) (c : MapEntry) : Prop := VRel φ n e.key c.key ∧ VRel φ n e.val c.val ∧ c.born = e.born
def ORel (φ : Ren) (n : Nat) (i : Nat) (o : AObj) (w : World) : Prop :=
 match o with
 | .map es clock => ∃ cs, w.heap[(φ i).b]? = some (.map cs clock) ∧ es.length = cs.size ∧ ∀ (k : Nat) e c, es[k]? = some e → cs[k]? = some c → ERel φ n e c
 | .mapIter m since seen stepped => w.heap[(φ i).b]? = some (.mapIter (m.map fun j => (φ j).b) since seen.toArray stepped) ∧ (φ i).o = 0 ∧ ∀ j, m = some j → j < n
 | .strIter s pos => w.heap[(φ i).b]? = some (.stringIter s pos) ∧ (φ i).o = 0
def keptB : Obj → Bool
 | .cells _ _ _ => true
 | .map _ _ => true
 | .mapIter _ _ _ _ => true
 | .stringIter _ _ => true
 | _ => false
theorem ORel.obj {φ : Ren} {n i : Nat} {o : AObj} {w : World} (r : ORel φ n i o w) : ∃ x, w.heap[(φ i).b]? = some x ∧ keptB x = true ∧ ∀ arr e f, x ≠ .cells arr e f := by
 cases o with
 | map es clock => obtain ⟨cs, h1, _⟩ := r; exact ⟨_, h1, rfl, fun _ _ _ => by simp⟩
 | mapIter m since seen stepped => exact ⟨_, r.1, rfl, fun _ _ _ => by simp⟩
 | strIter s pos => exact ⟨_, r.1, rfl, fun _ _ _ => by simp⟩
theorem ORel.world {φ φ' : Ren} {n n' i : Nat} {o : AObj} {w w' : World} (r : ORel φ n i o w) (ha : ∀ i, i < n → φ' i = φ i) (hi : i < n) (hn : n ≤ n') (hb : w'.heap[(φ i).b]? = w.heap[(φ i).b]?) : ORel φ' n' i o w' := by
 cases o with
 | map es clock =>
  obtain ⟨cs, h1, h2, h3⟩ := r
  refine ⟨cs, by rw [ha i hi, hb, h1], h2, fun k e c he hc => ?_⟩
  obtain ⟨q1, q2, q3⟩ := h3 k e c he hc
  exact ⟨q1.mono ha hn, q2.mono ha hn, q3⟩
 | mapIter m since seen stepped =>
  obtain ⟨h1, h2, h3⟩ := r
  refine ⟨?_, by rw [ha i hi]; exact h2, fun j hj => by have := h3 j hj; omega⟩
  rw [ha i hi, hb, h1]
  cases m with
  | none => rfl
  | some j => simp only [Dm]; rw [ha j (h3 j rfl)]
 | strIter s pos => exact ⟨by rw [ha i hi, hb, r.1], by rw [ha i hi]; exact r.2⟩
def Owned (φ : Ren) (h : Heap) (k : Nat) : Prop := (∃ i b, h.get i = some b ∧ b.own = true ∧ (φ i).b = k) ∨ ∃ i o, h.obj i = some o ∧ (φ i).b = k
structure Sim (P : Program) (φ : Ren) (h : Heap) (w : World) : Prop where
 next : WF h
 blk : ∀ i b, h.get i = some b → BRel P φ h.next i b w
 low : ∀ i b, h.get i = some b → (φ i).b < w.heap.size
 apart : ∀ i j b, h.get i = some b → b.own = true → h.get j ≠ none → (φ j).b = (φ i).b → j = i
 glob : ∀ g, g < P.globals.size → ((φ g).b = g ∧ (φ g).o = 0) ∧ g < h.next
 objs : ∀ i o, h.obj i = some o → ORel φ h.next i o w
 apartO : ∀ i j o, h.obj i = some o → h.obj j ≠ none → (φ j).b = (φ i).b → j = i
structure Step (φ : Ren) (h : Heap) (w : World) (φ' : Ren) (h' : Heap) (w' : World) : Prop where
 next : h.next ≤ h'.next
 agree : ∀ i, i < h.next → φ' i = φ i
 os : w'.os = w.os
 tape : w'.tape = w.tape
 output : w'.output = w.output
 size : w.heap.size ≤ w'.heap.size
 frame : ∀ k, k < w.heap.size → ¬ Owned φ h k → w'.heap[k]? = w.heap[k]?
 own : ∀ k, Owned φ' h' k → Owned φ h k ∨ w.heap.size ≤ k
theorem Step.refl (φ : Ren) (h : Heap) (w : World) : Step φ h w φ h w :=
 ⟨Aa _, fun _ _ => rfl, rfl, rfl, rfl, Aa _, fun _ _ _ => rfl, fun _ hk => .inl hk⟩
theorem Step.trans {φ1 φ2 φ3 : Ren} {h1 h2 h3 : Heap} {w1 w2 w3 : World} (a : Step φ1 h1 w1 φ2 h2 w2) (b : Step φ2 h2 w2 φ3 h3 w3) : Step φ1 h1 w1 φ3 h3 w3 where
 next := Bi a.next b.next
 agree i hi := (b.agree i (Co hi a.next)).trans (a.agree i hi)
 os := b.os.trans a.os
 tape := b.tape.trans a.tape
 output := b.output.trans a.output
 size := Bi a.size b.size
 frame k hk ho := by
  rw [b.frame k (Co hk a.size) (fun h => (a.own k h).elim ho (fun h' => by omega)), a.frame k hk ho]
 own k hk := (b.own k hk).elim (fun h => a.own k h) (fun h => .inr (Bi a.size h))
theorem Step.mono {φ φ' : Ren} {h h' : Heap} {w w' : World} (s : Step φ h w φ' h' w') {v c : Value} (r : VRel φ h.next v c) : VRel φ' h'.next v c :=
 r.mono s.agree s.next
theorem Step.drew {φ : Ren} {h : Heap} {w : World} : Step φ h w φ h w.drew :=
 ⟨Aa _, fun _ _ => rfl, rfl, rfl, rfl, Aa _, fun _ _ _ => rfl, fun _ hk => .inl hk⟩
theorem Sim.drew {P : Program} {φ : Ren} {h : Heap} {w : World} (s : Sim P φ h w) : Sim P φ h w.drew := ⟨s.next, s.blk, s.low, s.apart, s.glob, s.objs, s.apartO⟩
theorem Sim.lt {P : Program} {φ : Ren} {h : Heap} {w : World} (s : Sim P φ h w) {i : Nat} {b : Blk} (hi : h.get i = some b) : i < h.next := by
 rcases Bx i h.next with h1 | h1
 ·
  exact h1
 ·
  rw [s.next.c i h1] at hi; cases hi
theorem Sim.ltO {P : Program} {φ : Ren} {h : Heap} {w : World} (s : Sim P φ h w) {i : Nat} {o : AObj} (hi : h.obj i = some o) : i < h.next := by
 rcases Bx i h.next with h1 | h1
 ·
  exact h1
 ·
  rw [s.next.o i h1] at hi; cases hi
theorem Sim.lowO {P : Program} {φ : Ren} {h : Heap} {w : World} (s : Sim P φ h w) {i : Nat} {o : AObj} (hi : h.obj i = some o) : (φ i).b < w.heap.size := by
 obtain ⟨x, h1, _⟩ := (s.objs i o hi).obj
 exact (Az.1 h1).1
theorem Sim.forget {P : Program} {φ : Ren} {h h' : Heap} {w : World} (s : Sim P φ h w) (hn : h'.next = h.next) (hg : Ext h' h) : Sim P φ h' w where
 next := by
  refine ⟨fun i hi => ?_, fun i hi => ?_⟩
  ·
   cases hx : h'.get i with
   | none => rfl
   | some b => have := hg.c i b hx; rw [s.next.c i (by omega)] at this; cases this
  ·
   cases hx : h'.obj i with
   | none => rfl
   | some b => have := hg.o i b hx; rw [s.next.o i (by omega)] at this; cases this
 blk i b hi := by rw [hn]; exact s.blk i b (hg.c i b hi)
 low i b hi := s.low i b (hg.c i b hi)
 apart i j b hi ho hj he := by
  cases hx : h'.get j with
  | none => exact absurd hx hj
  | some c => exact s.apart i j b (hg.c i b hi) ho (by rw [hg.c j c hx]; simp) he
 glob g hg' := by rw [hn]; exact s.glob g hg'
 objs i o hi := by rw [hn]; exact s.objs i o (hg.o i o hi)
 apartO i j o hi hj he := by
  cases hx : h'.obj j with
  | none => exact absurd hx hj
  | some c => exact s.apartO i j o (hg.o i o hi) (by rw [hg.o j c hx]; simp) he
theorem Owned.forget {φ : Ren} {h h' : Heap} (hg : Ext h' h) {k : Nat} (o : Owned φ h' k) : Owned φ h k := by
 rcases o with ⟨i, b, h1, h2, h3⟩ | ⟨i, x, h1, h2⟩
 ·
  exact .inl ⟨i, b, hg.c i b h1, h2, h3⟩
 ·
  exact .inr ⟨i, x, hg.o i x h1, h2⟩
theorem Sim.owned {P : Program} {φ : Ren} {h : Heap} {w : World} (s : Sim P φ h w) {i : Nat} {b : Blk} (hi : h.get i = some b) (ho : b.own = true) :
  ∃ arr fr, w.heap[(φ i).b]? = some (.cells arr b.elem fr) ∧ ((φ i).o = 0 ∧ (φ i).l ≤ arr.size) ∧ (fr.1 = fr.2 ∨ (arr.size ≤ fr.1 ∧ ByteT P b.elem)) ∧ b.cells.length ≤ arr.size ∧
   ∀ (k : Nat) v, b.cells[k]? = some v → ∃ c, arr[k]? = some c ∧ VRel φ h.next v c := by
 have := s.blk i b hi
 simpa [BRel, ho] using this
theorem Sim.cell {P : Program} {φ : Ren} {h : Heap} {w : World} (s : Sim P φ h w) {i : Nat} {b : Blk} (hi : h.get i = some b) {k : Nat} {v : Value} (hk : b.cells[k]? = some v) :
  ∃ c, w.cell? ⟨(φ i).b, (φ i).o + k, none⟩ = some c ∧ VRel φ h.next v c := by
 by_cases ho : b.own = true
 ·
  obtain ⟨arr, fr, h1, h2, _, _, h5⟩ := s.owned hi ho
  obtain ⟨c, hc, hr⟩ := h5 k v hk
  exact ⟨c, by simp [World.cell?, h1, h2.1, hc], hr⟩
 ·
  have := s.blk i b hi
  simp only [BRel, ho, if_false, Bk] at this
  exact this.2 k v hk
end Go.Eng
