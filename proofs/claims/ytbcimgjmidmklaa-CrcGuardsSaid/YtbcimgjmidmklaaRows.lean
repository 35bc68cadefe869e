/-
  No cell of these rows narrows 'for every input' (looked for: loops, veiled, ifaces, maps, wideKeys, modest, calm, conditions, laid).
  DERIVED. THE GIVEN ROWS OF THIS SEAT. 6 by the template 'for every input the law returns true; each argument reads behind the call as it read before'; 0 by the template 'total and deterministic' (their statements: YtbcimgjmidmklaaTotals.lean).
  GIVEN WITH THE SEED: the statements are not yours to turn. If you find one false, say at which input.
  Laid BY PROGRAM, IN A SANDBOX (cutbox-rows.mjs): the forced cells as the released guide's own fill.sh prints them over the translation 70026c98a76494a7… (all of the seat's roots in one cut). By AI agents, Wed Nov 11 2026. No macro, syntax, notation, axiom, sorry.
-/
import Derived.Test.YtbcimgjmidmklaaChecked
import GoSem.Claim
import GoSem.ClaimJoined
import GoSem.ClaimMapViews
import Derived.JoinedTies
import Derived.KernelRfl
namespace Go.Proofs.Ytbcimgjmidmklaa
/- THE CELL 'sum', in the pinned program and in every row, IS THE sha256 OF THE DUMP (.gsa) THAT YtbcimgjmidmklaaProg.lean LOADS. Nothing in Lean hashes anything: it is a label: what it is worth is what the hold of that sum in a sandbox is worth. -/
noncomputable def Try.pinned : Pinned := { name := "ytbcimgjmidmklaa", sum := "70026c98a76494a73c2395df4e696fe7c08602c0e46d91da084b46c61e6a04db", checked := Try.checked }
namespace Rows
def none {H : Type} : Left H := { results := [], args := [] }

/-- 'hectarelaw02.CrcBlocks': WHATEVER THE INPUT: true; the input reads as it did. -/
def crcBlocksSpec : ChangeSpec := { name := "crcBlocks", fn := fun _ => fun
  | [d1, d2, d3, d4] => { results := [.lit (.bool true)], args := [d1, d2, d3, d4] }
  | _ => none }
def crcBlocksRow : OpenClaim := { program := "ytbcimgjmidmklaa", sum := "70026c98a76494a73c2395df4e696fe7c08602c0e46d91da084b46c61e6a04db", func := "hectare/hectarelaw02.CrcBlocks", spec := "crcBlocks", apart := false }
def CrcBlocksSaid : Prop := crcBlocksRow.holds Try.pinned (OpenSpec.ofChange crcBlocksSpec)

/-- ITS FALSE NEIGHBOUR: 'it returns false'. Refute it at one input. -/
def crcBlocksWrong : ChangeSpec := { name := "crcBlocks", fn := fun _ => fun
  | [d1, d2, d3, d4] => { results := [.lit (.bool false)], args := [d1, d2, d3, d4] }
  | _ => none }
def CrcBlocksWrongFalsely : Prop := crcBlocksRow.holds Try.pinned (OpenSpec.ofChange crcBlocksWrong)

/-- 'hectarelaw02.CrcAppends': WHATEVER THE INPUT: true; the input reads as it did. -/
def crcAppendsSpec : ChangeSpec := { name := "crcAppends", fn := fun _ => fun
  | [d1, d2] => { results := [.lit (.bool true)], args := [d1, d2] }
  | _ => none }
def crcAppendsRow : OpenClaim := { program := "ytbcimgjmidmklaa", sum := "70026c98a76494a73c2395df4e696fe7c08602c0e46d91da084b46c61e6a04db", func := "hectare/hectarelaw02.CrcAppends", spec := "crcAppends", apart := false }
def CrcAppendsSaid : Prop := crcAppendsRow.holds Try.pinned (OpenSpec.ofChange crcAppendsSpec)

/-- ITS FALSE NEIGHBOUR: 'it returns false'. Refute it at one input. -/
def crcAppendsWrong : ChangeSpec := { name := "crcAppends", fn := fun _ => fun
  | [d1, d2] => { results := [.lit (.bool false)], args := [d1, d2] }
  | _ => none }
def CrcAppendsWrongFalsely : Prop := crcAppendsRow.holds Try.pinned (OpenSpec.ofChange crcAppendsWrong)

/-- 'hectarelaw02.CrcMerges': WHATEVER THE INPUT: true; the input reads as it did. -/
def crcMergesSpec : ChangeSpec := { name := "crcMerges", fn := fun _ => fun
  | [d1, d2, d3, d4, d5, d6] => { results := [.lit (.bool true)], args := [d1, d2, d3, d4, d5, d6] }
  | _ => none }
def crcMergesRow : OpenClaim := { program := "ytbcimgjmidmklaa", sum := "70026c98a76494a73c2395df4e696fe7c08602c0e46d91da084b46c61e6a04db", func := "hectare/hectarelaw02.CrcMerges", spec := "crcMerges", apart := false }
def CrcMergesSaid : Prop := crcMergesRow.holds Try.pinned (OpenSpec.ofChange crcMergesSpec)

/-- ITS FALSE NEIGHBOUR: 'it returns false'. Refute it at one input. -/
def crcMergesWrong : ChangeSpec := { name := "crcMerges", fn := fun _ => fun
  | [d1, d2, d3, d4, d5, d6] => { results := [.lit (.bool false)], args := [d1, d2, d3, d4, d5, d6] }
  | _ => none }
def CrcMergesWrongFalsely : Prop := crcMergesRow.holds Try.pinned (OpenSpec.ofChange crcMergesWrong)

/-- 'hectarelaw02.CrcPads': WHATEVER THE INPUT: true; the input reads as it did. -/
def crcPadsSpec : ChangeSpec := { name := "crcPads", fn := fun _ => fun
  | [d1, d2, d3] => { results := [.lit (.bool true)], args := [d1, d2, d3] }
  | _ => none }
def crcPadsRow : OpenClaim := { program := "ytbcimgjmidmklaa", sum := "70026c98a76494a73c2395df4e696fe7c08602c0e46d91da084b46c61e6a04db", func := "hectare/hectarelaw02.CrcPads", spec := "crcPads", apart := false }
def CrcPadsSaid : Prop := crcPadsRow.holds Try.pinned (OpenSpec.ofChange crcPadsSpec)

/-- ITS FALSE NEIGHBOUR: 'it returns false'. Refute it at one input. -/
def crcPadsWrong : ChangeSpec := { name := "crcPads", fn := fun _ => fun
  | [d1, d2, d3] => { results := [.lit (.bool false)], args := [d1, d2, d3] }
  | _ => none }
def CrcPadsWrongFalsely : Prop := crcPadsRow.holds Try.pinned (OpenSpec.ofChange crcPadsWrong)

/-- 'hectarelaw02.CrcGuards': WHATEVER THE INPUT: true; the input reads as it did. -/
def crcGuardsSpec : ChangeSpec := { name := "crcGuards", fn := fun _ => fun
  | [d1, d2, d3] => { results := [.lit (.bool true)], args := [d1, d2, d3] }
  | _ => none }
def crcGuardsRow : OpenClaim := { program := "ytbcimgjmidmklaa", sum := "70026c98a76494a73c2395df4e696fe7c08602c0e46d91da084b46c61e6a04db", func := "hectare/hectarelaw02.CrcGuards", spec := "crcGuards", apart := false }
def CrcGuardsSaid : Prop := crcGuardsRow.holds Try.pinned (OpenSpec.ofChange crcGuardsSpec)

/-- ITS FALSE NEIGHBOUR: 'it returns false'. Refute it at one input. -/
def crcGuardsWrong : ChangeSpec := { name := "crcGuards", fn := fun _ => fun
  | [d1, d2, d3] => { results := [.lit (.bool false)], args := [d1, d2, d3] }
  | _ => none }
def CrcGuardsWrongFalsely : Prop := crcGuardsRow.holds Try.pinned (OpenSpec.ofChange crcGuardsWrong)

/-- 'hectarelaw02.CrcXors': WHATEVER THE INPUT: true; the input reads as it did. -/
def crcXorsSpec : ChangeSpec := { name := "crcXors", fn := fun _ => fun
  | [d1, d2, d3] => { results := [.lit (.bool true)], args := [d1, d2, d3] }
  | _ => none }
def crcXorsRow : OpenClaim := { program := "ytbcimgjmidmklaa", sum := "70026c98a76494a73c2395df4e696fe7c08602c0e46d91da084b46c61e6a04db", func := "hectare/hectarelaw02.CrcXors", spec := "crcXors", apart := false }
def CrcXorsSaid : Prop := crcXorsRow.holds Try.pinned (OpenSpec.ofChange crcXorsSpec)

/-- ITS FALSE NEIGHBOUR: 'it returns false'. Refute it at one input. -/
def crcXorsWrong : ChangeSpec := { name := "crcXors", fn := fun _ => fun
  | [d1, d2, d3] => { results := [.lit (.bool false)], args := [d1, d2, d3] }
  | _ => none }
def CrcXorsWrongFalsely : Prop := crcXorsRow.holds Try.pinned (OpenSpec.ofChange crcXorsWrong)

/- THE SECOND FORM. 'bulk': how many values and letters a reading holds, each counted each time it is reached (what is shared counts as often as it is met; a slice's spare places count too). A statement '..UptoSaid' is the law's where the arguments, and the package variables that the reading takes, are together of bulk at most 1048576: NARROWER than '..Said'. Prove '..Said' where nothing that the law and all that it calls make is longer than what came in: it says more and counts as full. Else prove '..UptoSaid'. A law counts once. -/
mutual
def uptoBulk {H : Type} : DataW H → Nat
  | .lit (.string bytes) => bytes.length + 1
  | .lit _ => 1
  | .nil => 1
  | .ptr d => uptoBulk d + 1
  | .slice elems spare => uptoBulkAll elems + uptoBulkAll spare + 1
  | .agg parts => uptoBulkAll parts + 1
  | .iface _ d => uptoBulk d + 1
  | .map entries => uptoBulkEntries entries + 1
  | .held _ => 1
def uptoBulkAll {H : Type} : List (DataW H) → Nat
  | [] => 0
  | d :: r => uptoBulk d + uptoBulkAll r
def uptoBulkEntries {H : Type} : List (Lit × DataW H) → Nat
  | [] => 0
  | x :: r => uptoBulkEntry x + uptoBulkEntries r
def uptoBulkEntry {H : Type} : Lit × DataW H → Nat
  | (.string bytes, d) => bytes.length + uptoBulk d + 1
  | (_, d) => uptoBulk d + 1
 end
def uptoSmall : (H : Type) → List (DataW H) → Bool := fun _ ds => decide (uptoBulkAll ds ≤ 1048576)
def OpenSpec.upto (s : _root_.Go.ChangeSpec) : _root_.Go.OpenSpec := { _root_.Go.OpenSpec.ofChange s with cond := some uptoSmall }

/-- 'hectarelaw02.CrcBlocks', WHERE WHAT IT READS IS OF BULK AT MOST 1048576: true; the input reads as it did. -/
def crcBlocksUptoRow : OpenClaim := { program := "ytbcimgjmidmklaa", sum := "70026c98a76494a73c2395df4e696fe7c08602c0e46d91da084b46c61e6a04db", func := "hectare/hectarelaw02.CrcBlocks", spec := "crcBlocks", apart := false, narrowed := true }
def CrcBlocksUptoSaid : Prop := crcBlocksUptoRow.holds Try.pinned (OpenSpec.upto crcBlocksSpec)

/-- 'hectarelaw02.CrcAppends', WHERE WHAT IT READS IS OF BULK AT MOST 1048576: true; the input reads as it did. -/
def crcAppendsUptoRow : OpenClaim := { program := "ytbcimgjmidmklaa", sum := "70026c98a76494a73c2395df4e696fe7c08602c0e46d91da084b46c61e6a04db", func := "hectare/hectarelaw02.CrcAppends", spec := "crcAppends", apart := false, narrowed := true }
def CrcAppendsUptoSaid : Prop := crcAppendsUptoRow.holds Try.pinned (OpenSpec.upto crcAppendsSpec)

/-- 'hectarelaw02.CrcMerges', WHERE WHAT IT READS IS OF BULK AT MOST 1048576: true; the input reads as it did. -/
def crcMergesUptoRow : OpenClaim := { program := "ytbcimgjmidmklaa", sum := "70026c98a76494a73c2395df4e696fe7c08602c0e46d91da084b46c61e6a04db", func := "hectare/hectarelaw02.CrcMerges", spec := "crcMerges", apart := false, narrowed := true }
def CrcMergesUptoSaid : Prop := crcMergesUptoRow.holds Try.pinned (OpenSpec.upto crcMergesSpec)

/-- 'hectarelaw02.CrcPads', WHERE WHAT IT READS IS OF BULK AT MOST 1048576: true; the input reads as it did. -/
def crcPadsUptoRow : OpenClaim := { program := "ytbcimgjmidmklaa", sum := "70026c98a76494a73c2395df4e696fe7c08602c0e46d91da084b46c61e6a04db", func := "hectare/hectarelaw02.CrcPads", spec := "crcPads", apart := false, narrowed := true }
def CrcPadsUptoSaid : Prop := crcPadsUptoRow.holds Try.pinned (OpenSpec.upto crcPadsSpec)

/-- 'hectarelaw02.CrcGuards', WHERE WHAT IT READS IS OF BULK AT MOST 1048576: true; the input reads as it did. -/
def crcGuardsUptoRow : OpenClaim := { program := "ytbcimgjmidmklaa", sum := "70026c98a76494a73c2395df4e696fe7c08602c0e46d91da084b46c61e6a04db", func := "hectare/hectarelaw02.CrcGuards", spec := "crcGuards", apart := false, narrowed := true }
def CrcGuardsUptoSaid : Prop := crcGuardsUptoRow.holds Try.pinned (OpenSpec.upto crcGuardsSpec)

/-- 'hectarelaw02.CrcXors', WHERE WHAT IT READS IS OF BULK AT MOST 1048576: true; the input reads as it did. -/
def crcXorsUptoRow : OpenClaim := { program := "ytbcimgjmidmklaa", sum := "70026c98a76494a73c2395df4e696fe7c08602c0e46d91da084b46c61e6a04db", func := "hectare/hectarelaw02.CrcXors", spec := "crcXors", apart := false, narrowed := true }
def CrcXorsUptoSaid : Prop := crcXorsUptoRow.holds Try.pinned (OpenSpec.upto crcXorsSpec)

end Rows
end Go.Proofs.Ytbcimgjmidmklaa
