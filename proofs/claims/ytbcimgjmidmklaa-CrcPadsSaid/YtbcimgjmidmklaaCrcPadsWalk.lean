/-
  The law of padding, said of a world.
-/
import Derived.Test.YtbcimgjmidmklaaCrcJ
import Derived.Test.YtbcimgjmidmklaaCrcBlocksWalk
namespace Go.Proofs.Ytbcimgjmidmklaa
open Go Go.Eng Go.Crc

theorem crcPads_walk (a0 : Int) (a1 : Int) (a2 : Int) (w0 : (Lit.int .u32 a0).wf = true) (w1 : (Lit.int .i64 a1).wf = true) (w2 : (Lit.int .i64 a2).wf = true) (w : World) :
    Calls Try.prog 6 #[.int .u32 a0, .int .i64 a1, .int .i64 a2] w fun e w' => e = .returned (.bool true) ∧ Go.RowKit.Below w.heap.size w w' := by
  have b0 := wf_u32 w0
  have b1 := wf_i64 w1
  have b2 := wf_i64 w2
  refine law_calls (P := Try.prog) (bs := []) (args := [u32 (BitVec.ofInt 32 a0), .int .i64 a1, .int .i64 a2]) (cargs := [.int .u32 a0, .int .i64 a1, .int .i64 a2]) ?_ ?_ ?_
  · intro b hb
    cases hb
  · exact .cons (VRel.u32 b0) (.cons (.int _ _) (.cons (.int _ _) .nil))
  · exact pads_c _ a1 a2 _ b1.1 b1.2 b2.1 b2.2
end Go.Proofs.Ytbcimgjmidmklaa
