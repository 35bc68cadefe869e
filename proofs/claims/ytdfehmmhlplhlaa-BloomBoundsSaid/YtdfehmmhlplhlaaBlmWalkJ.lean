/-
  The law of bounds, said of a world.
-/
import Derived.Test.YtdfehmmhlplhlaaBlmJ
import Derived.Test.YtdfehmmhlplhlaaEngM
namespace Go.Proofs.Ytdfehmmhlplhlaa
open Go Go.Eng Go.Crc Go.Blm

theorem bloomBounds_walk (w : World) :
    Calls Try.prog 7 #[] w fun e w' => e = .returned (.bool true) ∧ Go.RowKit.Below w.heap.size w w' := by
  refine law_calls (P := Try.prog) (bs := []) (args := []) (cargs := []) ?_ ?_ ?_
  · intro b hb; cases hb
  · exact .nil
  · exact bounds_c _
end Go.Proofs.Ytdfehmmhlplhlaa
