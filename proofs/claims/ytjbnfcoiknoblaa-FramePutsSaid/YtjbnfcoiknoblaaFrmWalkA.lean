/-
  The laws of sizes, of payloads, of bounds, said of a world.
-/
import Derived.Test.YtjbnfcoiknoblaaFrmF
import Derived.Test.YtjbnfcoiknoblaaEngM
namespace Go.Proofs.Ytjbnfcoiknoblaa
open Go Go.Eng Go.Crc Go.Frm

theorem frameSizes_walk (a0 : Int) (w0 : (Lit.int .i64 a0).wf = true) (w : World) :
    Calls Try.prog 4 #[.int .i64 a0] w fun e w' => e = .returned (.bool true) ∧ Go.RowKit.Below w.heap.size w w' := by
  refine law_calls (P := Try.prog) (bs := []) (args := [.int .i64 a0]) (cargs := [.int .i64 a0]) ?_ ?_ ?_
  · intro b hb; cases hb
  · exact .cons (.int _ _) .nil
  · exact sizesL_c _ _ (wf_i64 w0)

theorem frameLong_walk (w : World) :
    Calls Try.prog 9 #[] w fun e w' => e = .returned (.bool true) ∧ Go.RowKit.Below w.heap.size w w' := by
  refine law_calls (P := Try.prog) (bs := []) (args := []) (cargs := []) ?_ ?_ ?_
  · intro b hb; cases hb
  · exact .nil
  · exact longL_c _

theorem framePuts_walk (a0 : Option Addr) (len0 cap0 : Nat) (z0 : List Int) (w : World) (w0 : IsRow .u8 w a0 len0 cap0 z0) :
    Calls Try.prog 3 #[.slice a0 len0 cap0] w fun e w' => e = .returned (.bool true) ∧ Go.RowKit.Below w.heap.size w w' := by
  refine law_calls (P := Try.prog) (bs := [⟨iv .u8 (z0.take len0), atOf a0 cap0⟩]) (args := [absS a0 (Try.prog.globals.size + 0) len0 cap0]) (cargs := [.slice a0 len0 cap0]) ?_ ?_ ?_
  · intro b hb
    rw [List.mem_singleton.1 hb]
    exact w0.rob
  · exact .cons (w0.vrel rfl) .nil
  · exact putsL_c _ (toB (z0.take len0)) _ (w0.rb rfl)
end Go.Proofs.Ytjbnfcoiknoblaa
