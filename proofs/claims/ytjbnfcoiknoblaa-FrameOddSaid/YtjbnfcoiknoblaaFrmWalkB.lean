/-
  The laws of reading, said of a world.
-/
import Derived.Test.YtjbnfcoiknoblaaFrmI
import Derived.Test.YtjbnfcoiknoblaaEngM
namespace Go.Proofs.Ytjbnfcoiknoblaa
open Go Go.Eng Go.Crc Go.Frm

theorem frameReads_walk (a0 : Option Addr) (len0 cap0 : Nat) (z0 : List Int) (a1 : Int) (w : World) (w0 : IsRow .u8 w a0 len0 cap0 z0) (_ : (Lit.int .i64 a1).wf = true) :
    Calls Try.prog 5 #[.slice a0 len0 cap0, .int .i64 a1] w fun e w' => e = .returned (.bool true) ∧ Go.RowKit.Below w.heap.size w w' := by
  refine law_calls (P := Try.prog) (bs := [⟨iv .u8 (z0.take len0), atOf a0 cap0⟩]) (args := [absS a0 (Try.prog.globals.size + 0) len0 cap0, .int .i64 a1]) (cargs := [.slice a0 len0 cap0, .int .i64 a1]) ?_ ?_ ?_
  · intro b hb
    rw [List.mem_singleton.1 hb]
    exact w0.rob
  · exact .cons (w0.vrel rfl) (.cons (.int _ _) .nil)
  · exact readsL_c _ (toB (z0.take len0)) _ _ (w0.rb rfl)

theorem frameOdd_walk (a0 : Option Addr) (len0 cap0 : Nat) (z0 : List Int) (w : World) (w0 : IsRow .u8 w a0 len0 cap0 z0) :
    Calls Try.prog 6 #[.slice a0 len0 cap0] w fun e w' => e = .returned (.bool true) ∧ Go.RowKit.Below w.heap.size w w' := by
  refine law_calls (P := Try.prog) (bs := [⟨iv .u8 (z0.take len0), atOf a0 cap0⟩]) (args := [absS a0 (Try.prog.globals.size + 0) len0 cap0]) (cargs := [.slice a0 len0 cap0]) ?_ ?_ ?_
  · intro b hb
    rw [List.mem_singleton.1 hb]
    exact w0.rob
  · exact .cons (w0.vrel rfl) .nil
  · exact oddL_c _ (toB (z0.take len0)) _ (w0.rb rfl)

theorem frameOne_walk (a0 : Option Addr) (len0 cap0 : Nat) (z0 : List Int) (w : World) (w0 : IsRow .u8 w a0 len0 cap0 z0) :
    Calls Try.prog 7 #[.slice a0 len0 cap0] w fun e w' => e = .returned (.bool true) ∧ Go.RowKit.Below w.heap.size w w' := by
  refine law_calls (P := Try.prog) (bs := [⟨iv .u8 (z0.take len0), atOf a0 cap0⟩]) (args := [absS a0 (Try.prog.globals.size + 0) len0 cap0]) (cargs := [.slice a0 len0 cap0]) ?_ ?_ ?_
  · intro b hb
    rw [List.mem_singleton.1 hb]
    exact w0.rob
  · exact .cons (w0.vrel rfl) .nil
  · exact oneL_c _ (toB (z0.take len0)) _ (w0.rb rfl)
end Go.Proofs.Ytjbnfcoiknoblaa
