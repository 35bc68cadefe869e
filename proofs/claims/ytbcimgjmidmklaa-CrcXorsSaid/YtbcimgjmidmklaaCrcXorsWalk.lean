/-
  The law of xors, said of a world.
-/
import Derived.Test.YtbcimgjmidmklaaCrcI
import Derived.Test.YtbcimgjmidmklaaEngM
namespace Go.Proofs.Ytbcimgjmidmklaa
open Go Go.Eng Go.Crc

theorem crcXors_walk (a0 : Option Addr) (len0 cap0 : Nat) (z0 : List Int) (a1 : Option Addr) (len1 cap1 : Nat) (z1 : List Int) (a2 : Option Addr) (len2 cap2 : Nat) (z2 : List Int) (w : World) (w0 : IsRow .u8 w a0 len0 cap0 z0) (w1 : IsRow .u8 w a1 len1 cap1 z1) (w2 : IsRow .u8 w a2 len2 cap2 z2) :
    Calls Try.prog 8 #[.slice a0 len0 cap0, .slice a1 len1 cap1, .slice a2 len2 cap2] w fun e w' => e = .returned (.bool true) ∧ Go.RowKit.Below w.heap.size w w' := by
  have l0 := w0.toB_length
  have l1 := w1.toB_length
  have l2 := w2.toB_length
  have c0 := w0.len_le
  have c1 := w1.len_le
  have c2 := w2.len_le
  simp only [maxLen] at c0 c1 c2
  refine law_calls (P := Try.prog) (bs := [⟨iv .u8 (z0.take len0), atOf a0 cap0⟩, ⟨iv .u8 (z1.take len1), atOf a1 cap1⟩, ⟨iv .u8 (z2.take len2), atOf a2 cap2⟩]) (args := [absS a0 (Try.prog.globals.size + 0) len0 cap0, absS a1 (Try.prog.globals.size + 1) len1 cap1, absS a2 (Try.prog.globals.size + 2) len2 cap2])
    (cargs := [.slice a0 len0 cap0, .slice a1 len1 cap1, .slice a2 len2 cap2]) ?_ ?_ ?_
  · intro b hb
    simp only [List.mem_cons, List.not_mem_nil, or_false] at hb
    rcases hb with rfl | rfl | rfl
    · exact w0.rob
    · exact w1.rob
    · exact w2.rob
  · exact .cons (w0.vrel rfl) (.cons (w1.vrel rfl) (.cons (w2.vrel rfl) .nil))
  · exact xors_c _ _ _ (toB (z0.take len0)) (toB (z1.take len1)) (toB (z2.take len2)) _ (w0.rb rfl) (w1.rb rfl) (w2.rb rfl) (by rw [l0]; omega) (by rw [l1]; omega) (by rw [l2]; omega)
end Go.Proofs.Ytbcimgjmidmklaa
