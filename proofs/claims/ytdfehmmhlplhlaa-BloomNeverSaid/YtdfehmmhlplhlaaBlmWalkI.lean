/-
  The laws of a key more, and of stage 7, said of a world.
-/
import Derived.Test.YtdfehmmhlplhlaaBlmI
import Derived.Test.YtdfehmmhlplhlaaEngM
import Derived.Test.YtdfehmmhlplhlaaEngO
namespace Go.Proofs.Ytdfehmmhlplhlaa
open Go Go.Eng Go.Crc Go.Blm

theorem bloomAdds_walk (a0 : Option Addr) (len0 cap0 : Nat) (z0 : List Int) (a1 : Option Addr) (len1 cap1 : Nat) (z1 : List Int) (w : World) (w0 : IsRow .u8 w a0 len0 cap0 z0) (w1 : IsRow .u8 w a1 len1 cap1 z1) :
    Calls Try.prog 8 #[.slice a0 len0 cap0, .slice a1 len1 cap1] w fun e w' => e = .returned (.bool true) ∧ Go.RowKit.Below w.heap.size w w' := by
  refine law_calls (P := Try.prog) (bs := [⟨iv .u8 (z0.take len0), atOf a0 cap0⟩, ⟨iv .u8 (z1.take len1), atOf a1 cap1⟩]) (args := [absS a0 (Try.prog.globals.size + 0) len0 cap0, absS a1 (Try.prog.globals.size + 1) len1 cap1])
    (cargs := [.slice a0 len0 cap0, .slice a1 len1 cap1]) ?_ ?_ ?_
  · intro b hb
    simp only [List.mem_cons, List.not_mem_nil, or_false] at hb
    rcases hb with rfl | rfl
    · exact w0.rob
    · exact w1.rob
  · exact .cons (w0.vrel rfl) (.cons (w1.vrel rfl) .nil)
  · exact adds_c _ _ (toB (z0.take len0)) (toB (z1.take len1)) _ (w0.rb rfl) (w1.rb rfl)

theorem bloomNever_walk (a0 : Option Addr) (len0 cap0 : Nat) (A : Nat → Option Addr) (L C : Nat → Nat) (Z : Nat → List Int) (w : World) (w0 : IsRows .u8 w a0 len0 cap0 A L C Z) :
    Calls Try.prog 9 #[.slice a0 len0 cap0] w fun e w' => e = .returned (.bool true) ∧ Go.RowKit.Below w.heap.size w w' := by
  have hc0 := w0.len_le
  simp only [maxLen] at hc0
  let bs : List RoB := ⟨outer Try.prog.globals.size 1 len0 A L C, atOf a0 cap0⟩ :: inner .u8 len0 A L C Z
  have g0 : bs[0]? = some ⟨outer Try.prog.globals.size 1 len0 A L C, atOf a0 cap0⟩ := rfl
  have gi : ∀ r, r < len0 → bs[1 + r]? = some ⟨iv .u8 ((Z r).take (L r)), atOf (A r) (C r)⟩ := fun r hr => by
    rw [Nat.add_comm]
    exact inner_get hr
  refine law_calls (P := Try.prog) (bs := bs) (args := [absS a0 (Try.prog.globals.size + 0) len0 cap0]) (cargs := [.slice a0 len0 cap0]) ?_ ?_ ?_
  · intro b hb
    rcases List.mem_cons.1 hb with rfl | hb
    · exact w0.rob gi
    · simp only [inner, List.mem_map, List.mem_range] at hb
      obtain ⟨r, hr, rfl⟩ := hb
      exact (w0.row hr).rob
  · exact .cons (w0.vrel g0) .nil
  · exact never_c _ _ _ (w0.rbb g0 gi) (by simp; omega)
end Go.Proofs.Ytdfehmmhlplhlaa
