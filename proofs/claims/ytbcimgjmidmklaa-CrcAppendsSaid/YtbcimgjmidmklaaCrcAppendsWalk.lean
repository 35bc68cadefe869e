/-
  The law of appends, said of a world.
-/
import Derived.Test.YtbcimgjmidmklaaCrcF
import Derived.Test.YtbcimgjmidmklaaEngO
import Derived.Test.YtbcimgjmidmklaaCrcBlocksWalk
namespace Go.Proofs.Ytbcimgjmidmklaa
open Go Go.Eng Go.Crc

theorem crcAppends_walk (a0 : Option Addr) (len0 cap0 : Nat) (z0 : List Int) (a1 : Option Addr) (len1 cap1 : Nat) (A : Nat → Option Addr) (L C : Nat → Nat) (Z : Nat → List Int) (w : World) (w0 : IsRow .u8 w a0 len0 cap0 z0) (w1 : IsRows .u8 w a1 len1 cap1 A L C Z) :
    Calls Try.prog 4 #[.slice a0 len0 cap0, .slice a1 len1 cap1] w fun e w' => e = .returned (.bool true) ∧ Go.RowKit.Below w.heap.size w w' := by
  have hl := w0.toB_length
  have hc := w0.len_le
  have hc1 := w1.len_le
  simp only [maxLen] at hc hc1
  let bs : List RoB := ⟨iv .u8 (z0.take len0), atOf a0 cap0⟩ :: ⟨outer Try.prog.globals.size 2 len1 A L C, atOf a1 cap1⟩ :: inner .u8 len1 A L C Z
  have g0 : bs[0]? = some ⟨iv .u8 (z0.take len0), atOf a0 cap0⟩ := rfl
  have g1 : bs[1]? = some ⟨outer Try.prog.globals.size 2 len1 A L C, atOf a1 cap1⟩ := rfl
  have gi : ∀ r, r < len1 → bs[2 + r]? = some ⟨iv .u8 ((Z r).take (L r)), atOf (A r) (C r)⟩ := fun r hr => by
    rw [Nat.add_comm]
    exact inner_get hr
  refine law_calls (P := Try.prog) (bs := bs) (args := [absS a0 (Try.prog.globals.size + 0) len0 cap0, absS a1 (Try.prog.globals.size + 1) len1 cap1]) (cargs := [.slice a0 len0 cap0, .slice a1 len1 cap1]) ?_ ?_ ?_
  · intro b hb
    rcases List.mem_cons.1 hb with rfl | hb
    · exact w0.rob
    · rcases List.mem_cons.1 hb with rfl | hb
      · exact w1.rob gi
      · simp only [inner, List.mem_map, List.mem_range] at hb
        obtain ⟨r, hr, rfl⟩ := hb
        exact (w1.row hr).rob
  · exact .cons (w0.vrel g0) (.cons (w1.vrel g1) .nil)
  · refine appends_c _ _ (toB (z0.take len0)) _ _ (w0.rb g0) (w1.rbb g1 gi) (by rw [hl]; omega) (by simp; omega) ?_
    intro l hm
    simp only [List.mem_map, List.mem_range] at hm
    obtain ⟨r, hr, rfl⟩ := hm
    have h1 := (w1.row hr).toB_length
    have h2 := (w1.row hr).len_le
    simp only [maxLen] at h2
    omega
end Go.Proofs.Ytbcimgjmidmklaa
