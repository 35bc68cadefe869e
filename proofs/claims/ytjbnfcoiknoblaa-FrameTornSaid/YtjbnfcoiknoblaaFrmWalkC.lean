/-
  The theorem of stage 4, said of a world.
-/
import Derived.Test.YtjbnfcoiknoblaaFrmK
import Derived.Test.YtjbnfcoiknoblaaEngO
namespace Go.Proofs.Ytjbnfcoiknoblaa
open Go Go.Eng Go.Crc Go.Frm

theorem frameTorn_walk (a0 : Option Addr) (len0 cap0 : Nat) (A : Nat → Option Addr) (L C : Nat → Nat) (Z : Nat → List Int) (a1 a2 : Int) (w : World) (w0 : IsRows .u8 w a0 len0 cap0 A L C Z) (ws : len0 ≤ 140737488355328 ∧ ∀ r, r < len0 → L r ≤ 140737488355328) :
    Calls Try.prog 8 #[.slice a0 len0 cap0, .int .i64 a1, .int .i64 a2] w fun e w' => e = .returned (.bool true) ∧ Go.RowKit.Below w.heap.size w w' := by
  have hc0 := ws.1
  let bs : List RoB := ⟨outer Try.prog.globals.size 1 len0 A L C, atOf a0 cap0⟩ :: inner .u8 len0 A L C Z
  have g0 : bs[0]? = some ⟨outer Try.prog.globals.size 1 len0 A L C, atOf a0 cap0⟩ := rfl
  have gi : ∀ r, r < len0 → bs[1 + r]? = some ⟨iv .u8 ((Z r).take (L r)), atOf (A r) (C r)⟩ := fun r hr => by
    rw [Nat.add_comm]
    exact inner_get hr
  refine law_calls (P := Try.prog) (bs := bs) (args := [absS a0 (Try.prog.globals.size + 0) len0 cap0, .int .i64 a1, .int .i64 a2]) (cargs := [.slice a0 len0 cap0, .int .i64 a1, .int .i64 a2]) ?_ ?_ ?_
  · intro b hb
    rcases List.mem_cons.1 hb with rfl | hb
    · exact w0.rob gi
    · simp only [inner, List.mem_map, List.mem_range] at hb
      obtain ⟨r, hr, rfl⟩ := hb
      exact (w0.row hr).rob
  · exact .cons (w0.vrel g0) (.cons (.int _ _) (.cons (.int _ _) .nil))
  · refine tornL_c _ _ _ _ _ (w0.rbb g0 gi) (by simp; omega) ?_
    intro p hp
    simp only [List.mem_map, List.mem_range] at hp
    obtain ⟨r, hr, rfl⟩ := hp
    have hq := ws.2 r hr
    rw [(w0.row hr).toB_length]
    omega
end Go.Proofs.Ytjbnfcoiknoblaa
