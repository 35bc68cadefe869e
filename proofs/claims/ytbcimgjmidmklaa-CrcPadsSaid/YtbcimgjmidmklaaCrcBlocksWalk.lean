/-
  The law of blocks, said of a world.
-/
import Derived.Test.YtbcimgjmidmklaaCrcE
import Derived.Test.YtbcimgjmidmklaaEngM
namespace Go.Proofs.Ytbcimgjmidmklaa
open Go Go.Eng Go.Crc

theorem u32_of {n : Int} (h : 0 ≤ n ∧ n ≤ 4294967295) : Value.int .u32 n = u32 (BitVec.ofInt 32 n) := by
  unfold u32
  rw [BitVec.toNat_ofInt]
  congr 1
  omega
theorem VRel.u32 {φ : Ren} {m : Nat} {n : Int} (h : 0 ≤ n ∧ n ≤ 4294967295) : VRel φ m (Crc.u32 (BitVec.ofInt 32 n)) (.int .u32 n) := by
  rw [u32_of h]
  exact .int _ _

theorem crcBlocks_walk (a0 : Option Addr) (len0 cap0 : Nat) (z0 : List Int) (a1 : Int) (a2 : Int) (a3 : Int) (w : World) (w0 : IsRow .u8 w a0 len0 cap0 z0) (w1 : (Lit.int .i64 a1).wf = true) (w2 : (Lit.int .i64 a2).wf = true) (w3 : (Lit.int .u32 a3).wf = true) :
    Calls Try.prog 3 #[.slice a0 len0 cap0, .int .i64 a1, .int .i64 a2, .int .u32 a3] w fun e w' => e = .returned (.bool true) ∧ Go.RowKit.Below w.heap.size w w' := by
  have b1 := wf_i64 w1
  have b2 := wf_i64 w2
  have b3 := wf_u32 w3
  have hl := w0.toB_length
  have hc := w0.len_le
  simp only [maxLen] at hc
  refine law_calls (P := Try.prog) (bs := [⟨iv .u8 (z0.take len0), atOf a0 cap0⟩]) (args := [absS a0 (Try.prog.globals.size + 0) len0 cap0, .int .i64 a1, .int .i64 a2, u32 (BitVec.ofInt 32 a3)]) (cargs := [.slice a0 len0 cap0, .int .i64 a1, .int .i64 a2, .int .u32 a3]) ?_ ?_ ?_
  · intro b hb
    rw [List.mem_singleton.1 hb]
    exact w0.rob
  · exact .cons (w0.vrel rfl) (.cons (.int _ _) (.cons (.int _ _) (.cons (VRel.u32 b3) .nil)))
  · exact blocks_c _ (toB (z0.take len0)) a1 a2 _ _ (w0.rb rfl) (by rw [hl]; omega) b1.1 b1.2 b2.1 b2.2
end Go.Proofs.Ytbcimgjmidmklaa
