/-
  The law of guards, said of a world.
-/
import Derived.Test.YtbcimgjmidmklaaCrcL
import Derived.Test.YtbcimgjmidmklaaEngM
namespace Go.Proofs.Ytbcimgjmidmklaa
open Go Go.Eng Go.Crc

theorem u32_ofG {n : Int} (h : 0 ≤ n ∧ n ≤ 4294967295) : Value.int .u32 n = u32 (BitVec.ofInt 32 n) := by
  unfold u32
  rw [BitVec.toNat_ofInt]
  congr 1
  omega
theorem VRel.u32G {φ : Ren} {m : Nat} {n : Int} (h : 0 ≤ n ∧ n ≤ 4294967295) : VRel φ m (Crc.u32 (BitVec.ofInt 32 n)) (.int .u32 n) := by
  rw [u32_ofG h]
  exact .int _ _
theorem row_within {W : World} {a : Option Addr} {len cap : Nat} {zs : List Int} (r : IsRow .i64 W a len cap zs) : ∀ z ∈ zs, -9223372036854775808 ≤ z ∧ z ≤ 9223372036854775807 := by
  rcases r with ⟨rfl, rfl, rfl, rfl⟩ | ⟨x, rfl, h1, h2, h3, h4, h5⟩
  · simp
  · exact fun n hn => wf_i64 (h5 n hn)

theorem crcGuards_walk (a0 : Option Addr) (len0 cap0 : Nat) (z0 : List Int) (a1 : Option Addr) (len1 cap1 : Nat) (z1 : List Int) (a2 : Int) (w : World) (w0 : IsRow .u8 w a0 len0 cap0 z0) (w1 : IsRow .i64 w a1 len1 cap1 z1) (w2 : (Lit.int .u32 a2).wf = true) :
    Calls Try.prog 7 #[.slice a0 len0 cap0, .slice a1 len1 cap1, .int .u32 a2] w fun e w' => e = .returned (.bool true) ∧ Go.RowKit.Below w.heap.size w w' := by
  have b2 := wf_u32 w2
  have l0 := w0.toB_length
  have c0 := w0.len_le
  have c1 := w1.len_le
  simp only [maxLen] at c0 c1
  refine law_calls (P := Try.prog) (bs := [⟨iv .u8 (z0.take len0), atOf a0 cap0⟩, ⟨iv .i64 (z1.take len1), atOf a1 cap1⟩]) (args := [absS a0 (Try.prog.globals.size + 0) len0 cap0, absS a1 (Try.prog.globals.size + 1) len1 cap1, u32 (BitVec.ofInt 32 a2)])
    (cargs := [.slice a0 len0 cap0, .slice a1 len1 cap1, .int .u32 a2]) ?_ ?_ ?_
  · intro b hb
    simp only [List.mem_cons, List.not_mem_nil, or_false] at hb
    rcases hb with rfl | rfl
    · exact w0.rob
    · exact w1.rob
  · exact .cons (w0.vrel rfl) (.cons (w1.vrel rfl) (.cons (VRel.u32G b2) .nil))
  · exact guards_c _ _ (toB (z0.take len0)) (z1.take len1) _ _ (w0.rb rfl) (w1.rs rfl) (by rw [l0]; omega) (by simp; omega) (fun z hz => row_within w1 z (List.mem_of_mem_take hz))
end Go.Proofs.Ytbcimgjmidmklaa
