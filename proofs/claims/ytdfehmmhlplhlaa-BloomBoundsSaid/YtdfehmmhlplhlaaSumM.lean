/-
  Sums that go on: package crc's More.
-/
import Derived.Test.YtdfehmmhlplhlaaSumB
namespace Go.Proofs.Ytdfehmmhlplhlaa
open Go Go.Eng Go.Crc

instance : FnC Try.prog 28 := ⟨Try.f28, Try.func28, by kernel_rfl, by kernel_rfl⟩

set_option maxHeartbeats 400000 in
theorem more_c (s : W) (v : Value) (l : List UInt8) (h : Heap) (hr : RB h v l) (hl : l.length ≤ 9223372036854775807) :
    ACalls Try.prog 28 [u32 s, v] h fun u h' => u = u32 (more s l) ∧ h' = h := by
  refine ACalls.wf fun wf => ACalls.reset ?_
  refine ACalls.body Try.func28 rfl rfl ?_
  repeat (first | refine AWp.seq ?_ | refine AWp.region ?_ | refine AL.set rfl rfl (op_moveI rfl ?_) | refine AL.set rfl rfl (op_moveS rfl ?_) | refine AL.set rfl rfl (op_moveB rfl ?_) | refine AL.set rfl rfl (op_moveP rfl ?_) | refine AL.set rfl rfl (op_moveStr rfl ?_) | refine AL.set rfl rfl (op_moveA rfl ?_) | refine AL.set rfl rfl (op_moveT rfl ?_) | refine AL.set rfl rfl (op_moveF rfl ?_) | refine AL.set rfl rfl (op_assignI rfl ?_) | refine AL.set rfl rfl (op_assignS rfl ?_) | refine AL.set rfl rfl (op_assignB rfl ?_) | refine AL.set rfl rfl (op_assignP rfl ?_) | refine AL.set rfl rfl (op_assignStr rfl ?_) | refine AL.set rfl rfl (op_assignA rfl ?_) | refine AL.set rfl rfl (op_assignF rfl ?_) | refine AL.set rfl rfl (op_move (v := v) rfl ?_) | refine AL.set rfl rfl (op_c32 rfl ?_) | refine AL.set rfl rfl (op_row [v] rfl rfl rfl rfl (by intro u hu; rw [List.mem_singleton.1 hu]; exact hr.one.1) ?_) | refine AL.set rfl rfl (op_call rfl rfl ((take_c (~~~ s) _ [l] _ (RBB.one hr (wf.ext _) (Heap.alloc_new _ _)) (by simp) (by simpa using hl)).mono ?_)) | refine AL.set rfl rfl (op_add64 rfl rfl (by omega) ?_) | refine AL.set rfl rfl (op_sub64 rfl rfl (by omega) ?_) | refine AL.set rfl rfl (op_quo64 rfl rfl (by omega) ?_) | refine AL.set rfl rfl (op_rem64 rfl rfl (by omega) ?_) | refine AL.set rfl rfl (op_mul64 rfl rfl (by omega) ?_) | refine AL.set rfl rfl (op_int rfl rfl rfl ?_) | refine AL.set rfl rfl (op_conv64 rfl (by omega) ?_) | refine AL.set rfl rfl (op_convI rfl ?_) | refine AL.set rfl rfl (op_not rfl ?_) | refine AL.set rfl rfl (op_lenS rfl ?_) | refine AL.set rfl rfl (op_lenStr rfl ?_) | refine AWp.condT rfl ?_ | refine AWp.condF rfl ?_ | refine AL.skip rfl rfl ?_ | refine AL.nil ?_ | refine AWp.ret ?_ | refine AWp.exit ?_ | refine AWp.block ?_ | refine AWp.skip ?_ | refine AWp.label ?_ | refine AWp.scope ?_)
  rintro _ _ ⟨rfl, rfl⟩
  repeat (first | refine AWp.seq ?_ | refine AWp.region ?_ | refine AL.set rfl rfl (op_moveI rfl ?_) | refine AL.set rfl rfl (op_moveS rfl ?_) | refine AL.set rfl rfl (op_moveB rfl ?_) | refine AL.set rfl rfl (op_moveP rfl ?_) | refine AL.set rfl rfl (op_moveStr rfl ?_) | refine AL.set rfl rfl (op_moveA rfl ?_) | refine AL.set rfl rfl (op_moveT rfl ?_) | refine AL.set rfl rfl (op_moveF rfl ?_) | refine AL.set rfl rfl (op_assignI rfl ?_) | refine AL.set rfl rfl (op_assignS rfl ?_) | refine AL.set rfl rfl (op_assignB rfl ?_) | refine AL.set rfl rfl (op_assignP rfl ?_) | refine AL.set rfl rfl (op_assignStr rfl ?_) | refine AL.set rfl rfl (op_assignA rfl ?_) | refine AL.set rfl rfl (op_assignF rfl ?_) | refine AL.set rfl rfl (op_c32 rfl ?_) | refine AL.set rfl rfl (op_add64 rfl rfl (by omega) ?_) | refine AL.set rfl rfl (op_sub64 rfl rfl (by omega) ?_) | refine AL.set rfl rfl (op_quo64 rfl rfl (by omega) ?_) | refine AL.set rfl rfl (op_rem64 rfl rfl (by omega) ?_) | refine AL.set rfl rfl (op_mul64 rfl rfl (by omega) ?_) | refine AL.set rfl rfl (op_int rfl rfl rfl ?_) | refine AL.set rfl rfl (op_conv64 rfl (by omega) ?_) | refine AL.set rfl rfl (op_convI rfl ?_) | refine AL.set rfl rfl (op_not rfl ?_) | refine AL.set rfl rfl (op_lenS rfl ?_) | refine AL.set rfl rfl (op_lenStr rfl ?_) | refine AWp.condT rfl ?_ | refine AWp.condF rfl ?_ | refine AL.skip rfl rfl ?_ | refine AL.nil ?_ | refine AWp.ret ?_ | refine AWp.exit ?_ | refine AWp.block ?_ | refine AWp.skip ?_ | refine AWp.label ?_ | refine AWp.scope ?_)
  refine ⟨_, ResV.tmp rfl, rfl, wf.ext _, ?_, rfl⟩
  simp only [List.flatten_cons, List.flatten_nil, List.append_nil]
  rfl
end Go.Proofs.Ytdfehmmhlplhlaa
