/-
  The engine, part R: calls whose answer is known and that leave nothing.
-/
import Derived.Test.YtdfehmmhlplhlaaEngQ
namespace Go.Eng
open Go

variable {P : Program} {ρ : Operand → Value} {h : Heap} {K : Value → Heap → Prop} {dst : Option Tmp} {ty : TypeId} {pos : String} {aft : Array Edge} {g : Option (Nat × Bool)}

theorem op_callS {x : Operand} {f : FuncId} {fi ca : Array Value} {args : Array Operand} {aT : Array TypeId} [fc : FnC P f] {evs : List Value} {v : Value} (hx : ρ x = .func (.func f) fi ca) (he : fi.toList ++ (args.toList.map ρ ++ ca.toList) = evs)
    (c : ACalls P f evs h fun u h' => u = v ∧ h' = h) (kk : K v h) : AOp P ⟨dst, .call ⟨.value x, args, aT⟩, ty, pos, aft, g⟩ ρ h K :=
  op_call hx he (c.mono (by rintro u h' ⟨rfl, rfl⟩; exact kk))
theorem ACalls.val {f : FuncId} {args : List Value} {v v' : Value} (e : v = v') (c : ACalls P f args h fun u h' => u = v ∧ h' = h) : ACalls P f args h fun u h' => u = v' ∧ h' = h := e ▸ c
end Go.Eng
