/-
  The engine, part X: a function against nil; a result that lies in one cell.
-/
import Derived.Test.YtjbnfcoiknoblaaEngW
namespace Go.Eng
open Go

section
variable {P : Program} {ρ : Operand → Value} {h : Heap} {K : Value → Heap → Prop} {dst : Option Tmp} {ty : TypeId} {pos : String} {aft : Array Edge} {g : Option (Nat × Bool)}
theorem run_equalIn_funcNil {t : TypeId} {ps rs : Array TypeId} {vr : Bool} [ti : TyD P t (.func ps rs vr)] (fn : Fn) (f c : Array Value) (w : World) (d : Nat) : (Op.equalIn (d + 1) t (.func fn f c) .nilFunc).run P w = .ok false w := by
  simp [Op.equalIn, ti.run]
theorem op_eqFuncNil {t t' : TypeId} {ps rs : Array TypeId} {vr : Bool} {x y : Operand} {fn : Fn} {f c : Array Value} [ti : TyD P t (.func ps rs vr)] (hx : ρ x = .func fn f c) (hy : ρ y = .nilFunc) (kk : K (.bool false) h) : AOp P ⟨dst, .binOp .eql t x y t', ty, pos, aft, g⟩ ρ h K :=
  .of_pure kk fun φ ac w r => by
    obtain ⟨f', c', e1, _⟩ := (hx ▸ r.ev x (by simp [Op.operands])).func_inv
    have e2 := (hy ▸ r.ev y (by simp [Op.operands])).nilFunc_inv
    have e3 : (Op.equal t (.func fn f' c') .nilFunc).run P w = .ok false w := run_equalIn_funcNil fn f' c' w 9999
    exact ⟨_, by simp [execOp, e1, e2, eqGuard, binOp, e3], .bool _⟩
theorem op_boolEqT {t t' : TypeId} {x y : Operand} {a b : Bool} [ti : TyD P t .bool] (hx : ρ x = .bool a) (hy : ρ y = .bool b) (he : a = b) (kk : K (.bool true) h) : AOp P ⟨dst, .binOp .eql t x y t', ty, pos, aft, g⟩ ρ h K :=
  op_boolEq hx hy (by rw [show (a == b) = true from by rw [he]; exact beq_self_eq_true b]; exact kk)
theorem op_boolNeF {t t' : TypeId} {x y : Operand} {a b : Bool} [ti : TyD P t .bool] (hx : ρ x = .bool a) (hy : ρ y = .bool b) (he : a = b) (kk : K (.bool false) h) : AOp P ⟨dst, .binOp .neq t x y t', ty, pos, aft, g⟩ ρ h K :=
  op_boolNe hx hy (by rw [show (a != b) = false from by rw [he]; exact bne_self_eq_false b]; exact kk)
/-- A result that lies in one cell. -/
theorem ResV.cell {fn : Func} {env : Env} {a : Tmp} {t : TypeId} {i o : Nat} {s : Option Nat} {b : Blk} {d : TypeDesc} {v : Value} [td : TyD P t d] (hr : fn.results = #[.cell a t]) (hx : env.get a = .pointer (some ⟨i, o, s⟩)) (ha : aggB d = false)
    (hi : h.get i = some b) (hv : b.cells[o]? = some v) : ResV P fn env h v := by
  intro N φ tmps w r
  obtain ⟨_, _, e1⟩ := (hx ▸ r.env a).ptr_inv
  obtain ⟨c, hc, hr2⟩ := r.sim.cell hi hv
  refine ⟨c, ?_, hr2⟩
  simp only [results, hr]
  simp only [List.mapM_toArray, List.mapM_cons, List.mapM_nil, Sem.run_bind, Sem.run_map, Sem.run_pure, e1]
  simp [asAddr, loadVar, td.isAgg, ha, hc]
end
/-- An operation of which it is not known whether it is asked for; its value is not looked at. -/
theorem AL.both {P : Program} {N : Nat} {ops : Array Oper} {rest : List Oper} {Q : Exit → Env → Heap → Prop} {env : Env} {h : Heap} {d : Tmp} {op : Op} {ty : TypeId} {pos : String} {aft : Array Edge} {g : Option (Nat × Bool)} (hd : Nat.blt d N = true)
    (p : AOp P ⟨some d, op, ty, pos, aft, g⟩ (ev P env) h fun _ h' => h' = h) (q : AL P N ops rest Q ((d, undef) :: env) h) : AL P N ops (⟨some d, op, ty, pos, aft, g⟩ :: rest) Q env h := by
  intro φ a w hdf r
  simp only [wpList]
  split
  · refine .inl (p φ a w ⟨r.sim, fun x _ => r.ev x⟩ _ _ fun c w' φ' h' v k _ s st => ?_)
    subst k
    exact wpList_mono (fun _ _ _ hp => hp.trans st) _ _ _ (q φ' _ w' (by rw [put_defers]; exact hdf) ((r.step s st).put (some d) (dstB_lt hd) (.und _)))
  · exact q φ _ w (by rw [put_defers]; exact hdf) (r.put (some d) (dstB_lt hd) (.und _))
end Go.Eng
