/-
  Two operations that are the same: what '==' tells.
-/
import Derived.Test.YtmijmfgclmaodaaGreatDoorOp3
namespace Go.Proofs.YtmijmfgclmaodaaGreatDoor
open Go.RowKit

theorem eqFields_self {P : Program} (d : Nat) (xs : Array Value) (w : World) : ∀ (fs : List Field), (∀ f ∈ fs, ∃ v, (part f.type xs f.offset).run P w = .ok v w ∧ (Op.equalIn d f.type v v).run P w = .ok true w) → (Op.eqFields d xs xs fs).run P w = .ok true w
  | [], _ => by simp [Op.eqFields]
  | f :: fs, h => by
    obtain ⟨v, h1, h2⟩ := h f (by simp)
    have ih := eqFields_self d xs w fs (fun g hg => h g (by simp [hg]))
    rw [Op.eqFields]
    split
    · simp only [Sem.run_bind, h1, Result.andThen_ok, h2, Bool.not_true, Bool.false_eq_true, if_false]
      exact ih
    · exact ih
theorem act_eq_self (d : Nat) (k c n : ByteArray) (w : World) : (Op.equalIn (d + 2) 44 (.agg #[.string k, .string c, .string n]) (.agg #[.string k, .string c, .string n])).run Tryz.prog w = .ok true w := by
  rw [run_equalIn_agg w (d + 1) 44 _ _ (by kernel_rfl) (by kernel_rfl)]
  refine eqFields_self _ _ _ _ ?_
  simp only [Program.fieldsOf, Tryz.underlying44]
  simp only [List.forall_mem_cons]
  refine ⟨⟨.string k, by go_simp, by (go_simp; try simp)⟩, ⟨.string c, by go_simp, by (go_simp; try simp)⟩, ⟨.string n, by go_simp, by (go_simp; try simp)⟩, ?_⟩
  simp
theorem op_eq_self (o : Opr) (w : World) : (binOp .eql 46 (.agg (opA o)) (.agg (opA o))).run Tryz.prog w = .ok (.bool true) w := by
  rw [run_eql_struct, show (10000 : Nat) = 9999 + 1 from rfl, run_equalIn_agg w 9999 46 _ _ (by kernel_rfl) (by kernel_rfl)]
  have h : (Op.eqFields 9999 (opA o) (opA o) (Tryz.prog.fieldsOf 46).toList).run Tryz.prog w = .ok true w := by
    refine eqFields_self _ _ _ _ ?_
    simp only [Program.fieldsOf, Tryz.underlying46]
    simp only [List.forall_mem_cons]
    refine ⟨⟨.int .i64 o.id, by (simp only [opA]; go_simp), by (go_simp; try simp)⟩, ⟨.int .i64 o.tenant, by (simp only [opA]; go_simp), by (go_simp; try simp)⟩, ⟨.int .i64 o.inv, by (simp only [opA]; go_simp), by (go_simp; try simp)⟩, ⟨.agg #[.string o.key, .string o.cmd, .string o.need], by (simp only [opA]; go_simp; try simp), act_eq_self 9997 o.key o.cmd o.need w⟩, ⟨.int .i64 o.cost, by (simp only [opA]; go_simp), by (go_simp; try simp)⟩, ⟨.int .i64 o.cls, by (simp only [opA]; go_simp), by (go_simp; try simp)⟩, ⟨.int .i64 o.state, by (simp only [opA]; go_simp), by (go_simp; try simp)⟩, ⟨.int .i64 o.att, by (simp only [opA]; go_simp), by (go_simp; try simp)⟩, ⟨.int .i64 o.ret, by (simp only [opA]; go_simp), by (go_simp; try simp)⟩, ⟨.int .i64 o.pre, by (simp only [opA]; go_simp), by (go_simp; try simp)⟩, ⟨.int .i64 o.code, by (simp only [opA]; go_simp), by (go_simp; try simp)⟩, ⟨.int .i64 o.ep, by (simp only [opA]; go_simp), by (go_simp; try simp)⟩, ⟨.int .i64 o.wk, by (simp only [opA]; go_simp), by (go_simp; try simp)⟩, ⟨.int .u64 o.dl, by (simp only [opA]; go_simp), by (go_simp; try simp)⟩, ⟨.int .u64 o.wake, by (simp only [opA]; go_simp), by (go_simp; try simp)⟩, ⟨.int .u64 o.st, by (simp only [opA]; go_simp), by (go_simp; try simp)⟩, ?_⟩
    simp
  rw [h]
  rfl
theorem op_neq_self (o : Opr) (w : World) : (binOp .neq 46 (.agg (opA o)) (.agg (opA o))).run Tryz.prog w = .ok (.bool false) w := by
  rw [run_neq_struct, show (10000 : Nat) = 9999 + 1 from rfl, run_equalIn_agg w 9999 46 _ _ (by kernel_rfl) (by kernel_rfl)]
  have h : (Op.eqFields 9999 (opA o) (opA o) (Tryz.prog.fieldsOf 46).toList).run Tryz.prog w = .ok true w := by
    refine eqFields_self _ _ _ _ ?_
    simp only [Program.fieldsOf, Tryz.underlying46]
    simp only [List.forall_mem_cons]
    refine ⟨⟨.int .i64 o.id, by (simp only [opA]; go_simp), by (go_simp; try simp)⟩, ⟨.int .i64 o.tenant, by (simp only [opA]; go_simp), by (go_simp; try simp)⟩, ⟨.int .i64 o.inv, by (simp only [opA]; go_simp), by (go_simp; try simp)⟩, ⟨.agg #[.string o.key, .string o.cmd, .string o.need], by (simp only [opA]; go_simp; try simp), act_eq_self 9997 o.key o.cmd o.need w⟩, ⟨.int .i64 o.cost, by (simp only [opA]; go_simp), by (go_simp; try simp)⟩, ⟨.int .i64 o.cls, by (simp only [opA]; go_simp), by (go_simp; try simp)⟩, ⟨.int .i64 o.state, by (simp only [opA]; go_simp), by (go_simp; try simp)⟩, ⟨.int .i64 o.att, by (simp only [opA]; go_simp), by (go_simp; try simp)⟩, ⟨.int .i64 o.ret, by (simp only [opA]; go_simp), by (go_simp; try simp)⟩, ⟨.int .i64 o.pre, by (simp only [opA]; go_simp), by (go_simp; try simp)⟩, ⟨.int .i64 o.code, by (simp only [opA]; go_simp), by (go_simp; try simp)⟩, ⟨.int .i64 o.ep, by (simp only [opA]; go_simp), by (go_simp; try simp)⟩, ⟨.int .i64 o.wk, by (simp only [opA]; go_simp), by (go_simp; try simp)⟩, ⟨.int .u64 o.dl, by (simp only [opA]; go_simp), by (go_simp; try simp)⟩, ⟨.int .u64 o.wake, by (simp only [opA]; go_simp), by (go_simp; try simp)⟩, ⟨.int .u64 o.st, by (simp only [opA]; go_simp), by (go_simp; try simp)⟩, ?_⟩
    simp
  rw [h]
  rfl
theorem act_neq_self (k c n : ByteArray) (w : World) : (binOp .neq 44 (.agg #[.string k, .string c, .string n]) (.agg #[.string k, .string c, .string n])).run Tryz.prog w = .ok (.bool false) w := by
  rw [run_neq_struct, show (10000 : Nat) = 9998 + 2 from rfl, act_eq_self 9998 k c n w]
  rfl
theorem op_guard : Tryz.prog.eqGuardType Tryz.prog.depth 46 = false := by kernel_rfl
/-- '==' of an operation and itself. -/
theorem wpList_op_eql {w : World} {ops : Array Oper} {rest : List Oper} {o : Oper} {a : Act} {Q : Exit → Act → World → Prop} {p : Opr} {tr : TypeId} (hgd : o.guard = none) (x y : Operand) (ho : o.op = .binOp .eql 46 x y tr)
    (hx : a.eval x = .agg (opA p)) (hy : a.eval y = .agg (opA p)) (h : wpList Tryz.prog ops Q rest (a.put o.dst (.bool true)) w) : wpList Tryz.prog ops Q (o :: rest) a w := by
  refine wpList_plain hgd fun K hK => ?_
  have hrun : (execOp a.eval o).run Tryz.prog w = .ok (.value (.bool true)) w := by
    simp only [execOp, ho, hx, hy, Sem.run_bind, run_eqGuard_agg _ _ _ _ _ _ _ op_guard, Result.andThen_ok, op_eq_self]
    rfl
  unfold Oper.wp
  rw [hrun, Oper.upon_value]
  exact hK _ _ h
theorem wpList_op_neq {w : World} {ops : Array Oper} {rest : List Oper} {o : Oper} {a : Act} {Q : Exit → Act → World → Prop} {p : Opr} {tr : TypeId} (hgd : o.guard = none) (x y : Operand) (ho : o.op = .binOp .neq 46 x y tr)
    (hx : a.eval x = .agg (opA p)) (hy : a.eval y = .agg (opA p)) (h : wpList Tryz.prog ops Q rest (a.put o.dst (.bool false)) w) : wpList Tryz.prog ops Q (o :: rest) a w := by
  refine wpList_plain hgd fun K hK => ?_
  have hrun : (execOp a.eval o).run Tryz.prog w = .ok (.value (.bool false)) w := by
    simp only [execOp, ho, hx, hy, Sem.run_bind, run_eqGuard_agg _ _ _ _ _ _ _ op_guard, Result.andThen_ok, op_neq_self]
    rfl
  unfold Oper.wp
  rw [hrun, Oper.upon_value]
  exact hK _ _ h
end Go.Proofs.YtmijmfgclmaodaaGreatDoor
