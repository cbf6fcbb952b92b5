/-
  More small laws: a struct loaded whole inside a region that draws its order.
-/
import Derived.Test.YtmijmfgclmaodaaGreatDoorLib
namespace Go.Proofs.YtmijmfgclmaodaaGreatDoor
open Go.RowKit

/-- A struct or an array is loaded whole, inside a region that draws its order and lays memory. -/
theorem wpQuiet_load_agg {P : Program} {w0 : World} {ops : Array Oper} {rest : List Oper} {o : Oper} {a : Act} {Q : Act → Prop} {g : Nat} {cs : Array Value} {t : TypeId} {fr : Nat × Nat} {d : TypeDesc} (ty : TypeId) (hg : w0.heap[g]? = some (.cells cs t fr))
    (hu : P.underlying ty = some d) (hd : (match d with | .struct _ | .array _ _ => true | _ => false) = true) (hi : (P.info? ty).map (·.size) = some cs.size)
    (hw : Region.wanted o (yielded ops a.tmps) = true) (x : Operand) (ho : o.op = .load ty x) (hx : a.eval x = .pointer (some ⟨g, 0, none⟩))
    (h : wpQuiet P ops (fun w' => ∃ p : Regrown, w' = Go.Sort.grow (redrawn w0 p.d) p.os) Q rest (a.put o.dst (.agg cs))) : wpQuiet P ops (fun w' => ∃ p : Regrown, w' = Go.Sort.grow (redrawn w0 p.d) p.os) Q (o :: rest) a := by
  refine BigFrame.wpQuiet_want hw fun K hK => ⟨.agg cs, fun w hC => ?_, hK _ h⟩
  obtain ⟨p, rfl⟩ := hC
  have hg' : (Go.Sort.grow (redrawn w0 p.d) p.os).heap[g]? = some (.cells cs t fr) := by
    rw [(below_regrown w0 p.d p.os).block g (Array.getElem?_eq_some_iff.1 hg).1]
    exact hg
  unfold Oper.quietAt execOp
  simp only [ho, hx, Instr.loadAt, Instr.sureAddr, Sem.run_bind, Sem.run_pure, Result.andThen_ok, run_loadVar_row _ g t ty cs fr d hg' hu hd hi]
  exact ⟨rfl, rfl⟩

end Go.Proofs.YtmijmfgclmaodaaGreatDoor
