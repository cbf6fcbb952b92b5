/-
  A whole struct stored into a fresh block; results that are structs.
-/
import Derived.Test.YtdbjihkgafhakaaGreatDoorLib
import Derived.Laws.Rows
import Derived.Deep.WholeRow
namespace Go.Proofs.YtdbjihkgafhakaaGreatDoor
open Go.RowKit

/-- A whole struct is stored into the block that was just laid. -/
theorem wp_store_new {P : Program} {o : Oper} {a : Act} {w : World} {K : Act → World → Prop} {Q : Exit → Act → World → Prop} (ty : TypeId) (x y : Operand) (ho : o.op = .store ty x y)
    (g : Nat) (hgs : g = w.heap.size) (cells old : Array Value) (hx : a.eval x = .pointer (some ⟨g, 0, none⟩)) (hy : a.eval y = .agg cells) (t : TypeId)
    (hi : (P.info? ty).map (·.size) = some cells.size) (hold : old.size = cells.size) (h1 : cells.all (·.oneCell') = true)
    (h : K (a.put o.dst undef) (w.alloc (.cells cells t))) : o.wp P a (w.alloc (.cells old t)) K Q := by
  subst hgs
  refine wp_store_row ty x y ho w.heap.size cells hx hy t old (heap_alloc_new w _) hi hold h1 ?_
  rw [World.setRow_alloc_new]
  exact h
theorem heap_alloc_two (w : World) (a b : Obj) : ((w.alloc a).alloc b).heap[w.heap.size + 1]? = some b := by
  have h := heap_alloc_new (w.alloc a) b
  rwa [show (w.alloc a).heap.size = w.heap.size + 1 by simp] at h

theorem wpList_store_new {P : Program} {ops : Array Oper} {rest : List Oper} {o : Oper} {a : Act} {w : World} {Q : Exit → Act → World → Prop} {old : Array Value} {t : TypeId} (hgd : o.guard = none) (ty : TypeId) (x y : Operand) (ho : o.op = .store ty x y)
    (g : Nat) (hgs : g = w.heap.size) (cells : Array Value) (hx : a.eval x = .pointer (some ⟨g, 0, none⟩)) (hy : a.eval y = .agg cells)
    (hi : (P.info? ty).map (·.size) = some cells.size) (hold : old.size = cells.size) (h1 : cells.all (·.oneCell') = true)
    (h : wpList P ops Q rest (a.put o.dst undef) (w.alloc (.cells cells t))) : wpList P ops Q (o :: rest) a (w.alloc (.cells old t)) :=
  wpList_plain hgd fun _ hK => wp_store_new ty x y ho g hgs cells old hx hy t hi hold h1 (hK _ _ h)

section
variable {P : Program}
/-- A result that is a struct, out of its block. -/
theorem results_row1 {fn : Func} {a : Act} {slot : Nat} {t t' : TypeId} {g : Nat} {cs : Array Value} {fr : Nat × Nat} {d : TypeDesc} {w : World} (hf : fn.results = #[.cell slot t]) (hs : a.tmps.getD slot undef = .pointer (some ⟨g, 0, none⟩))
    (hg : w.heap[g]? = some (.cells cs t' fr)) (hu : P.underlying t = some d) (hd : (match d with | .struct _ | .array _ _ => true | _ => false) = true) (hi : (P.info? t).map (·.size) = some cs.size) : (results fn a.tmps).run P w = .ok (.agg cs) w := by
  have h := run_loadVar_row (P := P) w g t' t cs fr d hg hu hd hi
  have hs' : a.tmps[slot]?.getD undef = .pointer (some ⟨g, 0, none⟩) := by simpa using hs
  simp [results, hf, asAddr, hs', h]
theorem results_row2 {fn : Func} {a : Act} {slot k : Nat} {t t' : TypeId} {g : Nat} {cs : Array Value} {fr : Nat × Nat} {d : TypeDesc} {v : Value} {w : World} (hf : fn.results = #[.cell slot t, .tmp k]) (hs : a.tmps.getD slot undef = .pointer (some ⟨g, 0, none⟩)) (hk : a.tmps.getD k undef = v)
    (hg : w.heap[g]? = some (.cells cs t' fr)) (hu : P.underlying t = some d) (hd : (match d with | .struct _ | .array _ _ => true | _ => false) = true) (hi : (P.info? t).map (·.size) = some cs.size) : (results fn a.tmps).run P w = .ok (.tuple #[.agg cs, v]) w := by
  have h := run_loadVar_row (P := P) w g t' t cs fr d hg hu hd hi
  have hs' : a.tmps[slot]?.getD undef = .pointer (some ⟨g, 0, none⟩) := by simpa using hs
  have hk' : a.tmps[k]?.getD undef = v := by simpa using hk
  simp [results, hf, asAddr, hs', hk', h]
end
end Go.Proofs.YtdbjihkgafhakaaGreatDoor
