/-
  What becomes of an operation: to, Grant, Wake: the walks.
-/
import Derived.Test.YtmijmfgclmaodaaGreatDoorOp1
import Derived.Deep.DeepCutAuto
namespace Go.Proofs.YtmijmfgclmaodaaGreatDoor
open Go.RowKit

/-- The cells of an operation, in full. -/
def opA (o : Opr) : Array Value := #[.int .i64 o.id, .int .i64 o.tenant, .int .i64 o.inv, .string o.key, .string o.cmd, .string o.need, .int .i64 o.cost, .int .i64 o.cls, .int .i64 o.state, .int .i64 o.att, .int .i64 o.ret, .int .i64 o.pre, .int .i64 o.code, .int .i64 o.ep, .int .i64 o.wk, .int .u64 o.dl, .int .u64 o.wake, .int .u64 o.st]
theorem opA_cells (o : Opr) : OpCells (opA o) o := ⟨rfl, rfl, rfl, rfl, rfl, rfl, rfl, rfl, rfl, rfl, rfl, rfl, rfl, rfl, rfl, rfl, rfl, rfl, rfl⟩
theorem op_lit {os : Array Value} {o : Opr} (h : OpCells os o) : os = opA o := by
  obtain ⟨hs, f0, f1, f2, f3, f4, f5, f6, f7, f8, f9, f10, f11, f12, f13, f14, f15, f16, f17⟩ := h
  obtain ⟨l⟩ := os
  match l, hs with
  | [a0, a1, a2, a3, a4, a5, a6, a7, a8, a9, a10, a11, a12, a13, a14, a15, a16, a17], _ =>
    simp at f0 f1 f2 f3 f4 f5 f6 f7 f8 f9 f10 f11 f12 f13 f14 f15 f16 f17
    subst f0 f1 f2 f3 f4 f5 f6 f7 f8 f9 f10 f11 f12 f13 f14 f15 f16 f17
    rfl
theorem opA_one (o : Opr) : (opA o).all (·.oneCell') = true := by simp [opA, Value.oneCell']
theorem opA_size (o : Opr) : (opA o).size = 18 := rfl
theorem opA_info (o : Opr) : (Tryz.prog.info? 46).map (·.size) = some (opA o).size := by rw [opA_size]; exact op_info
/-- Another state, without a lease, and without waiting. -/
def toO (o : Opr) (s : Int) : Opr := { o with state := s, ep := 0, wk := 0, st := 0, wake := 0 }
theorem toO_lit (o : Opr) (s : Int) : ((((((opA o).setIfInBounds 8 (.int .i64 s)).setIfInBounds 13 (.int .i64 0)).setIfInBounds 14 (.int .i64 0)).setIfInBounds 17 (.int .u64 0)).setIfInBounds 16 (.int .u64 0)) = opA (toO o s) := by simp [opA, toO]
/-- A world in which an operation lies in block g, and the result's place is block r. -/
structure OpB (w w' : World) (g r : Nat) (os zs : Array Value) : Prop where
  below : Below w.heap.size w w'
  gl : w.heap.size ≤ g
  rl : w.heap.size ≤ r
  gr : g ≠ r
  op : w'.heap[g]? = some (.cells os 46 (0, 0))
  res : w'.heap[r]? = some (.cells zs 46 (0, 0))
theorem heap_lt {w : World} {k : Nat} {o : Obj} (h : w.heap[k]? = some o) : k < w.heap.size := by
  rcases Nat.lt_or_ge k w.heap.size with hk | hk
  · exact hk
  · rw [Array.getElem?_eq_none hk] at h; cases h
theorem setRow_at {w : World} {g : Nat} {cs ds : Array Value} {t : TypeId} {fr : Nat × Nat} (h : w.heap[g]? = some (.cells cs t fr)) : (w.setRow g ds).heap[g]? = some (.cells ds t fr) := by
  simp only [World.setRow, Array.getElem?_modify, h]
  simp
theorem setRow_not {w : World} {g k : Nat} {ds : Array Value} (h : k ≠ g) : (w.setRow g ds).heap[k]? = w.heap[k]? := by
  simp only [World.setRow, Array.getElem?_modify]
  simp [Ne.symm h]
theorem below_setRow {B : Nat} {w w' : World} (h : Below B w w') {g : Nat} (hg : B ≤ g) (ds : Array Value) : Below B w (w'.setRow g ds) :=
  ⟨h.os, h.tape, h.output, by simpa [World.setRow] using h.size, fun k hk => (setRow_not (by omega)).trans (h.block k hk)⟩
theorem below_setCell {B : Nat} {w w' : World} (h : Below B w w') {g i : Nat} (hg : B ≤ g) (v : Value) : Below B w (w'.setCell ⟨g, i, none⟩ v) :=
  ⟨h.os, h.tape, h.output, by simpa [World.setCell] using h.size, fun k hk => (fr_setCell_other (by omega)).trans (h.block k hk)⟩
theorem OpB.next {w w1 w2 : World} {g r : Nat} {os zs : Array Value} (h : OpB w w1 g r os zs) (hb : Below w1.heap.size w1 w2) : OpB w w2 g r os zs :=
  ⟨h.below.trans (hb.mono h.below.size), h.gl, h.rl, h.gr, (hb.block _ (heap_lt h.op)).trans h.op, (hb.block _ (heap_lt h.res)).trans h.res⟩
theorem OpB.set {w w1 : World} {g r : Nat} {os zs : Array Value} (h : OpB w w1 g r os zs) (i : Nat) (v : Value) : OpB w (w1.setCell ⟨g, i, none⟩ v) g r (os.setIfInBounds i v) zs :=
  ⟨below_setCell h.below h.gl v, h.gl, h.rl, h.gr, fr_setCell_at h.op, (fr_setCell_other (Ne.symm h.gr)).trans h.res⟩
theorem OpB.row {w w1 : World} {g r : Nat} {os zs : Array Value} (h : OpB w w1 g r os zs) (ds : Array Value) : OpB w (w1.setRow g ds) g r ds zs :=
  ⟨below_setRow h.below h.gl ds, h.gl, h.rl, h.gr, setRow_at h.op, (setRow_not (Ne.symm h.gr)).trans h.res⟩
theorem OpB.out {w w1 : World} {g r : Nat} {os zs : Array Value} (h : OpB w w1 g r os zs) (ds : Array Value) : OpB w (w1.setRow r ds) g r os ds :=
  ⟨below_setRow h.below h.rl ds, h.gl, h.rl, h.gr, (setRow_not h.gr).trans h.op, setRow_at h.res⟩
theorem opB_new (w : World) (os zs : Array Value) : OpB w ((w.alloc (.cells os 46)).alloc (.cells zs 46)) w.heap.size (w.heap.size + 1) os zs :=
  ⟨(box_below).alloc (by simp) _, Nat.le_refl _, by omega, by omega, fr_alloc_old fr_alloc_at, heap_alloc_two _ _ _⟩
/-- An operation that runs. -/
def grantO (o : Opr) (ep wk now : Int) : Opr := { toO o 3 with ep := ep, wk := wk, st := now, att := o.att + 1 }
theorem grantO_lit (o : Opr) (ep wk now : Int) : (((((opA (toO o 3)).setIfInBounds 13 (.int .i64 ep)).setIfInBounds 14 (.int .i64 wk)).setIfInBounds 17 (.int .u64 now)).setIfInBounds 9 (.int .i64 (o.att + 1))) = opA (grantO o ep wk now) := by simp [opA, toO, grantO]
set_option maxRecDepth 100000 in
set_option maxHeartbeats 4000000 in
theorem opto_any (o : Opr) (s : Int) (w : World) :
    Calls Tryz.prog 72 #[.agg (opA o), .int .i64 s] w fun e w' => e = .returned (.agg (opA (toO o s))) ∧ Below w.heap.size w w' := by
  go_enter Tryz.func72, Tryz.ntmps72
  have q8 : (opA o)[8]? = some (.int .i64 o.state) := rfl
  have q13 : (opA o)[13]? = some (.int .i64 o.ep) := rfl
  have q14 : (opA o)[14]? = some (.int .i64 o.wk) := rfl
  have q16 : (opA o)[16]? = some (.int .u64 o.wake) := rfl
  have q17 : (opA o)[17]? = some (.int .u64 o.st) := rfl
  go_upto_region 2 with fail
  rw [toO_lit]
  go_wp2_with (first | (refine wpList_load_agg 46 (fr_alloc_old fr_alloc_at) Tryz.underlying46 rfl (opA_info (toO o s)) rfl _ rfl rfl ?_) | (refine wpList_store_new rfl 46 _ _ rfl (w.heap.size + 1) ?a1 (opA (toO o s)) rfl rfl (opA_info (toO o s)) rfl (opA_one (toO o s)) ?_; (case a1 => simp)))
  refine bodyPost_ret (v := .agg (opA (toO o s))) (results_row1 Tryz.results72 rfl (heap_alloc_two _ _ _) Tryz.underlying46 rfl (opA_info (toO o s))) rfl ⟨rfl, ?_⟩
  exact box_below.alloc (by simp) _
set_option maxRecDepth 100000 in
set_option maxHeartbeats 4000000 in
theorem opgrant_yes (o : Opr) (ep wk now : Int) (w : World) (hs : o.state = 1) (hw : IntKind.i64.wrap (o.att + 1) = o.att + 1) :
    Calls Tryz.prog 44 #[.agg (opA o), .int .i64 ep, .int .i64 wk, .int .u64 now] w fun e w' => e = .returned (.tuple #[.agg (opA (grantO o ep wk now)), .bool true]) ∧ Below w.heap.size w w' := by
  go_enter Tryz.func44, Tryz.ntmps44
  go_upto_region 1 with fail
  obtain ⟨w1, hw1⟩ : ∃ w1 : World, w1 = (w.alloc (.cells (opA o) 46)).alloc (.cells #[.int .i64 0, .int .i64 0, .int .i64 0, .string { data := #[] }, .string { data := #[] }, .string { data := #[] }, .int .i64 0, .int .i64 0, .int .i64 0, .int .i64 0, .int .i64 0, .int .i64 0, .int .i64 0, .int .i64 0, .int .i64 0, .int .u64 0, .int .u64 0, .int .u64 0] 46) := ⟨_, rfl⟩
  rw [← hw1]
  have HX := Lib.hid (show OpB w w1 w.heap.size (w.heap.size + 1) (opA o) #[.int .i64 0, .int .i64 0, .int .i64 0, .string { data := #[] }, .string { data := #[] }, .string { data := #[] }, .int .i64 0, .int .i64 0, .int .i64 0, .int .i64 0, .int .i64 0, .int .i64 0, .int .i64 0, .int .i64 0, .int .i64 0, .int .u64 0, .int .u64 0, .int .u64 0] by rw [hw1]; exact opB_new w _ _)
  clear hw1
  have e8 : w1.cell? ⟨w.heap.size, 8, none⟩ = some (.int .i64 1) := by rw [← hs]; exact fr_cell_of_heap HX.out.op rfl
  clear hs
  go_wp2_with (refine wpList_load_agg 46 HX.out.op Tryz.underlying46 rfl (opA_info o) rfl _ rfl rfl ?_)
  refine (opto_any o 3 _).mono ?_
  rintro e w3 ⟨rfl, hb3⟩
  have HX3 := Lib.hid (HX.out.next hb3)
  clear e8 hb3
  go_upto_region 4 with (refine wpList_store_row rfl 46 _ _ rfl w.heap.size (opA (toO o 3)) rfl rfl 46 _ HX3.out.op (opA_info (toO o 3)) rfl (opA_one (toO o 3)) ?_)
  obtain ⟨w4, hw4⟩ : ∃ w4 : World, w4 = w3.setRow w.heap.size (opA (toO o 3)) := ⟨_, rfl⟩
  rw [← hw4]
  have HX4 := Lib.hid (show OpB w w4 w.heap.size (w.heap.size + 1) (opA (toO o 3)) #[.int .i64 0, .int .i64 0, .int .i64 0, .string { data := #[] }, .string { data := #[] }, .string { data := #[] }, .int .i64 0, .int .i64 0, .int .i64 0, .int .i64 0, .int .i64 0, .int .i64 0, .int .i64 0, .int .i64 0, .int .i64 0, .int .u64 0, .int .u64 0, .int .u64 0] by rw [hw4]; exact HX3.out.row _)
  clear hw4
  have e13 : w4.cell? ⟨w.heap.size, 13, none⟩ = some (.int .i64 0) := fr_cell_of_heap HX4.out.op rfl
  have e14 : w4.cell? ⟨w.heap.size, 14, none⟩ = some (.int .i64 0) := fr_cell_of_heap HX4.out.op rfl
  have e17 : w4.cell? ⟨w.heap.size, 17, none⟩ = some (.int .u64 0) := fr_cell_of_heap HX4.out.op rfl
  have e9 : w4.cell? ⟨w.heap.size, 9, none⟩ = some (.int .i64 o.att) := fr_cell_of_heap HX4.out.op rfl
  have r13 := fr_free_of_heap (i := 13) HX4.out.op
  have r14 := fr_free_of_heap (i := 14) HX4.out.op
  have r17 := fr_free_of_heap (i := 17) HX4.out.op
  have r9 := fr_free_of_heap (i := 9) HX4.out.op
  go_upto_region 6 with fail
  obtain ⟨w5, hw5⟩ : ∃ w5 : World, w5 = (((w4.setCell ⟨w.heap.size, 13, none⟩ (.int .i64 ep)).setCell ⟨w.heap.size, 14, none⟩ (.int .i64 wk)).setCell ⟨w.heap.size, 17, none⟩ (.int .u64 now)).setCell ⟨w.heap.size, 9, none⟩ (.int .i64 (o.att + 1)) := ⟨_, rfl⟩
  rw [← hw5]
  have HX5 := Lib.hid (show OpB w w5 w.heap.size (w.heap.size + 1) (opA (grantO o ep wk now)) #[.int .i64 0, .int .i64 0, .int .i64 0, .string { data := #[] }, .string { data := #[] }, .string { data := #[] }, .int .i64 0, .int .i64 0, .int .i64 0, .int .i64 0, .int .i64 0, .int .i64 0, .int .i64 0, .int .i64 0, .int .i64 0, .int .u64 0, .int .u64 0, .int .u64 0] by rw [hw5, ← grantO_lit]; exact ((((HX4.out.set 13 _).set 14 _).set 17 _).set 9 _))
  clear hw5 e13 e14 e17 e9 r13 r14 r17 r9
  go_wp2_with (first | (refine wpList_load_agg 46 HX5.out.op Tryz.underlying46 rfl (opA_info (grantO o ep wk now)) rfl _ rfl rfl ?_) | (refine wpList_store_row rfl 46 _ _ rfl (w.heap.size + 1) (opA (grantO o ep wk now)) rfl rfl 46 _ HX5.out.res (opA_info (grantO o ep wk now)) rfl (opA_one (grantO o ep wk now)) ?_))
  refine bodyPost_ret (v := .tuple #[.agg (opA (grantO o ep wk now)), .bool true]) (results_row2 Tryz.results44 rfl rfl (setRow_at HX5.out.res) Tryz.underlying46 rfl (opA_info (grantO o ep wk now))) rfl ⟨rfl, ?_⟩
  exact (HX5.out.out _).below
set_option maxRecDepth 100000 in
set_option maxHeartbeats 4000000 in
theorem opwake_yes (o : Opr) (w : World) (hs : o.state = 2) :
    Calls Tryz.prog 46 #[.agg (opA o)] w fun e w' => e = .returned (.tuple #[.agg (opA (toO o 1)), .bool true]) ∧ Below w.heap.size w w' := by
  go_enter Tryz.func46, Tryz.ntmps46
  go_upto_region 1 with fail
  obtain ⟨w1, hw1⟩ : ∃ w1 : World, w1 = (w.alloc (.cells (opA o) 46)).alloc (.cells #[.int .i64 0, .int .i64 0, .int .i64 0, .string { data := #[] }, .string { data := #[] }, .string { data := #[] }, .int .i64 0, .int .i64 0, .int .i64 0, .int .i64 0, .int .i64 0, .int .i64 0, .int .i64 0, .int .i64 0, .int .i64 0, .int .u64 0, .int .u64 0, .int .u64 0] 46) := ⟨_, rfl⟩
  rw [← hw1]
  have HX := Lib.hid (show OpB w w1 w.heap.size (w.heap.size + 1) (opA o) #[.int .i64 0, .int .i64 0, .int .i64 0, .string { data := #[] }, .string { data := #[] }, .string { data := #[] }, .int .i64 0, .int .i64 0, .int .i64 0, .int .i64 0, .int .i64 0, .int .i64 0, .int .i64 0, .int .i64 0, .int .i64 0, .int .u64 0, .int .u64 0, .int .u64 0] by rw [hw1]; exact opB_new w _ _)
  clear hw1
  have e8 : w1.cell? ⟨w.heap.size, 8, none⟩ = some (.int .i64 2) := by rw [← hs]; exact fr_cell_of_heap HX.out.op rfl
  clear hs
  go_wp2_with (refine wpList_load_agg 46 HX.out.op Tryz.underlying46 rfl (opA_info o) rfl _ rfl rfl ?_)
  refine (opto_any o 1 _).mono ?_
  rintro e w3 ⟨rfl, hb3⟩
  have HX3 := Lib.hid (HX.out.next hb3)
  clear e8 hb3
  go_wp2_with (first | (refine wpList_load_agg 46 HX3.out.op Tryz.underlying46 rfl (opA_info (toO o 1)) rfl _ rfl rfl ?_) | (refine wpList_store_row rfl 46 _ _ rfl (w.heap.size + 1) (opA (toO o 1)) rfl rfl 46 _ HX3.out.res (opA_info (toO o 1)) rfl (opA_one (toO o 1)) ?_))
  refine bodyPost_ret (v := .tuple #[.agg (opA (toO o 1)), .bool true]) (results_row2 Tryz.results46 rfl rfl (setRow_at HX3.out.res) Tryz.underlying46 rfl (opA_info (toO o 1))) rfl ⟨rfl, ?_⟩
  exact (HX3.out.out _).below
end Go.Proofs.YtmijmfgclmaodaaGreatDoor
