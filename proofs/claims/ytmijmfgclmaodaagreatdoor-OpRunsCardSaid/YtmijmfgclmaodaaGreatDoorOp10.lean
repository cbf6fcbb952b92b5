/-
  What becomes of an operation, on all ways: the walks.
-/
import Derived.Test.YtmijmfgclmaodaaGreatDoorOp9
namespace Go.Proofs.YtmijmfgclmaodaaGreatDoor
open Go.RowKit

set_option maxRecDepth 100000 in
set_option maxHeartbeats 4000000 in
theorem opgrant_no (ep wk now : Int) (o : Opr) (w : World) (h2 : (o.state != 1) = true) :
    Calls Tryz.prog 44 #[.agg (opA o), .int .i64 ep, .int .i64 wk, .int .u64 now] w fun e w' => e = .returned (.tuple #[.agg (opA (o)), .bool false]) ∧ Below w.heap.size w w' := by
  go_enter Tryz.func44, Tryz.ntmps44
  go_upto_region 1 with fail
  obtain ⟨w1, hw1⟩ : ∃ w1 : World, w1 = (w.alloc (.cells (opA o) 46)).alloc (.cells #[.int .i64 0, .int .i64 0, .int .i64 0, .string { data := #[] }, .string { data := #[] }, .string { data := #[] }, .int .i64 0, .int .i64 0, .int .i64 0, .int .i64 0, .int .i64 0, .int .i64 0, .int .i64 0, .int .i64 0, .int .i64 0, .int .u64 0, .int .u64 0, .int .u64 0] 46) := ⟨_, rfl⟩
  rw [← hw1]
  have HX := Lib.hid (show OpB w w1 w.heap.size (w.heap.size + 1) (opA o) #[.int .i64 0, .int .i64 0, .int .i64 0, .string { data := #[] }, .string { data := #[] }, .string { data := #[] }, .int .i64 0, .int .i64 0, .int .i64 0, .int .i64 0, .int .i64 0, .int .i64 0, .int .i64 0, .int .i64 0, .int .i64 0, .int .u64 0, .int .u64 0, .int .u64 0] by rw [hw1]; exact opB_new w _ _)
  clear hw1
  have e8 : w1.cell? ⟨w.heap.size, 8, none⟩ = some (.int .i64 o.state) := fr_cell_of_heap HX.out.op rfl
  go_wp2_with (first | (refine wpList_load_agg 46 HX.out.op Tryz.underlying46 rfl (opA_info (o)) rfl _ rfl rfl ?_) | (refine wpList_store_row rfl 46 _ _ rfl (w.heap.size + 1) (opA (o)) rfl rfl 46 _ HX.out.res (opA_info (o)) rfl (opA_one (o)) ?_))
  refine bodyPost_ret (v := .tuple #[.agg (opA (o)), .bool false]) (results_row2 Tryz.results44 rfl rfl (setRow_at HX.out.res) Tryz.underlying46 rfl (opA_info (o))) rfl ⟨rfl, ?_⟩
  exact (HX.out.out _).below
set_option maxRecDepth 100000 in
set_option maxHeartbeats 4000000 in
theorem opdone_no (code : Int) (o : Opr) (w : World) (h2 : (o.state != 3) = true) :
    Calls Tryz.prog 47 #[.agg (opA o), .int .i64 code] w fun e w' => e = .returned (.tuple #[.agg (opA (o)), .bool false]) ∧ Below w.heap.size w w' := by
  go_enter Tryz.func47, Tryz.ntmps47
  go_upto_region 1 with fail
  obtain ⟨w1, hw1⟩ : ∃ w1 : World, w1 = (w.alloc (.cells (opA o) 46)).alloc (.cells #[.int .i64 0, .int .i64 0, .int .i64 0, .string { data := #[] }, .string { data := #[] }, .string { data := #[] }, .int .i64 0, .int .i64 0, .int .i64 0, .int .i64 0, .int .i64 0, .int .i64 0, .int .i64 0, .int .i64 0, .int .i64 0, .int .u64 0, .int .u64 0, .int .u64 0] 46) := ⟨_, rfl⟩
  rw [← hw1]
  have HX := Lib.hid (show OpB w w1 w.heap.size (w.heap.size + 1) (opA o) #[.int .i64 0, .int .i64 0, .int .i64 0, .string { data := #[] }, .string { data := #[] }, .string { data := #[] }, .int .i64 0, .int .i64 0, .int .i64 0, .int .i64 0, .int .i64 0, .int .i64 0, .int .i64 0, .int .i64 0, .int .i64 0, .int .u64 0, .int .u64 0, .int .u64 0] by rw [hw1]; exact opB_new w _ _)
  clear hw1
  have e8 : w1.cell? ⟨w.heap.size, 8, none⟩ = some (.int .i64 o.state) := fr_cell_of_heap HX.out.op rfl
  go_wp2_with (first | (refine wpList_load_agg 46 HX.out.op Tryz.underlying46 rfl (opA_info (o)) rfl _ rfl rfl ?_) | (refine wpList_store_row rfl 46 _ _ rfl (w.heap.size + 1) (opA (o)) rfl rfl 46 _ HX.out.res (opA_info (o)) rfl (opA_one (o)) ?_))
  refine bodyPost_ret (v := .tuple #[.agg (opA (o)), .bool false]) (results_row2 Tryz.results47 rfl rfl (setRow_at HX.out.res) Tryz.underlying46 rfl (opA_info (o))) rfl ⟨rfl, ?_⟩
  exact (HX.out.out _).below
set_option maxRecDepth 100000 in
set_option maxHeartbeats 4000000 in
theorem opfail_no (cs : Array Value) (code now : Int) (o : Opr) (w : World) (h2 : (o.state != 3) = true) :
    Calls Tryz.prog 45 #[.agg cs, .agg (opA o), .int .i64 code, .int .u64 now] w fun e w' => e = .returned (.tuple #[.agg (opA (o)), .bool false]) ∧ Below w.heap.size w w' := by
  go_enter Tryz.func45, Tryz.ntmps45
  go_upto_region 1 with fail
  obtain ⟨w1, hw1⟩ : ∃ w1 : World, w1 = ((w.alloc (.cells cs 42)).alloc (.cells (opA o) 46)).alloc (.cells #[.int .i64 0, .int .i64 0, .int .i64 0, .string { data := #[] }, .string { data := #[] }, .string { data := #[] }, .int .i64 0, .int .i64 0, .int .i64 0, .int .i64 0, .int .i64 0, .int .i64 0, .int .i64 0, .int .i64 0, .int .i64 0, .int .u64 0, .int .u64 0, .int .u64 0] 46) := ⟨_, rfl⟩
  rw [← hw1]
  have HX := Lib.hid (show OpB w w1 (w.heap.size + 1) (w.heap.size + 2) (opA o) #[.int .i64 0, .int .i64 0, .int .i64 0, .string { data := #[] }, .string { data := #[] }, .string { data := #[] }, .int .i64 0, .int .i64 0, .int .i64 0, .int .i64 0, .int .i64 0, .int .i64 0, .int .i64 0, .int .i64 0, .int .i64 0, .int .u64 0, .int .u64 0, .int .u64 0] by rw [hw1]; exact opB_new3 w _ _ _)
  have HM := Lib.hid (show CfB w1 w.heap.size (w.heap.size + 1) (w.heap.size + 2) cs by rw [hw1]; exact cfB_new3 w _ _ _)
  clear hw1
  have e8 : w1.cell? ⟨w.heap.size + 1, 8, none⟩ = some (.int .i64 o.state) := fr_cell_of_heap HX.out.op rfl
  go_wp2_with (first | (refine wpList_load_agg 46 HX.out.op Tryz.underlying46 rfl (opA_info (o)) rfl _ rfl rfl ?_) | (refine wpList_store_row rfl 46 _ _ rfl (w.heap.size + 2) (opA (o)) rfl rfl 46 _ HX.out.res (opA_info (o)) rfl (opA_one (o)) ?_))
  refine bodyPost_ret (v := .tuple #[.agg (opA (o)), .bool false]) (results_row2 Tryz.results45 rfl rfl (setRow_at HX.out.res) Tryz.underlying46 rfl (opA_info (o))) rfl ⟨rfl, ?_⟩
  exact (HX.out.out _).below
set_option maxRecDepth 100000 in
set_option maxHeartbeats 4000000 in
theorem opwake_no  (o : Opr) (w : World) (h2 : (o.state != 2) = true) :
    Calls Tryz.prog 46 #[.agg (opA o)] w fun e w' => e = .returned (.tuple #[.agg (opA (o)), .bool false]) ∧ Below w.heap.size w w' := by
  go_enter Tryz.func46, Tryz.ntmps46
  go_upto_region 1 with fail
  obtain ⟨w1, hw1⟩ : ∃ w1 : World, w1 = (w.alloc (.cells (opA o) 46)).alloc (.cells #[.int .i64 0, .int .i64 0, .int .i64 0, .string { data := #[] }, .string { data := #[] }, .string { data := #[] }, .int .i64 0, .int .i64 0, .int .i64 0, .int .i64 0, .int .i64 0, .int .i64 0, .int .i64 0, .int .i64 0, .int .i64 0, .int .u64 0, .int .u64 0, .int .u64 0] 46) := ⟨_, rfl⟩
  rw [← hw1]
  have HX := Lib.hid (show OpB w w1 w.heap.size (w.heap.size + 1) (opA o) #[.int .i64 0, .int .i64 0, .int .i64 0, .string { data := #[] }, .string { data := #[] }, .string { data := #[] }, .int .i64 0, .int .i64 0, .int .i64 0, .int .i64 0, .int .i64 0, .int .i64 0, .int .i64 0, .int .i64 0, .int .i64 0, .int .u64 0, .int .u64 0, .int .u64 0] by rw [hw1]; exact opB_new w _ _)
  clear hw1
  have e8 : w1.cell? ⟨w.heap.size, 8, none⟩ = some (.int .i64 o.state) := fr_cell_of_heap HX.out.op rfl
  go_wp2_with (first | (refine wpList_load_agg 46 HX.out.op Tryz.underlying46 rfl (opA_info (o)) rfl _ rfl rfl ?_) | (refine wpList_store_row rfl 46 _ _ rfl (w.heap.size + 1) (opA (o)) rfl rfl 46 _ HX.out.res (opA_info (o)) rfl (opA_one (o)) ?_))
  refine bodyPost_ret (v := .tuple #[.agg (opA (o)), .bool false]) (results_row2 Tryz.results46 rfl rfl (setRow_at HX.out.res) Tryz.underlying46 rfl (opA_info (o))) rfl ⟨rfl, ?_⟩
  exact (HX.out.out _).below
theorem doneO_lit (o : Opr) (code : Int) : (opA (toO o 4)).setIfInBounds 12 (.int .i64 code) = opA (doneO o code) := by simp [opA, toO, doneO]
theorem preO_lit (o : Opr) : ((opA (toO o 1)).setIfInBounds 7 (.int .i64 (o.cls + 1))).setIfInBounds 11 (.int .i64 (o.pre + 1)) = opA (preO o) := by simp [opA, toO, preO]
set_option maxRecDepth 100000 in
set_option maxHeartbeats 4000000 in
theorem opdone_yes (o : Opr) (code : Int) (w : World) (hs : o.state = 3) :
    Calls Tryz.prog 47 #[.agg (opA o), .int .i64 code] w fun e w' => e = .returned (.tuple #[.agg (opA (doneO o code)), .bool true]) ∧ Below w.heap.size w w' := by
  go_enter Tryz.func47, Tryz.ntmps47
  go_upto_region 1 with fail
  obtain ⟨w1, hw1⟩ : ∃ w1 : World, w1 = (w.alloc (.cells (opA o) 46)).alloc (.cells #[.int .i64 0, .int .i64 0, .int .i64 0, .string { data := #[] }, .string { data := #[] }, .string { data := #[] }, .int .i64 0, .int .i64 0, .int .i64 0, .int .i64 0, .int .i64 0, .int .i64 0, .int .i64 0, .int .i64 0, .int .i64 0, .int .u64 0, .int .u64 0, .int .u64 0] 46) := ⟨_, rfl⟩
  rw [← hw1]
  have HX := Lib.hid (show OpB w w1 w.heap.size (w.heap.size + 1) (opA o) #[.int .i64 0, .int .i64 0, .int .i64 0, .string { data := #[] }, .string { data := #[] }, .string { data := #[] }, .int .i64 0, .int .i64 0, .int .i64 0, .int .i64 0, .int .i64 0, .int .i64 0, .int .i64 0, .int .i64 0, .int .i64 0, .int .u64 0, .int .u64 0, .int .u64 0] by rw [hw1]; exact opB_new w _ _)
  clear hw1
  have e8 : w1.cell? ⟨w.heap.size, 8, none⟩ = some (.int .i64 3) := by rw [← hs]; exact fr_cell_of_heap HX.out.op rfl
  clear hs
  go_wp2_with (refine wpList_load_agg 46 HX.out.op Tryz.underlying46 rfl (opA_info (o)) rfl _ rfl rfl ?_)
  refine (opto_any o 4 _).mono ?_
  rintro e w3 ⟨rfl, hb3⟩
  have HX3 := Lib.hid (HX.out.next hb3)
  clear e8 hb3
  go_upto_region 4 with (refine wpList_store_row rfl 46 _ _ rfl (w.heap.size) (opA (toO o 4)) rfl rfl 46 _ HX3.out.op (opA_info (toO o 4)) rfl (opA_one (toO o 4)) ?_)
  obtain ⟨w4, hw4⟩ : ∃ w4 : World, w4 = w3.setRow (w.heap.size) (opA (toO o 4)) := ⟨_, rfl⟩
  rw [← hw4]
  have HX4 := Lib.hid (show OpB w w4 w.heap.size (w.heap.size + 1) (opA (toO o 4)) #[.int .i64 0, .int .i64 0, .int .i64 0, .string { data := #[] }, .string { data := #[] }, .string { data := #[] }, .int .i64 0, .int .i64 0, .int .i64 0, .int .i64 0, .int .i64 0, .int .i64 0, .int .i64 0, .int .i64 0, .int .i64 0, .int .u64 0, .int .u64 0, .int .u64 0] by rw [hw4]; exact HX3.out.row _)
  clear hw4
  have e12 : w4.cell? ⟨w.heap.size, 12, none⟩ = some (.int .i64 o.code) := fr_cell_of_heap HX4.out.op rfl
  have r12 := fr_free_of_heap (i := 12) HX4.out.op
  go_upto_region 5 with fail
  obtain ⟨w5, hw5⟩ : ∃ w5 : World, w5 = w4.setCell ⟨w.heap.size, 12, none⟩ (.int .i64 code) := ⟨_, rfl⟩
  rw [← hw5]
  have HX5 := Lib.hid (show OpB w w5 w.heap.size (w.heap.size + 1) (opA (doneO o code)) #[.int .i64 0, .int .i64 0, .int .i64 0, .string { data := #[] }, .string { data := #[] }, .string { data := #[] }, .int .i64 0, .int .i64 0, .int .i64 0, .int .i64 0, .int .i64 0, .int .i64 0, .int .i64 0, .int .i64 0, .int .i64 0, .int .u64 0, .int .u64 0, .int .u64 0] by rw [hw5, ← doneO_lit]; exact HX4.out.set 12 _)
  clear hw5 e12 r12
  go_wp2_with (first | (refine wpList_load_agg 46 HX5.out.op Tryz.underlying46 rfl (opA_info (doneO o code)) rfl _ rfl rfl ?_) | (refine wpList_store_row rfl 46 _ _ rfl (w.heap.size + 1) (opA (doneO o code)) rfl rfl 46 _ HX5.out.res (opA_info (doneO o code)) rfl (opA_one (doneO o code)) ?_))
  refine bodyPost_ret (v := .tuple #[.agg (opA (doneO o code)), .bool true]) (results_row2 Tryz.results47 rfl rfl (setRow_at HX5.out.res) Tryz.underlying46 rfl (opA_info (doneO o code))) rfl ⟨rfl, ?_⟩
  exact (HX5.out.out _).below
end Go.Proofs.YtmijmfgclmaodaaGreatDoor
