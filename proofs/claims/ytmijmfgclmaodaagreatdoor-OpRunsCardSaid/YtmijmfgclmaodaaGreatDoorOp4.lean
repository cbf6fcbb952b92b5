/-
  tick at the page's numbers, Fail, Terminal, One: the walks.
-/
import Derived.Test.YtmijmfgclmaodaaGreatDoorOp3
namespace Go.Proofs.YtmijmfgclmaodaaGreatDoor
open Go.RowKit

set_option maxRecDepth 100000 in
set_option maxHeartbeats 4000000 in
theorem wait_page (w : World) :
    Calls Tryz.prog 74 #[.int .i64 1, .int .i64 4, .int .i64 1] w fun e w' => e = .returned (.int .i64 1) ∧ Below w.heap.size w w' := by
  go_enter Tryz.func74, Tryz.ntmps74
  go_wp2
  go_loop [7, 24] (fun x i => x = .int .i64 1 ∧ i = .int .i64 0) (fun _ _ => 0)
  case atStart => exact ⟨rfl, rfl⟩
  case round =>
    obtain ⟨rfl, rfl⟩ := hrel
    go_wp2
    go_ret
    exact ⟨rfl, Below.refl _ _⟩
set_option maxRecDepth 100000 in
set_option maxHeartbeats 4000000 in
theorem add_page (w : World) :
    Calls Tryz.prog 73 #[.int .u64 6, .int .i64 1] w fun e w' => e = .returned (.int .u64 7) ∧ Below w.heap.size w w' := by
  go_enter Tryz.func73, Tryz.ntmps73
  go_wp2
  go_ret
  exact ⟨rfl, Below.refl _ _⟩
set_option maxRecDepth 100000 in
set_option maxHeartbeats 4000000 in
theorem terminal_page (w : World) :
    Calls Tryz.prog 14 #[.int .i64 5] w fun e w' => e = .returned (.bool true) ∧ Below w.heap.size w w' := by
  go_enter Tryz.func14, Tryz.ntmps14
  go_wp2
  go_ret
  exact ⟨rfl, Below.refl _ _⟩
/-- An operation that failed and waits; one that failed for good. -/
def backO (o : Opr) (code wake : Int) : Opr := { toO o 2 with code := code, ret := o.ret + 1, wake := wake }
def deadO (o : Opr) (code : Int) : Opr := { toO o 5 with code := code }
theorem deadO_lit (o : Opr) (code : Int) : (opA (toO o 5)).setIfInBounds 12 (.int .i64 code) = opA (deadO o code) := by simp [opA, toO, deadO]
/-- On the way: waiting, its tick not yet laid. -/
def midO (o : Opr) (code : Int) : Opr := { toO o 2 with code := code, ret := o.ret + 1 }
theorem midO_lit (o : Opr) (code : Int) : (((opA (toO o 5)).setIfInBounds 12 (.int .i64 code)).setIfInBounds 10 (.int .i64 (o.ret + 1))).setIfInBounds 8 (.int .i64 2) = opA (midO o code) := by simp [opA, toO, midO]
theorem backO_lit (o : Opr) (code wake : Int) : (opA (midO o code)).setIfInBounds 16 (.int .u64 wake) = opA (backO o code wake) := by simp [opA, toO, midO, backO]
/-- The configuration's block beside. -/
structure CfB (w' : World) (m g r : Nat) (cs : Array Value) : Prop where
  cfg : w'.heap[m]? = some (.cells cs 42 (0, 0))
  mg : m ≠ g
  mr : m ≠ r
theorem CfB.next {w w' : World} {m g r : Nat} {cs : Array Value} (h : CfB w m g r cs) (hb : Below w.heap.size w w') : CfB w' m g r cs := ⟨(hb.block _ (heap_lt h.cfg)).trans h.cfg, h.mg, h.mr⟩
theorem CfB.set {w : World} {m g r : Nat} {cs : Array Value} (h : CfB w m g r cs) (i : Nat) (v : Value) : CfB (w.setCell ⟨g, i, none⟩ v) m g r cs := ⟨(fr_setCell_other h.mg).trans h.cfg, h.mg, h.mr⟩
theorem CfB.row {w : World} {m g r : Nat} {cs : Array Value} (h : CfB w m g r cs) (ds : Array Value) : CfB (w.setRow g ds) m g r cs := ⟨(setRow_not h.mg).trans h.cfg, h.mg, h.mr⟩
theorem opB_new3 (w : World) (cs os zs : Array Value) : OpB w (((w.alloc (.cells cs 42)).alloc (.cells os 46)).alloc (.cells zs 46)) (w.heap.size + 1) (w.heap.size + 2) os zs :=
  ⟨((box_below).alloc (by simp) _).alloc (by simp; omega) _, by omega, by omega, by omega, fr_alloc_old (heap_alloc_two _ _ _), by have h := heap_alloc_two (w.alloc (.cells cs 42)) (.cells os 46) (.cells zs 46); simpa using h⟩
theorem cfB_new3 (w : World) (cs os zs : Array Value) : CfB (((w.alloc (.cells cs 42)).alloc (.cells os 46)).alloc (.cells zs 46)) w.heap.size (w.heap.size + 1) (w.heap.size + 2) cs :=
  ⟨fr_alloc_old (fr_alloc_old fr_alloc_at), by omega, by omega⟩
set_option maxRecDepth 100000 in
set_option maxHeartbeats 4000000 in
theorem opfail_dead (cs : Array Value) (tv lv : Value) (c : Cfg) (o : Opr) (code now : Int) (w : World) (hc : CfgCells cs tv lv c) (hs : o.state = 3) (hlt : c.retries ≤ o.ret) :
    Calls Tryz.prog 45 #[.agg cs, .agg (opA o), .int .i64 code, .int .u64 now] w fun e w' => e = .returned (.tuple #[.agg (opA (deadO o code)), .bool true]) ∧ Below w.heap.size w w' := by
  have HC := Lib.hid hc
  clear hc
  go_enter Tryz.func45, Tryz.ntmps45
  go_upto_region 1 with fail
  obtain ⟨w1, hw1⟩ : ∃ w1 : World, w1 = ((w.alloc (.cells cs 42)).alloc (.cells (opA o) 46)).alloc (.cells #[.int .i64 0, .int .i64 0, .int .i64 0, .string { data := #[] }, .string { data := #[] }, .string { data := #[] }, .int .i64 0, .int .i64 0, .int .i64 0, .int .i64 0, .int .i64 0, .int .i64 0, .int .i64 0, .int .i64 0, .int .i64 0, .int .u64 0, .int .u64 0, .int .u64 0] 46) := ⟨_, rfl⟩
  rw [← hw1]
  have HX := Lib.hid (show OpB w w1 (w.heap.size + 1) (w.heap.size + 2) (opA o) #[.int .i64 0, .int .i64 0, .int .i64 0, .string { data := #[] }, .string { data := #[] }, .string { data := #[] }, .int .i64 0, .int .i64 0, .int .i64 0, .int .i64 0, .int .i64 0, .int .i64 0, .int .i64 0, .int .i64 0, .int .i64 0, .int .u64 0, .int .u64 0, .int .u64 0] by rw [hw1]; exact opB_new3 w _ _ _)
  have HM := Lib.hid (show CfB w1 w.heap.size (w.heap.size + 1) (w.heap.size + 2) cs by rw [hw1]; exact cfB_new3 w _ _ _)
  clear hw1
  have e8 : w1.cell? ⟨w.heap.size + 1, 8, none⟩ = some (.int .i64 3) := by rw [← hs]; exact fr_cell_of_heap HX.out.op rfl
  clear hs
  go_wp2_with (refine wpList_load_agg 46 HX.out.op Tryz.underlying46 rfl (opA_info o) rfl _ rfl rfl ?_)
  refine (opto_any o 5 _).mono ?_
  rintro e w3 ⟨rfl, hb3⟩
  have HX3 := Lib.hid (HX.out.next hb3)
  have HM3 := Lib.hid (HM.out.next hb3)
  clear e8 hb3
  go_upto_region 4 with (refine wpList_store_row rfl 46 _ _ rfl (w.heap.size + 1) (opA (toO o 5)) rfl rfl 46 _ HX3.out.op (opA_info (toO o 5)) rfl (opA_one (toO o 5)) ?_)
  obtain ⟨w4, hw4⟩ : ∃ w4 : World, w4 = w3.setRow (w.heap.size + 1) (opA (toO o 5)) := ⟨_, rfl⟩
  rw [← hw4]
  have HX4 := Lib.hid (show OpB w w4 (w.heap.size + 1) (w.heap.size + 2) (opA (toO o 5)) #[.int .i64 0, .int .i64 0, .int .i64 0, .string { data := #[] }, .string { data := #[] }, .string { data := #[] }, .int .i64 0, .int .i64 0, .int .i64 0, .int .i64 0, .int .i64 0, .int .i64 0, .int .i64 0, .int .i64 0, .int .i64 0, .int .u64 0, .int .u64 0, .int .u64 0] by rw [hw4]; exact HX3.out.row _)
  have HM4 := Lib.hid (show CfB w4 w.heap.size (w.heap.size + 1) (w.heap.size + 2) cs by rw [hw4]; exact HM3.out.row _)
  clear hw4
  have e12 : w4.cell? ⟨w.heap.size + 1, 12, none⟩ = some (.int .i64 o.code) := fr_cell_of_heap HX4.out.op rfl
  have e10 : w4.cell? ⟨w.heap.size + 1, 10, none⟩ = some (.int .i64 o.ret) := fr_cell_of_heap HX4.out.op rfl
  have e8 : w4.cell? ⟨w.heap.size + 1, 8, none⟩ = some (.int .i64 5) := fr_cell_of_heap HX4.out.op rfl
  have m8 : w4.cell? ⟨w.heap.size, 8, none⟩ = some (.int .i64 c.retries) := fr_cell_of_heap HM4.out.cfg HC.out.f8
  have r12 := fr_free_of_heap (i := 12) HX4.out.op
  have r10 := fr_free_of_heap (i := 10) HX4.out.op
  have r8 := fr_free_of_heap (i := 8) HX4.out.op
  go_upto_region 9 with fail
  obtain ⟨w5, hw5⟩ : ∃ w5 : World, w5 = w4.setCell ⟨w.heap.size + 1, 12, none⟩ (.int .i64 code) := ⟨_, rfl⟩
  rw [← hw5]
  have HX5 := Lib.hid (show OpB w w5 (w.heap.size + 1) (w.heap.size + 2) (opA (deadO o code)) #[.int .i64 0, .int .i64 0, .int .i64 0, .string { data := #[] }, .string { data := #[] }, .string { data := #[] }, .int .i64 0, .int .i64 0, .int .i64 0, .int .i64 0, .int .i64 0, .int .i64 0, .int .i64 0, .int .i64 0, .int .i64 0, .int .u64 0, .int .u64 0, .int .u64 0] by rw [hw5, ← deadO_lit]; exact HX4.out.set 12 _)
  clear hw5 e12 e10 e8 m8 r12 r10 r8
  go_wp2_with (first | (refine wpList_load_agg 46 HX5.out.op Tryz.underlying46 rfl (opA_info (deadO o code)) rfl _ rfl rfl ?_) | (refine wpList_store_row rfl 46 _ _ rfl (w.heap.size + 2) (opA (deadO o code)) rfl rfl 46 _ HX5.out.res (opA_info (deadO o code)) rfl (opA_one (deadO o code)) ?_))
  refine bodyPost_ret (v := .tuple #[.agg (opA (deadO o code)), .bool true]) (results_row2 Tryz.results45 rfl rfl (setRow_at HX5.out.res) Tryz.underlying46 rfl (opA_info (deadO o code))) rfl ⟨rfl, ?_⟩
  exact (HX5.out.out _).below
set_option maxRecDepth 100000 in
set_option maxHeartbeats 4000000 in
theorem opfail_back (cs : Array Value) (tv lv : Value) (c : Cfg) (o : Opr) (code now n v : Int) (w : World) (hc : CfgCells cs tv lv c) (hs : o.state = 3) (hlt : o.ret < c.retries) (hr : IntKind.i64.wrap (o.ret + 1) = o.ret + 1)
    (hwait : ∀ w : World, Calls Tryz.prog 74 #[.int .i64 c.base, .int .i64 c.most, .int .i64 (o.ret + 1)] w fun e w' => e = .returned (.int .i64 n) ∧ Below w.heap.size w w')
    (hadd : ∀ w : World, Calls Tryz.prog 73 #[.int .u64 now, .int .i64 n] w fun e w' => e = .returned (.int .u64 v) ∧ Below w.heap.size w w') :
    Calls Tryz.prog 45 #[.agg cs, .agg (opA o), .int .i64 code, .int .u64 now] w fun e w' => e = .returned (.tuple #[.agg (opA (backO o code v)), .bool true]) ∧ Below w.heap.size w w' := by
  have HC := Lib.hid hc
  have HWA := Lib.hid hwait
  have HAD := Lib.hid hadd
  clear hc hwait hadd
  go_enter Tryz.func45, Tryz.ntmps45
  go_upto_region 1 with fail
  obtain ⟨w1, hw1⟩ : ∃ w1 : World, w1 = ((w.alloc (.cells cs 42)).alloc (.cells (opA o) 46)).alloc (.cells #[.int .i64 0, .int .i64 0, .int .i64 0, .string { data := #[] }, .string { data := #[] }, .string { data := #[] }, .int .i64 0, .int .i64 0, .int .i64 0, .int .i64 0, .int .i64 0, .int .i64 0, .int .i64 0, .int .i64 0, .int .i64 0, .int .u64 0, .int .u64 0, .int .u64 0] 46) := ⟨_, rfl⟩
  rw [← hw1]
  have HX := Lib.hid (show OpB w w1 (w.heap.size + 1) (w.heap.size + 2) (opA o) #[.int .i64 0, .int .i64 0, .int .i64 0, .string { data := #[] }, .string { data := #[] }, .string { data := #[] }, .int .i64 0, .int .i64 0, .int .i64 0, .int .i64 0, .int .i64 0, .int .i64 0, .int .i64 0, .int .i64 0, .int .i64 0, .int .u64 0, .int .u64 0, .int .u64 0] by rw [hw1]; exact opB_new3 w _ _ _)
  have HM := Lib.hid (show CfB w1 w.heap.size (w.heap.size + 1) (w.heap.size + 2) cs by rw [hw1]; exact cfB_new3 w _ _ _)
  clear hw1
  have e8 : w1.cell? ⟨w.heap.size + 1, 8, none⟩ = some (.int .i64 3) := by rw [← hs]; exact fr_cell_of_heap HX.out.op rfl
  clear hs
  go_wp2_with (refine wpList_load_agg 46 HX.out.op Tryz.underlying46 rfl (opA_info o) rfl _ rfl rfl ?_)
  refine (opto_any o 5 _).mono ?_
  rintro e w3 ⟨rfl, hb3⟩
  have HX3 := Lib.hid (HX.out.next hb3)
  have HM3 := Lib.hid (HM.out.next hb3)
  clear e8 hb3
  go_upto_region 4 with (refine wpList_store_row rfl 46 _ _ rfl (w.heap.size + 1) (opA (toO o 5)) rfl rfl 46 _ HX3.out.op (opA_info (toO o 5)) rfl (opA_one (toO o 5)) ?_)
  obtain ⟨w4, hw4⟩ : ∃ w4 : World, w4 = w3.setRow (w.heap.size + 1) (opA (toO o 5)) := ⟨_, rfl⟩
  rw [← hw4]
  have HX4 := Lib.hid (show OpB w w4 (w.heap.size + 1) (w.heap.size + 2) (opA (toO o 5)) #[.int .i64 0, .int .i64 0, .int .i64 0, .string { data := #[] }, .string { data := #[] }, .string { data := #[] }, .int .i64 0, .int .i64 0, .int .i64 0, .int .i64 0, .int .i64 0, .int .i64 0, .int .i64 0, .int .i64 0, .int .i64 0, .int .u64 0, .int .u64 0, .int .u64 0] by rw [hw4]; exact HX3.out.row _)
  have HM4 := Lib.hid (show CfB w4 w.heap.size (w.heap.size + 1) (w.heap.size + 2) cs by rw [hw4]; exact HM3.out.row _)
  clear hw4
  have e12 : w4.cell? ⟨w.heap.size + 1, 12, none⟩ = some (.int .i64 o.code) := fr_cell_of_heap HX4.out.op rfl
  have e10 : w4.cell? ⟨w.heap.size + 1, 10, none⟩ = some (.int .i64 o.ret) := fr_cell_of_heap HX4.out.op rfl
  have e8 : w4.cell? ⟨w.heap.size + 1, 8, none⟩ = some (.int .i64 5) := fr_cell_of_heap HX4.out.op rfl
  have m8 : w4.cell? ⟨w.heap.size, 8, none⟩ = some (.int .i64 c.retries) := fr_cell_of_heap HM4.out.cfg HC.out.f8
  have r12 := fr_free_of_heap (i := 12) HX4.out.op
  have r10 := fr_free_of_heap (i := 10) HX4.out.op
  have r8 := fr_free_of_heap (i := 8) HX4.out.op
  go_upto_region 8 with fail
  obtain ⟨w5, hw5⟩ : ∃ w5 : World, w5 = ((w4.setCell ⟨w.heap.size + 1, 12, none⟩ (.int .i64 code)).setCell ⟨w.heap.size + 1, 10, none⟩ (.int .i64 (o.ret + 1))).setCell ⟨w.heap.size + 1, 8, none⟩ (.int .i64 2) := ⟨_, rfl⟩
  rw [← hw5]
  have HX5 := Lib.hid (show OpB w w5 (w.heap.size + 1) (w.heap.size + 2) (opA (midO o code)) #[.int .i64 0, .int .i64 0, .int .i64 0, .string { data := #[] }, .string { data := #[] }, .string { data := #[] }, .int .i64 0, .int .i64 0, .int .i64 0, .int .i64 0, .int .i64 0, .int .i64 0, .int .i64 0, .int .i64 0, .int .i64 0, .int .u64 0, .int .u64 0, .int .u64 0] by rw [hw5, ← midO_lit]; exact ((HX4.out.set 12 _).set 10 _).set 8 _)
  have HM5 := Lib.hid (show CfB w5 w.heap.size (w.heap.size + 1) (w.heap.size + 2) cs by rw [hw5]; exact ((HM4.out.set 12 _).set 10 _).set 8 _)
  clear hw5 e12 e10 e8 m8 r12 r10 r8
  have e10 : w5.cell? ⟨w.heap.size + 1, 10, none⟩ = some (.int .i64 (o.ret + 1)) := fr_cell_of_heap HX5.out.op rfl
  have m10 : w5.cell? ⟨w.heap.size, 10, none⟩ = some (.int .i64 c.base) := fr_cell_of_heap HM5.out.cfg HC.out.f10
  have m11 : w5.cell? ⟨w.heap.size, 11, none⟩ = some (.int .i64 c.most) := fr_cell_of_heap HM5.out.cfg HC.out.f11
  go_wp2_with fail
  refine (HWA.out _).mono ?_
  rintro e w6 ⟨rfl, hb6⟩
  have HX6 := Lib.hid (HX5.out.next hb6)
  clear e10 m10 m11 hb6
  go_wp2_with fail
  refine (HAD.out _).mono ?_
  rintro e w7 ⟨rfl, hb7⟩
  have HX7 := Lib.hid (HX6.out.next hb7)
  clear hb7
  have e16 : w7.cell? ⟨w.heap.size + 1, 16, none⟩ = some (.int .u64 0) := fr_cell_of_heap HX7.out.op rfl
  have r16 := fr_free_of_heap (i := 16) HX7.out.op
  go_upto_region 9 with fail
  obtain ⟨w8, hw8⟩ : ∃ w8 : World, w8 = w7.setCell ⟨w.heap.size + 1, 16, none⟩ (.int .u64 v) := ⟨_, rfl⟩
  rw [← hw8]
  have HX8 := Lib.hid (show OpB w w8 (w.heap.size + 1) (w.heap.size + 2) (opA (backO o code v)) #[.int .i64 0, .int .i64 0, .int .i64 0, .string { data := #[] }, .string { data := #[] }, .string { data := #[] }, .int .i64 0, .int .i64 0, .int .i64 0, .int .i64 0, .int .i64 0, .int .i64 0, .int .i64 0, .int .i64 0, .int .i64 0, .int .u64 0, .int .u64 0, .int .u64 0] by rw [hw8, ← backO_lit]; exact HX7.out.set 16 _)
  clear hw8 e16 r16
  go_wp2_with (first | (refine wpList_load_agg 46 HX8.out.op Tryz.underlying46 rfl (opA_info (backO o code v)) rfl _ rfl rfl ?_) | (refine wpList_store_row rfl 46 _ _ rfl (w.heap.size + 2) (opA (backO o code v)) rfl rfl 46 _ HX8.out.res (opA_info (backO o code v)) rfl (opA_one (backO o code v)) ?_))
  refine bodyPost_ret (v := .tuple #[.agg (opA (backO o code v)), .bool true]) (results_row2 Tryz.results45 rfl rfl (setRow_at HX8.out.res) Tryz.underlying46 rfl (opA_info (backO o code v))) rfl ⟨rfl, ?_⟩
  exact (HX8.out.out _).below
end Go.Proofs.YtmijmfgclmaodaaGreatDoor
