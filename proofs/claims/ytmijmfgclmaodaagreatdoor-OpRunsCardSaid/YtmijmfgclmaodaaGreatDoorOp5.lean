/-
  The page's example: the walk.
-/
import Derived.Test.YtmijmfgclmaodaaGreatDoorOp4
namespace Go.Proofs.YtmijmfgclmaodaaGreatDoor
open Go.RowKit

/-- The page's configuration, its numbers. -/
def oneC : Cfg := ⟨[], [], 1, 2, 3, 2, 2, 2, 1, 0, 1, 4, 5, 2, 2, 2, 50, 2, 0⟩
/-- What One hands out. -/
structure OneCells (cs : Array Value) (c : Cfg) : Prop where
  cells : ∃ tv lv, CfgCells cs tv lv c
  one : cs.all (·.oneCell') = true
  retries : c.retries = 1
  base : c.base = 1
  most : c.most = 4
set_option maxRecDepth 100000 in
set_option maxHeartbeats 4000000 in
theorem onecfg_any (w : World) :
    Calls Tryz.prog 42 #[] w fun e w' => ∃ cs c, e = .returned (.agg cs) ∧ OneCells cs c ∧ Below w.heap.size w w' := by
  go_enter Tryz.func42, Tryz.ntmps42
  go_wp2_with (refine wpList_store_row rfl 42 _ _ rfl w.heap.size _ rfl rfl 42 _ (fr_alloc_old fr_alloc_at) ?a1 ?a2 ?a3 ?_; (case a1 => exact cfg_info); (case a2 => rfl); (case a3 => simp [Value.oneCell']))
  refine bodyPost_ret (v := .agg _) (results_row1 Tryz.results42 rfl (setRow_at (fr_alloc_old fr_alloc_at)) Tryz.underlying42 rfl cfg_info) rfl ⟨_, oneC, rfl, ⟨⟨_, _, ⟨rfl, rfl, rfl, rfl, rfl, rfl, rfl, rfl, rfl, rfl, rfl, rfl, rfl, rfl, rfl, rfl, rfl, rfl, rfl, rfl⟩⟩, by simp [Value.oneCell'], rfl, rfl, rfl⟩, ?_⟩
  exact below_setRow (box_below.alloc (by simp) _) (Nat.le_refl _) _
set_option maxRecDepth 100000 in
set_option maxHeartbeats 4000000 in
theorem live30_any (w : World) :
    Calls Tryz.prog 12 #[] w fun e w' => e = .returned (.bool true) ∧ Below w.heap.size w w' := by
  go_enter Tryz.func12, Tryz.ntmps12
  go_wp2_with fail
  refine (onecfg_any _).mono ?_
  rintro e w1 ⟨cs, c, rfl, hc, hb1⟩
  have HC := Lib.hid hc
  have HB1 := Lib.hid hb1
  clear hc hb1
  obtain ⟨tv, lv, hcc⟩ := HC.out.cells
  have HCC := Lib.hid hcc
  clear hcc
  go_wp2_with (refine wpList_store_new rfl 42 _ _ rfl w1.heap.size rfl cs rfl rfl (cfg_sz HCC.out) (by rw [HCC.out.size]; rfl) HC.out.one ?_)
  refine (opnew_any _ _ _ _ _ _ _ _ _ _).mono ?_
  rintro e w2 ⟨rfl, hb2⟩
  have HG := Lib.hid (show w2.heap[w1.heap.size]? = some (.cells cs 42 (0, 0)) from (hb2.block _ (by simp)).trans fr_alloc_at)
  have HB2 := Lib.hid (HB1.out.trans (box_below2 hb2 |>.mono HB1.out.size))
  clear hb2
  obtain ⟨o1, ho1⟩ : ∃ o1, o1 = newO 1 0 0 ⟨#[107]⟩ ⟨#[]⟩ ⟨#[]⟩ 1 0 0 := ⟨_, rfl⟩
  rw [show newA 1 0 0 ⟨#[107]⟩ ⟨#[]⟩ ⟨#[]⟩ 1 0 0 = opA o1 by rw [ho1]; rfl]
  have Ho1 := Lib.hid ho1
  clear ho1
  go_wp2_with (first | (refine wpList_store_new rfl 46 _ _ rfl w2.heap.size rfl (opA o1) rfl rfl (opA_info o1) rfl (opA_one o1) ?_) | (refine wpList_load_agg 46 (fr_alloc_at (w := w2)) Tryz.underlying46 rfl (opA_info o1) rfl _ rfl rfl ?_))
  refine (opgrant_yes o1 1 1 5 _ (by rw [Ho1.out]; rfl) (by rw [Ho1.out]; rfl)).mono ?_
  rintro e w3 ⟨rfl, hb⟩
  have HB3 := Lib.hid (HB2.out.trans (box_below2 hb |>.mono HB2.out.size))
  have HG3 := Lib.hid (show w3.heap[w1.heap.size]? = some (.cells cs 42 (0, 0)) from (hb.block _ (by have := heap_lt HG.out; simp; omega)).trans (fr_alloc_old HG.out))
  have HK2 := Lib.hid (show w3.heap[w2.heap.size]? = some (.cells (opA o1) 46 (0, 0)) from (hb.block _ (by simp)).trans fr_alloc_at)
  clear hb HG
  have HG := HG3
  clear HG3
  obtain ⟨oa, hoa⟩ : ∃ x, x = grantO o1 1 1 5 := ⟨_, rfl⟩
  rw [← hoa]
  have Hoa := Lib.hid hoa
  clear hoa
  go_wp2_with (first | (refine wpList_store_new rfl 46 _ _ rfl w3.heap.size rfl (opA oa) rfl rfl (opA_info oa) rfl (opA_one oa) ?_) | (refine wpList_load_agg 46 (fr_alloc_at (w := w3)) Tryz.underlying46 rfl (opA_info oa) rfl _ rfl rfl ?_) | (refine wpList_load_agg 42 (fr_alloc_old HG.out) Tryz.underlying42 rfl (cfg_sz HCC.out) rfl _ rfl rfl ?_))
  refine (opfail_back cs tv lv c oa 3 6 1 7 _ HCC.out (by rw [Hoa.out]; rfl) (by rw [Hoa.out, Ho1.out, HC.out.retries]; decide) (by rw [Hoa.out, Ho1.out]; rfl) (by rw [Hoa.out, Ho1.out, HC.out.base, HC.out.most]; exact wait_page) add_page).mono ?_
  rintro e w4 ⟨rfl, hb⟩
  have HB4 := Lib.hid (HB3.out.trans (box_below2 hb |>.mono HB3.out.size))
  have HG4 := Lib.hid (show w4.heap[w1.heap.size]? = some (.cells cs 42 (0, 0)) from (hb.block _ (by have := heap_lt HG.out; simp; omega)).trans (fr_alloc_old HG.out))
  have HK3 := Lib.hid (show w4.heap[w3.heap.size]? = some (.cells (opA oa) 46 (0, 0)) from (hb.block _ (by simp)).trans fr_alloc_at)
  clear hb HG
  have HG := HG4
  clear HG4
  obtain ⟨ob, hob⟩ : ∃ x, x = backO oa 3 7 := ⟨_, rfl⟩
  rw [← hob]
  have Hob := Lib.hid hob
  clear hob
  go_wp2_with (first | (refine wpList_store_new rfl 46 _ _ rfl w4.heap.size rfl (opA ob) rfl rfl (opA_info ob) rfl (opA_one ob) ?_) | (refine wpList_load_agg 46 (fr_alloc_at (w := w4)) Tryz.underlying46 rfl (opA_info ob) rfl _ rfl rfl ?_))
  refine (opwake_yes ob _ (by rw [Hob.out]; rfl)).mono ?_
  rintro e w5 ⟨rfl, hb⟩
  have HB5 := Lib.hid (HB4.out.trans (box_below2 hb |>.mono HB4.out.size))
  have HG5 := Lib.hid (show w5.heap[w1.heap.size]? = some (.cells cs 42 (0, 0)) from (hb.block _ (by have := heap_lt HG.out; simp; omega)).trans (fr_alloc_old HG.out))
  have HK4 := Lib.hid (show w5.heap[w4.heap.size]? = some (.cells (opA ob) 46 (0, 0)) from (hb.block _ (by simp)).trans fr_alloc_at)
  clear hb HG
  have HG := HG5
  clear HG5
  obtain ⟨od, hod⟩ : ∃ x, x = toO ob 1 := ⟨_, rfl⟩
  rw [← hod]
  have Hod := Lib.hid hod
  clear hod
  go_wp2_with (first | (refine wpList_store_new rfl 46 _ _ rfl w5.heap.size rfl (opA od) rfl rfl (opA_info od) rfl (opA_one od) ?_) | (refine wpList_load_agg 46 (fr_alloc_at (w := w5)) Tryz.underlying46 rfl (opA_info od) rfl _ rfl rfl ?_))
  refine (opgrant_yes od 2 1 9 _ (by rw [Hod.out]; rfl) (by rw [Hod.out, Hob.out, Hoa.out, Ho1.out]; rfl)).mono ?_
  rintro e w6 ⟨rfl, hb⟩
  have HB6 := Lib.hid (HB5.out.trans (box_below2 hb |>.mono HB5.out.size))
  have HG6 := Lib.hid (show w6.heap[w1.heap.size]? = some (.cells cs 42 (0, 0)) from (hb.block _ (by have := heap_lt HG.out; simp; omega)).trans (fr_alloc_old HG.out))
  have HK5 := Lib.hid (show w6.heap[w5.heap.size]? = some (.cells (opA od) 46 (0, 0)) from (hb.block _ (by simp)).trans fr_alloc_at)
  have HK4n := Lib.hid (show w6.heap[w4.heap.size]? = some (.cells (opA ob) 46 (0, 0)) from (hb.block _ (by have := heap_lt HK4.out; simp; omega)).trans (fr_alloc_old HK4.out))
  clear HK4
  have HK4 := HK4n
  clear HK4n
  clear hb HG
  have HG := HG6
  clear HG6
  obtain ⟨oe, hoe⟩ : ∃ x, x = grantO od 2 1 9 := ⟨_, rfl⟩
  rw [← hoe]
  have Hoe := Lib.hid hoe
  clear hoe
  go_wp2_with (first | (refine wpList_store_new rfl 46 _ _ rfl w6.heap.size rfl (opA oe) rfl rfl (opA_info oe) rfl (opA_one oe) ?_) | (refine wpList_load_agg 46 (fr_alloc_at (w := w6)) Tryz.underlying46 rfl (opA_info oe) rfl _ rfl rfl ?_) | (refine wpList_load_agg 42 (fr_alloc_old HG.out) Tryz.underlying42 rfl (cfg_sz HCC.out) rfl _ rfl rfl ?_))
  refine (opfail_dead cs tv lv c oe 4 10 _ HCC.out (by rw [Hoe.out]; rfl) (by rw [Hoe.out, Hod.out, Hob.out, Hoa.out, Ho1.out, HC.out.retries]; decide)).mono ?_
  rintro e w7 ⟨rfl, hb⟩
  have HB7 := Lib.hid (HB6.out.trans (box_below2 hb |>.mono HB6.out.size))
  have HG7 := Lib.hid (show w7.heap[w1.heap.size]? = some (.cells cs 42 (0, 0)) from (hb.block _ (by have := heap_lt HG.out; simp; omega)).trans (fr_alloc_old HG.out))
  have HK6 := Lib.hid (show w7.heap[w6.heap.size]? = some (.cells (opA oe) 46 (0, 0)) from (hb.block _ (by simp)).trans fr_alloc_at)
  have HK4n := Lib.hid (show w7.heap[w4.heap.size]? = some (.cells (opA ob) 46 (0, 0)) from (hb.block _ (by have := heap_lt HK4.out; simp; omega)).trans (fr_alloc_old HK4.out))
  clear HK4
  have HK4 := HK4n
  clear HK4n
  clear hb HG
  have HG := HG7
  clear HG7
  obtain ⟨of, hof⟩ : ∃ x, x = deadO oe 4 := ⟨_, rfl⟩
  rw [← hof]
  have Hof := Lib.hid hof
  clear hof
  have e8 : (w7.alloc (.cells (opA of) 46)).cell? ⟨w4.heap.size, 8, none⟩ = some (.int .i64 2) := fr_cell_of_heap (fr_alloc_old HK4.out) (by rw [Hob.out]; rfl)
  have e16 : (w7.alloc (.cells (opA of) 46)).cell? ⟨w4.heap.size, 16, none⟩ = some (.int .u64 7) := fr_cell_of_heap (fr_alloc_old HK4.out) (by rw [Hob.out]; rfl)
  have f8 : (w7.alloc (.cells (opA of) 46)).cell? ⟨w7.heap.size, 8, none⟩ = some (.int .i64 5) := fr_cell_of_heap fr_alloc_at (by rw [Hof.out]; rfl)
  have f9 : (w7.alloc (.cells (opA of) 46)).cell? ⟨w7.heap.size, 9, none⟩ = some (.int .i64 2) := fr_cell_of_heap fr_alloc_at (by rw [Hof.out, Hoe.out, Hod.out, Hob.out, Hoa.out, Ho1.out]; rfl)
  have f12 : (w7.alloc (.cells (opA of) 46)).cell? ⟨w7.heap.size, 12, none⟩ = some (.int .i64 4) := fr_cell_of_heap fr_alloc_at (by rw [Hof.out]; rfl)
  go_wp2_with (refine wpList_store_new rfl 46 _ _ rfl w7.heap.size rfl (opA of) rfl rfl (opA_info of) rfl (opA_one of) ?_)
  refine (terminal_page _).mono ?_
  rintro e w8 ⟨rfl, hb8⟩
  have HB8 := Lib.hid (HB7.out.trans (box_below2 hb8 |>.mono HB7.out.size))
  clear hb8 e8 e16 f8 f9 f12
  go_wp2_with fail
  go_ret
  exact ⟨rfl, HB8.out⟩
end Go.Proofs.YtmijmfgclmaodaaGreatDoor
