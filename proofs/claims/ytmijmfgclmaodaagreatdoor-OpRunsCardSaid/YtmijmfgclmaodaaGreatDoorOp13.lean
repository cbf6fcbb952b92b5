/-
  Fail, Preempt, of an operation that may be: the walks.
-/
import Derived.Test.YtmijmfgclmaodaaGreatDoorOp12
namespace Go.Proofs.YtmijmfgclmaodaaGreatDoor
open Go.RowKit

set_option maxRecDepth 100000 in
set_option maxHeartbeats 4000000 in
theorem opfail_again (cs : Array Value) (tv lv : Value) (c : Cfg) (o : Opr) (code now : Int) (w : World) (hc : CfgCells cs tv lv c) (hk : OpOk c o) (hs : o.state = 3) (hlt : o.ret < c.retries) (hn0 : 0 ≤ now) (hn1 : now ≤ 18446744073709551615) (hc0 : 0 ≤ code) (hc1 : code ≤ 256) :
    Calls Tryz.prog 45 #[.agg cs, .agg (opA o), .int .i64 code, .int .u64 now] w (OpPost c o w) := by
  have HC := Lib.hid hc
  have HK := Lib.hid hk
  have HG := Lib.hid (fun v => good_back (v := v) hk hs hc0 hc1 hlt)
  have r0 := hk.ret0
  have hkc := cfgOk_of hk.chk
  have rt := hkc.retries.2
  have mo := hkc.most
  have b0 := base_of hk.chk
  clear hc hkc hk
  go_enter Tryz.func45, Tryz.ntmps45
  go_upto_region 1 with fail
  obtain ⟨w1, hw1⟩ : ∃ w1 : World, w1 = ((w.alloc (.cells cs 42)).alloc (.cells (opA o) 46)).alloc (.cells #[.int .i64 0, .int .i64 0, .int .i64 0, .string { data := #[] }, .string { data := #[] }, .string { data := #[] }, .int .i64 0, .int .i64 0, .int .i64 0, .int .i64 0, .int .i64 0, .int .i64 0, .int .i64 0, .int .i64 0, .int .i64 0, .int .u64 0, .int .u64 0, .int .u64 0] 46) := ⟨_, rfl⟩
  rw [← hw1]
  have HX := Lib.hid (show OpB w w1 (w.heap.size + 1) (w.heap.size + 2) (opA o) #[.int .i64 0, .int .i64 0, .int .i64 0, .string { data := #[] }, .string { data := #[] }, .string { data := #[] }, .int .i64 0, .int .i64 0, .int .i64 0, .int .i64 0, .int .i64 0, .int .i64 0, .int .i64 0, .int .i64 0, .int .i64 0, .int .u64 0, .int .u64 0, .int .u64 0] by rw [hw1]; exact opB_new3 w _ _ _)
  have HM := Lib.hid (show CfB w1 w.heap.size (w.heap.size + 1) (w.heap.size + 2) cs by rw [hw1]; exact cfB_new3 w _ _ _)
  clear hw1
  have e8 : w1.cell? ⟨w.heap.size + 1, 8, none⟩ = some (.int .i64 3) := by rw [← hs]; exact fr_cell_of_heap HX.out.op rfl
  clear hs
  go_wp2_with (refine wpList_load_agg 46 HX.out.op Tryz.underlying46 rfl (opA_info (o)) rfl _ rfl rfl ?_)
  refine (opto_any o 5 _).mono ?_
  rintro e w3 ⟨rfl, hb3⟩
  have HX3 := Lib.hid (HX.out.next hb3)
  have HM3 := Lib.hid (HM.out.next hb3)
  clear e8 hb3
  go_upto_region 4 with (refine wpList_store_row rfl 46 _ _ rfl (w.heap.size + 1) (opA (toO o 5)) rfl rfl 46 _ HX3.out.op (opA_info (toO o 5)) rfl (opA_one (toO o 5)) ?_)
  obtain ⟨w4, hw4⟩ : ∃ w4 : World, w4 = w3.setRow (w.heap.size + 1) (opA (toO o 5)) := ⟨_, rfl⟩
  rw [← hw4]
  have HX4 := Lib.hid (show OpB w w4 (w.heap.size + 1) (w.heap.size + 2) (opA (toO o 5)) #[.int .i64 0, .int .i64 0, .int .i64 0, .string { data := #[] }, .string { data := #[] }, .string { data := #[] }, .int .i64 0, .int .i64 0, .int .i64 0, .int .i64 0, .int .i64 0, .int .i64 0, .int .i64 0, .int .i64 0, .int .i64 0, .int .u64 0, .int .u64 0, .int .u64 0] by rw [hw4]; exact HX3.out.row _)
  have HM4 := Lib.hid (show CfB w4 w.heap.size (w.heap.size + 1) (w.heap.size + 2) cs by rw [hw4]; exact HM3.out.row _)
  clear hw4
  have e12 : w4.cell? ⟨w.heap.size + 1, 12, none⟩ = some (.int .i64 o.code) := fr_cell_of_heap HX4.out.op rfl
  have e10 : w4.cell? ⟨w.heap.size + 1, 10, none⟩ = some (.int .i64 o.ret) := fr_cell_of_heap HX4.out.op rfl
  have e8 : w4.cell? ⟨w.heap.size + 1, 8, none⟩ = some (.int .i64 5) := fr_cell_of_heap HX4.out.op rfl
  have r12 := fr_free_of_heap (i := 12) HX4.out.op
  have r10 := fr_free_of_heap (i := 10) HX4.out.op
  have r8 := fr_free_of_heap (i := 8) HX4.out.op
  have m8 : w4.cell? ⟨w.heap.size, 8, none⟩ = some (.int .i64 c.retries) := fr_cell_of_heap HM4.out.cfg HC.out.f8
  go_upto_region 8 with fail
  obtain ⟨w5, hw5⟩ : ∃ w5 : World, w5 = ((w4.setCell ⟨w.heap.size + 1, 12, none⟩ (.int .i64 code)).setCell ⟨w.heap.size + 1, 10, none⟩ (.int .i64 (o.ret + 1))).setCell ⟨w.heap.size + 1, 8, none⟩ (.int .i64 2) := ⟨_, rfl⟩
  rw [← hw5]
  have HX5 := Lib.hid (show OpB w w5 (w.heap.size + 1) (w.heap.size + 2) (opA (midO o code)) #[.int .i64 0, .int .i64 0, .int .i64 0, .string { data := #[] }, .string { data := #[] }, .string { data := #[] }, .int .i64 0, .int .i64 0, .int .i64 0, .int .i64 0, .int .i64 0, .int .i64 0, .int .i64 0, .int .i64 0, .int .i64 0, .int .u64 0, .int .u64 0, .int .u64 0] by rw [hw5, ← midO_lit]; exact ((HX4.out.set 12 _).set 10 _).set 8 _)
  have HM5 := Lib.hid (show CfB w5 w.heap.size (w.heap.size + 1) (w.heap.size + 2) cs by rw [hw5]; exact ((HM4.out.set 12 _).set 10 _).set 8 _)
  clear hw5 e12 e10 e8 m8 r12 r10 r8
  have e10 : w5.cell? ⟨w.heap.size + 1, 10, none⟩ = some (.int .i64 (o.ret + 1)) := fr_cell_of_heap HX5.out.op rfl
  have m10 : w5.cell? ⟨w.heap.size, 10, none⟩ = some (.int .i64 c.base) := fr_cell_of_heap HM5.out.cfg HC.out.f10
  have m11 : w5.cell? ⟨w.heap.size, 11, none⟩ = some (.int .i64 c.most) := fr_cell_of_heap HM5.out.cfg HC.out.f11
  go_wp2_with fail
  refine (wait_any _ _ _ _ b0.1 b0.2 mo.2 (by omega) (by omega)).mono ?_
  rintro e w6 ⟨n, rfl, n0, n1, rfl⟩
  clear e10 m10 m11
  go_wp2_with fail
  refine (tadd_any _ _ _ n0 n1 hn0 hn1).mono ?_
  rintro e w7 ⟨v, rfl, rfl⟩
  have e16 : w5.cell? ⟨w.heap.size + 1, 16, none⟩ = some (.int .u64 0) := fr_cell_of_heap HX5.out.op rfl
  have r16 := fr_free_of_heap (i := 16) HX5.out.op
  go_upto_region 9 with fail
  obtain ⟨w8, hw8⟩ : ∃ w8 : World, w8 = w5.setCell ⟨w.heap.size + 1, 16, none⟩ (.int .u64 v) := ⟨_, rfl⟩
  rw [← hw8]
  have HX8 := Lib.hid (show OpB w w8 (w.heap.size + 1) (w.heap.size + 2) (opA (backO o code v)) #[.int .i64 0, .int .i64 0, .int .i64 0, .string { data := #[] }, .string { data := #[] }, .string { data := #[] }, .int .i64 0, .int .i64 0, .int .i64 0, .int .i64 0, .int .i64 0, .int .i64 0, .int .i64 0, .int .i64 0, .int .i64 0, .int .u64 0, .int .u64 0, .int .u64 0] by rw [hw8, ← backO_lit]; exact HX5.out.set 16 _)
  clear hw8 e16 r16
  go_wp2_with (first | (refine wpList_load_agg 46 HX8.out.op Tryz.underlying46 rfl (opA_info (backO o code v)) rfl _ rfl rfl ?_) | (refine wpList_store_row rfl 46 _ _ rfl (w.heap.size + 2) (opA (backO o code v)) rfl rfl 46 _ HX8.out.res (opA_info (backO o code v)) rfl (opA_one (backO o code v)) ?_))
  refine bodyPost_ret (v := .tuple #[.agg (opA (backO o code v)), .bool true]) (results_row2 Tryz.results45 rfl rfl (setRow_at HX8.out.res) Tryz.underlying46 rfl (opA_info (backO o code v))) rfl ⟨_, _, rfl, HG.out v, ?_⟩
  exact (HX8.out.out _).below
theorem opfail_any (cs : Array Value) (tv lv : Value) (c : Cfg) (o : Opr) (code now : Int) (w : World) (hc : CfgCells cs tv lv c) (hk : OpOk c o) (hn0 : 0 ≤ now) (hn1 : now ≤ 18446744073709551615) (hc0 : 0 ≤ code) (hc1 : code ≤ 256) :
    Calls Tryz.prog 45 #[.agg cs, .agg (opA o), .int .i64 code, .int .u64 now] w (OpPost c o w) := by
  by_cases hs : o.state = 3
  · by_cases hr : o.ret < c.retries
    · exact opfail_again cs tv lv c o code now w hc hk hs hr hn0 hn1 hc0 hc1
    · refine (opfail_dead cs tv lv c o code now w hc hs (by omega)).mono ?_
      rintro e w' ⟨rfl, hb⟩
      exact ⟨_, _, rfl, good_dead hk hs hc0 hc1, hb⟩
  · refine (opfail_no cs code now o w (bne_iff_ne.2 hs)).mono ?_
    rintro e w' ⟨rfl, hb⟩
    exact ⟨_, _, rfl, good_none hk, hb⟩
set_option maxRecDepth 100000 in
set_option maxHeartbeats 4000000 in
theorem oppreempt_any (cs : Array Value) (tv lv : Value) (c : Cfg) (o : Opr) (w : World) (hc : CfgCells cs tv lv c) (hC : CfgAt w tv lv c) (hk : OpOk c o) :
    Calls Tryz.prog 48 #[.agg cs, .agg (opA o)] w (OpPost c o w) := by
  have HC := Lib.hid hc
  have HCA := Lib.hid hC
  have HK := Lib.hid hk
  have c0 := hk.cls0
  have c1 := hk.cls1
  have p0 := hk.pre0
  have p1 := hk.pre1
  have hkc := cfgOk_of hk.chk
  have l3 := hkc.ls
  have pt := hkc.preempts.2
  clear hc hC hk hkc
  go_enter Tryz.func48, Tryz.ntmps48
  go_upto_region 1 with fail
  obtain ⟨w1, hw1⟩ : ∃ w1 : World, w1 = ((w.alloc (.cells cs 42)).alloc (.cells (opA o) 46)).alloc (.cells #[.int .i64 0, .int .i64 0, .int .i64 0, .string { data := #[] }, .string { data := #[] }, .string { data := #[] }, .int .i64 0, .int .i64 0, .int .i64 0, .int .i64 0, .int .i64 0, .int .i64 0, .int .i64 0, .int .i64 0, .int .i64 0, .int .u64 0, .int .u64 0, .int .u64 0] 46) := ⟨_, rfl⟩
  rw [← hw1]
  have HX := Lib.hid (show OpB w w1 (w.heap.size + 1) (w.heap.size + 2) (opA o) #[.int .i64 0, .int .i64 0, .int .i64 0, .string { data := #[] }, .string { data := #[] }, .string { data := #[] }, .int .i64 0, .int .i64 0, .int .i64 0, .int .i64 0, .int .i64 0, .int .i64 0, .int .i64 0, .int .i64 0, .int .i64 0, .int .u64 0, .int .u64 0, .int .u64 0] by rw [hw1]; exact opB_new3 w _ _ _)
  have HM := Lib.hid (show CfB w1 w.heap.size (w.heap.size + 1) (w.heap.size + 2) cs by rw [hw1]; exact cfB_new3 w _ _ _)
  clear hw1
  go_wp2_with (first | (refine wpList_load_agg 46 HX.out.op Tryz.underlying46 rfl (opA_info (o)) rfl _ rfl rfl ?_) | (refine wpList_load_agg 42 HM.out.cfg Tryz.underlying42 rfl (cfg_sz HC.out) rfl _ rfl rfl ?_))
  refine (oplimit_any cs tv lv c o _ HC.out (HCA.out.below HX.out.below) HK.out).mono ?_
  rintro e w2 ⟨n, b, rfl, hb, hb2⟩
  have HX2 := Lib.hid (HX.out.next hb2)
  have HG := Lib.hid hb
  clear hb hb2
  rcases b with _ | _
  · go_wp2_with (first | (refine wpList_load_agg 46 HX2.out.op Tryz.underlying46 rfl (opA_info (o)) rfl _ rfl rfl ?_) | (refine wpList_store_row rfl 46 _ _ rfl (w.heap.size + 2) (opA (o)) rfl rfl 46 _ HX2.out.res (opA_info (o)) rfl (opA_one (o)) ?_))
    refine bodyPost_ret (v := .tuple #[.agg (opA o), .bool false]) (results_row2 Tryz.results48 rfl rfl (setRow_at HX2.out.res) Tryz.underlying46 rfl (opA_info o)) rfl ⟨_, _, rfl, good_none HK.out, ?_⟩
    exact (HX2.out.out _).below
  have HGD := Lib.hid (good_pre HK.out (HG.out rfl).1 (HG.out rfl).2.1 (HG.out rfl).2.2)
  clear HG
  go_wp2_with (refine wpList_load_agg 46 HX2.out.op Tryz.underlying46 rfl (opA_info (o)) rfl _ rfl rfl ?_)
  refine (opto_any o 1 _).mono ?_
  rintro e w3 ⟨rfl, hb3⟩
  have HX3 := Lib.hid (HX2.out.next hb3)
  clear hb3
  go_upto_region 5 with (refine wpList_store_row rfl 46 _ _ rfl (w.heap.size + 1) (opA (toO o 1)) rfl rfl 46 _ HX3.out.op (opA_info (toO o 1)) rfl (opA_one (toO o 1)) ?_)
  obtain ⟨w4, hw4⟩ : ∃ w4 : World, w4 = w3.setRow (w.heap.size + 1) (opA (toO o 1)) := ⟨_, rfl⟩
  rw [← hw4]
  have HX4 := Lib.hid (show OpB w w4 (w.heap.size + 1) (w.heap.size + 2) (opA (toO o 1)) #[.int .i64 0, .int .i64 0, .int .i64 0, .string { data := #[] }, .string { data := #[] }, .string { data := #[] }, .int .i64 0, .int .i64 0, .int .i64 0, .int .i64 0, .int .i64 0, .int .i64 0, .int .i64 0, .int .i64 0, .int .i64 0, .int .u64 0, .int .u64 0, .int .u64 0] by rw [hw4]; exact HX3.out.row _)
  clear hw4
  have e7 : w4.cell? ⟨w.heap.size + 1, 7, none⟩ = some (.int .i64 o.cls) := fr_cell_of_heap HX4.out.op rfl
  have e11 : w4.cell? ⟨w.heap.size + 1, 11, none⟩ = some (.int .i64 o.pre) := fr_cell_of_heap HX4.out.op rfl
  have r7 := fr_free_of_heap (i := 7) HX4.out.op
  have r11 := fr_free_of_heap (i := 11) HX4.out.op
  go_upto_region 7 with fail
  obtain ⟨w5, hw5⟩ : ∃ w5 : World, w5 = (w4.setCell ⟨w.heap.size + 1, 7, none⟩ (.int .i64 (o.cls + 1))).setCell ⟨w.heap.size + 1, 11, none⟩ (.int .i64 (o.pre + 1)) := ⟨_, rfl⟩
  rw [← hw5]
  have HX5 := Lib.hid (show OpB w w5 (w.heap.size + 1) (w.heap.size + 2) (opA (preO o)) #[.int .i64 0, .int .i64 0, .int .i64 0, .string { data := #[] }, .string { data := #[] }, .string { data := #[] }, .int .i64 0, .int .i64 0, .int .i64 0, .int .i64 0, .int .i64 0, .int .i64 0, .int .i64 0, .int .i64 0, .int .i64 0, .int .u64 0, .int .u64 0, .int .u64 0] by rw [hw5, ← preO_lit]; exact (HX4.out.set 7 _).set 11 _)
  clear hw5 e7 e11 r7 r11
  go_wp2_with (first | (refine wpList_load_agg 46 HX5.out.op Tryz.underlying46 rfl (opA_info (preO o)) rfl _ rfl rfl ?_) | (refine wpList_store_row rfl 46 _ _ rfl (w.heap.size + 2) (opA (preO o)) rfl rfl 46 _ HX5.out.res (opA_info (preO o)) rfl (opA_one (preO o)) ?_))
  refine bodyPost_ret (v := .tuple #[.agg (opA (preO o)), .bool true]) (results_row2 Tryz.results48 rfl rfl (setRow_at HX5.out.res) Tryz.underlying46 rfl (opA_info (preO o))) rfl ⟨_, _, rfl, HGD.out, ?_⟩
  exact (HX5.out.out _).below
end Go.Proofs.YtmijmfgclmaodaaGreatDoor
