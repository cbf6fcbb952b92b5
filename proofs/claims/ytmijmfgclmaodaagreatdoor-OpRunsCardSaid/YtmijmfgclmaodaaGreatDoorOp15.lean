/-
  turn: the walk.
-/
import Derived.Test.YtmijmfgclmaodaaGreatDoorOp13
import Derived.Test.YtmijmfgclmaodaaGreatDoorOpEq
namespace Go.Proofs.YtmijmfgclmaodaaGreatDoor
open Go.RowKit

/-- A call that is gone through. -/
structure ActOk (k a b now : Int) : Prop where
  grant : k = 0 → 1 ≤ a ∧ 1 ≤ b
  code : k = 1 ∨ k = 2 → 0 ≤ a ∧ a ≤ 256
  now0 : 0 ≤ now
  now1 : now ≤ 18446744073709551615
theorem opgrant_any (c : Cfg) (o : Opr) (ep wk now : Int) (w : World) (hk : OpOk c o) (h1 : 1 ≤ ep) (h2 : 1 ≤ wk) :
    Calls Tryz.prog 44 #[.agg (opA o), .int .i64 ep, .int .i64 wk, .int .u64 now] w (OpPost c o w) := by
  by_cases hs : o.state = 1
  · refine (opgrant_yes o ep wk now w hs hk.next).mono ?_
    rintro e w' ⟨rfl, hb⟩
    exact ⟨_, _, rfl, good_grant hk hs h1 h2, hb⟩
  · refine (opgrant_no ep wk now o w (bne_iff_ne.2 hs)).mono ?_
    rintro e w' ⟨rfl, hb⟩
    exact ⟨_, _, rfl, good_none hk, hb⟩
theorem opdone_any (c : Cfg) (o : Opr) (code : Int) (w : World) (hk : OpOk c o) (h1 : 0 ≤ code) (h2 : code ≤ 256) :
    Calls Tryz.prog 47 #[.agg (opA o), .int .i64 code] w (OpPost c o w) := by
  by_cases hs : o.state = 3
  · refine (opdone_yes o code w hs).mono ?_
    rintro e w' ⟨rfl, hb⟩
    exact ⟨_, _, rfl, good_done hk hs h1 h2, hb⟩
  · refine (opdone_no code o w (bne_iff_ne.2 hs)).mono ?_
    rintro e w' ⟨rfl, hb⟩
    exact ⟨_, _, rfl, good_none hk, hb⟩
theorem opwake_any (c : Cfg) (o : Opr) (w : World) (hk : OpOk c o) :
    Calls Tryz.prog 46 #[.agg (opA o)] w (OpPost c o w) := by
  by_cases hs : o.state = 2
  · refine (opwake_yes o w hs).mono ?_
    rintro e w' ⟨rfl, hb⟩
    exact ⟨_, _, rfl, good_wake hk hs, hb⟩
  · refine (opwake_no o w (bne_iff_ne.2 hs)).mono ?_
    rintro e w' ⟨rfl, hb⟩
    exact ⟨_, _, rfl, good_none hk, hb⟩
/-- What is at hand behind the boxes of turn. -/
structure TurnB (w w' : World) (cs os xs : Array Value) : Prop where
  below : Below w.heap.size w w'
  cfg : w'.heap[w.heap.size]? = some (.cells cs 42 (0, 0))
  op : w'.heap[w.heap.size + 1]? = some (.cells os 46 (0, 0))
  act : w'.heap[w.heap.size + 2]? = some (.cells xs 50 (0, 0))
  res : w'.heap[w.heap.size + 3]? = some (.cells #[.int .i64 0, .int .i64 0, .int .i64 0, .string { data := #[] }, .string { data := #[] }, .string { data := #[] }, .int .i64 0, .int .i64 0, .int .i64 0, .int .i64 0, .int .i64 0, .int .i64 0, .int .i64 0, .int .i64 0, .int .i64 0, .int .u64 0, .int .u64 0, .int .u64 0] 46 (0, 0))
theorem TurnB.next {w w1 w2 : World} {cs os xs : Array Value} (h : TurnB w w1 cs os xs) (hb : Below w1.heap.size w1 w2) : TurnB w w2 cs os xs :=
  ⟨h.below.trans (hb.mono h.below.size), (hb.block _ (heap_lt h.cfg)).trans h.cfg, (hb.block _ (heap_lt h.op)).trans h.op, (hb.block _ (heap_lt h.act)).trans h.act, (hb.block _ (heap_lt h.res)).trans h.res⟩
theorem turnB_new (w : World) (cs os xs : Array Value) : TurnB w ((((w.alloc (.cells cs 42)).alloc (.cells os 46)).alloc (.cells xs 50)).alloc (.cells #[.int .i64 0, .int .i64 0, .int .i64 0, .string { data := #[] }, .string { data := #[] }, .string { data := #[] }, .int .i64 0, .int .i64 0, .int .i64 0, .int .i64 0, .int .i64 0, .int .i64 0, .int .i64 0, .int .i64 0, .int .i64 0, .int .u64 0, .int .u64 0, .int .u64 0] 46)) cs os xs := by
  have h := heap_alloc_two ((w.alloc (.cells cs 42)).alloc (.cells os 46)) (.cells xs 50) (.cells #[.int .i64 0, .int .i64 0, .int .i64 0, .string { data := #[] }, .string { data := #[] }, .string { data := #[] }, .int .i64 0, .int .i64 0, .int .i64 0, .int .i64 0, .int .i64 0, .int .i64 0, .int .i64 0, .int .i64 0, .int .i64 0, .int .u64 0, .int .u64 0, .int .u64 0] 46)
  have h2 := heap_alloc_two (w.alloc (.cells cs 42)) (.cells os 46) (.cells xs 50)
  exact ⟨(((box_below).alloc (by simp) _).alloc (by simp; omega) _).alloc (by simp; omega) _, fr_alloc_old (fr_alloc_old (fr_alloc_old fr_alloc_at)), fr_alloc_old (fr_alloc_old (heap_alloc_two _ _ _)), fr_alloc_old (by simpa using h2), by simpa using h⟩
set_option maxRecDepth 100000 in
set_option maxHeartbeats 2000000 in
theorem turn_0 (cs : Array Value) (tv lv : Value) (c : Cfg) (o : Opr) (a b now : Int) (w : World) (hc : CfgCells cs tv lv c) (hk : OpOk c o) (ha : ActOk 0 a b now) :
    Calls Tryz.prog 13 #[.agg cs, .agg (opA o), .agg #[.int .i64 0, .int .i64 a, .int .i64 b, .int .u64 now]] w (OpPost c o w) := by
  have HC := Lib.hid hc
  have HK := Lib.hid hk
  have HA := Lib.hid ha
  clear ha
  clear hc hk
  go_enter Tryz.func13, Tryz.ntmps13
  go_upto_region 1 with fail
  obtain ⟨w1, hw1⟩ : ∃ w1 : World, w1 = (((w.alloc (.cells cs 42)).alloc (.cells (opA o) 46)).alloc (.cells #[.int .i64 0, .int .i64 a, .int .i64 b, .int .u64 now] 50)).alloc (.cells #[.int .i64 0, .int .i64 0, .int .i64 0, .string { data := #[] }, .string { data := #[] }, .string { data := #[] }, .int .i64 0, .int .i64 0, .int .i64 0, .int .i64 0, .int .i64 0, .int .i64 0, .int .i64 0, .int .i64 0, .int .i64 0, .int .u64 0, .int .u64 0, .int .u64 0] 46) := ⟨_, rfl⟩
  rw [← hw1]
  have HX := Lib.hid (show TurnB w w1 cs (opA o) #[.int .i64 0, .int .i64 a, .int .i64 b, .int .u64 now] by rw [hw1]; exact turnB_new w _ _ _)
  clear hw1
  have e0 : w1.cell? ⟨w.heap.size + 2, 0, none⟩ = some (.int .i64 0) := fr_cell_of_heap HX.out.act rfl
  have e1 : w1.cell? ⟨w.heap.size + 2, 1, none⟩ = some (.int .i64 a) := fr_cell_of_heap HX.out.act rfl
  have e2 : w1.cell? ⟨w.heap.size + 2, 2, none⟩ = some (.int .i64 b) := fr_cell_of_heap HX.out.act rfl
  have e3 : w1.cell? ⟨w.heap.size + 2, 3, none⟩ = some (.int .u64 now) := fr_cell_of_heap HX.out.act rfl
  go_wp2_with (first | (refine wpList_load_agg 46 HX.out.op Tryz.underlying46 rfl (opA_info o) rfl _ rfl rfl ?_) | (refine wpList_load_agg 42 HX.out.cfg Tryz.underlying42 rfl (cfg_sz HC.out) rfl _ rfl rfl ?_))
  refine (opgrant_any c o a b now _ HK.out (HA.out.grant rfl).1 (HA.out.grant rfl).2).mono ?_
  rintro e w2 ⟨x, q, rfl, hg, hb⟩
  have HG := Lib.hid hg
  have HX2 := Lib.hid (HX.out.next hb)
  clear hg hb e0 e1 e2 e3
  go_wp2_with (refine wpList_store_row rfl 46 _ _ rfl (w.heap.size + 3) (opA x) rfl rfl 46 _ HX2.out.res (opA_info x) rfl (opA_one x) ?_)
  refine bodyPost_ret (v := .tuple #[.agg (opA x), .bool q]) (results_row2 Tryz.results13 rfl rfl (setRow_at HX2.out.res) Tryz.underlying46 rfl (opA_info x)) rfl ⟨_, _, rfl, HG.out, ?_⟩
  exact below_setRow HX2.out.below (by omega) _
set_option maxRecDepth 100000 in
set_option maxHeartbeats 2000000 in
theorem turn_1 (cs : Array Value) (tv lv : Value) (c : Cfg) (o : Opr) (a b now : Int) (w : World) (hc : CfgCells cs tv lv c) (hk : OpOk c o) (ha : ActOk 1 a b now) :
    Calls Tryz.prog 13 #[.agg cs, .agg (opA o), .agg #[.int .i64 1, .int .i64 a, .int .i64 b, .int .u64 now]] w (OpPost c o w) := by
  have HC := Lib.hid hc
  have HK := Lib.hid hk
  have HA := Lib.hid ha
  clear ha
  clear hc hk
  go_enter Tryz.func13, Tryz.ntmps13
  go_upto_region 1 with fail
  obtain ⟨w1, hw1⟩ : ∃ w1 : World, w1 = (((w.alloc (.cells cs 42)).alloc (.cells (opA o) 46)).alloc (.cells #[.int .i64 1, .int .i64 a, .int .i64 b, .int .u64 now] 50)).alloc (.cells #[.int .i64 0, .int .i64 0, .int .i64 0, .string { data := #[] }, .string { data := #[] }, .string { data := #[] }, .int .i64 0, .int .i64 0, .int .i64 0, .int .i64 0, .int .i64 0, .int .i64 0, .int .i64 0, .int .i64 0, .int .i64 0, .int .u64 0, .int .u64 0, .int .u64 0] 46) := ⟨_, rfl⟩
  rw [← hw1]
  have HX := Lib.hid (show TurnB w w1 cs (opA o) #[.int .i64 1, .int .i64 a, .int .i64 b, .int .u64 now] by rw [hw1]; exact turnB_new w _ _ _)
  clear hw1
  have e0 : w1.cell? ⟨w.heap.size + 2, 0, none⟩ = some (.int .i64 1) := fr_cell_of_heap HX.out.act rfl
  have e1 : w1.cell? ⟨w.heap.size + 2, 1, none⟩ = some (.int .i64 a) := fr_cell_of_heap HX.out.act rfl
  have e2 : w1.cell? ⟨w.heap.size + 2, 2, none⟩ = some (.int .i64 b) := fr_cell_of_heap HX.out.act rfl
  have e3 : w1.cell? ⟨w.heap.size + 2, 3, none⟩ = some (.int .u64 now) := fr_cell_of_heap HX.out.act rfl
  go_wp2_with (first | (refine wpList_load_agg 46 HX.out.op Tryz.underlying46 rfl (opA_info o) rfl _ rfl rfl ?_) | (refine wpList_load_agg 42 HX.out.cfg Tryz.underlying42 rfl (cfg_sz HC.out) rfl _ rfl rfl ?_))
  refine (opdone_any c o a _ HK.out (HA.out.code (.inl rfl)).1 (HA.out.code (.inl rfl)).2).mono ?_
  rintro e w2 ⟨x, q, rfl, hg, hb⟩
  have HG := Lib.hid hg
  have HX2 := Lib.hid (HX.out.next hb)
  clear hg hb e0 e1 e2 e3
  go_wp2_with (refine wpList_store_row rfl 46 _ _ rfl (w.heap.size + 3) (opA x) rfl rfl 46 _ HX2.out.res (opA_info x) rfl (opA_one x) ?_)
  refine bodyPost_ret (v := .tuple #[.agg (opA x), .bool q]) (results_row2 Tryz.results13 rfl rfl (setRow_at HX2.out.res) Tryz.underlying46 rfl (opA_info x)) rfl ⟨_, _, rfl, HG.out, ?_⟩
  exact below_setRow HX2.out.below (by omega) _
set_option maxRecDepth 100000 in
set_option maxHeartbeats 2000000 in
theorem turn_2 (cs : Array Value) (tv lv : Value) (c : Cfg) (o : Opr) (a b now : Int) (w : World) (hc : CfgCells cs tv lv c) (hk : OpOk c o) (ha : ActOk 2 a b now) :
    Calls Tryz.prog 13 #[.agg cs, .agg (opA o), .agg #[.int .i64 2, .int .i64 a, .int .i64 b, .int .u64 now]] w (OpPost c o w) := by
  have HC := Lib.hid hc
  have HK := Lib.hid hk
  have HA := Lib.hid ha
  clear ha
  clear hc hk
  go_enter Tryz.func13, Tryz.ntmps13
  go_upto_region 1 with fail
  obtain ⟨w1, hw1⟩ : ∃ w1 : World, w1 = (((w.alloc (.cells cs 42)).alloc (.cells (opA o) 46)).alloc (.cells #[.int .i64 2, .int .i64 a, .int .i64 b, .int .u64 now] 50)).alloc (.cells #[.int .i64 0, .int .i64 0, .int .i64 0, .string { data := #[] }, .string { data := #[] }, .string { data := #[] }, .int .i64 0, .int .i64 0, .int .i64 0, .int .i64 0, .int .i64 0, .int .i64 0, .int .i64 0, .int .i64 0, .int .i64 0, .int .u64 0, .int .u64 0, .int .u64 0] 46) := ⟨_, rfl⟩
  rw [← hw1]
  have HX := Lib.hid (show TurnB w w1 cs (opA o) #[.int .i64 2, .int .i64 a, .int .i64 b, .int .u64 now] by rw [hw1]; exact turnB_new w _ _ _)
  clear hw1
  have e0 : w1.cell? ⟨w.heap.size + 2, 0, none⟩ = some (.int .i64 2) := fr_cell_of_heap HX.out.act rfl
  have e1 : w1.cell? ⟨w.heap.size + 2, 1, none⟩ = some (.int .i64 a) := fr_cell_of_heap HX.out.act rfl
  have e2 : w1.cell? ⟨w.heap.size + 2, 2, none⟩ = some (.int .i64 b) := fr_cell_of_heap HX.out.act rfl
  have e3 : w1.cell? ⟨w.heap.size + 2, 3, none⟩ = some (.int .u64 now) := fr_cell_of_heap HX.out.act rfl
  go_wp2_with (first | (refine wpList_load_agg 46 HX.out.op Tryz.underlying46 rfl (opA_info o) rfl _ rfl rfl ?_) | (refine wpList_load_agg 42 HX.out.cfg Tryz.underlying42 rfl (cfg_sz HC.out) rfl _ rfl rfl ?_))
  refine (opfail_any cs tv lv c o a now _ HC.out HK.out HA.out.now0 HA.out.now1 (HA.out.code (.inr rfl)).1 (HA.out.code (.inr rfl)).2).mono ?_
  rintro e w2 ⟨x, q, rfl, hg, hb⟩
  have HG := Lib.hid hg
  have HX2 := Lib.hid (HX.out.next hb)
  clear hg hb e0 e1 e2 e3
  go_wp2_with (refine wpList_store_row rfl 46 _ _ rfl (w.heap.size + 3) (opA x) rfl rfl 46 _ HX2.out.res (opA_info x) rfl (opA_one x) ?_)
  refine bodyPost_ret (v := .tuple #[.agg (opA x), .bool q]) (results_row2 Tryz.results13 rfl rfl (setRow_at HX2.out.res) Tryz.underlying46 rfl (opA_info x)) rfl ⟨_, _, rfl, HG.out, ?_⟩
  exact below_setRow HX2.out.below (by omega) _
set_option maxRecDepth 100000 in
set_option maxHeartbeats 2000000 in
theorem turn_3 (cs : Array Value) (tv lv : Value) (c : Cfg) (o : Opr) (a b now : Int) (w : World) (hc : CfgCells cs tv lv c) (hk : OpOk c o) :
    Calls Tryz.prog 13 #[.agg cs, .agg (opA o), .agg #[.int .i64 3, .int .i64 a, .int .i64 b, .int .u64 now]] w (OpPost c o w) := by
  have HC := Lib.hid hc
  have HK := Lib.hid hk
  clear hc hk
  go_enter Tryz.func13, Tryz.ntmps13
  go_upto_region 1 with fail
  obtain ⟨w1, hw1⟩ : ∃ w1 : World, w1 = (((w.alloc (.cells cs 42)).alloc (.cells (opA o) 46)).alloc (.cells #[.int .i64 3, .int .i64 a, .int .i64 b, .int .u64 now] 50)).alloc (.cells #[.int .i64 0, .int .i64 0, .int .i64 0, .string { data := #[] }, .string { data := #[] }, .string { data := #[] }, .int .i64 0, .int .i64 0, .int .i64 0, .int .i64 0, .int .i64 0, .int .i64 0, .int .i64 0, .int .i64 0, .int .i64 0, .int .u64 0, .int .u64 0, .int .u64 0] 46) := ⟨_, rfl⟩
  rw [← hw1]
  have HX := Lib.hid (show TurnB w w1 cs (opA o) #[.int .i64 3, .int .i64 a, .int .i64 b, .int .u64 now] by rw [hw1]; exact turnB_new w _ _ _)
  clear hw1
  have e0 : w1.cell? ⟨w.heap.size + 2, 0, none⟩ = some (.int .i64 3) := fr_cell_of_heap HX.out.act rfl
  have e1 : w1.cell? ⟨w.heap.size + 2, 1, none⟩ = some (.int .i64 a) := fr_cell_of_heap HX.out.act rfl
  have e2 : w1.cell? ⟨w.heap.size + 2, 2, none⟩ = some (.int .i64 b) := fr_cell_of_heap HX.out.act rfl
  have e3 : w1.cell? ⟨w.heap.size + 2, 3, none⟩ = some (.int .u64 now) := fr_cell_of_heap HX.out.act rfl
  go_wp2_with (first | (refine wpList_load_agg 46 HX.out.op Tryz.underlying46 rfl (opA_info o) rfl _ rfl rfl ?_) | (refine wpList_load_agg 42 HX.out.cfg Tryz.underlying42 rfl (cfg_sz HC.out) rfl _ rfl rfl ?_))
  refine (opwake_any c o _ HK.out).mono ?_
  rintro e w2 ⟨x, q, rfl, hg, hb⟩
  have HG := Lib.hid hg
  have HX2 := Lib.hid (HX.out.next hb)
  clear hg hb e0 e1 e2 e3
  go_wp2_with (refine wpList_store_row rfl 46 _ _ rfl (w.heap.size + 3) (opA x) rfl rfl 46 _ HX2.out.res (opA_info x) rfl (opA_one x) ?_)
  refine bodyPost_ret (v := .tuple #[.agg (opA x), .bool q]) (results_row2 Tryz.results13 rfl rfl (setRow_at HX2.out.res) Tryz.underlying46 rfl (opA_info x)) rfl ⟨_, _, rfl, HG.out, ?_⟩
  exact below_setRow HX2.out.below (by omega) _
set_option maxRecDepth 100000 in
set_option maxHeartbeats 2000000 in
theorem turn_4 (cs : Array Value) (tv lv : Value) (c : Cfg) (o : Opr) (a b now : Int) (w : World) (hc : CfgCells cs tv lv c) (hC : CfgAt w tv lv c) (hk : OpOk c o) :
    Calls Tryz.prog 13 #[.agg cs, .agg (opA o), .agg #[.int .i64 4, .int .i64 a, .int .i64 b, .int .u64 now]] w (OpPost c o w) := by
  have HC := Lib.hid hc
  have HCA := Lib.hid hC
  clear hC
  have HK := Lib.hid hk
  clear hc hk
  go_enter Tryz.func13, Tryz.ntmps13
  go_upto_region 1 with fail
  obtain ⟨w1, hw1⟩ : ∃ w1 : World, w1 = (((w.alloc (.cells cs 42)).alloc (.cells (opA o) 46)).alloc (.cells #[.int .i64 4, .int .i64 a, .int .i64 b, .int .u64 now] 50)).alloc (.cells #[.int .i64 0, .int .i64 0, .int .i64 0, .string { data := #[] }, .string { data := #[] }, .string { data := #[] }, .int .i64 0, .int .i64 0, .int .i64 0, .int .i64 0, .int .i64 0, .int .i64 0, .int .i64 0, .int .i64 0, .int .i64 0, .int .u64 0, .int .u64 0, .int .u64 0] 46) := ⟨_, rfl⟩
  rw [← hw1]
  have HX := Lib.hid (show TurnB w w1 cs (opA o) #[.int .i64 4, .int .i64 a, .int .i64 b, .int .u64 now] by rw [hw1]; exact turnB_new w _ _ _)
  clear hw1
  have e0 : w1.cell? ⟨w.heap.size + 2, 0, none⟩ = some (.int .i64 4) := fr_cell_of_heap HX.out.act rfl
  have e1 : w1.cell? ⟨w.heap.size + 2, 1, none⟩ = some (.int .i64 a) := fr_cell_of_heap HX.out.act rfl
  have e2 : w1.cell? ⟨w.heap.size + 2, 2, none⟩ = some (.int .i64 b) := fr_cell_of_heap HX.out.act rfl
  have e3 : w1.cell? ⟨w.heap.size + 2, 3, none⟩ = some (.int .u64 now) := fr_cell_of_heap HX.out.act rfl
  go_wp2_with (first | (refine wpList_load_agg 46 HX.out.op Tryz.underlying46 rfl (opA_info o) rfl _ rfl rfl ?_) | (refine wpList_load_agg 42 HX.out.cfg Tryz.underlying42 rfl (cfg_sz HC.out) rfl _ rfl rfl ?_))
  refine (oppreempt_any cs tv lv c o _ HC.out (HCA.out.below HX.out.below) HK.out).mono ?_
  rintro e w2 ⟨x, q, rfl, hg, hb⟩
  have HG := Lib.hid hg
  have HX2 := Lib.hid (HX.out.next hb)
  clear hg hb e0 e1 e2 e3
  go_wp2_with (refine wpList_store_row rfl 46 _ _ rfl (w.heap.size + 3) (opA x) rfl rfl 46 _ HX2.out.res (opA_info x) rfl (opA_one x) ?_)
  refine bodyPost_ret (v := .tuple #[.agg (opA x), .bool q]) (results_row2 Tryz.results13 rfl rfl (setRow_at HX2.out.res) Tryz.underlying46 rfl (opA_info x)) rfl ⟨_, _, rfl, HG.out, ?_⟩
  exact below_setRow HX2.out.below (by omega) _
set_option maxRecDepth 100000 in
set_option maxHeartbeats 2000000 in
theorem turn_5 (cs : Array Value) (tv lv : Value) (c : Cfg) (o : Opr) (a b now : Int) (w : World) (hc : CfgCells cs tv lv c) (hk : OpOk c o) :
    Calls Tryz.prog 13 #[.agg cs, .agg (opA o), .agg #[.int .i64 5, .int .i64 a, .int .i64 b, .int .u64 now]] w (OpPost c o w) := by
  have HC := Lib.hid hc
  have HK := Lib.hid hk
  clear hc hk
  go_enter Tryz.func13, Tryz.ntmps13
  go_upto_region 1 with fail
  obtain ⟨w1, hw1⟩ : ∃ w1 : World, w1 = (((w.alloc (.cells cs 42)).alloc (.cells (opA o) 46)).alloc (.cells #[.int .i64 5, .int .i64 a, .int .i64 b, .int .u64 now] 50)).alloc (.cells #[.int .i64 0, .int .i64 0, .int .i64 0, .string { data := #[] }, .string { data := #[] }, .string { data := #[] }, .int .i64 0, .int .i64 0, .int .i64 0, .int .i64 0, .int .i64 0, .int .i64 0, .int .i64 0, .int .i64 0, .int .i64 0, .int .u64 0, .int .u64 0, .int .u64 0] 46) := ⟨_, rfl⟩
  rw [← hw1]
  have HX := Lib.hid (show TurnB w w1 cs (opA o) #[.int .i64 5, .int .i64 a, .int .i64 b, .int .u64 now] by rw [hw1]; exact turnB_new w _ _ _)
  clear hw1
  have e0 : w1.cell? ⟨w.heap.size + 2, 0, none⟩ = some (.int .i64 5) := fr_cell_of_heap HX.out.act rfl
  have e1 : w1.cell? ⟨w.heap.size + 2, 1, none⟩ = some (.int .i64 a) := fr_cell_of_heap HX.out.act rfl
  have e2 : w1.cell? ⟨w.heap.size + 2, 2, none⟩ = some (.int .i64 b) := fr_cell_of_heap HX.out.act rfl
  have e3 : w1.cell? ⟨w.heap.size + 2, 3, none⟩ = some (.int .u64 now) := fr_cell_of_heap HX.out.act rfl
  go_wp2_with (first | (refine wpList_load_agg 46 HX.out.op Tryz.underlying46 rfl (opA_info o) rfl _ rfl rfl ?_) | (refine wpList_load_agg 42 HX.out.cfg Tryz.underlying42 rfl (cfg_sz HC.out) rfl _ rfl rfl ?_))
  refine (opcancel_any c o _ HK.out).mono ?_
  rintro e w2 ⟨x, q, rfl, hg, hb⟩
  have HG := Lib.hid hg
  have HX2 := Lib.hid (HX.out.next hb)
  clear hg hb e0 e1 e2 e3
  go_wp2_with (refine wpList_store_row rfl 46 _ _ rfl (w.heap.size + 3) (opA x) rfl rfl 46 _ HX2.out.res (opA_info x) rfl (opA_one x) ?_)
  refine bodyPost_ret (v := .tuple #[.agg (opA x), .bool q]) (results_row2 Tryz.results13 rfl rfl (setRow_at HX2.out.res) Tryz.underlying46 rfl (opA_info x)) rfl ⟨_, _, rfl, HG.out, ?_⟩
  exact below_setRow HX2.out.below (by omega) _
set_option maxRecDepth 100000 in
set_option maxHeartbeats 2000000 in
theorem turn_6 (cs : Array Value) (tv lv : Value) (c : Cfg) (o : Opr) (k : Int) (a b now : Int) (w : World) (hc : CfgCells cs tv lv c) (hk : OpOk c o) (h0 : (k == 0) = false) (h1 : (k == 1) = false) (h2 : (k == 2) = false) (h3 : (k == 3) = false) (h4 : (k == 4) = false) (h5 : (k == 5) = false) :
    Calls Tryz.prog 13 #[.agg cs, .agg (opA o), .agg #[.int .i64 k, .int .i64 a, .int .i64 b, .int .u64 now]] w (OpPost c o w) := by
  have HC := Lib.hid hc
  have HK := Lib.hid hk
  clear hc hk
  go_enter Tryz.func13, Tryz.ntmps13
  go_upto_region 1 with fail
  obtain ⟨w1, hw1⟩ : ∃ w1 : World, w1 = (((w.alloc (.cells cs 42)).alloc (.cells (opA o) 46)).alloc (.cells #[.int .i64 k, .int .i64 a, .int .i64 b, .int .u64 now] 50)).alloc (.cells #[.int .i64 0, .int .i64 0, .int .i64 0, .string { data := #[] }, .string { data := #[] }, .string { data := #[] }, .int .i64 0, .int .i64 0, .int .i64 0, .int .i64 0, .int .i64 0, .int .i64 0, .int .i64 0, .int .i64 0, .int .i64 0, .int .u64 0, .int .u64 0, .int .u64 0] 46) := ⟨_, rfl⟩
  rw [← hw1]
  have HX := Lib.hid (show TurnB w w1 cs (opA o) #[.int .i64 k, .int .i64 a, .int .i64 b, .int .u64 now] by rw [hw1]; exact turnB_new w _ _ _)
  clear hw1
  have e0 : w1.cell? ⟨w.heap.size + 2, 0, none⟩ = some (.int .i64 k) := fr_cell_of_heap HX.out.act rfl
  have e1 : w1.cell? ⟨w.heap.size + 2, 1, none⟩ = some (.int .i64 a) := fr_cell_of_heap HX.out.act rfl
  have e2 : w1.cell? ⟨w.heap.size + 2, 2, none⟩ = some (.int .i64 b) := fr_cell_of_heap HX.out.act rfl
  have e3 : w1.cell? ⟨w.heap.size + 2, 3, none⟩ = some (.int .u64 now) := fr_cell_of_heap HX.out.act rfl
  go_wp2_with (first | (refine wpList_load_agg 46 HX.out.op Tryz.underlying46 rfl (opA_info o) rfl _ rfl rfl ?_) | (refine wpList_load_agg 42 HX.out.cfg Tryz.underlying42 rfl (cfg_sz HC.out) rfl _ rfl rfl ?_))
  refine (opexpire_any c o _ HK.out).mono ?_
  rintro e w2 ⟨x, q, rfl, hg, hb⟩
  have HG := Lib.hid hg
  have HX2 := Lib.hid (HX.out.next hb)
  clear hg hb e0 e1 e2 e3
  go_wp2_with (refine wpList_store_row rfl 46 _ _ rfl (w.heap.size + 3) (opA x) rfl rfl 46 _ HX2.out.res (opA_info x) rfl (opA_one x) ?_)
  refine bodyPost_ret (v := .tuple #[.agg (opA x), .bool q]) (results_row2 Tryz.results13 rfl rfl (setRow_at HX2.out.res) Tryz.underlying46 rfl (opA_info x)) rfl ⟨_, _, rfl, HG.out, ?_⟩
  exact below_setRow HX2.out.below (by omega) _
theorem turn_any (cs : Array Value) (tv lv : Value) (c : Cfg) (o : Opr) (k a b now : Int) (w : World) (hc : CfgCells cs tv lv c) (hC : CfgAt w tv lv c) (hk : OpOk c o) (ha : ActOk k a b now) :
    Calls Tryz.prog 13 #[.agg cs, .agg (opA o), .agg #[.int .i64 k, .int .i64 a, .int .i64 b, .int .u64 now]] w (OpPost c o w) := by
  by_cases h0 : k = 0
  · subst h0; exact turn_0 cs tv lv c o a b now w hc hk ha
  by_cases h1 : k = 1
  · subst h1; exact turn_1 cs tv lv c o a b now w hc hk ha
  by_cases h2 : k = 2
  · subst h2; exact turn_2 cs tv lv c o a b now w hc hk ha
  by_cases h3 : k = 3
  · subst h3; exact turn_3 cs tv lv c o a b now w hc hk
  by_cases h4 : k = 4
  · subst h4; exact turn_4 cs tv lv c o a b now w hc hC hk
  by_cases h5 : k = 5
  · subst h5; exact turn_5 cs tv lv c o a b now w hc hk
  exact turn_6 cs tv lv c o k a b now w hc hk (beq_eq_false_iff_ne.2 h0) (beq_eq_false_iff_ne.2 h1) (beq_eq_false_iff_ne.2 h2) (beq_eq_false_iff_ne.2 h3) (beq_eq_false_iff_ne.2 h4) (beq_eq_false_iff_ne.2 h5)
end Go.Proofs.YtmijmfgclmaodaaGreatDoor
