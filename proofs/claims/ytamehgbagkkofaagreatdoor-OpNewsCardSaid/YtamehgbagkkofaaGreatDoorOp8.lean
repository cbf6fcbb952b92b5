/-
  OpNews: the walk.
-/
import Derived.Test.YtamehgbagkkofaaGreatDoorOp5
import Derived.Test.YtamehgbagkkofaaGreatDoorOp6
import Derived.Test.YtamehgbagkkofaaGreatDoorOp7
import Derived.Test.YtamehgbagkkofaaGreatDoorOpEq
namespace Go.Proofs.YtamehgbagkkofaaGreatDoor
open Go.RowKit

theorem rright_q {c : Cfg} (q : Bool) (hq : (checkE c == 0) = q) (cs : Array Value) (tv lv : Value) (w : World) (hc : CfgCells cs tv lv c) (hC : CfgAt w tv lv c) :
    Calls Tryz.prog 14 #[.agg cs] w fun e w' => e = .returned (.bool q) ∧ Below w.heap.size w w' := by
  subst hq
  exact rright_any cs tv lv c w hc hC
theorem araright_q {k m n : ByteArray} (q : Bool) (hq : rightB k m n = q) (w : World) (hk : k.size ≤ 140737488351232) (hc : m.size ≤ 140737488351232) (hp : n.size ≤ 1048576) :
    Calls Tryz.prog 15 #[.agg #[.string k, .string m, .string n]] w fun e w' => e = .returned (.bool q) ∧ Below w.heap.size w w' := by
  subst hq
  exact araright_any k m n w hk hc hp
set_option maxRecDepth 100000 in
set_option maxHeartbeats 8000000 in
theorem opnews_any (cs os : Array Value) (tv lv : Value) (c : Cfg) (o : Opr) (w : World) (hr : Ready w) (hc : CfgCells cs tv lv c) (hC : CfgAt w tv lv c) (ho : OpCells os o) :
    Calls Tryz.prog 4 #[.agg cs, .agg os] w fun e w' => e = .returned (.bool true) ∧ Below w.heap.size w w' := by
  have HR := Lib.hid hr
  have HC := Lib.hid hc
  have HCA := Lib.hid hC
  have HO := Lib.hid ho
  clear hr hc hC ho
  go_enter Tryz.func4, Tryz.ntmps4
  go_upto_region 1 with fail
  obtain ⟨w2, hw2⟩ : ∃ w2 : World, w2 = (w.alloc (.cells cs 42)).alloc (.cells os 46) := ⟨_, rfl⟩
  rw [← hw2]
  have HX := Lib.hid (show Box2 w cs os w2 by rw [hw2]; exact box2_new w cs os)
  clear hw2
  go_wp2_with (first | (refine wpList_load_agg 42 HX.out.cfg Tryz.underlying42 rfl (cfg_sz HC.out) rfl _ rfl rfl ?_) | (refine wpList_load_agg 46 HX.out.op Tryz.underlying46 rfl (op_sz HO.out) rfl _ rfl rfl ?_))
  refine (large30_any cs os tv lv c o _ HC.out (HCA.out.below HX.out.below) HO.out).mono ?_
  rintro e w3 ⟨b, rfl, hb, hb3⟩
  have HX3 := Lib.hid (HX.out.next hb3)
  clear hb3
  rcases b with _ | _
  · have HG := Lib.hid (hb rfl)
    clear hb
    have e0 := fr_cell_of_heap HX3.out.op HO.out.f0
    have e1 := fr_cell_of_heap HX3.out.op HO.out.f1
    have e2 := fr_cell_of_heap HX3.out.op HO.out.f2
    have e3 := fr_cell_of_heap HX3.out.op HO.out.f3
    have e4 := fr_cell_of_heap HX3.out.op HO.out.f4
    have e5 := fr_cell_of_heap HX3.out.op HO.out.f5
    have e6 := fr_cell_of_heap HX3.out.op HO.out.f6
    have e7 := fr_cell_of_heap HX3.out.op HO.out.f7
    have e15 := fr_cell_of_heap HX3.out.op HO.out.f15
    go_wp2_with fail
    refine (opnew_any _ _ _ _ _ _ _ _ _ _).mono ?_
    rintro e w4 ⟨rfl, hb4⟩
    have HX4 := Lib.hid (HX3.out.next hb4)
    clear hb4
    clear e0 e1 e2 e3 e4 e5 e6 e7 e15
    obtain ⟨p, hp⟩ : ∃ p, p = againO o := ⟨_, rfl⟩
    rw [show newA o.id o.tenant o.inv o.key o.cmd o.need o.cost o.cls o.dl = opA p by rw [hp]; rfl]
    have HP := Lib.hid hp
    clear hp
    have e0 := fr_cell_of_heap (fr_alloc_old (p := .cells os 46 (0, 0)) (o := .cells (opA p) 46) HX4.out.op) HO.out.f0
    have e1 := fr_cell_of_heap (fr_alloc_old (p := .cells os 46 (0, 0)) (o := .cells (opA p) 46) HX4.out.op) HO.out.f1
    have e2 := fr_cell_of_heap (fr_alloc_old (p := .cells os 46 (0, 0)) (o := .cells (opA p) 46) HX4.out.op) HO.out.f2
    have e3 := fr_cell_of_heap (fr_alloc_old (p := .cells os 46 (0, 0)) (o := .cells (opA p) 46) HX4.out.op) HO.out.f3
    have e4 := fr_cell_of_heap (fr_alloc_old (p := .cells os 46 (0, 0)) (o := .cells (opA p) 46) HX4.out.op) HO.out.f4
    have e5 := fr_cell_of_heap (fr_alloc_old (p := .cells os 46 (0, 0)) (o := .cells (opA p) 46) HX4.out.op) HO.out.f5
    have e6 := fr_cell_of_heap (fr_alloc_old (p := .cells os 46 (0, 0)) (o := .cells (opA p) 46) HX4.out.op) HO.out.f6
    have e7 := fr_cell_of_heap (fr_alloc_old (p := .cells os 46 (0, 0)) (o := .cells (opA p) 46) HX4.out.op) HO.out.f7
    have e15 := fr_cell_of_heap (fr_alloc_old (p := .cells os 46 (0, 0)) (o := .cells (opA p) 46) HX4.out.op) HO.out.f15
    go_upto_region 5 with (first | (refine wpList_store_new rfl 46 _ _ rfl w4.heap.size rfl (opA p) rfl rfl (opA_info p) rfl (opA_one p) ?_; (try simp only [Act.put])) | (refine wpList_store_new rfl 46 _ _ rfl (w4.heap.size + 1) ?a1 (opA (againO o)) rfl rfl (opA_info (againO o)) rfl (opA_one (againO o)) ?_; (case a1 => simp); (try simp only [Act.put])))
    obtain ⟨w5, hw5⟩ : ∃ w5 : World, w5 = (w4.alloc (.cells (opA p) 46)).alloc (.cells (opA (againO o)) 46) := ⟨_, rfl⟩
    rw [← hw5]
    have HX5 := Lib.hid (show Box2 w cs os w5 by rw [hw5]; exact HX4.out.next (box_below.alloc (by simp) _))
    have HA := Lib.hid (show w5.heap[w4.heap.size]? = some (.cells (opA p) 46 (0, 0)) by rw [hw5]; exact fr_alloc_old fr_alloc_at)
    have HB := Lib.hid (show w5.heap[w4.heap.size + 1]? = some (.cells (opA p) 46 (0, 0)) by rw [hw5, HP.out]; exact heap_alloc_two _ _ _)
    clear hw5
    clear e0 e1 e2 e3 e4 e5 e6 e7 e15
    obtain ⟨b7, hq7⟩ : ∃ b, b = mayB c o := ⟨_, rfl⟩
    have H7 := Lib.hid hq7
    clear hq7
    go_cut [7] (fun s wx => s = .bool b7 ∧ Below w5.heap.size w5 wx)
    case first =>
      have k0 := cell_regrown (fr_cell_of_heap HX5.out.op HO.out.f0)
      have k1 := cell_regrown (fr_cell_of_heap HX5.out.op HO.out.f1)
      have k2 := cell_regrown (fr_cell_of_heap HX5.out.op HO.out.f2)
      have k3 := cell_regrown (fr_cell_of_heap HX5.out.op HO.out.f3)
      have k4 := cell_regrown (fr_cell_of_heap HX5.out.op HO.out.f4)
      have k5 := cell_regrown (fr_cell_of_heap HX5.out.op HO.out.f5)
      have k6 := cell_regrown (fr_cell_of_heap HX5.out.op HO.out.f6)
      have k7 := cell_regrown (fr_cell_of_heap HX5.out.op HO.out.f7)
      have m3 := cell_regrown (fr_cell_of_heap HX5.out.cfg HC.out.f3)
      have HGC := Lib.hid HX5.out.cfg
      have HR5 := Lib.hid (HR.out.below HX5.out.below)
      have HCA5 := Lib.hid (HCA.out.below HX5.out.below)
      have hk : o.key.size ≤ 140737488351232 := by have := HG.out.g6; omega
      have hm : o.cmd.size ≤ 140737488351232 := by have := HG.out.g7; omega
      have hn : o.need.size ≤ 1048576 := by have := HG.out.g8; omega
      refine wp_region_quiet_below (by kernel_rfl) (by kernel_rfl) ?_
      by_cases g0 : (checkE c == 0) = true
      · have HQ0 := Lib.hid g0
        clear g0
        repeat (first | (refine wpQuiet_load_agg 42 HGC.out Tryz.underlying42 rfl (cfg_sz HC.out) rfl _ rfl rfl ?_; (try simp only [Act.put, List.setIfInBounds_toArray, List.set_cons_zero, List.set_cons_succ])) | go_big_quiet_step ((exact Calls.regrown_of (rright_q true HQ0.out _ _ _ _ HC.out (HCA5.out.below (below_regrown w5 _ _))))))
        by_cases g1 : rightB o.key o.cmd o.need = true
        · have HQ1 := Lib.hid g1
          clear g1
          repeat (first | (refine wpQuiet_load_agg 42 HGC.out Tryz.underlying42 rfl (cfg_sz HC.out) rfl _ rfl rfl ?_; (try simp only [Act.put, List.setIfInBounds_toArray, List.set_cons_zero, List.set_cons_succ])) | go_big_quiet_step ((exact Calls.regrown_of (araright_q true HQ1.out _ hk hm hn))))
          repeat go_big_quiet_step (fail)
          by_cases g2 : 0 ≤ o.id
          · have kb2 : decide (0 ≤ o.id) = true := decide_eq_true g2
            simp only [kb2]
            repeat go_big_quiet_step (fail)
            by_cases g3 : 0 ≤ o.tenant
            · have kb3 : decide (0 ≤ o.tenant) = true := decide_eq_true g3
              simp only [kb3]
              repeat go_big_quiet_step (fail)
              by_cases g4 : 0 ≤ o.inv
              · have kb4 : decide (0 ≤ o.inv) = true := decide_eq_true g4
                simp only [kb4]
                repeat go_big_quiet_step (fail)
                by_cases g5 : 1 ≤ o.cost
                · have kb5 : decide (1 ≤ o.cost) = true := decide_eq_true g5
                  simp only [kb5]
                  repeat go_big_quiet_step (fail)
                  by_cases g6 : o.cost ≤ c.cost
                  · have kb6 : decide (o.cost ≤ c.cost) = true := decide_eq_true g6
                    simp only [kb6]
                    repeat go_big_quiet_step (fail)
                    by_cases g7 : 0 ≤ o.cls
                    · have kb7 : decide (0 ≤ o.cls) = true := decide_eq_true g7
                      simp only [kb7]
                      repeat (first | (refine wpQuiet_load_agg 42 HGC.out Tryz.underlying42 rfl (cfg_sz HC.out) rfl _ rfl rfl ?_; (try simp only [Act.put, List.setIfInBounds_toArray, List.set_cons_zero, List.set_cons_succ])) | go_big_quiet_step ((exact Calls.regrown_of (rclasses_any _ _ _ c _ HC.out (HCA5.out.below (below_regrown w5 _ _))))))
                      by_cases g8 : o.cls < classesV c
                      · have kb8 : decide (o.cls < classesV c) = true := decide_eq_true g8
                        simp only [kb8]
                        have HV := Lib.hid (show mayB c o = true by simp only [mayB, HQ0.out, HQ1.out, kb2, kb3, kb4, kb5, kb6, kb7, kb8, Bool.and_self])
                        repeat go_big_quiet_step (fail)
                        refine wpQuiet_nil ?_
                        rintro _ ⟨⟨dq, osq⟩, rfl⟩
                        go_wp2_with fail
                        go_meet
                        exact ⟨by rw [H7.out, HV.out], below_regrown w5 dq osq⟩
                      · have HV := Lib.hid (show mayB c o = false by simp [mayB, g8])
                        have n8 : classesV c ≤ o.cls := by omega
                        have kb8 : decide (o.cls < classesV c) = false := decide_eq_false g8
                        clear g8
                        simp only [kb8]
                        repeat go_big_quiet_step (fail)
                        refine wpQuiet_nil ?_
                        rintro _ ⟨⟨dq, osq⟩, rfl⟩
                        go_wp2_with fail
                        go_meet
                        exact ⟨by rw [H7.out, HV.out], below_regrown w5 dq osq⟩
                    · have HV := Lib.hid (show mayB c o = false by simp [mayB, g7])
                      have n7 : o.cls < 0 := by omega
                      have kb7 : decide (0 ≤ o.cls) = false := decide_eq_false g7
                      clear g7
                      simp only [kb7]
                      repeat go_big_quiet_step (fail)
                      refine wpQuiet_nil ?_
                      rintro _ ⟨⟨dq, osq⟩, rfl⟩
                      go_wp2_with fail
                      go_meet
                      exact ⟨by rw [H7.out, HV.out], below_regrown w5 dq osq⟩
                  · have HV := Lib.hid (show mayB c o = false by simp [mayB, g6])
                    have n6 : c.cost < o.cost := by omega
                    have kb6 : decide (o.cost ≤ c.cost) = false := decide_eq_false g6
                    clear g6
                    simp only [kb6]
                    repeat go_big_quiet_step (fail)
                    refine wpQuiet_nil ?_
                    rintro _ ⟨⟨dq, osq⟩, rfl⟩
                    go_wp2_with fail
                    go_meet
                    exact ⟨by rw [H7.out, HV.out], below_regrown w5 dq osq⟩
                · have HV := Lib.hid (show mayB c o = false by simp [mayB, g5])
                  have n5 : o.cost < 1 := by omega
                  have kb5 : decide (1 ≤ o.cost) = false := decide_eq_false g5
                  clear g5
                  simp only [kb5]
                  repeat go_big_quiet_step (fail)
                  refine wpQuiet_nil ?_
                  rintro _ ⟨⟨dq, osq⟩, rfl⟩
                  go_wp2_with fail
                  go_meet
                  exact ⟨by rw [H7.out, HV.out], below_regrown w5 dq osq⟩
              · have HV := Lib.hid (show mayB c o = false by simp [mayB, g4])
                have n4 : o.inv < 0 := by omega
                have kb4 : decide (0 ≤ o.inv) = false := decide_eq_false g4
                clear g4
                simp only [kb4]
                repeat go_big_quiet_step (fail)
                refine wpQuiet_nil ?_
                rintro _ ⟨⟨dq, osq⟩, rfl⟩
                go_wp2_with fail
                go_meet
                exact ⟨by rw [H7.out, HV.out], below_regrown w5 dq osq⟩
            · have HV := Lib.hid (show mayB c o = false by simp [mayB, g3])
              have n3 : o.tenant < 0 := by omega
              have kb3 : decide (0 ≤ o.tenant) = false := decide_eq_false g3
              clear g3
              simp only [kb3]
              repeat go_big_quiet_step (fail)
              refine wpQuiet_nil ?_
              rintro _ ⟨⟨dq, osq⟩, rfl⟩
              go_wp2_with fail
              go_meet
              exact ⟨by rw [H7.out, HV.out], below_regrown w5 dq osq⟩
          · have HV := Lib.hid (show mayB c o = false by simp [mayB, g2])
            have n2 : o.id < 0 := by omega
            have kb2 : decide (0 ≤ o.id) = false := decide_eq_false g2
            clear g2
            simp only [kb2]
            repeat go_big_quiet_step (fail)
            refine wpQuiet_nil ?_
            rintro _ ⟨⟨dq, osq⟩, rfl⟩
            go_wp2_with fail
            go_meet
            exact ⟨by rw [H7.out, HV.out], below_regrown w5 dq osq⟩
        · have HV := Lib.hid (show mayB c o = false by unfold mayB; rw [show rightB o.key o.cmd o.need = false by simpa using g1]; simp)
          have HQ1 := Lib.hid (show rightB o.key o.cmd o.need = false by simpa using g1)
          clear g1
          repeat (first | (refine wpQuiet_load_agg 42 HGC.out Tryz.underlying42 rfl (cfg_sz HC.out) rfl _ rfl rfl ?_; (try simp only [Act.put, List.setIfInBounds_toArray, List.set_cons_zero, List.set_cons_succ])) | go_big_quiet_step ((exact Calls.regrown_of (araright_q false HQ1.out _ hk hm hn))))
          refine wpQuiet_nil ?_
          rintro _ ⟨⟨dq, osq⟩, rfl⟩
          go_wp2_with fail
          go_meet
          exact ⟨by rw [H7.out, HV.out], below_regrown w5 dq osq⟩
      · have HV := Lib.hid (show mayB c o = false by unfold mayB; rw [show (checkE c == 0) = false by simpa using g0]; simp)
        have HQ0 := Lib.hid (show (checkE c == 0) = false by simpa using g0)
        clear g0
        repeat (first | (refine wpQuiet_load_agg 42 HGC.out Tryz.underlying42 rfl (cfg_sz HC.out) rfl _ rfl rfl ?_; (try simp only [Act.put, List.setIfInBounds_toArray, List.set_cons_zero, List.set_cons_succ])) | go_big_quiet_step ((exact Calls.regrown_of (rright_q false HQ0.out _ _ _ _ HC.out (HCA5.out.below (below_regrown w5 _ _))))))
        refine wpQuiet_nil ?_
        rintro _ ⟨⟨dq, osq⟩, rfl⟩
        go_wp2_with fail
        go_meet
        exact ⟨by rw [H7.out, HV.out], below_regrown w5 dq osq⟩
    case rest =>
    obtain ⟨w6, rfl⟩ : ∃ w6 : World, w6 = wc := ⟨_, rfl⟩
    obtain ⟨rfl, hb6⟩ := hcut
    have HX6 := Lib.hid (HX5.out.next hb6)
    have HA6 := Lib.hid ((hb6.block _ (heap_lt HA.out)).trans HA.out)
    have HB6 := Lib.hid ((hb6.block _ (heap_lt HB.out)).trans HB.out)
    clear hb6
    go_wp2_with (first | (refine wpList_op_eql (p := p) rfl _ _ rfl rfl rfl ?_) | (refine wpList_load_agg 42 HX6.out.cfg Tryz.underlying42 rfl (cfg_sz HC.out) rfl _ rfl rfl ?_) | (refine wpList_load_agg 46 HA6.out Tryz.underlying46 rfl (opA_info p) rfl _ rfl rfl ?_) | (refine wpList_load_agg 46 HB6.out Tryz.underlying46 rfl (opA_info p) rfl _ rfl rfl ?_))
    refine (opright_any cs (opA p) tv lv c p _ (HR.out.below HX6.out.below) HC.out (HCA.out.below HX6.out.below) (opA_cells p) (by rw [HP.out]; exact again_small o) (by rw [HP.out]; have := HG.out.g6; show o.key.size ≤ _; omega) (by rw [HP.out]; have := HG.out.g7; show o.cmd.size ≤ _; omega) (by rw [HP.out]; have := HG.out.g8; show o.need.size ≤ _; omega)).mono ?_
    rintro e w7 ⟨rfl, hb7⟩
    rw [show opB c p = b7 by rw [HP.out, news_law, ← H7.out]]
    have HX7 := Lib.hid (HX6.out.next hb7)
    clear hb7
    rcases b7 with _ | _
    all_goals
      go_wp2_with fail
      refine (live30_any _).mono ?_
      rintro e w8 ⟨rfl, hb8⟩
      have HX8 := Lib.hid (HX7.out.next hb8)
      clear hb8
      go_wp2_with fail
      go_ret
      exact ⟨rfl, HX8.out.below⟩
  · clear hb
    go_wp2_with fail
    refine (live30_any _).mono ?_
    rintro e w4 ⟨rfl, hb4⟩
    have HX4 := Lib.hid (HX3.out.next hb4)
    clear hb4
    go_wp2_with fail
    go_ret
    exact ⟨rfl, HX4.out.below⟩
end Go.Proofs.YtamehgbagkkofaaGreatDoor
