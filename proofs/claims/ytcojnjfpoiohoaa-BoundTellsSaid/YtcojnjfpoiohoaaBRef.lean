/-
  billetref44: the walks.
-/
import Derived.Test.YtcojnjfpoiohoaaBWalk3
namespace Go.Proofs.Ytcojnjfpoiohoaa
open Go.RowKit

set_option maxRecDepth 100000 in
set_option maxHeartbeats 2000000 in
/-- THE WALK: billetref44.Inner. -/
theorem rinner_any (cs : Array Value) (tv lv : Value) (c : Cfg) (w : World) (hc : CfgCells cs tv lv c) (hC : CfgAt w tv lv c) :
    Calls Try.prog 20 #[.agg cs] w fun e w' => e = .returned (.int .i64 (innerV c)) ∧ Below w.heap.size w w' := by
  have HC := Lib.hid hc; clear hc
  have HCA := Lib.hid hC; clear hC
  by_cases h0 : checkE c = 0
  · have HV := Lib.hid (show innerV c = innerN c by unfold innerV; rw [if_pos h0])
    have H0 := Lib.hid h0
    have hk := cfgOk_of h0
    obtain ⟨b1, b2⟩ := own_bd hk
    obtain ⟨b3, b4, b5, b6, b7, b8, b9, b10⟩ := inner_parts hk
    have q1 := hk.q
    have w1' := hk.weight
    obtain ⟨v1, v2, v3, v4⟩ := visit_bd hk (wt := c.weight) (by omega) (by omega)
    have hcost := hk.cost
    change 1 ≤ c.cap * c.cost at b1
    change c.cap * c.cost ≤ 2048 at b2
    change 1 ≤ ceilI (c.cap * c.cost) c.q + 1 at b3
    change ceilI (c.cap * c.cost) c.q + 1 ≤ 2050 at b4
    change 0 ≤ (ceilI (c.cap * c.cost) c.q + 1) * c.invs at b5
    change (ceilI (c.cap * c.cost) c.q + 1) * c.invs ≤ 16400 at b6
    change 0 ≤ (ceilI (c.cap * c.cost) c.q + 1) * c.invs * (c.q * c.weight + c.cost) at b7
    change (ceilI (c.cap * c.cost) c.q + 1) * c.invs * (c.q * c.weight + c.cost) ≤ 1328128 at b8
    change 1 ≤ (ceilI (c.cap * c.cost) c.q + 1) * c.invs * (c.q * c.weight + c.cost) + c.cap * c.cost at b9
    change (ceilI (c.cap * c.cost) c.q + 1) * c.invs * (c.q * c.weight + c.cost) + c.cap * c.cost ≤ 1330176 at b10
    clear h0 hk v3 v4
    go_enter Try.func20, Try.ntmps20
    go_wp2_with (refine wpList_load_agg 34 (heap_alloc_new w _) Try.underlying34 rfl (cfg_sz HC.out) rfl _ rfl rfl ?_)
    refine (rright_any _ _ _ c _ HC.out (HCA.out.below box_below)).mono ?_
    rintro e w1 ⟨rfl, hb⟩
    have h0 : (checkE c == 0) = true := by rw [H0.out]; rfl
    rw [h0]
    clear h0
    have HB := Lib.hid hb
    have hgB := (hb.block w.heap.size (by simp)).trans (heap_alloc_new w _)
    have HGB := Lib.hid hgB
    clear hgB
    have k2 := cell_regrown (cell_below hb (cell_alloc_at (t := 34) HC.out.f2))
    have k3 := cell_regrown (cell_below hb (cell_alloc_at (t := 34) HC.out.f3))
    have k4 := cell_regrown (cell_below hb (cell_alloc_at (t := 34) HC.out.f4))
    have k5 := cell_regrown (cell_below hb (cell_alloc_at (t := 34) HC.out.f5))
    have k6 := cell_regrown (cell_below hb (cell_alloc_at (t := 34) HC.out.f6))
    clear hb
    go_wp2_with fail
    refine wp_region_quiet_below (by kernel_rfl) (by kernel_rfl) ?_
    repeat (first | (refine wpQuiet_load_agg 34 HGB.out Try.underlying34 rfl (cfg_sz HC.out) rfl _ rfl rfl ?_; (try simp only [Act.put, List.setIfInBounds_toArray, List.set_cons_zero, List.set_cons_succ])) | go_big_quiet_step ((first | exact Calls.regrown_of (below_of_same (rceil_any _ _ _ (by omega) (by omega) (by omega) (by omega))))))
    refine wpQuiet_nil ?_
    rintro _ ⟨⟨dq, osq⟩, rfl⟩
    go_wp2
    go_ret
    refine ⟨ret_int ?_, below_of_regrown (box_below2 HB.out) (box_below2 HB.out).size⟩
    rw [HV.out]
    rfl
  · have HV := Lib.hid (show innerV c = 0 by unfold innerV; rw [if_neg h0])
    have H0 := Lib.hid (show (checkE c != 0) = true by rw [bne_iff_ne]; exact h0)
    clear h0
    go_enter Try.func20, Try.ntmps20
    go_wp2_with (refine wpList_load_agg 34 (heap_alloc_new w _) Try.underlying34 rfl (cfg_sz HC.out) rfl _ rfl rfl ?_)
    refine (rright_any _ _ _ c _ HC.out (HCA.out.below box_below)).mono ?_
    rintro e w1 ⟨rfl, hb⟩
    have h0 : (checkE c == 0) = false := by have := H0.out; rw [bne_iff_ne] at this; exact beq_eq_false_iff_ne.2 this
    rw [h0]
    clear h0
    go_wp2
    go_ret
    exact ⟨ret_int HV.out.symm, box_below2 hb⟩

theorem rinner_at {cs : Array Value} {tv lv : Value} {c : Cfg} {v : Int} {w : World} (hv : innerV c = v) (hc : CfgCells cs tv lv c) (hC : CfgAt w tv lv c) :
    Calls Try.prog 20 #[.agg cs] w fun e w' => e = .returned (.int .i64 v) ∧ Below w.heap.size w w' := hv ▸ rinner_any cs tv lv c w hc hC

set_option maxRecDepth 100000 in
set_option maxHeartbeats 2000000 in
/-- THE WALK: billetref44.Gives. -/
theorem rgives_any (cs : Array Value) (tv lv : Value) (c : Cfg) (w : World) (hc : CfgCells cs tv lv c) (hC : CfgAt w tv lv c) :
    Calls Try.prog 22 #[.agg cs] w fun e w' => e = .returned (.int .i64 (givesV c)) ∧ Below w.heap.size w w' := by
  have HC := Lib.hid hc; clear hc
  obtain ⟨ta, tcap, htv, htlen, hcell⟩ := id hC.1
  subst htv
  have HT := Lib.hid hcell; clear hcell
  have HCA := Lib.hid hC; clear hC
  by_cases h0 : checkE c = 0
  · have HV := Lib.hid (show givesV c = givesN c by unfold givesV; rw [if_pos h0])
    have HI := Lib.hid (show innerV c = innerN c by unfold innerV; rw [if_pos h0])
    have H0 := Lib.hid h0
    have hk := cfgOk_of h0
    obtain ⟨_, _, _, _, _, _, i1, i2⟩ := inner_parts hk
    obtain ⟨g1, g2, g3, g4, g5, g6, g7, g8⟩ := gives_parts hk
    obtain ⟨v1, v2⟩ := great_bd hk
    obtain ⟨v3, v4, _, _⟩ := visit_bd hk (wt := greatW c.ts 0) (by omega) (by omega)
    have q1 := hk.q
    have hcost := hk.cost
    change 1 ≤ ceilI (innerN c) c.q + 1 at g1
    change ceilI (innerN c) c.q + 1 ≤ 1330178 at g2
    change 0 ≤ (ceilI (innerN c) c.q + 1) * c.ts.length at g3
    change (ceilI (innerN c) c.q + 1) * c.ts.length ≤ 7981068 at g4
    change 0 ≤ (ceilI (innerN c) c.q + 1) * c.ts.length * (c.q * greatW c.ts 0 + c.cost) at g5
    change (ceilI (innerN c) c.q + 1) * c.ts.length * (c.q * greatW c.ts 0 + c.cost) ≤ 638497536 at g6
    change 1 ≤ innerN c + (ceilI (innerN c) c.q + 1) * c.ts.length * (c.q * greatW c.ts 0 + c.cost) at g7
    change innerN c + (ceilI (innerN c) c.q + 1) * c.ts.length * (c.q * greatW c.ts 0 + c.cost) ≤ 639827712 at g8
    clear h0 hk
    go_enter Try.func22, Try.ntmps22
    go_wp2_with (refine wpList_load_agg 34 (heap_alloc_new w _) Try.underlying34 rfl (cfg_sz HC.out) rfl _ rfl rfl ?_)
    refine (rright_any _ _ _ c _ HC.out (HCA.out.below box_below)).mono ?_
    rintro e w1 ⟨rfl, hb⟩
    have h0 : (checkE c == 0) = true := by rw [H0.out]; rfl
    rw [h0]
    clear h0
    have HB := Lib.hid hb
    have hgB := (hb.block w.heap.size (by simp)).trans (heap_alloc_new w _)
    have HGB := Lib.hid hgB
    clear hgB
    have c0 := cell_below hb (cell_alloc_at (t := 34) HC.out.f0)
    have HBB := Lib.hid (box_below2 hb)
    have k0 := cell_regrown (cell_below hb (cell_alloc_at (t := 34) HC.out.f0))
    have k2 := cell_regrown (cell_below hb (cell_alloc_at (t := 34) HC.out.f2))
    have k3 := cell_regrown (cell_below hb (cell_alloc_at (t := 34) HC.out.f3))
    clear hb
    go_wp2
    go_loop [3, 4] (fun n i => ∃ (k : Nat) (m : Int), k ≤ c.ts.length ∧ i = .int .i64 k ∧ n = .int .i64 m ∧ greatW (c.ts.drop k) m = greatW c.ts 0) (fun _ i => c.ts.length - (intOf i).toNat)
    case atStart => exact ⟨0, 0, Nat.zero_le _, rfl, rfl, rfl⟩
    case round =>
      obtain ⟨k, m, hk, rfl, rfl, hf⟩ := hrel
      have HF := Lib.hid hf; clear hf
      by_cases hlt : k < c.ts.length
      · obtain ⟨t, ht⟩ : ∃ t, c.ts[k]? = some t := ⟨_, List.getElem?_eq_getElem hlt⟩
        obtain ⟨_, b, off, rfl, _, d1, _⟩ := HT.out k t ht
        have HG := Lib.hid (great_step (m := m) ht)
        have e1 := cell_below HBB.out d1
        clear d1 ht
        go_wp2
        go_round
        case rel => exact ⟨k + 1, max m t.weight, by omega, by go_num, by show _ = _; exact congrArg _ (by split <;> omega), by rw [← HG.out, HF.out]⟩
        case measure => simp [intOf]; omega
      · have hE : m = greatW c.ts 0 := by rw [← HF.out, List.drop_eq_nil_of_le (by omega)]; rfl
        subst hE
        have hk' : k = c.ts.length := by omega
        subst hk'
        go_wp2_with fail
        refine wp_region_quiet_below (by kernel_rfl) (by kernel_rfl) ?_
        repeat (first | (refine wpQuiet_load_agg 34 HGB.out Try.underlying34 rfl (cfg_sz HC.out) rfl _ rfl rfl ?_; (try simp only [Act.put, List.setIfInBounds_toArray, List.set_cons_zero, List.set_cons_succ])) | go_big_quiet_step ((first | exact Calls.regrown_of (below_of_same (rceil_any _ _ _ (by omega) (by omega) (by omega) (by omega))) | exact Calls.regrown_of (rinner_at HI.out HC.out (HCA.out.below ((box_below2 HB.out).trans ((below_regrown _ _ _).mono (box_below2 HB.out).size)))))))
        refine wpQuiet_nil ?_
        rintro _ ⟨⟨dq, osq⟩, rfl⟩
        go_wp2
        go_ret
        refine ⟨ret_int ?_, below_of_regrown (box_below2 HB.out) (box_below2 HB.out).size⟩
        rw [HV.out]
        rfl
  · have HV := Lib.hid (show givesV c = 0 by unfold givesV; rw [if_neg h0])
    have H0 := Lib.hid (show (checkE c != 0) = true by rw [bne_iff_ne]; exact h0)
    clear h0
    go_enter Try.func22, Try.ntmps22
    go_wp2_with (refine wpList_load_agg 34 (heap_alloc_new w _) Try.underlying34 rfl (cfg_sz HC.out) rfl _ rfl rfl ?_)
    refine (rright_any _ _ _ c _ HC.out (HCA.out.below box_below)).mono ?_
    rintro e w1 ⟨rfl, hb⟩
    have h0 : (checkE c == 0) = false := by have := H0.out; rw [bne_iff_ne] at this; exact beq_eq_false_iff_ne.2 this
    rw [h0]
    clear h0
    go_wp2
    go_ret
    exact ⟨ret_int HV.out.symm, box_below2 hb⟩

theorem rgives_at {cs : Array Value} {tv lv : Value} {c : Cfg} {v : Int} {w : World} (hv : givesV c = v) (hc : CfgCells cs tv lv c) (hC : CfgAt w tv lv c) :
    Calls Try.prog 22 #[.agg cs] w fun e w' => e = .returned (.int .i64 v) ∧ Below w.heap.size w w' := hv ▸ rgives_any cs tv lv c w hc hC

theorem rclasses_at {cs : Array Value} {tv lv : Value} {c : Cfg} {v : Int} {w : World} (hv : classesV c = v) (hc : CfgCells cs tv lv c) (hC : CfgAt w tv lv c) :
    Calls Try.prog 75 #[.agg cs] w fun e w' => e = .returned (.int .i64 v) ∧ Below w.heap.size w w' := hv ▸ rclasses_any cs tv lv c w hc hC

theorem rattempts_at {cs : Array Value} {tv lv : Value} {c : Cfg} {v : Int} {w : World} (hv : attemptsV c = v) (hc : CfgCells cs tv lv c) (hC : CfgAt w tv lv c) :
    Calls Try.prog 77 #[.agg cs] w fun e w' => e = .returned (.int .i64 v) ∧ Below w.heap.size w w' := hv ▸ rattempts_any cs tv lv c w hc hC

set_option maxRecDepth 100000 in
set_option maxHeartbeats 2000000 in
/-- THE WALK: billetref44.Polls. -/
theorem rpolls_any (cs : Array Value) (tv lv : Value) (c : Cfg) (w : World) (hc : CfgCells cs tv lv c) (hC : CfgAt w tv lv c) :
    Calls Try.prog 24 #[.agg cs] w fun e w' => e = .returned (.int .i64 (pollsV c)) ∧ Below w.heap.size w w' := by
  have HC := Lib.hid hc; clear hc
  have HCA := Lib.hid hC; clear hC
  by_cases h0 : checkE c = 0
  · have HV := Lib.hid (show pollsV c = pollsN c by unfold pollsV; rw [if_pos h0])
    have HI := Lib.hid (show givesV c = givesN c by unfold givesV; rw [if_pos h0])
    have HL := Lib.hid (show classesV c = (c.ls.length : Int) + 1 by unfold classesV; rw [if_pos h0])
    have H0 := Lib.hid h0
    have hk := cfgOk_of h0
    obtain ⟨p1, p2, p3, p4⟩ := polls_parts hk
    change 0 ≤ givesN c * c.pools * ((c.ls.length : Int) + 1) at p3
    change givesN c * c.pools * ((c.ls.length : Int) + 1) ≤ 20474486784 at p4
    clear h0 hk
    go_enter Try.func24, Try.ntmps24
    go_wp2_with (refine wpList_load_agg 34 (heap_alloc_new w _) Try.underlying34 rfl (cfg_sz HC.out) rfl _ rfl rfl ?_)
    refine (rright_any _ _ _ c _ HC.out (HCA.out.below box_below)).mono ?_
    rintro e w1 ⟨rfl, hb⟩
    have h0 : (checkE c == 0) = true := by rw [H0.out]; rfl
    rw [h0]
    clear h0
    have HB := Lib.hid hb
    have hgB := (hb.block w.heap.size (by simp)).trans (heap_alloc_new w _)
    have HGB := Lib.hid hgB
    clear hgB
    have k7 := cell_regrown (cell_below hb (cell_alloc_at (t := 34) HC.out.f7))
    clear hb
    go_wp2_with fail
    refine wp_region_quiet_below (by kernel_rfl) (by kernel_rfl) ?_
    repeat (first | (refine wpQuiet_load_agg 34 HGB.out Try.underlying34 rfl (cfg_sz HC.out) rfl _ rfl rfl ?_; (try simp only [Act.put, List.setIfInBounds_toArray, List.set_cons_zero, List.set_cons_succ])) | go_big_quiet_step ((first | exact Calls.regrown_of (rgives_at HI.out HC.out (HCA.out.below ((box_below2 HB.out).trans ((below_regrown _ _ _).mono (box_below2 HB.out).size)))) | exact Calls.regrown_of (rclasses_at HL.out HC.out (HCA.out.below ((box_below2 HB.out).trans ((below_regrown _ _ _).mono (box_below2 HB.out).size)))))))
    refine wpQuiet_nil ?_
    rintro _ ⟨⟨dq, osq⟩, rfl⟩
    go_wp2
    go_ret
    refine ⟨ret_int ?_, below_of_regrown (box_below2 HB.out) (box_below2 HB.out).size⟩
    rw [HV.out]
    rfl
  · have HV := Lib.hid (show pollsV c = 0 by unfold pollsV; rw [if_neg h0])
    have H0 := Lib.hid (show (checkE c != 0) = true by rw [bne_iff_ne]; exact h0)
    clear h0
    go_enter Try.func24, Try.ntmps24
    go_wp2_with (refine wpList_load_agg 34 (heap_alloc_new w _) Try.underlying34 rfl (cfg_sz HC.out) rfl _ rfl rfl ?_)
    refine (rright_any _ _ _ c _ HC.out (HCA.out.below box_below)).mono ?_
    rintro e w1 ⟨rfl, hb⟩
    have h0 : (checkE c == 0) = false := by have := H0.out; rw [bne_iff_ne] at this; exact beq_eq_false_iff_ne.2 this
    rw [h0]
    clear h0
    go_wp2
    go_ret
    exact ⟨ret_int HV.out.symm, box_below2 hb⟩

theorem rpolls_at {cs : Array Value} {tv lv : Value} {c : Cfg} {v : Int} {w : World} (hv : pollsV c = v) (hc : CfgCells cs tv lv c) (hC : CfgAt w tv lv c) :
    Calls Try.prog 24 #[.agg cs] w fun e w' => e = .returned (.int .i64 v) ∧ Below w.heap.size w w' := hv ▸ rpolls_any cs tv lv c w hc hC

set_option maxRecDepth 100000 in
set_option maxHeartbeats 2000000 in
/-- THE WALK: billetref44.Ticks. -/
theorem rticks_any (cs : Array Value) (tv lv : Value) (c : Cfg) (n : Int) (w : World) (hc : CfgCells cs tv lv c) (hC : CfgAt w tv lv c) :
    Calls Try.prog 26 #[.agg cs, .int .i64 n] w fun e w' => e = .returned (.int .u64 (ticksV c n)) ∧ Below w.heap.size w w' := by
  have HC := Lib.hid hc; clear hc
  have HCA := Lib.hid hC; clear hC
  by_cases h0 : checkE c = 0
  · have HV := Lib.hid (show ticksV c n = ticksN c n by unfold ticksV; rw [if_pos h0])
    have HI := Lib.hid (show pollsV c = pollsN c by unfold pollsV; rw [if_pos h0])
    have HL := Lib.hid (show attemptsV c = 1 + c.retries + c.preempts by unfold attemptsV; rw [if_pos h0])
    have H0 := Lib.hid h0
    have hk := cfgOk_of h0
    obtain ⟨t1, t2, t3, t4⟩ := ticks_parts hk n
    obtain ⟨p1, p2, p3, p4⟩ := polls_parts hk
    obtain ⟨v1, v2⟩ := window_bd n
    have m1 := hk.most
    have r1 := hk.retries
    have r2 := hk.preempts
    have hw : (n < 1 ∧ windowV n = 1) ∨ (1 ≤ n ∧ n ≤ 1048576 ∧ windowV n = n) ∨ (1048576 < n ∧ windowV n = 1048576) := by unfold windowV; omega
    have HT := Lib.hid (show ticksN c n = (1 + c.retries + c.preempts) * (pollsN c * windowV n + windowV n + c.most) + 1 from rfl)
    clear h0 hk p1 p2
    rcases hw with ⟨w1, w2⟩ | ⟨w1, w2, w3⟩ | ⟨w1, w2⟩
    all_goals
      first | rw [w3] at HT t1 t2 t3 t4 v1 v2 | rw [w2] at HT t1 t2 t3 t4 v1 v2
      try simp only [Int.mul_one] at HT t1 t2 t3 t4
      go_enter Try.func26, Try.ntmps26
      go_wp2_with (refine wpList_load_agg 34 (heap_alloc_new w _) Try.underlying34 rfl (cfg_sz HC.out) rfl _ rfl rfl ?_)
      refine (rright_any _ _ _ c _ HC.out (HCA.out.below box_below)).mono ?_
      rintro e w1 ⟨rfl, hb⟩
      have h0 : (checkE c == 0) = true := by rw [H0.out]; rfl
      rw [h0]
      clear h0
      have HB := Lib.hid hb
      have hgB := (hb.block w.heap.size (by simp)).trans (heap_alloc_new w _)
      have HGB := Lib.hid hgB
      clear hgB
      have k11 := cell_regrown (cell_below hb (cell_alloc_at (t := 34) HC.out.f11))
      clear hb
      go_wp2_with fail
      all_goals first
        | (exfalso; omega)
        | skip
          refine wp_region_quiet_below (by kernel_rfl) (by kernel_rfl) ?_
          repeat (first | (refine wpQuiet_load_agg 34 HGB.out Try.underlying34 rfl (cfg_sz HC.out) rfl _ rfl rfl ?_; (try simp only [Act.put, List.setIfInBounds_toArray, List.set_cons_zero, List.set_cons_succ])) | go_big_quiet_step ((first | exact Calls.regrown_of (rpolls_at HI.out HC.out (HCA.out.below ((box_below2 HB.out).trans ((below_regrown _ _ _).mono (box_below2 HB.out).size)))) | exact Calls.regrown_of (rattempts_at HL.out HC.out (HCA.out.below ((box_below2 HB.out).trans ((below_regrown _ _ _).mono (box_below2 HB.out).size)))))))
          refine wpQuiet_nil ?_
          rintro _ ⟨⟨dq, osq⟩, rfl⟩
          go_wp2
          go_ret
          refine ⟨ret_int ?_, below_of_regrown (box_below2 HB.out) (box_below2 HB.out).size⟩
          rw [HV.out, HT.out]
  · have HV := Lib.hid (show ticksV c n = 0 by unfold ticksV; rw [if_neg h0])
    have H0 := Lib.hid (show (checkE c != 0) = true by rw [bne_iff_ne]; exact h0)
    clear h0
    go_enter Try.func26, Try.ntmps26
    go_wp2_with (refine wpList_load_agg 34 (heap_alloc_new w _) Try.underlying34 rfl (cfg_sz HC.out) rfl _ rfl rfl ?_)
    refine (rright_any _ _ _ c _ HC.out (HCA.out.below box_below)).mono ?_
    rintro e w1 ⟨rfl, hb⟩
    have h0 : (checkE c == 0) = false := by have := H0.out; rw [bne_iff_ne] at this; exact beq_eq_false_iff_ne.2 this
    rw [h0]
    clear h0
    go_wp2
    go_ret
    exact ⟨ret_int HV.out.symm, box_below2 hb⟩

end Go.Proofs.Ytcojnjfpoiohoaa
