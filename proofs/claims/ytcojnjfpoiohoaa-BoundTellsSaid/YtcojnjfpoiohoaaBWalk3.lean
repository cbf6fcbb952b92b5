/-
  bound.Gives, Polls, Ticks: the walks.
-/
import Derived.Test.YtcojnjfpoiohoaaBWalk2
namespace Go.Proofs.Ytcojnjfpoiohoaa
open Go.RowKit

set_option maxRecDepth 100000 in
set_option maxHeartbeats 2000000 in
/-- THE WALK: bound.Gives. -/
theorem gives_any (cs : Array Value) (tv lv : Value) (c : Cfg) (w : World) (hc : CfgCells cs tv lv c) (hC : CfgAt w tv lv c) :
    Calls Try.prog 21 #[.agg cs] w fun e w' => e = .returned (.int .i64 (givesV c)) ∧ Below w.heap.size w w' := by
  have HC := Lib.hid hc; clear hc
  obtain ⟨ta, tcap, htv, htlen, _⟩ := id hC.1
  subst htv
  have HCA := Lib.hid hC; clear hC
  by_cases h0 : checkE c = 0
  · have HV := Lib.hid (show givesV c = givesN c by unfold givesV; rw [if_pos h0])
    have HI := Lib.hid (show innerV c = innerN c by unfold innerV; rw [if_pos h0])
    have hk := cfgOk_of h0
    have HK := Lib.hid hk
    obtain ⟨_, _, _, _, _, _, i1, i2⟩ := inner_parts hk
    obtain ⟨g1, g2, g3, g4, g5, g6, g7, g8⟩ := gives_parts hk
    obtain ⟨v1, v2⟩ := great_bd hk
    have q1 := hk.q
    change 1 ≤ innerN c + roundsI (innerN c) c.q * c.ts.length * visitV c (greatW c.ts 0) at g7
    change innerN c + roundsI (innerN c) c.q * c.ts.length * visitV c (greatW c.ts 0) ≤ 639827712 at g8
    clear h0 hk
    have hne : (innerN c == 0) = false := by rw [beq_eq_false_iff_ne]; omega
    go_enter Try.func21, Try.ntmps21
    go_wp2_with (refine wpList_load_agg 34 (heap_alloc_new w _) Try.underlying34 rfl (cfg_sz HC.out) rfl _ rfl rfl ?_)
    refine (inner_any _ _ _ c _ HC.out (HCA.out.below box_below)).mono ?_
    rintro e w1 ⟨rfl, hb⟩
    rw [HI.out]
    have c0 := cell_below hb (cell_alloc_at (t := 34) HC.out.f0)
    go_wp2_with fail
    refine (greatest_any _ c.ts _ (HCA.out.below (box_below2 hb)).1).mono ?_
    rintro e w2 ⟨rfl, hb2⟩
    clear c0
    have hbc := hb.trans (hb2.mono hb.size)
    have HB := Lib.hid hbc
    have hgB := (hbc.block w.heap.size (by simp)).trans (heap_alloc_new w _)
    have HGB := Lib.hid hgB
    clear hgB hb hb2
    have k0 := cell_regrown (cell_below hbc (cell_alloc_at (t := 34) HC.out.f0))
    have k2 := cell_regrown (cell_below hbc (cell_alloc_at (t := 34) HC.out.f2))
    clear hbc
    go_wp2_with fail
    refine wp_region_quiet_below (by kernel_rfl) (by kernel_rfl) ?_
    repeat (first | (refine wpQuiet_load_agg 34 HGB.out Try.underlying34 rfl (cfg_sz HC.out) rfl _ rfl rfl ?_; (try simp only [Act.put, List.setIfInBounds_toArray, List.set_cons_zero, List.set_cons_succ])) | go_big_quiet_step ((first | exact Calls.regrown_of (below_of_same (rounds_any _ _ _ (by omega) (by omega) (by omega) (by omega))) | exact Calls.regrown_of (visit_any _ _ _ c _ _ HC.out HK.out (by omega) (by omega)))))
    refine wpQuiet_nil ?_
    rintro _ ⟨⟨dq, osq⟩, rfl⟩
    go_wp2
    go_ret
    refine ⟨ret_int ?_, below_of_regrown (box_below2 HB.out) (box_below2 HB.out).size⟩
    rw [HV.out]
    rfl
  · have HV := Lib.hid (show givesV c = 0 by unfold givesV; rw [if_neg h0])
    have HI := Lib.hid (show innerV c = 0 by unfold innerV; rw [if_neg h0])
    clear h0
    go_enter Try.func21, Try.ntmps21
    go_wp2_with (refine wpList_load_agg 34 (heap_alloc_new w _) Try.underlying34 rfl (cfg_sz HC.out) rfl _ rfl rfl ?_)
    refine (inner_any _ _ _ c _ HC.out (HCA.out.below box_below)).mono ?_
    rintro e w1 ⟨rfl, hb⟩
    rw [HI.out]
    go_wp2
    go_ret
    exact ⟨ret_int HV.out.symm, box_below2 hb⟩

theorem gives_at {cs : Array Value} {tv lv : Value} {c : Cfg} {v : Int} {w : World} (hv : givesV c = v) (hc : CfgCells cs tv lv c) (hC : CfgAt w tv lv c) :
    Calls Try.prog 21 #[.agg cs] w fun e w' => e = .returned (.int .i64 v) ∧ Below w.heap.size w w' := hv ▸ gives_any cs tv lv c w hc hC
theorem classes_at {cs : Array Value} {tv lv : Value} {c : Cfg} {v : Int} {w : World} (hv : classesV c = v) (hc : CfgCells cs tv lv c) (hC : CfgAt w tv lv c) :
    Calls Try.prog 74 #[.agg cs] w fun e w' => e = .returned (.int .i64 v) ∧ Below w.heap.size w w' := hv ▸ classes_any cs tv lv c w hc hC
theorem attempts_at {cs : Array Value} {tv lv : Value} {c : Cfg} {v : Int} {w : World} (hv : attemptsV c = v) (hc : CfgCells cs tv lv c) (hC : CfgAt w tv lv c) :
    Calls Try.prog 76 #[.agg cs] w fun e w' => e = .returned (.int .i64 v) ∧ Below w.heap.size w w' := hv ▸ attempts_any cs tv lv c w hc hC

set_option maxRecDepth 100000 in
set_option maxHeartbeats 2000000 in
/-- THE WALK: bound.Polls. -/
theorem polls_any (cs : Array Value) (tv lv : Value) (c : Cfg) (w : World) (hc : CfgCells cs tv lv c) (hC : CfgAt w tv lv c) :
    Calls Try.prog 23 #[.agg cs] w fun e w' => e = .returned (.int .i64 (pollsV c)) ∧ Below w.heap.size w w' := by
  have HC := Lib.hid hc; clear hc
  have HCA := Lib.hid hC; clear hC
  by_cases h0 : checkE c = 0
  · have HV := Lib.hid (show pollsV c = pollsN c by unfold pollsV; rw [if_pos h0])
    have HI := Lib.hid (show givesV c = givesN c by unfold givesV; rw [if_pos h0])
    have HL := Lib.hid (show classesV c = (c.ls.length : Int) + 1 by unfold classesV; rw [if_pos h0])
    have hk := cfgOk_of h0
    obtain ⟨p1, p2, p3, p4⟩ := polls_parts hk
    change 0 ≤ givesN c * c.pools * ((c.ls.length : Int) + 1) at p3
    change givesN c * c.pools * ((c.ls.length : Int) + 1) ≤ 20474486784 at p4
    clear hk
    clear h0
    go_enter Try.func23, Try.ntmps23
    go_wp2_with fail
    have HGB := Lib.hid (heap_alloc_new w (.cells cs 34))
    have k7 := cell_regrown (cell_alloc_at (w := w) (t := 34) HC.out.f7)
    refine wp_region_quiet_below (by kernel_rfl) (by kernel_rfl) ?_
    repeat (first | (refine wpQuiet_load_agg 34 HGB.out Try.underlying34 rfl (cfg_sz HC.out) rfl _ rfl rfl ?_; (try simp only [Act.put, List.setIfInBounds_toArray, List.set_cons_zero, List.set_cons_succ])) | go_big_quiet_step ((first | exact Calls.regrown_of (gives_at HI.out HC.out (HCA.out.below (box_below.trans ((below_regrown _ _ _).mono (by simp))))) | exact Calls.regrown_of (classes_at HL.out HC.out (HCA.out.below (box_below.trans ((below_regrown _ _ _).mono (by simp))))))))
    refine wpQuiet_nil ?_
    rintro _ ⟨⟨dq, osq⟩, rfl⟩
    go_wp2
    go_ret
    refine ⟨ret_int ?_, below_of_regrown box_below box_below.size⟩
    rw [HV.out]
    rfl

  · have HV := Lib.hid (show pollsV c = 0 by unfold pollsV; rw [if_neg h0])
    have HI := Lib.hid (show givesV c = 0 by unfold givesV; rw [if_neg h0])
    have HL := Lib.hid (show classesV c = 0 by unfold classesV; rw [if_neg h0])
    clear h0
    go_enter Try.func23, Try.ntmps23
    go_wp2_with fail
    have HGB := Lib.hid (heap_alloc_new w (.cells cs 34))
    have k7 := cell_regrown (cell_alloc_at (w := w) (t := 34) HC.out.f7)
    refine wp_region_quiet_below (by kernel_rfl) (by kernel_rfl) ?_
    repeat (first | (refine wpQuiet_load_agg 34 HGB.out Try.underlying34 rfl (cfg_sz HC.out) rfl _ rfl rfl ?_; (try simp only [Act.put, List.setIfInBounds_toArray, List.set_cons_zero, List.set_cons_succ])) | go_big_quiet_step ((first | exact Calls.regrown_of (gives_at HI.out HC.out (HCA.out.below (box_below.trans ((below_regrown _ _ _).mono (by simp))))) | exact Calls.regrown_of (classes_at HL.out HC.out (HCA.out.below (box_below.trans ((below_regrown _ _ _).mono (by simp))))))))
    refine wpQuiet_nil ?_
    rintro _ ⟨⟨dq, osq⟩, rfl⟩
    go_wp2
    go_ret
    refine ⟨ret_int ?_, below_of_regrown box_below box_below.size⟩
    rw [HV.out]

theorem polls_at {cs : Array Value} {tv lv : Value} {c : Cfg} {v : Int} {w : World} (hv : pollsV c = v) (hc : CfgCells cs tv lv c) (hC : CfgAt w tv lv c) :
    Calls Try.prog 23 #[.agg cs] w fun e w' => e = .returned (.int .i64 v) ∧ Below w.heap.size w w' := hv ▸ polls_any cs tv lv c w hc hC

set_option maxRecDepth 100000 in
set_option maxHeartbeats 2000000 in
/-- THE WALK: bound.Ticks. -/
theorem ticks_any (cs : Array Value) (tv lv : Value) (c : Cfg) (n : Int) (w : World) (hc : CfgCells cs tv lv c) (hC : CfgAt w tv lv c) :
    Calls Try.prog 25 #[.agg cs, .int .i64 n] w fun e w' => e = .returned (.int .u64 (ticksV c n)) ∧ Below w.heap.size w w' := by
  have HC := Lib.hid hc; clear hc
  have HCA := Lib.hid hC; clear hC
  by_cases h0 : checkE c = 0
  · have HV := Lib.hid (show ticksV c n = ticksN c n by unfold ticksV; rw [if_pos h0])
    have H0 := Lib.hid h0
    have HI := Lib.hid (show pollsV c = pollsN c by unfold pollsV; rw [if_pos h0])
    have HL := Lib.hid (show attemptsV c = 1 + c.retries + c.preempts by unfold attemptsV; rw [if_pos h0])
    have hk := cfgOk_of h0
    obtain ⟨t1, t2, t3, t4⟩ := ticks_parts hk n
    obtain ⟨p1, p2, p3, p4⟩ := polls_parts hk
    obtain ⟨v1, v2⟩ := window_bd n
    have m1 := hk.most
    have hw : (n < 1 ∧ windowV n = 1) ∨ (1 ≤ n ∧ n ≤ 1048576 ∧ windowV n = n) ∨ (1048576 < n ∧ windowV n = 1048576) := by unfold windowV; omega
    have HT := Lib.hid (show ticksN c n = (1 + c.retries + c.preempts) * (pollsN c * windowV n + windowV n + c.most) + 1 from rfl)
    clear h0 hk p1 p2
    rcases hw with ⟨w1, w2⟩ | ⟨w1, w2, w3⟩ | ⟨w1, w2⟩
    all_goals
      first | rw [w3] at HT t1 t2 t3 t4 v1 v2 | rw [w2] at HT t1 t2 t3 t4 v1 v2
      try simp only [Int.mul_one] at HT t1 t2 t3 t4
      go_enter Try.func25, Try.ntmps25
      go_wp2_with (refine wpList_load_agg 34 (heap_alloc_new w _) Try.underlying34 rfl (cfg_sz HC.out) rfl _ rfl rfl ?_)
      refine (check_any _ _ _ c _ HC.out (HCA.out.below box_below)).mono ?_
      rintro e w1 ⟨rfl, hb⟩
      rw [H0.out]
      have HB := Lib.hid hb
      have hgB := (hb.block w.heap.size (by simp)).trans (heap_alloc_new w _)
      have HGB := Lib.hid hgB
      clear hgB
      have k11 := cell_regrown (cell_below hb (cell_alloc_at (t := 34) HC.out.f11))
      clear hb
      go_wp2_with fail
      all_goals first
        | (exfalso; omega)
        | refine wp_region_quiet_below (by kernel_rfl) (by kernel_rfl) ?_
          repeat (first | (refine wpQuiet_load_agg 34 HGB.out Try.underlying34 rfl (cfg_sz HC.out) rfl _ rfl rfl ?_; (try simp only [Act.put, List.setIfInBounds_toArray, List.set_cons_zero, List.set_cons_succ])) | go_big_quiet_step ((first | exact Calls.regrown_of (polls_at HI.out HC.out (HCA.out.below ((box_below2 HB.out).trans ((below_regrown _ _ _).mono (box_below2 HB.out).size)))) | exact Calls.regrown_of (attempts_at HL.out HC.out (HCA.out.below ((box_below2 HB.out).trans ((below_regrown _ _ _).mono (box_below2 HB.out).size)))))))
          refine wpQuiet_nil ?_
          rintro _ ⟨⟨dq, osq⟩, rfl⟩
          go_wp2
          go_ret
          refine ⟨ret_int ?_, below_of_regrown (box_below2 HB.out) (box_below2 HB.out).size⟩
          rw [HV.out, HT.out]
  · have HV := Lib.hid (show ticksV c n = 0 by unfold ticksV; rw [if_neg h0])
    have H0 := Lib.hid (show (checkE c != 0) = true by rw [bne_iff_ne]; exact h0)
    clear h0
    go_enter Try.func25, Try.ntmps25
    go_wp2_with (refine wpList_load_agg 34 (heap_alloc_new w _) Try.underlying34 rfl (cfg_sz HC.out) rfl _ rfl rfl ?_)
    refine (check_any _ _ _ c _ HC.out (HCA.out.below box_below)).mono ?_
    rintro e w1 ⟨rfl, hb⟩
    have hne := H0.out
    go_wp2
    go_ret
    exact ⟨ret_int HV.out.symm, box_below2 hb⟩

end Go.Proofs.Ytcojnjfpoiohoaa
