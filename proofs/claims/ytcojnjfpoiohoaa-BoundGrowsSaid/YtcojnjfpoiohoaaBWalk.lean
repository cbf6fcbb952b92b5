/-
  bound and billetref44: the walks.
-/
import Derived.Test.YtcojnjfpoiohoaaBMath
namespace Go.Proofs.Ytcojnjfpoiohoaa
open Go.RowKit

set_option maxHeartbeats 400000 in
/-- THE WALK: frac.Ceil. -/
theorem fceil_any (a b : Nat) (w : World) (hb : 1 ≤ b) (ha : a < 1000000000000) (hb2 : b < 1000000000000) :
    Calls Try.prog 124 #[.int .u64 a, .int .u64 b] w fun e w' => e = .returned (.int .u64 (ceilI a b)) ∧ w = w' := by
  have hb0 : ((b : Int) == 0) = false := beq_eq_false_iff_ne.2 (by omega)
  have hq : a / b ≤ a := Nat.div_le_self _ _
  have HM := Lib.hid (show ((a : Int) % (b : Int)) = ((a % b : Nat) : Int) from rfl)
  have h1 : 0 ≤ (a : Int) / b ∧ (a : Int) / b ≤ a := ⟨Int.natCast_nonneg (a / b), Int.ofNat_le.2 hq⟩
  by_cases h : 0 < a % b
  · have H := Lib.hid (show ceilI a b = (a : Int) / b + 1 by unfold ceilI; rw [if_pos (by rw [HM.out]; omega)])
    have h2 : (0 : Int) < (a : Int) % b := by rw [HM.out]; omega
    go_enter Try.func124, Try.ntmps124
    go_wp2
    go_ret
    exact ⟨ret_int H.out.symm, rfl⟩
  · have H := Lib.hid (show ceilI a b = (a : Int) / b by unfold ceilI; rw [if_neg (by rw [HM.out]; omega)])
    have h2 : ¬ (0 : Int) < (a : Int) % b := by rw [HM.out]; omega
    go_enter Try.func124, Try.ntmps124
    go_wp2
    go_ret
    exact ⟨ret_int H.out.symm, rfl⟩

set_option maxHeartbeats 400000 in
/-- THE WALK: bound.rounds. -/
theorem rounds_any (a b : Int) (w : World) (h0 : 0 ≤ a) (h1 : 1 ≤ b) (ha : a < 100000000000) (hb : b < 1000) :
    Calls Try.prog 69 #[.int .i64 a, .int .i64 b] w fun e w' => e = .returned (.int .i64 (roundsI a b)) ∧ w = w' := by
  obtain ⟨n, rfl⟩ := Int.eq_ofNat_of_zero_le h0
  obtain ⟨m, rfl⟩ := Int.eq_ofNat_of_zero_le (show 0 ≤ b by omega)
  have hbd := ceilI_bd h0 h1
  have hbd1 := hbd.1
  have hbd2 := hbd.2.1
  clear hbd
  go_enter Try.func69, Try.ntmps69
  go_wp2_with fail
  refine (fceil_any n m _ (by omega) (by omega) (by omega)).mono ?_
  rintro e w1 ⟨rfl, rfl⟩
  go_wp2
  go_ret
  exact ⟨ret_int rfl, rfl⟩

set_option maxHeartbeats 400000 in
/-- THE WALK: bound.visit. -/
theorem visit_any (cs : Array Value) (tv lv : Value) (c : Cfg) (wt : Int) (w : World) (hc : CfgCells cs tv lv c) (hk : CfgOk c) (h0 : 0 ≤ wt) (h1 : wt ≤ 16) :
    Calls Try.prog 70 #[.agg cs, .int .i64 wt] w fun e w' => e = .returned (.int .i64 (visitV c wt)) ∧ Below w.heap.size w w' := by
  have f2 := hc.f2
  have f3 := hc.f3
  obtain ⟨v0, v1, _, _⟩ := visit_bd hk h0 h1
  have v2 := hk.cost
  clear hc hk
  go_enter Try.func70, Try.ntmps70
  go_wp2
  go_ret
  exact ⟨ret_int rfl, box_below⟩

set_option maxHeartbeats 400000 in
/-- THE WALK: billetref44.ceil. -/
theorem rceil_any (a b : Int) (w : World) (h0 : 0 ≤ a) (h1 : 1 ≤ b) (ha : a < 100000000000) (hb : b < 1000) :
    Calls Try.prog 71 #[.int .i64 a, .int .i64 b] w fun e w' => e = .returned (.int .i64 (ceilI a b)) ∧ w = w' := by
  have hq0 : 0 ≤ a / b := Int.ediv_nonneg h0 (by omega)
  have hq1 : a / b ≤ a := by
    have h2 : a / b * b ≤ a := Int.ediv_mul_le a (by omega)
    have : a / b * 1 ≤ a / b * b := Int.mul_le_mul_of_nonneg_left h1 hq0
    omega
  by_cases h : 0 < a % b
  · have H := Lib.hid (show ceilI a b = a / b + 1 by unfold ceilI; rw [if_pos h])
    go_enter Try.func71, Try.ntmps71
    go_wp2
    go_ret
    exact ⟨ret_int H.out.symm, rfl⟩
  · have H := Lib.hid (show ceilI a b = a / b by unfold ceilI; rw [if_neg h])
    go_enter Try.func71, Try.ntmps71
    go_wp2
    go_ret
    exact ⟨ret_int H.out.symm, rfl⟩

set_option maxHeartbeats 400000 in
/-- THE WALK: billetref07.Right. -/
theorem rright_any (cs : Array Value) (tv lv : Value) (c : Cfg) (w : World) (hc : CfgCells cs tv lv c) (hC : CfgAt w tv lv c) :
    Calls Try.prog 27 #[.agg cs] w fun e w' => e = .returned (.bool (checkE c == 0)) ∧ Below w.heap.size w w' := by
  have HC := Lib.hid hc; clear hc
  have HCA := Lib.hid hC; clear hC
  go_enter Try.func27, Try.ntmps27
  go_wp2_with (refine wpList_load_agg 34 (heap_alloc_new w _) Try.underlying34 rfl (cfg_sz HC.out) rfl _ rfl rfl ?_)
  refine (rcheck_any _ _ _ c _ HC.out (HCA.out.below box_below)).mono ?_
  rintro e w1 ⟨rfl, hb⟩
  go_wp2
  go_ret
  exact ⟨rfl, box_below2 hb⟩

set_option maxHeartbeats 1000000 in
/-- THE WALK: conf.Attempts. -/
theorem attempts_any (cs : Array Value) (tv lv : Value) (c : Cfg) (w : World) (hc : CfgCells cs tv lv c) (hC : CfgAt w tv lv c) :
    Calls Try.prog 76 #[.agg cs] w fun e w' => e = .returned (.int .i64 (attemptsV c)) ∧ Below w.heap.size w w' := by
  have HC := Lib.hid hc; clear hc
  obtain ⟨la, lcap, hlv, hlen, _⟩ := id hC.2
  subst hlv
  have HCA := Lib.hid hC; clear hC
  by_cases h0 : checkE c = 0
  · have HV := Lib.hid (show attemptsV c = 1 + c.retries + c.preempts by unfold attemptsV; rw [if_pos h0])
    have H0 := Lib.hid h0
    have hk := cfgOk_of h0
    have hr := hk.retries
    have hp := hk.preempts
    clear h0 hk
    go_enter Try.func76, Try.ntmps76
    go_wp2_with (refine wpList_load_agg 34 (heap_alloc_new w _) Try.underlying34 rfl (cfg_sz HC.out) rfl _ rfl rfl ?_)
    refine (check_any _ _ _ c _ HC.out (HCA.out.below box_below)).mono ?_
    rintro e w1 ⟨rfl, hb⟩
    rw [H0.out]
    have c8 := cell_below hb (cell_alloc_at (t := 34) HC.out.f8)
    have c9 := cell_below hb (cell_alloc_at (t := 34) HC.out.f9)
    go_wp2
    go_ret
    exact ⟨ret_int HV.out.symm, box_below2 hb⟩
  · have HV := Lib.hid (show attemptsV c = 0 by unfold attemptsV; rw [if_neg h0])
    have H0 := Lib.hid (show (checkE c != 0) = true by rw [bne_iff_ne]; exact h0)
    clear h0
    go_enter Try.func76, Try.ntmps76
    go_wp2_with (refine wpList_load_agg 34 (heap_alloc_new w _) Try.underlying34 rfl (cfg_sz HC.out) rfl _ rfl rfl ?_)
    refine (check_any _ _ _ c _ HC.out (HCA.out.below box_below)).mono ?_
    rintro e w1 ⟨rfl, hb⟩
    have hne := H0.out
    go_wp2
    go_ret
    exact ⟨ret_int HV.out.symm, box_below2 hb⟩

set_option maxHeartbeats 1000000 in
/-- THE WALK: billetref07.Attempts. -/
theorem rattempts_any (cs : Array Value) (tv lv : Value) (c : Cfg) (w : World) (hc : CfgCells cs tv lv c) (hC : CfgAt w tv lv c) :
    Calls Try.prog 77 #[.agg cs] w fun e w' => e = .returned (.int .i64 (attemptsV c)) ∧ Below w.heap.size w w' := by
  have HC := Lib.hid hc; clear hc
  obtain ⟨la, lcap, hlv, hlen, _⟩ := id hC.2
  subst hlv
  have HCA := Lib.hid hC; clear hC
  by_cases h0 : checkE c = 0
  · have HV := Lib.hid (show attemptsV c = 1 + c.retries + c.preempts by unfold attemptsV; rw [if_pos h0])
    have H0 := Lib.hid h0
    have hk := cfgOk_of h0
    have hr := hk.retries
    have hp := hk.preempts
    clear h0 hk
    go_enter Try.func77, Try.ntmps77
    go_wp2_with (refine wpList_load_agg 34 (heap_alloc_new w _) Try.underlying34 rfl (cfg_sz HC.out) rfl _ rfl rfl ?_)
    refine (rright_any _ _ _ c _ HC.out (HCA.out.below box_below)).mono ?_
    rintro e w1 ⟨rfl, hb⟩
    have h0 : (checkE c == 0) = true := by rw [H0.out]; rfl
    rw [h0]
    clear h0
    have c8 := cell_below hb (cell_alloc_at (t := 34) HC.out.f8)
    have c9 := cell_below hb (cell_alloc_at (t := 34) HC.out.f9)
    go_wp2
    go_ret
    exact ⟨ret_int HV.out.symm, box_below2 hb⟩
  · have HV := Lib.hid (show attemptsV c = 0 by unfold attemptsV; rw [if_neg h0])
    have H0 := Lib.hid (show (checkE c != 0) = true by rw [bne_iff_ne]; exact h0)
    clear h0
    go_enter Try.func77, Try.ntmps77
    go_wp2_with (refine wpList_load_agg 34 (heap_alloc_new w _) Try.underlying34 rfl (cfg_sz HC.out) rfl _ rfl rfl ?_)
    refine (rright_any _ _ _ c _ HC.out (HCA.out.below box_below)).mono ?_
    rintro e w1 ⟨rfl, hb⟩
    have h0 : (checkE c == 0) = false := by have := H0.out; rw [bne_iff_ne] at this; exact beq_eq_false_iff_ne.2 this
    rw [h0]
    clear h0
    go_wp2
    go_ret
    exact ⟨ret_int HV.out.symm, box_below2 hb⟩

set_option maxHeartbeats 1000000 in
/-- THE WALK: billetref07.Classes. -/
theorem rclasses_any (cs : Array Value) (tv lv : Value) (c : Cfg) (w : World) (hc : CfgCells cs tv lv c) (hC : CfgAt w tv lv c) :
    Calls Try.prog 75 #[.agg cs] w fun e w' => e = .returned (.int .i64 (classesV c)) ∧ Below w.heap.size w w' := by
  have HC := Lib.hid hc; clear hc
  obtain ⟨la, lcap, hlv, hlen, _⟩ := id hC.2
  subst hlv
  have HCA := Lib.hid hC; clear hC
  by_cases h0 : checkE c = 0
  · have HV := Lib.hid (show classesV c = (c.ls.length : Int) + 1 by unfold classesV; rw [if_pos h0])
    have H0 := Lib.hid h0
    have hk := cfgOk_of h0
    clear h0 hk
    go_enter Try.func75, Try.ntmps75
    go_wp2_with (refine wpList_load_agg 34 (heap_alloc_new w _) Try.underlying34 rfl (cfg_sz HC.out) rfl _ rfl rfl ?_)
    refine (rright_any _ _ _ c _ HC.out (HCA.out.below box_below)).mono ?_
    rintro e w1 ⟨rfl, hb⟩
    have h0 : (checkE c == 0) = true := by rw [H0.out]; rfl
    rw [h0]
    clear h0
    have c1 := cell_below hb (cell_alloc_at (t := 34) HC.out.f1)
    go_wp2
    go_ret
    exact ⟨ret_int HV.out.symm, box_below2 hb⟩
  · have HV := Lib.hid (show classesV c = 0 by unfold classesV; rw [if_neg h0])
    have H0 := Lib.hid (show (checkE c != 0) = true by rw [bne_iff_ne]; exact h0)
    clear h0
    go_enter Try.func75, Try.ntmps75
    go_wp2_with (refine wpList_load_agg 34 (heap_alloc_new w _) Try.underlying34 rfl (cfg_sz HC.out) rfl _ rfl rfl ?_)
    refine (rright_any _ _ _ c _ HC.out (HCA.out.below box_below)).mono ?_
    rintro e w1 ⟨rfl, hb⟩
    have h0 : (checkE c == 0) = false := by have := H0.out; rw [bne_iff_ne] at this; exact beq_eq_false_iff_ne.2 this
    rw [h0]
    clear h0
    go_wp2
    go_ret
    exact ⟨ret_int HV.out.symm, box_below2 hb⟩

end Go.Proofs.Ytcojnjfpoiohoaa
