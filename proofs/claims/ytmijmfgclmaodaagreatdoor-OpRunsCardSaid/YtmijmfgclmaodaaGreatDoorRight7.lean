/-
  billetref07: Right, Classes: the walks.
-/
import Derived.Test.YtmijmfgclmaodaaGreatDoorBound
namespace Go.Proofs.YtmijmfgclmaodaaGreatDoor
open Go.RowKit

set_option maxHeartbeats 400000 in
/-- THE WALK: billetref07.Right. -/
theorem rright_any (cs : Array Value) (tv lv : Value) (c : Cfg) (w : World) (hc : CfgCells cs tv lv c) (hC : CfgAt w tv lv c) :
    Calls Tryz.prog 38 #[.agg cs] w fun e w' => e = .returned (.bool (checkE c == 0)) ∧ Below w.heap.size w w' := by
  have HC := Lib.hid hc; clear hc
  have HCA := Lib.hid hC; clear hC
  go_enter Tryz.func38, Tryz.ntmps38
  go_wp2_with (refine wpList_load_agg 42 (heap_alloc_new w _) Tryz.underlying42 rfl (cfg_sz HC.out) rfl _ rfl rfl ?_)
  refine (rcheck_any _ _ _ c _ HC.out (HCA.out.below box_below)).mono ?_
  rintro e w1 ⟨rfl, hb⟩
  go_wp2
  go_ret
  exact ⟨rfl, box_below2 hb⟩
set_option maxHeartbeats 1000000 in
/-- THE WALK: billetref07.Classes. -/
theorem rclasses_any (cs : Array Value) (tv lv : Value) (c : Cfg) (w : World) (hc : CfgCells cs tv lv c) (hC : CfgAt w tv lv c) :
    Calls Tryz.prog 41 #[.agg cs] w fun e w' => e = .returned (.int .i64 (classesV c)) ∧ Below w.heap.size w w' := by
  have HC := Lib.hid hc; clear hc
  obtain ⟨la, lcap, hlv, hlen, _⟩ := id hC.2
  subst hlv
  have HCA := Lib.hid hC; clear hC
  by_cases h0 : checkE c = 0
  · have HV := Lib.hid (show classesV c = (c.ls.length : Int) + 1 by unfold classesV; rw [if_pos h0])
    have H0 := Lib.hid h0
    have hk := cfgOk_of h0
    clear h0 hk
    go_enter Tryz.func41, Tryz.ntmps41
    go_wp2_with (refine wpList_load_agg 42 (heap_alloc_new w _) Tryz.underlying42 rfl (cfg_sz HC.out) rfl _ rfl rfl ?_)
    refine (rright_any _ _ _ c _ HC.out (HCA.out.below box_below)).mono ?_
    rintro e w1 ⟨rfl, hb⟩
    have h0 : (checkE c == 0) = true := by rw [H0.out]; rfl
    rw [h0]
    clear h0
    have c1 := cell_below hb (cell_alloc_at (t := 42) HC.out.f1)
    go_wp2
    go_ret
    exact ⟨ret_int HV.out.symm, box_below2 hb⟩
  · have HV := Lib.hid (show classesV c = 0 by unfold classesV; rw [if_neg h0])
    have H0 := Lib.hid (show (checkE c != 0) = true by rw [bne_iff_ne]; exact h0)
    clear h0
    go_enter Tryz.func41, Tryz.ntmps41
    go_wp2_with (refine wpList_load_agg 42 (heap_alloc_new w _) Tryz.underlying42 rfl (cfg_sz HC.out) rfl _ rfl rfl ?_)
    refine (rright_any _ _ _ c _ HC.out (HCA.out.below box_below)).mono ?_
    rintro e w1 ⟨rfl, hb⟩
    have h0 : (checkE c == 0) = false := by have := H0.out; rw [bne_iff_ne] at this; exact beq_eq_false_iff_ne.2 this
    rw [h0]
    clear h0
    go_wp2
    go_ret
    exact ⟨ret_int HV.out.symm, box_below2 hb⟩

end Go.Proofs.YtmijmfgclmaodaaGreatDoor
