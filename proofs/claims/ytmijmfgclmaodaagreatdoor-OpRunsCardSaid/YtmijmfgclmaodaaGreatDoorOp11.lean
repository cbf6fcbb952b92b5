/-
  Terminal, tick, Limit, Fail, Preempt, Cancel, Expire, on all ways: the walks.
-/
import Derived.Test.YtmijmfgclmaodaaGreatDoorOp10
namespace Go.Proofs.YtmijmfgclmaodaaGreatDoor
open Go.RowKit

set_option maxRecDepth 100000 in
set_option maxHeartbeats 4000000 in
theorem terminal_any (s : Int) (w : World) :
    Calls Tryz.prog 14 #[.int .i64 s] w fun e w' => e = .returned (.bool (termB s)) ∧ w = w' := by
  by_cases h1 : 4 ≤ s
  · by_cases h2 : s ≤ 7
    · have HV := Lib.hid (show termB s = true by simp [termB, h1, h2])
      go_enter Tryz.func14, Tryz.ntmps14
      go_wp2
      go_ret
      exact ⟨by rw [HV.out] <;> simp <;> omega, rfl⟩
    · have HV := Lib.hid (show termB s = false by simp [termB, h2])
      have n2 : 7 < s := by omega
      clear h2
      go_enter Tryz.func14, Tryz.ntmps14
      go_wp2
      go_ret
      exact ⟨by rw [HV.out] <;> simp <;> omega, rfl⟩
  · have HV := Lib.hid (show termB s = false by simp [termB, h1])
    have n1 : s < 4 := by omega
    clear h1
    go_enter Tryz.func14, Tryz.ntmps14
    go_wp2
    go_ret
    exact ⟨by rw [HV.out] <;> simp <;> omega, rfl⟩
/-- Some number of ticks. -/
def SomeTicks (w : World) (e : Ending) (w' : World) : Prop := ∃ n : Int, e = .returned (.int .i64 n) ∧ 0 ≤ n ∧ n ≤ 1048576 ∧ w = w'
def SomeTick (w : World) (e : Ending) (w' : World) : Prop := ∃ n : Int, e = .returned (.int .u64 n) ∧ w = w'
set_option maxRecDepth 100000 in
set_option maxHeartbeats 4000000 in
theorem wait_any (base most n : Int) (w : World) (h1 : 1 ≤ base) (h2 : base ≤ most) (h3 : most ≤ 1048576) (h4 : 1 ≤ n) (h5 : n ≤ 5) :
    Calls Tryz.prog 74 #[.int .i64 base, .int .i64 most, .int .i64 n] w (SomeTicks w) := by
  go_enter Tryz.func74, Tryz.ntmps74
  go_wp2
  go_loop [7, 24] (fun x i => ∃ y k : Int, x = .int .i64 y ∧ i = .int .i64 k ∧ 1 ≤ y ∧ y ≤ most ∧ 0 ≤ k ∧ k ≤ n - 1) (fun _ i => (5 - intOf i).toNat)
  case atStart => exact ⟨_, 0, rfl, rfl, by omega, by omega, by omega, by omega⟩
  case round =>
    obtain ⟨y, k, rfl, rfl, y0, y1, k0, k1⟩ := hrel
    by_cases hk : k < n - 1
    · by_cases hy : most - y < y
      · go_wp2
        go_round
        case rel => exact ⟨_, _, rfl, rfl, by omega, by omega, by omega, by omega⟩
        case measure => simp [intOf]; omega
      · go_wp2
        go_round
        case rel => exact ⟨_, _, rfl, rfl, by omega, by omega, by omega, by omega⟩
        case measure => simp [intOf]; omega
    · go_wp2
      go_ret
      exact ⟨_, rfl, by omega, by omega, rfl⟩
set_option maxRecDepth 100000 in
set_option maxHeartbeats 4000000 in
theorem tadd_any (now n : Int) (w : World) (h1 : 0 ≤ n) (h2 : n ≤ 1048576) (h3 : 0 ≤ now) (h4 : now ≤ 18446744073709551615) :
    Calls Tryz.prog 73 #[.int .u64 now, .int .i64 n] w (SomeTick w) := by
  by_cases hm : 18446744073709551615 - now < n
  · go_enter Tryz.func73, Tryz.ntmps73
    go_wp2
    all_goals go_ret
    all_goals exact ⟨_, rfl, rfl⟩
  · go_enter Tryz.func73, Tryz.ntmps73
    go_wp2
    all_goals go_ret
    all_goals exact ⟨_, rfl, rfl⟩
/-- The limit of a class. -/
def ClimPost (c : Cfg) (k : Int) (w : World) (e : Ending) (w' : World) : Prop := ∃ n : Int, e = .returned (.int .i64 n) ∧ (n ≠ 0 → k < c.ls.length) ∧ Below w.heap.size w w'
set_option maxRecDepth 100000 in
set_option maxHeartbeats 4000000 in
theorem clim_in (cs : Array Value) (tv lv : Value) (c : Cfg) (k : Int) (w : World) (hc : CfgCells cs tv lv c) (hC : CfgAt w tv lv c) (h0 : checkE c = 0) (hk : 0 ≤ k) (hlt : k < c.ls.length) :
    Calls Tryz.prog 91 #[.agg cs, .int .i64 k] w (ClimPost c k w) := by
  have HC := Lib.hid hc
  clear hc
  obtain ⟨la, lcap, hlv, hlen, hcell⟩ := id hC.2
  subst hlv
  have HCA := Lib.hid hC
  have H0 := Lib.hid h0
  clear hC h0
  obtain ⟨i, rfl⟩ : ∃ i : Nat, k = i := ⟨k.toNat, by omega⟩
  have hi : i < c.ls.length := by omega
  obtain ⟨n, hn⟩ : ∃ n, c.ls[i]? = some n := ⟨_, List.getElem?_eq_getElem hi⟩
  obtain ⟨b, off, rfl, c0⟩ := hcell i n hn
  have HK := Lib.hid c0
  clear hcell hn c0
  go_enter Tryz.func91, Tryz.ntmps91
  go_wp2_with (refine wpList_load_agg 42 (heap_alloc_new w _) Tryz.underlying42 rfl (cfg_sz HC.out) rfl _ rfl rfl ?_)
  refine (check_any _ _ _ c _ HC.out (HCA.out.below box_below)).mono ?_
  rintro e w1 ⟨rfl, hb⟩
  rw [H0.out]
  have c1 := cell_below hb (cell_alloc_at (t := 42) HC.out.f1)
  have HB := Lib.hid hb
  have k0 := cell_below hb (cell_below (box_below (w := w)) HK.out)
  clear hb
  go_wp2
  go_ret
  exact ⟨_, rfl, fun _ => hlt, box_below2 HB.out⟩
set_option maxRecDepth 100000 in
set_option maxHeartbeats 4000000 in
theorem clim_out (cs : Array Value) (tv lv : Value) (c : Cfg) (k : Int) (w : World) (hc : CfgCells cs tv lv c) (hC : CfgAt w tv lv c) (h0 : checkE c = 0) (hk : 0 ≤ k) (hge : (c.ls.length : Int) ≤ k) :
    Calls Tryz.prog 91 #[.agg cs, .int .i64 k] w (ClimPost c k w) := by
  have HC := Lib.hid hc
  clear hc
  obtain ⟨la, lcap, hlv, hlen, hcell⟩ := id hC.2
  subst hlv
  have HCA := Lib.hid hC
  have H0 := Lib.hid h0
  clear hC h0
  clear hcell
  go_enter Tryz.func91, Tryz.ntmps91
  go_wp2_with (refine wpList_load_agg 42 (heap_alloc_new w _) Tryz.underlying42 rfl (cfg_sz HC.out) rfl _ rfl rfl ?_)
  refine (check_any _ _ _ c _ HC.out (HCA.out.below box_below)).mono ?_
  rintro e w1 ⟨rfl, hb⟩
  rw [H0.out]
  have c1 := cell_below hb (cell_alloc_at (t := 42) HC.out.f1)
  have HB := Lib.hid hb
  clear hb
  go_wp2
  go_ret
  exact ⟨_, rfl, fun h => absurd rfl h, box_below2 HB.out⟩
set_option maxRecDepth 100000 in
set_option maxHeartbeats 4000000 in
theorem clim_any (cs : Array Value) (tv lv : Value) (c : Cfg) (k : Int) (w : World) (hc : CfgCells cs tv lv c) (hC : CfgAt w tv lv c) (h0 : checkE c = 0) (hk : 0 ≤ k) :
    Calls Tryz.prog 91 #[.agg cs, .int .i64 k] w (ClimPost c k w) := by
  by_cases h : k < c.ls.length
  · exact clim_in cs tv lv c k w hc hC h0 hk h
  · exact clim_out cs tv lv c k w hc hC h0 hk (by omega)
end Go.Proofs.YtmijmfgclmaodaaGreatDoor
