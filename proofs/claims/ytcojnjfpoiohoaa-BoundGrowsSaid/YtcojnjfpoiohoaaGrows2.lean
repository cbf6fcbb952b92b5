/-
  billetlaw44.BoundGrows: the walk of what may be, and the law.
-/
import Derived.Test.YtcojnjfpoiohoaaGrows
namespace Go.Proofs.Ytcojnjfpoiohoaa
open Go.RowKit

theorem heap_setCell_at {w : World} {g i : Nat} {cs : Array Value} {t : TypeId} {fr : Nat × Nat} {v : Value} (h : w.heap[g]? = some (.cells cs t fr)) : (w.setCell ⟨g, i, none⟩ v).heap[g]? = some (.cells (cs.setIfInBounds i v) t fr) := by
  simp only [World.setCell, Array.getElem?_modify, h]
  simp
theorem heap_setCell_other {w : World} {g k i : Nat} {v : Value} (h : g ≠ k) : (w.setCell ⟨g, i, none⟩ v).heap[k]? = w.heap[k]? := by
  simp only [World.setCell, Array.getElem?_modify]
  simp [h]
theorem cell_of_heap {w : World} {g i : Nat} {cs : Array Value} {t : TypeId} {fr : Nat × Nat} {v : Value} (h : w.heap[g]? = some (.cells cs t fr)) (hi : cs[i]? = some v) : w.cell? ⟨g, i, none⟩ = some v := by
  simp [World.cell?, h, hi]
theorem free_of_heap {w : World} {g i : Nat} {cs : Array Value} {t : TypeId} (h : w.heap[g]? = some (.cells cs t (0, 0))) : w.frozen? ⟨g, i, none⟩ = false := by
  simp [World.frozen?, h]

theorem min_of {a b r : Int} (h : (if b < a then b else a) = r) : r = min a b := by rw [← h]; split <;> omega

set_option maxRecDepth 100000 in
set_option maxHeartbeats 4000000 in
/-- THE WALK: a configuration that may be, and a window that may. -/
theorem grows_good (cs : Array Value) (tv lv : Value) (c : Cfg) (x0 x1 x2 x3 x4 x5 : Int) (n : Int) (w : World) (hc : CfgCells cs tv lv c) (hC : CfgAt w tv lv c)
    (g0 : inR x0) (g1 : inR x1) (g2 : inR x2) (g3 : inR x3) (g4 : inR x4) (g5 : inR x5) (hw : wideB c = false) (hr : checkE c = 0) (hn : 1 ≤ n) (hn2 : n ≤ 1048576) :
    Calls Try.prog 5 #[.agg cs, .agg (([x0, x1, x2, x3, x4, x5] : List Int).map (Value.int .i64)).toArray, .int .i64 n] w (growsPost w) := by
  have hc' := hc
  have hC' := hC
  have HC := Lib.hid hc; clear hc
  have HA := Lib.hid hC; clear hC
  have HO := Lib.hid (cfg_one hc' hC')
  clear hc' hC'
  have HW := Lib.hid hw; clear hw
  have HR := Lib.hid (show (checkE c == 0) = true by rw [hr]; rfl)
  have HK := Lib.hid hr
  obtain ⟨hg, hgx⟩ : ∃ xs : List Int, xs = [x0, x1, x2, x3, x4, x5] := ⟨_, rfl⟩
  have HX := Lib.hid hgx
  have HG := Lib.hid (show ∀ x ∈ hg, inR x by rw [hgx]; intro x hx; simp at hx; rcases hx with rfl | rfl | rfl | rfl | rfl | rfl <;> assumption)
  have HL := Lib.hid (show hg.length = 6 by rw [hgx]; rfl)
  rw [← hgx]
  clear hgx
  have hk := cfgOk_of hr
  clear hr
  have k1 := hk.cap; have k2 := hk.invs; have k3 := hk.pools; have k4 := hk.retries; have k5 := hk.preempts; have k6 := hk.most
  unfold inR at g0 g1 g2 g3 g4 g5
  clear hk
  obtain ⟨a0, e0⟩ : ∃ a : Int, (if 32 < c.cap + x0 then 32 else c.cap + x0) = a := ⟨_, rfl⟩
  obtain ⟨a1, e1⟩ : ∃ a : Int, (if 8 < c.invs + x1 then 8 else c.invs + x1) = a := ⟨_, rfl⟩
  obtain ⟨a2, e2⟩ : ∃ a : Int, (if 8 < c.pools + x2 then 8 else c.pools + x2) = a := ⟨_, rfl⟩
  obtain ⟨a3, e3⟩ : ∃ a : Int, (if 5 < c.retries + x3 then 5 else c.retries + x3) = a := ⟨_, rfl⟩
  obtain ⟨a4, e4⟩ : ∃ a : Int, (if 5 < c.preempts + x4 then 5 else c.preempts + x4) = a := ⟨_, rfl⟩
  obtain ⟨a5, e5⟩ : ∃ a : Int, (if 1048576 - c.most < x5 then 1048576 - c.most else x5) = a := ⟨_, rfl⟩
  have b5 : 0 ≤ a5 ∧ a5 ≤ 1048576 := by rw [← e5]; split <;> omega
  obtain ⟨ds, hds⟩ : ∃ ds : Array Value, ds = (((((cs.setIfInBounds 4 (.int .i64 a0)).setIfInBounds 5 (.int .i64 a1)).setIfInBounds 7 (.int .i64 a2)).setIfInBounds 8 (.int .i64 a3)).setIfInBounds 9 (.int .i64 a4)).setIfInBounds 11 (.int .i64 (c.most + a5)) := ⟨_, rfl⟩
  have hD : CfgCells ds tv lv (grownC c x0 x1 x2 x3 x4 x5) := by
    rw [hds, cfg_lit HC.out]
    simp only [List.setIfInBounds_toArray, List.set_cons_zero, List.set_cons_succ]
    rw [min_of e0, min_of e1, min_of e2, min_of e3, min_of e4, min_of e5]
    exact ⟨rfl, rfl, rfl, rfl, rfl, rfl, rfl, rfl, rfl, rfl, rfl, rfl, rfl, rfl, rfl, rfl, rfl, rfl, rfl, rfl⟩
  have HD := Lib.hid hD
  have HDS := Lib.hid hds
  clear hds hD
  have HAD := Lib.hid (show CfgAt w tv lv (grownC c x0 x1 x2 x3 x4 x5) from HA.out)
  have hk2 := grown_ok (m0 := x0) (m1 := x1) (m2 := x2) (m3 := x3) (m4 := x4) (m5 := x5) HK.out g0.1 g1.1 g2.1 g3.1 g4.1 g5.1
  obtain ⟨t1, ht1⟩ : ∃ v, ticksV c n = v := ⟨_, rfl⟩
  obtain ⟨t2, ht2⟩ : ∃ v, ticksV (grownC c x0 x1 x2 x3 x4 x5) n = v := ⟨_, rfl⟩
  obtain ⟨t3, ht3⟩ : ∃ v, ticksV (grownC c x0 x1 x2 x3 x4 x5) (n + 1) = v := ⟨_, rfl⟩
  obtain ⟨v1, hv1⟩ : ∃ v, givesV c = v := ⟨_, rfl⟩
  obtain ⟨v2, hv2⟩ : ∃ v, givesV (grownC c x0 x1 x2 x3 x4 x5) = v := ⟨_, rfl⟩
  obtain ⟨i1, hi1⟩ : ∃ v, innerV c = v := ⟨_, rfl⟩
  have l1 : t1 ≤ t2 := by rw [← ht1, ← ht2]; unfold ticksV; rw [if_pos HK.out, if_pos hk2]; exact ticks_grows n HK.out g0.1 g1.1 g2.1 g3.1 g4.1 g5.1
  have l2 : t2 ≤ t3 := by rw [← ht2, ← ht3]; unfold ticksV; rw [if_pos hk2, if_pos hk2]; exact ticks_window hk2 (by omega)
  have l3 : v1 ≤ v2 := by rw [← hv1, ← hv2]; unfold givesV; rw [if_pos HK.out, if_pos hk2]; exact gives_grows HK.out g0.1 g1.1
  have l4 : i1 < v1 := by rw [← hi1, ← hv1]; unfold innerV givesV; rw [if_pos HK.out, if_pos HK.out]; exact inner_lt_gives HK.out
  have HT1 := Lib.hid ht1
  have HT2 := Lib.hid ht2
  have HT3 := Lib.hid ht3
  have HV1 := Lib.hid hv1
  have HV2 := Lib.hid hv2
  have HI1 := Lib.hid hi1
  clear ht1 ht2 ht3 hv1 hv2 hi1 hk2
  go_enter Try.func5, Try.ntmps5
  go_wp2
  go_loop [7] (fun i => ∃ k : Nat, k ≤ 6 ∧ i = .int .i64 k) (fun i => 6 - (intOf i).toNat)
  case atStart => exact ⟨0, by omega, rfl⟩
  case round =>
    obtain ⟨k, hk, rfl⟩ := hrel
    by_cases hlt : k < 6
    · obtain ⟨x, hx⟩ : ∃ x, hg[k]? = some x := ⟨_, List.getElem?_eq_getElem (by have := HL.out; omega)⟩
      have hc := xs_cell2 (w := w) (o := .cells cs 34) (t := 39) hx
      have h0 : ¬ x < 0 := by have := HG.out x (List.mem_of_getElem? hx); unfold inR at this; omega
      have h1 : ¬ 64 < x := by have := HG.out x (List.mem_of_getElem? hx); unfold inR at this; omega
      clear hx
      go_wp2
      go_round
      case rel => exact ⟨k + 1, by omega, by go_num⟩
      case measure => simp [intOf]; omega
    · clear hk
      go_wp2_with (first
        | refine wpList_load_agg 34 (heap_alloc_at0 _ _) Try.underlying34 rfl (cfg_sz HC.out) rfl _ rfl rfl ?_
        | refine wpList_load_agg 34 (heap_alloc_at00 _ _ _) Try.underlying34 rfl (cfg_sz HC.out) rfl _ rfl rfl ?_
        | (refine wpList_store_new rfl 34 _ _ rfl (w.heap.size + 1 + 1) ?a1 _ rfl rfl ?a2 ?a3 ?a4 ?_; (case a1 => simp); (case a2 => exact cfg_sz HC.out); (case a3 => exact HC.out.size.symm); (case a4 => exact HO.out)))
      refine (wide_at false HW.out HC.out (HA.out.below box_below3)).mono ?_
      rintro e w1 ⟨rfl, hb1⟩
      have HB1 := Lib.hid (box_below3.trans (hb1.mono (by simp; omega)))
      have H0 := Lib.hid ((hb1.block w.heap.size (by simp; omega)).trans (heap_alloc_at00 _ _ _))
      have H1 := Lib.hid ((hb1.block (w.heap.size + 1) (by simp)).trans (heap_alloc_at01 _ _ _))
      have H2 := Lib.hid ((hb1.block (w.heap.size + 1 + 1) (by simp)).trans (heap_alloc_at02 _ _ _))
      clear hb1
      go_wp2_with (refine wpList_load_agg 34 H0.out Try.underlying34 rfl (cfg_sz HC.out) rfl _ rfl rfl ?_)
      refine (rright_any _ _ _ c _ HC.out (HA.out.below HB1.out)).mono ?_
      rintro e w2 ⟨rfl, hb2⟩
      have HB2 := Lib.hid (HB1.out.trans (hb2.mono HB1.out.size))
      rw [HR.out]
      have G0 := Lib.hid ((hb2.block w.heap.size (Array.getElem?_eq_some_iff.1 H0.out).1).trans H0.out)
      have G1 := Lib.hid ((hb2.block (w.heap.size + 1) (Array.getElem?_eq_some_iff.1 H1.out).1).trans H1.out)
      have G2 := Lib.hid ((hb2.block (w.heap.size + 1 + 1) (Array.getElem?_eq_some_iff.1 H2.out).1).trans H2.out)
      clear hb2 H0 H1 H2 HB1
      have c4 := cell_of_heap G0.out HC.out.f4
      have c5 := cell_of_heap G0.out HC.out.f5
      have c7 := cell_of_heap G0.out HC.out.f7
      have c8 := cell_of_heap G0.out HC.out.f8
      have c9 := cell_of_heap G0.out HC.out.f9
      have c11 := cell_of_heap G0.out HC.out.f11
      have y0 := cell_of_heap G1.out (i := 0) (v := .int .i64 x0) (by rw [HX.out]; rfl)
      have y1 := cell_of_heap G1.out (i := 1) (v := .int .i64 x1) (by rw [HX.out]; rfl)
      have y2 := cell_of_heap G1.out (i := 2) (v := .int .i64 x2) (by rw [HX.out]; rfl)
      have y3 := cell_of_heap G1.out (i := 3) (v := .int .i64 x3) (by rw [HX.out]; rfl)
      have y4 := cell_of_heap G1.out (i := 4) (v := .int .i64 x4) (by rw [HX.out]; rfl)
      have y5 := cell_of_heap G1.out (i := 5) (v := .int .i64 x5) (by rw [HX.out]; rfl)
      have d4 := cell_of_heap G2.out HC.out.f4
      have d5 := cell_of_heap G2.out HC.out.f5
      have d7 := cell_of_heap G2.out HC.out.f7
      have d8 := cell_of_heap G2.out HC.out.f8
      have d9 := cell_of_heap G2.out HC.out.f9
      have d11 := cell_of_heap G2.out HC.out.f11
      have z4 := free_of_heap G2.out (i := 4)
      have z5 := free_of_heap G2.out (i := 5)
      have z7 := free_of_heap G2.out (i := 7)
      have z8 := free_of_heap G2.out (i := 8)
      have z9 := free_of_heap G2.out (i := 9)
      have z11 := free_of_heap G2.out (i := 11)
      go_wp2_with fail
      clear c4 c5 c7 c8 c9 c11 y0 y1 y2 y3 y4 y5 d4 d5 d7 d8 d9 d11 z4 z5 z7 z8 z9 z11 G1
      obtain ⟨W, hW⟩ : ∃ W : World, W = ((((((w2.setCell ⟨w.heap.size + 1 + 1, 4, none⟩ (.int .i64 a0)).setCell ⟨w.heap.size + 1 + 1, 5, none⟩ (.int .i64 a1)).setCell ⟨w.heap.size + 1 + 1, 7, none⟩ (.int .i64 a2)).setCell ⟨w.heap.size + 1 + 1, 8, none⟩ (.int .i64 a3)).setCell ⟨w.heap.size + 1 + 1, 9, none⟩ (.int .i64 a4)).setCell ⟨w.heap.size + 1 + 1, 11, none⟩ (.int .i64 (c.most + a5))) := ⟨_, rfl⟩
      have HGD := Lib.hid (show W.heap[w.heap.size + 1 + 1]? = some (.cells ds 34) by rw [hW, HDS.out]; exact heap_setCell_at (heap_setCell_at (heap_setCell_at (heap_setCell_at (heap_setCell_at (heap_setCell_at G2.out))))))
      have HG0 := Lib.hid (show W.heap[w.heap.size]? = some (.cells cs 34) by rw [hW]; rw [heap_setCell_other (by omega), heap_setCell_other (by omega), heap_setCell_other (by omega), heap_setCell_other (by omega), heap_setCell_other (by omega), heap_setCell_other (by omega)]; exact G0.out)
      have HBW := Lib.hid (show Below w.heap.size w W by rw [hW]; exact (((((HB2.out.setCell (by simp; omega) _).setCell (by simp; omega) _).setCell (by simp; omega) _).setCell (by simp; omega) _).setCell (by simp; omega) _).setCell (by simp; omega) _)
      rw [← hW]
      clear hW
      have hwr : IntKind.i64.wrap (n + 1) = n + 1 := IntWalk.i64_in _ (by omega)
      refine wp_region_quiet_below (by kernel_rfl) (by kernel_rfl) ?_
      repeat (first
        | (refine wpQuiet_load_agg 34 HG0.out Try.underlying34 rfl (cfg_sz HC.out) rfl _ rfl rfl ?_; (try simp only [Act.put, List.setIfInBounds_toArray, List.set_cons_zero, List.set_cons_succ]))
        | (refine wpQuiet_load_agg 34 HGD.out Try.underlying34 rfl (cfg_sz HD.out) rfl _ rfl rfl ?_; (try simp only [Act.put, List.setIfInBounds_toArray, List.set_cons_zero, List.set_cons_succ]))
        | go_big_quiet_step ((first
          | with_reducible exact Calls.regrown_of (ticks_at HT1.out HC.out (HA.out.below (HBW.out.trans ((below_regrown _ _ _).mono HBW.out.size))))
          | with_reducible exact Calls.regrown_of (ticks_at HT2.out HD.out (HAD.out.below (HBW.out.trans ((below_regrown _ _ _).mono HBW.out.size))))
          | with_reducible exact Calls.regrown_of (ticks_at HT3.out HD.out (HAD.out.below (HBW.out.trans ((below_regrown _ _ _).mono HBW.out.size))))
          | with_reducible exact Calls.regrown_of (gives_at HV1.out HC.out (HA.out.below (HBW.out.trans ((below_regrown _ _ _).mono HBW.out.size))))
          | with_reducible exact Calls.regrown_of (gives_at HV2.out HD.out (HAD.out.below (HBW.out.trans ((below_regrown _ _ _).mono HBW.out.size))))
          | with_reducible exact Calls.regrown_of (inner_at HI1.out HC.out (HA.out.below (HBW.out.trans ((below_regrown _ _ _).mono HBW.out.size))))
          | with_reducible exact Calls.regrown_of (live44_any _))))
      refine wpQuiet_nil ?_
      rintro _ ⟨⟨dq, osq⟩, rfl⟩
      go_wp2
      go_ret
      exact ⟨rfl, below_of_regrown HBW.out HBW.out.size⟩

/-- THE WALK, whatever the arguments. -/
theorem grows_any (cs : Array Value) (tv lv : Value) (c : Cfg) (xs : List Int) (n : Int) (w : World) (hc : CfgCells cs tv lv c) (hC : CfgAt w tv lv c) (hl : xs.length = 6) :
    Calls Try.prog 5 #[.agg cs, .agg (xs.map (Value.int .i64)).toArray, .int .i64 n] w fun e w' => e = .returned (.bool true) ∧ Below w.heap.size w w' := by
  by_cases hb : BadFrom xs 0
  · exact grows_bad cs xs n w hl hb
  · have hg : ∀ x ∈ xs, inR x := by
      intro x hx
      obtain ⟨j, hj, e⟩ := List.getElem_of_mem hx
      by_cases h : inR x
      · exact h
      · exact absurd ⟨j, x, Nat.zero_le _, by rw [List.getElem?_eq_getElem hj, e], h⟩ hb
    rcases hw : wideB c with _ | _
    · by_cases hr : checkE c = 0
      · by_cases h1 : n < 1
        · exact grows_short cs tv lv c xs n w hc hC hl hg hw hr h1
        · by_cases h2 : 1048576 < n
          · exact grows_long cs tv lv c xs n w hc hC hl hg hw hr h1 h2
          · match xs, hl with
            | [x0, x1, x2, x3, x4, x5], _ => exact grows_good cs tv lv c x0 x1 x2 x3 x4 x5 n w hc hC (hg _ (by simp)) (hg _ (by simp)) (hg _ (by simp)) (hg _ (by simp)) (hg _ (by simp)) (hg _ (by simp)) hw hr (by omega) (by omega)
      · exact grows_wrong cs tv lv c xs n w hc hC hl hg hw hr
    · exact grows_wide cs tv lv c xs n w hc hC hl hg hw
end Go.Proofs.Ytcojnjfpoiohoaa
