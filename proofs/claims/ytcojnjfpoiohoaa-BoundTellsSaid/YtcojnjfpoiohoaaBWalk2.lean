/-
  bound and billetref44: the walks, the rest.
-/
import Derived.Test.YtcojnjfpoiohoaaBWalk
namespace Go.Proofs.Ytcojnjfpoiohoaa
open Go.RowKit

set_option maxHeartbeats 400000 in
/-- THE WALK: the closure of bound.Gives. -/
theorem gweight_any (n : ByteArray) (a b : Int) (w : World) :
    Calls Try.prog 73 #[.agg #[.string n, .int .i64 a, .int .i64 b]] w fun e w' => e = .returned (.int .i64 a) ∧ Below w.heap.size w w' := by
  go_enter Try.func73, Try.ntmps73
  go_wp2
  go_ret
  exact ⟨rfl, box_below⟩

theorem great_step {ts : List Ten} {k : Nat} {t : Ten} {m : Int} (h : ts[k]? = some t) : greatW (ts.drop k) m = greatW (ts.drop (k + 1)) (max m t.weight) := by
  rw [(tens_step h).1]
  rfl

set_option maxHeartbeats 1000000 in
/-- THE WALK: bound.greatest, of tenants. -/
theorem greatest_any (v : Value) (ts : List Ten) (w : World) (hT : TensAt w v ts) :
    Calls Try.prog 72 #[v, .func (.func 73) #[] #[]] w fun e w' => e = .returned (.int .i64 (greatW ts 0)) ∧ Below w.heap.size w w' := by
  obtain ⟨a, cap, rfl, hlen, hcell⟩ := hT
  have HC := Lib.hid hcell; clear hcell
  go_enter Try.func72, Try.ntmps72
  go_wp2
  go_loopw [5, 10] (fun n i wr => ∃ (k : Nat) (m : Int), k ≤ ts.length ∧ i = .int .i64 k ∧ n = .int .i64 m ∧ greatW (ts.drop k) m = greatW ts 0 ∧ Below w.heap.size w wr) (fun _ i _ => ts.length - (intOf i).toNat)
  case atStart => exact ⟨0, 0, Nat.zero_le _, rfl, rfl, rfl, Below.refl _ _⟩
  case round =>
    obtain ⟨k, m, hk, rfl, rfl, hf, hb⟩ := hrel
    have HF := Lib.hid hf; clear hf
    by_cases hlt : k < ts.length
    · obtain ⟨t, ht⟩ : ∃ t, ts[k]? = some t := ⟨_, List.getElem?_eq_getElem hlt⟩
      obtain ⟨_, b, off, rfl, c0, c1, c2⟩ := HC.out k t ht
      have HG := Lib.hid (great_step (m := m) ht)
      have d0 := cell_below hb c0
      have d1 := cell_below hb c1
      have d2 := cell_below hb c2
      clear c0 c1 c2 ht
      go_wp2_with fail
      refine (gweight_any _ _ _ _).mono ?_
      rintro e w2 ⟨rfl, hb2⟩
      have hb3 : Below w.heap.size w w2 := (hb.alloc hb.size _).trans (hb2.mono (by have := hb.size; simp; omega))
      go_wp2
      go_roundw
      case rel => exact ⟨k + 1, max m t.weight, by omega, by go_num, by show _ = _; exact congrArg _ (by split <;> omega), by rw [← HG.out, HF.out], hb3⟩
      case measure => simp [intOf]; omega
    · have HE := Lib.hid (show m = greatW ts 0 by rw [← HF.out, List.drop_eq_nil_of_le (by omega)]; rfl)
      go_wp2
      go_ret
      exact ⟨ret_int HE.out, hb⟩

set_option maxRecDepth 100000 in
set_option maxHeartbeats 2000000 in
/-- THE WALK: bound.Inner. -/
theorem inner_any (cs : Array Value) (tv lv : Value) (c : Cfg) (w : World) (hc : CfgCells cs tv lv c) (hC : CfgAt w tv lv c) :
    Calls Try.prog 19 #[.agg cs] w fun e w' => e = .returned (.int .i64 (innerV c)) ∧ Below w.heap.size w w' := by
  have HC := Lib.hid hc; clear hc
  have HCA := Lib.hid hC; clear hC
  by_cases h0 : checkE c = 0
  · have HV := Lib.hid (show innerV c = innerN c by unfold innerV; rw [if_pos h0])
    have H0 := Lib.hid h0
    have hk := cfgOk_of h0
    have HK := Lib.hid hk
    obtain ⟨b1, b2⟩ := own_bd hk
    obtain ⟨b3, b4, b5, b6, b7, b8, _, _⟩ := inner_parts hk
    have q1 := hk.q
    have w1' := hk.weight
    have HO := Lib.hid (show ownV c = c.cap * c.cost from rfl)
    change 1 ≤ c.cap * c.cost at b1
    change c.cap * c.cost ≤ 2048 at b2
    change 1 ≤ roundsI (c.cap * c.cost) c.q at b3
    change roundsI (c.cap * c.cost) c.q ≤ 2050 at b4
    change 0 ≤ roundsI (c.cap * c.cost) c.q * c.invs at b5
    change roundsI (c.cap * c.cost) c.q * c.invs ≤ 16400 at b6
    change 0 ≤ roundsI (c.cap * c.cost) c.q * c.invs * visitV c c.weight at b7
    change roundsI (c.cap * c.cost) c.q * c.invs * visitV c c.weight ≤ 1328128 at b8
    clear h0 hk
    go_enter Try.func19, Try.ntmps19
    go_wp2_with (refine wpList_load_agg 34 (heap_alloc_new w _) Try.underlying34 rfl (cfg_sz HC.out) rfl _ rfl rfl ?_)
    refine (check_any _ _ _ c _ HC.out (HCA.out.below box_below)).mono ?_
    rintro e w1 ⟨rfl, hb⟩
    rw [H0.out]
    have hgB := (hb.block w.heap.size (by simp)).trans (heap_alloc_new w _)
    have HGB := Lib.hid hgB
    clear hgB
    have c3 := cell_below hb (cell_alloc_at (t := 34) HC.out.f3)
    have c4 := cell_below hb (cell_alloc_at (t := 34) HC.out.f4)
    go_wp2_with fail
    have k2 := cell_regrown (cell_below hb (cell_alloc_at (t := 34) HC.out.f2))
    have k5 := cell_regrown (cell_below hb (cell_alloc_at (t := 34) HC.out.f5))
    have k6 := cell_regrown (cell_below hb (cell_alloc_at (t := 34) HC.out.f6))
    clear c3 c4
    refine wp_region_quiet_below (by kernel_rfl) (by kernel_rfl) ?_
    repeat (first | (refine wpQuiet_load_agg 34 HGB.out Try.underlying34 rfl (cfg_sz HC.out) rfl _ rfl rfl ?_; (try simp only [Act.put, List.setIfInBounds_toArray, List.set_cons_zero, List.set_cons_succ])) | go_big_quiet_step ((first | exact Calls.regrown_of (below_of_same (rounds_any _ _ _ (by omega) (by omega) (by omega) (by omega))) | exact Calls.regrown_of (visit_any _ _ _ c _ _ HC.out HK.out (by omega) (by omega)))))
    refine wpQuiet_nil ?_
    rintro _ ⟨⟨dq, osq⟩, rfl⟩
    go_wp2
    go_ret
    refine ⟨ret_int ?_, below_of_regrown (box_below2 hb) (box_below2 hb).size⟩
    rw [HV.out]
    rfl
  · have HV := Lib.hid (show innerV c = 0 by unfold innerV; rw [if_neg h0])
    have H0 := Lib.hid (show (checkE c != 0) = true by rw [bne_iff_ne]; exact h0)
    clear h0
    go_enter Try.func19, Try.ntmps19
    go_wp2_with (refine wpList_load_agg 34 (heap_alloc_new w _) Try.underlying34 rfl (cfg_sz HC.out) rfl _ rfl rfl ?_)
    refine (check_any _ _ _ c _ HC.out (HCA.out.below box_below)).mono ?_
    rintro e w1 ⟨rfl, hb⟩
    have hne := H0.out
    go_wp2
    go_ret
    exact ⟨ret_int HV.out.symm, box_below2 hb⟩

end Go.Proofs.Ytcojnjfpoiohoaa
