/-
  op.Right: the walk.
-/
import Derived.Test.YtmijmfgclmaodaaGreatDoorOp1
import Derived.Deep.DeepCutAuto
namespace Go.Proofs.YtmijmfgclmaodaaGreatDoor
open Go.RowKit

def numbersB (c : Cfg) (o : Opr) : Bool := decide (0 ≤ o.id) && decide (0 ≤ o.tenant) && decide (0 ≤ o.inv) && decide (1 ≤ o.cost) && decide (o.cost ≤ c.cost) && decide (0 ≤ o.cls) && decide (o.cls < classesV c)
def countsB (c : Cfg) (o : Opr) : Bool := decide (0 ≤ o.ret) && decide (o.ret ≤ c.retries) && decide (0 ≤ o.pre) && decide (o.pre ≤ c.preempts) && decide (0 ≤ o.code) && decide (o.code ≤ 256)
def stateB (o : Opr) : Bool := decide (1 ≤ o.state) && decide (o.state ≤ 7) && triedB o
def runsB (o : Opr) : Bool := if o.state = 3 then decide (1 ≤ o.ep) && decide (1 ≤ o.wk) else (o.ep == 0) && (o.wk == 0) && (o.st == 0)
def wakeB (o : Opr) : Bool := (o.wake == 0) || (o.state == 2)
/-- May an operation be? -/
def opB (c : Cfg) (o : Opr) : Bool := numbersB c o && countsB c o && stateB o && runsB o && wakeB o && rightB o.key o.cmd o.need
/-- What is at hand behind the boxes. -/
structure Box2 (w : World) (cs os : Array Value) (w2 : World) : Prop where
  below : Below w.heap.size w w2
  lt : w.heap.size + 1 < w2.heap.size
  cfg : w2.heap[w.heap.size]? = some (.cells cs 42 (0, 0))
  op : w2.heap[w.heap.size + 1]? = some (.cells os 46 (0, 0))
theorem Box2.next {w w2 w3 : World} {cs os : Array Value} (h : Box2 w cs os w2) (hb : Below w2.heap.size w2 w3) : Box2 w cs os w3 :=
  ⟨h.below.trans (hb.mono h.below.size), Nat.lt_of_lt_of_le h.lt hb.size, (hb.block _ (by have := h.lt; omega)).trans h.cfg, (hb.block _ h.lt).trans h.op⟩
theorem box2_new (w : World) (cs os : Array Value) : Box2 w cs os ((w.alloc (.cells cs 42)).alloc (.cells os 46)) :=
  ⟨(box_below).alloc (by simp) _, by simp, fr_alloc_old fr_alloc_at, heap_alloc_two _ _ _⟩
set_option maxRecDepth 100000 in
set_option maxHeartbeats 8000000 in
theorem opright_any (cs os : Array Value) (tv lv : Value) (c : Cfg) (o : Opr) (w : World) (hr : Ready w) (hc : CfgCells cs tv lv c) (hC : CfgAt w tv lv c) (ho : OpCells os o) (hs : OpSmall o)
    (hk : o.key.size ≤ 140737488351232) (hm : o.cmd.size ≤ 140737488351232) (hn : o.need.size ≤ 1048576) :
    Calls Tryz.prog 15 #[.agg cs, .agg os] w fun e w' => e = .returned (.bool (opB c o)) ∧ Below w.heap.size w w' := by
  have HR := Lib.hid hr
  have HC := Lib.hid hc
  have HCA := Lib.hid hC
  have HO := Lib.hid ho
  have HS := Lib.hid hs
  clear hr hc hC ho hs
  go_enter Tryz.func15, Tryz.ntmps15
  go_wp2_with fail
  obtain ⟨w2, hw2⟩ : ∃ w2 : World, w2 = (w.alloc (.cells cs 42)).alloc (.cells os 46) := ⟨_, rfl⟩
  rw [← hw2]
  have HX := Lib.hid (show Box2 w cs os w2 by rw [hw2]; exact box2_new w cs os)
  clear hw2
  obtain ⟨b5, hq5⟩ : ∃ b, b = numbersB c o := ⟨_, rfl⟩
  obtain ⟨b6, hq6⟩ : ∃ b, b = countsB c o := ⟨_, rfl⟩
  obtain ⟨b7, hq7⟩ : ∃ b, b = stateB o := ⟨_, rfl⟩
  obtain ⟨b8, hq8⟩ : ∃ b, b = runsB o := ⟨_, rfl⟩
  have H5 := Lib.hid hq5
  have H6 := Lib.hid hq6
  have H7 := Lib.hid hq7
  have H8 := Lib.hid hq8
  clear hq5 hq6 hq7 hq8
  go_upto_region 1 with fail
  go_cut [5] (fun s wx => s = .bool b5 ∧ Below w2.heap.size w2 wx)
  case first =>
    have k0 := cell_regrown (fr_cell_of_heap HX.out.op HO.out.f0)
    have k1 := cell_regrown (fr_cell_of_heap HX.out.op HO.out.f1)
    have k2 := cell_regrown (fr_cell_of_heap HX.out.op HO.out.f2)
    have k6 := cell_regrown (fr_cell_of_heap HX.out.op HO.out.f6)
    have k7 := cell_regrown (fr_cell_of_heap HX.out.op HO.out.f7)
    have m3 := cell_regrown (fr_cell_of_heap HX.out.cfg HC.out.f3)
    have HGC := Lib.hid HX.out.cfg
    have HR2 := Lib.hid (HR.out.below HX.out.below)
    have HCA2 := Lib.hid (HCA.out.below HX.out.below)
    by_cases g0 : 0 ≤ o.id
    · have kb0 : decide (0 ≤ o.id) = true := decide_eq_true g0
      by_cases g1 : 0 ≤ o.tenant
      · have kb1 : decide (0 ≤ o.tenant) = true := decide_eq_true g1
        by_cases g2 : 0 ≤ o.inv
        · have kb2 : decide (0 ≤ o.inv) = true := decide_eq_true g2
          by_cases g3 : 1 ≤ o.cost
          · have kb3 : decide (1 ≤ o.cost) = true := decide_eq_true g3
            by_cases g4 : o.cost ≤ c.cost
            · have kb4 : decide (o.cost ≤ c.cost) = true := decide_eq_true g4
              by_cases g5 : 0 ≤ o.cls
              · have kb5 : decide (0 ≤ o.cls) = true := decide_eq_true g5
                by_cases g6 : o.cls < classesV c
                · have HV := Lib.hid (show numbersB c o = true by simp [numbersB, g0, g1, g2, g3, g4, g5, g6])
                  have kb6 : decide (o.cls < classesV c) = true := decide_eq_true g6
                  refine wp_region_quiet_below (by kernel_rfl) (by kernel_rfl) ?_
                  repeat (first | (refine wpQuiet_load_agg 42 HGC.out Tryz.underlying42 rfl (cfg_sz HC.out) rfl _ rfl rfl ?_; (try simp only [Act.put, List.setIfInBounds_toArray, List.set_cons_zero, List.set_cons_succ])) | go_big_quiet_step ((exact Calls.regrown_of (classes_any _ _ _ c _ HC.out (HCA2.out.below (below_regrown w2 _ _))))))
                  refine wpQuiet_nil ?_
                  rintro _ ⟨⟨dq, osq⟩, rfl⟩
                  go_wp2_with fail
                  go_meet
                  exact ⟨by rw [H5.out, HV.out], below_regrown w2 dq osq⟩
                · have HV := Lib.hid (show numbersB c o = false by simp [numbersB, g6])
                  have n6 : classesV c ≤ o.cls := by omega
                  have kb6 : decide (o.cls < classesV c) = false := decide_eq_false g6
                  clear g6
                  refine wp_region_quiet_below (by kernel_rfl) (by kernel_rfl) ?_
                  repeat (first | (refine wpQuiet_load_agg 42 HGC.out Tryz.underlying42 rfl (cfg_sz HC.out) rfl _ rfl rfl ?_; (try simp only [Act.put, List.setIfInBounds_toArray, List.set_cons_zero, List.set_cons_succ])) | go_big_quiet_step ((exact Calls.regrown_of (classes_any _ _ _ c _ HC.out (HCA2.out.below (below_regrown w2 _ _))))))
                  refine wpQuiet_nil ?_
                  rintro _ ⟨⟨dq, osq⟩, rfl⟩
                  go_wp2_with fail
                  go_meet
                  exact ⟨by rw [H5.out, HV.out], below_regrown w2 dq osq⟩
              · have HV := Lib.hid (show numbersB c o = false by simp [numbersB, g5])
                have n5 : o.cls < 0 := by omega
                have kb5 : decide (0 ≤ o.cls) = false := decide_eq_false g5
                clear g5
                refine wp_region_quiet_below (by kernel_rfl) (by kernel_rfl) ?_
                repeat (first | (refine wpQuiet_load_agg 42 HGC.out Tryz.underlying42 rfl (cfg_sz HC.out) rfl _ rfl rfl ?_; (try simp only [Act.put, List.setIfInBounds_toArray, List.set_cons_zero, List.set_cons_succ])) | go_big_quiet_step ((exact Calls.regrown_of (classes_any _ _ _ c _ HC.out (HCA2.out.below (below_regrown w2 _ _))))))
                refine wpQuiet_nil ?_
                rintro _ ⟨⟨dq, osq⟩, rfl⟩
                go_wp2_with fail
                go_meet
                exact ⟨by rw [H5.out, HV.out], below_regrown w2 dq osq⟩
            · have HV := Lib.hid (show numbersB c o = false by simp [numbersB, g4])
              have n4 : c.cost < o.cost := by omega
              have kb4 : decide (o.cost ≤ c.cost) = false := decide_eq_false g4
              clear g4
              refine wp_region_quiet_below (by kernel_rfl) (by kernel_rfl) ?_
              repeat (first | (refine wpQuiet_load_agg 42 HGC.out Tryz.underlying42 rfl (cfg_sz HC.out) rfl _ rfl rfl ?_; (try simp only [Act.put, List.setIfInBounds_toArray, List.set_cons_zero, List.set_cons_succ])) | go_big_quiet_step ((exact Calls.regrown_of (classes_any _ _ _ c _ HC.out (HCA2.out.below (below_regrown w2 _ _))))))
              refine wpQuiet_nil ?_
              rintro _ ⟨⟨dq, osq⟩, rfl⟩
              go_wp2_with fail
              go_meet
              exact ⟨by rw [H5.out, HV.out], below_regrown w2 dq osq⟩
          · have HV := Lib.hid (show numbersB c o = false by simp [numbersB, g3])
            have n3 : o.cost < 1 := by omega
            have kb3 : decide (1 ≤ o.cost) = false := decide_eq_false g3
            clear g3
            refine wp_region_quiet_below (by kernel_rfl) (by kernel_rfl) ?_
            repeat (first | (refine wpQuiet_load_agg 42 HGC.out Tryz.underlying42 rfl (cfg_sz HC.out) rfl _ rfl rfl ?_; (try simp only [Act.put, List.setIfInBounds_toArray, List.set_cons_zero, List.set_cons_succ])) | go_big_quiet_step ((exact Calls.regrown_of (classes_any _ _ _ c _ HC.out (HCA2.out.below (below_regrown w2 _ _))))))
            refine wpQuiet_nil ?_
            rintro _ ⟨⟨dq, osq⟩, rfl⟩
            go_wp2_with fail
            go_meet
            exact ⟨by rw [H5.out, HV.out], below_regrown w2 dq osq⟩
        · have HV := Lib.hid (show numbersB c o = false by simp [numbersB, g2])
          have n2 : o.inv < 0 := by omega
          have kb2 : decide (0 ≤ o.inv) = false := decide_eq_false g2
          clear g2
          refine wp_region_quiet_below (by kernel_rfl) (by kernel_rfl) ?_
          repeat (first | (refine wpQuiet_load_agg 42 HGC.out Tryz.underlying42 rfl (cfg_sz HC.out) rfl _ rfl rfl ?_; (try simp only [Act.put, List.setIfInBounds_toArray, List.set_cons_zero, List.set_cons_succ])) | go_big_quiet_step ((exact Calls.regrown_of (classes_any _ _ _ c _ HC.out (HCA2.out.below (below_regrown w2 _ _))))))
          refine wpQuiet_nil ?_
          rintro _ ⟨⟨dq, osq⟩, rfl⟩
          go_wp2_with fail
          go_meet
          exact ⟨by rw [H5.out, HV.out], below_regrown w2 dq osq⟩
      · have HV := Lib.hid (show numbersB c o = false by simp [numbersB, g1])
        have n1 : o.tenant < 0 := by omega
        have kb1 : decide (0 ≤ o.tenant) = false := decide_eq_false g1
        clear g1
        refine wp_region_quiet_below (by kernel_rfl) (by kernel_rfl) ?_
        repeat (first | (refine wpQuiet_load_agg 42 HGC.out Tryz.underlying42 rfl (cfg_sz HC.out) rfl _ rfl rfl ?_; (try simp only [Act.put, List.setIfInBounds_toArray, List.set_cons_zero, List.set_cons_succ])) | go_big_quiet_step ((exact Calls.regrown_of (classes_any _ _ _ c _ HC.out (HCA2.out.below (below_regrown w2 _ _))))))
        refine wpQuiet_nil ?_
        rintro _ ⟨⟨dq, osq⟩, rfl⟩
        go_wp2_with fail
        go_meet
        exact ⟨by rw [H5.out, HV.out], below_regrown w2 dq osq⟩
    · have HV := Lib.hid (show numbersB c o = false by simp [numbersB, g0])
      have n0 : o.id < 0 := by omega
      have kb0 : decide (0 ≤ o.id) = false := decide_eq_false g0
      clear g0
      refine wp_region_quiet_below (by kernel_rfl) (by kernel_rfl) ?_
      repeat (first | (refine wpQuiet_load_agg 42 HGC.out Tryz.underlying42 rfl (cfg_sz HC.out) rfl _ rfl rfl ?_; (try simp only [Act.put, List.setIfInBounds_toArray, List.set_cons_zero, List.set_cons_succ])) | go_big_quiet_step ((exact Calls.regrown_of (classes_any _ _ _ c _ HC.out (HCA2.out.below (below_regrown w2 _ _))))))
      refine wpQuiet_nil ?_
      rintro _ ⟨⟨dq, osq⟩, rfl⟩
      go_wp2_with fail
      go_meet
      exact ⟨by rw [H5.out, HV.out], below_regrown w2 dq osq⟩
  case rest =>
  obtain ⟨w3, rfl⟩ : ∃ w3 : World, w3 = wc := ⟨_, rfl⟩
  obtain ⟨rfl, hb3⟩ := hcut
  have HX3 := Lib.hid (HX.out.next hb3)
  clear hb3
  have e8 := fr_cell_of_heap HX3.out.op HO.out.f8
  have e10 := fr_cell_of_heap HX3.out.op HO.out.f10
  have e11 := fr_cell_of_heap HX3.out.op HO.out.f11
  have e12 := fr_cell_of_heap HX3.out.op HO.out.f12
  have m8 := fr_cell_of_heap HX3.out.cfg HC.out.f8
  have m9 := fr_cell_of_heap HX3.out.cfg HC.out.f9
  go_upto_region 2 with fail
  go_cut [6] (fun s wx => s = .bool b6 ∧ w3 = wx)
  case first =>
    by_cases g0 : 0 ≤ o.ret
    · skip
      by_cases g1 : o.ret ≤ c.retries
      · skip
        by_cases g2 : 0 ≤ o.pre
        · skip
          by_cases g3 : o.pre ≤ c.preempts
          · skip
            by_cases g4 : 0 ≤ o.code
            · skip
              by_cases g5 : o.code ≤ 256
              · have HV := Lib.hid (show countsB c o = true by simp [countsB, g0, g1, g2, g3, g4, g5])
                go_wp2_with fail
                go_meet
                exact ⟨by rw [H6.out, HV.out] <;> simp <;> omega, rfl⟩
              · have HV := Lib.hid (show countsB c o = false by simp [countsB, g5])
                have n5 : 256 < o.code := by omega
                clear g5
                go_wp2_with fail
                go_meet
                exact ⟨by rw [H6.out, HV.out] <;> simp <;> omega, rfl⟩
            · have HV := Lib.hid (show countsB c o = false by simp [countsB, g4])
              have n4 : o.code < 0 := by omega
              clear g4
              go_wp2_with fail
              go_meet
              exact ⟨by rw [H6.out, HV.out] <;> simp <;> omega, rfl⟩
          · have HV := Lib.hid (show countsB c o = false by simp [countsB, g3])
            have n3 : c.preempts < o.pre := by omega
            clear g3
            go_wp2_with fail
            go_meet
            exact ⟨by rw [H6.out, HV.out] <;> simp <;> omega, rfl⟩
        · have HV := Lib.hid (show countsB c o = false by simp [countsB, g2])
          have n2 : o.pre < 0 := by omega
          clear g2
          go_wp2_with fail
          go_meet
          exact ⟨by rw [H6.out, HV.out] <;> simp <;> omega, rfl⟩
      · have HV := Lib.hid (show countsB c o = false by simp [countsB, g1])
        have n1 : c.retries < o.ret := by omega
        clear g1
        go_wp2_with fail
        go_meet
        exact ⟨by rw [H6.out, HV.out] <;> simp <;> omega, rfl⟩
    · have HV := Lib.hid (show countsB c o = false by simp [countsB, g0])
      have n0 : o.ret < 0 := by omega
      clear g0
      go_wp2_with fail
      go_meet
      exact ⟨by rw [H6.out, HV.out] <;> simp <;> omega, rfl⟩
  case rest =>
  obtain ⟨rfl, rfl⟩ := hcut
  clear e10 e11 e12 m8 m9
  go_upto_region 3 with fail
  go_cut [7] (fun s wx => s = .bool b7 ∧ Below w3.heap.size w3 wx)
  case first =>
    by_cases g0 : 1 ≤ o.state
    · by_cases g1 : o.state ≤ 7
      · have HV := Lib.hid (show stateB o = triedB o by simp [stateB, g0, g1])
        go_wp2_with (refine wpList_load_agg 46 HX3.out.op Tryz.underlying46 rfl (op_sz HO.out) rfl _ rfl rfl ?_)
        refine (tried_any os o _ HO.out HS.out).mono ?_
        rintro e w4 ⟨rfl, hb4⟩
        go_wp2_with fail
        go_meet
        exact ⟨by rw [H7.out, HV.out], hb4⟩
      · have HV := Lib.hid (show stateB o = false by simp [stateB, g1])
        have n1 : 7 < o.state := by omega
        clear g1
        go_wp2_with fail
        go_meet
        exact ⟨by rw [H7.out, HV.out], Below.refl _ _⟩
    · have HV := Lib.hid (show stateB o = false by simp [stateB, g0])
      have n0 : o.state < 1 := by omega
      clear g0
      go_wp2_with fail
      go_meet
      exact ⟨by rw [H7.out, HV.out], Below.refl _ _⟩
  case rest =>
  clear e8
  obtain ⟨w4, rfl⟩ : ∃ w4 : World, w4 = wc := ⟨_, rfl⟩
  obtain ⟨rfl, hb4⟩ := hcut
  have HX4 := Lib.hid (HX3.out.next hb4)
  clear hb4
  go_upto_region 4 with fail
  go_cut [8] (fun s wx => s = .bool ((o.ep == 0) && (o.wk == 0) && (o.st == 0)) ∧ Below w4.heap.size w4 wx)
  case first =>
    go_wp2_with (refine wpList_load_agg 46 HX4.out.op Tryz.underlying46 rfl (op_sz HO.out) rfl _ rfl rfl ?_)
    refine (opof_any os o _ HO.out).mono ?_
    rintro e w5 ⟨rfl, hb5⟩
    have HB5 := Lib.hid hb5
    clear hb5
    go_wp2_with fail
    all_goals go_meet
    all_goals exact ⟨by simp [*], HB5.out⟩
  case rest =>
  obtain ⟨w5, rfl⟩ : ∃ w5 : World, w5 = wc := ⟨_, rfl⟩
  obtain ⟨rfl, hb5⟩ := hcut
  have HX5 := Lib.hid (HX4.out.next hb5)
  clear hb5
  have e8 := fr_cell_of_heap HX5.out.op HO.out.f8
  have e13 := fr_cell_of_heap HX5.out.op HO.out.f13
  have e14 := fr_cell_of_heap HX5.out.op HO.out.f14
  go_upto_if 96 with fail
  go_cut [8] (fun s wx => s = .bool b8 ∧ w5 = wx)
  case first =>
    by_cases g3 : o.state = 3
    · have HV := Lib.hid (show runsB o = (decide (1 ≤ o.ep) && decide (1 ≤ o.wk)) by unfold runsB; rw [if_pos g3])
      have s3 : (o.state == 3) = true := beq_iff_eq.2 g3
      clear g3
      by_cases r0 : 1 ≤ o.ep
      · by_cases r1 : 1 ≤ o.wk
        · have HW := Lib.hid (show (decide (1 ≤ o.ep) && decide (1 ≤ o.wk)) = true by simp [r0, r1])
          go_wp2_with fail
          go_meet
          exact ⟨by rw [H8.out, HV.out, HW.out] <;> simp <;> omega, rfl⟩
        · have HW := Lib.hid (show (decide (1 ≤ o.ep) && decide (1 ≤ o.wk)) = false by simp [r1])
          have n1 : o.wk < 1 := by omega
          clear r1
          go_wp2_with fail
          go_meet
          exact ⟨by rw [H8.out, HV.out, HW.out] <;> simp <;> omega, rfl⟩
      · have HW := Lib.hid (show (decide (1 ≤ o.ep) && decide (1 ≤ o.wk)) = false by simp [r0])
        have n0 : o.ep < 1 := by omega
        clear r0
        go_wp2_with fail
        go_meet
        exact ⟨by rw [H8.out, HV.out, HW.out] <;> simp <;> omega, rfl⟩
    · have HV := Lib.hid (show runsB o = ((o.ep == 0) && (o.wk == 0) && (o.st == 0)) by unfold runsB; rw [if_neg g3])
      have s3 : (o.state == 3) = false := beq_eq_false_iff_ne.2 g3
      clear g3
      go_wp2_with fail
      go_meet
      exact ⟨by rw [H8.out, HV.out], rfl⟩
  case rest =>
  obtain ⟨rfl, rfl⟩ := hcut
  clear e13 e14
  have e16 := fr_cell_of_heap HX5.out.op HO.out.f16
  have e3 := fr_cell_of_heap HX5.out.op HO.out.f3
  have e4 := fr_cell_of_heap HX5.out.op HO.out.f4
  have e5 := fr_cell_of_heap HX5.out.op HO.out.f5
  rcases b5 with _ | _
  · have HV := Lib.hid (show opB c o = false by unfold opB; rw [← H5.out]; rfl)
    go_wp2_with fail
    go_ret
    exact ⟨by rw [HV.out] <;> rfl, HX5.out.below⟩
  rcases b6 with _ | _
  · have HV := Lib.hid (show opB c o = false by unfold opB; rw [← H6.out]; simp)
    go_wp2_with fail
    go_ret
    exact ⟨by rw [HV.out] <;> rfl, HX5.out.below⟩
  rcases b7 with _ | _
  · have HV := Lib.hid (show opB c o = false by unfold opB; rw [← H7.out]; simp)
    go_wp2_with fail
    go_ret
    exact ⟨by rw [HV.out] <;> rfl, HX5.out.below⟩
  rcases b8 with _ | _
  · have HV := Lib.hid (show opB c o = false by unfold opB; rw [← H8.out]; simp)
    go_wp2_with fail
    go_ret
    exact ⟨by rw [HV.out] <;> rfl, HX5.out.below⟩
  by_cases v0 : o.wake = 0
  · have HV := Lib.hid (show opB c o = rightB o.key o.cmd o.need by unfold opB; rw [← H5.out, ← H6.out, ← H7.out, ← H8.out]; simp [wakeB, v0])
    have v1 : (o.wake == 0) = true := beq_iff_eq.2 v0
    clear v0
    go_wp2_with fail
    refine (aright_any o.key o.cmd o.need _ (HR.out.below HX5.out.below) hk hm hn).mono ?_
    rintro e w6 ⟨rfl, hb6⟩
    have HB6 := Lib.hid hb6
    clear hb6
    go_wp2_with fail
    go_ret
    exact ⟨by rw [HV.out] <;> rfl, HX5.out.below.trans (HB6.out.mono HX5.out.below.size)⟩
  · by_cases v2 : o.state = 2
    · have HV := Lib.hid (show opB c o = rightB o.key o.cmd o.need by unfold opB; rw [← H5.out, ← H6.out, ← H7.out, ← H8.out]; simp [wakeB, v2])
      have v1 : (o.wake == 0) = false := beq_eq_false_iff_ne.2 v0
      have v3 : (o.state == 2) = true := beq_iff_eq.2 v2
      clear v0 v2
      go_wp2_with fail
      refine (aright_any o.key o.cmd o.need _ (HR.out.below HX5.out.below) hk hm hn).mono ?_
      rintro e w6 ⟨rfl, hb6⟩
      have HB6 := Lib.hid hb6
      clear hb6
      go_wp2_with fail
      go_ret
      exact ⟨by rw [HV.out] <;> rfl, HX5.out.below.trans (HB6.out.mono HX5.out.below.size)⟩
    · have HV := Lib.hid (show opB c o = false by unfold opB; rw [show wakeB o = false by simp [wakeB, v0, v2]]; simp)
      have v1 : (o.wake == 0) = false := beq_eq_false_iff_ne.2 v0
      have v3 : (o.state == 2) = false := beq_eq_false_iff_ne.2 v2
      clear v0 v2
      go_wp2_with fail
      go_ret
      exact ⟨by rw [HV.out] <;> rfl, HX5.out.below⟩
end Go.Proofs.YtmijmfgclmaodaaGreatDoor
