/-
  The document's Right of an operation: the walk.
-/
import Derived.Test.YtmijmfgclmaodaaGreatDoorOp7b
import Derived.Test.YtmijmfgclmaodaaGreatDoorOp9
namespace Go.Proofs.YtmijmfgclmaodaaGreatDoor
open Go.RowKit

set_option maxRecDepth 100000 in
set_option maxHeartbeats 1000000 in
theorem rin30_any (q : Bool) (n a b : Int) (hq : inB n a b = q) (w : World) :
    Calls Tryz.prog 40 #[.int .i64 n, .int .i64 a, .int .i64 b] w fun e w' => e = .returned (.bool q) ∧ Below w.heap.size w w' := by
  subst hq
  by_cases h1 : a ≤ n
  · by_cases h2 : n ≤ b
    · have HV := Lib.hid (show inB n a b = true by simp [inB, h1, h2])
      go_enter Tryz.func40, Tryz.ntmps40
      go_wp2
      go_ret
      exact ⟨by rw [HV.out] <;> simp <;> omega, Below.refl _ _⟩
    · have HV := Lib.hid (show inB n a b = false by simp [inB, h2])
      have n2 : b < n := by omega
      clear h2
      go_enter Tryz.func40, Tryz.ntmps40
      go_wp2
      go_ret
      exact ⟨by rw [HV.out] <;> simp <;> omega, Below.refl _ _⟩
  · have HV := Lib.hid (show inB n a b = false by simp [inB, h1])
    have n1 : n < a := by omega
    clear h1
    go_enter Tryz.func40, Tryz.ntmps40
    go_wp2
    go_ret
    exact ⟨by rw [HV.out] <;> simp <;> omega, Below.refl _ _⟩
/-- What the first test finds. -/
structure NumOk (c : Cfg) (o : Opr) : Prop where
  q0 : (checkE c == 0) = true
  rg : 0 ≤ o.id ∧ 0 ≤ o.tenant ∧ 0 ≤ o.inv
  q4 : rightB o.key o.cmd o.need = true
  q5 : inB o.cost 1 c.cost = true
  q6 : inB o.cls 0 c.ls.length = true
  q7 : inB o.state 1 7 = true
def NumPost (c : Cfg) (o : Opr) (w2 : World) (s : Value) (wx : World) : Prop := ∃ b, s = .bool b ∧ (b = false → NumOk c o) ∧ Below w2.heap.size w2 wx
def RPost (c : Cfg) (o : Opr) (w : World) (e : Ending) (w' : World) : Prop := ∃ b, e = .returned (.bool b) ∧ (b = true → OpOk c o) ∧ Below w.heap.size w w'
def badT (o : Opr) : Bool := if o.state ≤ 2 then o.att != o.ret + o.pre else if o.state ≤ 5 then o.att != o.ret + o.pre + 1 else (o.att != o.ret + o.pre) && (o.att != o.ret + o.pre + 1)
theorem opok_make {c : Cfg} {o : Opr} (h0 : (checkE c == 0) = true) (h1 : 0 ≤ o.id ∧ 0 ≤ o.tenant ∧ 0 ≤ o.inv) (h4 : rightB o.key o.cmd o.need = true) (h5 : inB o.cost 1 c.cost = true) (h6 : inB o.cls 0 c.ls.length = true) (h7 : inB o.state 1 7 = true)
    (p1 : inB o.ret 0 c.retries = true) (p2 : inB o.pre 0 c.preempts = true) (p3 : inB o.code 0 256 = true) (hb : badT o = false) (hrun : o.state = 3 → 1 ≤ o.ep ∧ 1 ≤ o.wk) (hrest : o.state ≠ 3 → o.ep = 0 ∧ o.wk = 0 ∧ o.st = 0) (hwake : o.wake = 0 ∨ o.state = 2) : OpOk c o := by
  rw [inB_iff] at h5 h6 h7 p1 p2 p3
  refine ⟨by simpa using h0, h1.1, h1.2.1, h1.2.2, h5.1, h5.2, h6.1, h6.2, p1.1, p1.2, p2.1, p2.2, p3.1, p3.2, h7.1, h7.2, fun g => ?_, fun g g2 => ?_, fun g => ?_, hrun, hrest, hwake, h4⟩
  · unfold badT at hb
    rw [if_pos g] at hb
    simpa using hb
  · unfold badT at hb
    rw [if_neg (by omega), if_pos g2] at hb
    simpa using hb
  · unfold badT at hb
    rw [if_neg (by omega), if_neg (by omega)] at hb
    by_cases ha : o.att = o.ret + o.pre
    · exact .inl ha
    · right
      simpa [ha] using hb
theorem rclasses_q {c : Cfg} {n : Int} (hn : classesV c = n) (cs : Array Value) (tv lv : Value) (w : World) (hc : CfgCells cs tv lv c) (hC : CfgAt w tv lv c) :
    Calls Tryz.prog 41 #[.agg cs] w fun e w' => e = .returned (.int .i64 n) ∧ Below w.heap.size w w' := by
  subst hn
  exact rclasses_any cs tv lv c w hc hC
set_option maxRecDepth 100000 in
set_option maxHeartbeats 8000000 in
theorem rright30_any (cs os : Array Value) (tv lv : Value) (c : Cfg) (o : Opr) (w : World) (hc : CfgCells cs tv lv c) (hC : CfgAt w tv lv c) (ho : OpCells os o) (hg : Gone c o) :
    Calls Tryz.prog 11 #[.agg cs, .agg os] w (RPost c o w) := by
  have HC := Lib.hid hc
  have HCA := Lib.hid hC
  have HO := Lib.hid ho
  have hk : o.key.size ≤ 140737488351232 := by have := hg.g6; omega
  have hm : o.cmd.size ≤ 140737488351232 := by have := hg.g7; omega
  have hn : o.need.size ≤ 1048576 := by have := hg.g8; omega
  have hl := hg.g5
  have hw6 : IntKind.i64.wrap ((c.ls.length : Int) + 1 - 1) = c.ls.length := by rw [IntWalk.i64_in _ (by omega)]; omega
  clear hc hC ho hg
  go_enter Tryz.func11, Tryz.ntmps11
  go_upto_region 1 with fail
  obtain ⟨w2, hw2⟩ : ∃ w2 : World, w2 = (w.alloc (.cells cs 42)).alloc (.cells os 46) := ⟨_, rfl⟩
  rw [← hw2]
  have HX := Lib.hid (show Box2 w cs os w2 by rw [hw2]; exact box2_new w cs os)
  clear hw2
  go_cut [52] (fun s wx => NumPost c o w2 s wx)
  case first =>
    have k0 := cell_regrown (fr_cell_of_heap HX.out.op HO.out.f0)
    have k1 := cell_regrown (fr_cell_of_heap HX.out.op HO.out.f1)
    have k2 := cell_regrown (fr_cell_of_heap HX.out.op HO.out.f2)
    have k3 := cell_regrown (fr_cell_of_heap HX.out.op HO.out.f3)
    have k4 := cell_regrown (fr_cell_of_heap HX.out.op HO.out.f4)
    have k5 := cell_regrown (fr_cell_of_heap HX.out.op HO.out.f5)
    have k6 := cell_regrown (fr_cell_of_heap HX.out.op HO.out.f6)
    have k7 := cell_regrown (fr_cell_of_heap HX.out.op HO.out.f7)
    have k8 := cell_regrown (fr_cell_of_heap HX.out.op HO.out.f8)
    have m3 := cell_regrown (fr_cell_of_heap HX.out.cfg HC.out.f3)
    have HGC := Lib.hid HX.out.cfg
    have HCA2 := Lib.hid (HCA.out.below HX.out.below)
    refine wp_region_quiet_below (by kernel_rfl) (by kernel_rfl) ?_
    by_cases g0 : (checkE c == 0) = true
    · have HQ0 := Lib.hid g0
      clear g0
      have HCL := Lib.hid (show classesV c = (c.ls.length : Int) + 1 by unfold classesV; rw [if_pos (by simpa using HQ0.out)])
      repeat (first | (refine wpQuiet_load_agg 42 HGC.out Tryz.underlying42 rfl (cfg_sz HC.out) rfl _ rfl rfl ?_; (try simp only [Act.put, List.setIfInBounds_toArray, List.set_cons_zero, List.set_cons_succ])) | go_big_quiet_step ((exact Calls.regrown_of (rright_q true HQ0.out _ _ _ _ HC.out (HCA2.out.below (below_regrown w2 _ _))))))
      by_cases g1 : 0 ≤ o.id
      · have kb1 : decide (o.id < 0) = false := decide_eq_false (by omega)
        try simp only [kb1]
        repeat go_big_quiet_step (fail)
        by_cases g2 : 0 ≤ o.tenant
        · have kb2 : decide (o.tenant < 0) = false := decide_eq_false (by omega)
          try simp only [kb2]
          repeat go_big_quiet_step (fail)
          by_cases g3 : 0 ≤ o.inv
          · have kb3 : decide (o.inv < 0) = false := decide_eq_false (by omega)
            try simp only [kb3]
            repeat go_big_quiet_step (fail)
            by_cases g4 : rightB o.key o.cmd o.need = true
            · have HQ4 := Lib.hid g4
              clear g4
              repeat (first | (refine wpQuiet_load_agg 42 HGC.out Tryz.underlying42 rfl (cfg_sz HC.out) rfl _ rfl rfl ?_; (try simp only [Act.put, List.setIfInBounds_toArray, List.set_cons_zero, List.set_cons_succ])) | go_big_quiet_step ((exact Calls.regrown_of (araright_q true HQ4.out _ hk hm hn))))
              by_cases g5 : inB o.cost 1 c.cost = true
              · have HQ5 := Lib.hid g5
                clear g5
                repeat (first | (refine wpQuiet_load_agg 42 HGC.out Tryz.underlying42 rfl (cfg_sz HC.out) rfl _ rfl rfl ?_; (try simp only [Act.put, List.setIfInBounds_toArray, List.set_cons_zero, List.set_cons_succ])) | go_big_quiet_step ((with_reducible exact Calls.regrown_of (rin30_any true _ _ _ HQ5.out _))))
                by_cases g6 : inB o.cls 0 c.ls.length = true
                · have HQ6 := Lib.hid g6
                  clear g6
                  repeat (first | (refine wpQuiet_load_agg 42 HGC.out Tryz.underlying42 rfl (cfg_sz HC.out) rfl _ rfl rfl ?_; (try simp only [Act.put, List.setIfInBounds_toArray, List.set_cons_zero, List.set_cons_succ])) | go_big_quiet_step ((first | (with_reducible exact Calls.regrown_of (rclasses_q HCL.out _ _ _ _ HC.out (HCA2.out.below (below_regrown w2 _ _)))) | (with_reducible exact Calls.regrown_of (rin30_any true _ _ _ HQ6.out _)))))
                  by_cases g7 : inB o.state 1 7 = true
                  · have HQ7 := Lib.hid g7
                    clear g7
                    repeat (first | (refine wpQuiet_load_agg 42 HGC.out Tryz.underlying42 rfl (cfg_sz HC.out) rfl _ rfl rfl ?_; (try simp only [Act.put, List.setIfInBounds_toArray, List.set_cons_zero, List.set_cons_succ])) | go_big_quiet_step ((with_reducible exact Calls.regrown_of (rin30_any true _ _ _ HQ7.out _))))
                    refine wpQuiet_nil ?_
                    rintro _ ⟨⟨dq, osq⟩, rfl⟩
                    go_wp2_with fail
                    go_meet
                    exact ⟨_, rfl, (fun _ => ⟨HQ0.out, ⟨g1, g2, g3⟩, HQ4.out, HQ5.out, HQ6.out, HQ7.out⟩), below_regrown w2 dq osq⟩
                  · have HQ7 := Lib.hid (show inB o.state 1 7 = false by simpa using g7)
                    clear g7
                    repeat (first | (refine wpQuiet_load_agg 42 HGC.out Tryz.underlying42 rfl (cfg_sz HC.out) rfl _ rfl rfl ?_; (try simp only [Act.put, List.setIfInBounds_toArray, List.set_cons_zero, List.set_cons_succ])) | go_big_quiet_step ((with_reducible exact Calls.regrown_of (rin30_any false _ _ _ HQ7.out _))))
                    refine wpQuiet_nil ?_
                    rintro _ ⟨⟨dq, osq⟩, rfl⟩
                    go_wp2_with fail
                    go_meet
                    exact ⟨_, rfl, (fun h => by cases h), below_regrown w2 dq osq⟩
                · have HQ6 := Lib.hid (show inB o.cls 0 c.ls.length = false by simpa using g6)
                  clear g6
                  repeat (first | (refine wpQuiet_load_agg 42 HGC.out Tryz.underlying42 rfl (cfg_sz HC.out) rfl _ rfl rfl ?_; (try simp only [Act.put, List.setIfInBounds_toArray, List.set_cons_zero, List.set_cons_succ])) | go_big_quiet_step ((first | (with_reducible exact Calls.regrown_of (rclasses_q HCL.out _ _ _ _ HC.out (HCA2.out.below (below_regrown w2 _ _)))) | (with_reducible exact Calls.regrown_of (rin30_any false _ _ _ HQ6.out _)))))
                  refine wpQuiet_nil ?_
                  rintro _ ⟨⟨dq, osq⟩, rfl⟩
                  go_wp2_with fail
                  go_meet
                  exact ⟨_, rfl, (fun h => by cases h), below_regrown w2 dq osq⟩
              · have HQ5 := Lib.hid (show inB o.cost 1 c.cost = false by simpa using g5)
                clear g5
                repeat (first | (refine wpQuiet_load_agg 42 HGC.out Tryz.underlying42 rfl (cfg_sz HC.out) rfl _ rfl rfl ?_; (try simp only [Act.put, List.setIfInBounds_toArray, List.set_cons_zero, List.set_cons_succ])) | go_big_quiet_step ((with_reducible exact Calls.regrown_of (rin30_any false _ _ _ HQ5.out _))))
                refine wpQuiet_nil ?_
                rintro _ ⟨⟨dq, osq⟩, rfl⟩
                go_wp2_with fail
                go_meet
                exact ⟨_, rfl, (fun h => by cases h), below_regrown w2 dq osq⟩
            · have HQ4 := Lib.hid (show rightB o.key o.cmd o.need = false by simpa using g4)
              clear g4
              repeat (first | (refine wpQuiet_load_agg 42 HGC.out Tryz.underlying42 rfl (cfg_sz HC.out) rfl _ rfl rfl ?_; (try simp only [Act.put, List.setIfInBounds_toArray, List.set_cons_zero, List.set_cons_succ])) | go_big_quiet_step ((exact Calls.regrown_of (araright_q false HQ4.out _ hk hm hn))))
              refine wpQuiet_nil ?_
              rintro _ ⟨⟨dq, osq⟩, rfl⟩
              go_wp2_with fail
              go_meet
              exact ⟨_, rfl, (fun h => by cases h), below_regrown w2 dq osq⟩
          · have n3 : o.inv < 0 := by omega
            have kb3 : decide (o.inv < 0) = true := decide_eq_true n3
            clear g3
            try simp only [kb3]
            repeat go_big_quiet_step (fail)
            refine wpQuiet_nil ?_
            rintro _ ⟨⟨dq, osq⟩, rfl⟩
            go_wp2_with fail
            go_meet
            exact ⟨_, rfl, (fun h => by cases h), below_regrown w2 dq osq⟩
        · have n2 : o.tenant < 0 := by omega
          have kb2 : decide (o.tenant < 0) = true := decide_eq_true n2
          clear g2
          try simp only [kb2]
          repeat go_big_quiet_step (fail)
          refine wpQuiet_nil ?_
          rintro _ ⟨⟨dq, osq⟩, rfl⟩
          go_wp2_with fail
          go_meet
          exact ⟨_, rfl, (fun h => by cases h), below_regrown w2 dq osq⟩
      · have n1 : o.id < 0 := by omega
        have kb1 : decide (o.id < 0) = true := decide_eq_true n1
        clear g1
        try simp only [kb1]
        repeat go_big_quiet_step (fail)
        refine wpQuiet_nil ?_
        rintro _ ⟨⟨dq, osq⟩, rfl⟩
        go_wp2_with fail
        go_meet
        exact ⟨_, rfl, (fun h => by cases h), below_regrown w2 dq osq⟩
    · have HQ0 := Lib.hid (show (checkE c == 0) = false by simpa using g0)
      clear g0
      repeat (first | (refine wpQuiet_load_agg 42 HGC.out Tryz.underlying42 rfl (cfg_sz HC.out) rfl _ rfl rfl ?_; (try simp only [Act.put, List.setIfInBounds_toArray, List.set_cons_zero, List.set_cons_succ])) | go_big_quiet_step ((exact Calls.regrown_of (rright_q false HQ0.out _ _ _ _ HC.out (HCA2.out.below (below_regrown w2 _ _))))))
      refine wpQuiet_nil ?_
      rintro _ ⟨⟨dq, osq⟩, rfl⟩
      go_wp2_with fail
      go_meet
      exact ⟨_, rfl, (fun h => by cases h), below_regrown w2 dq osq⟩
  case rest =>
  obtain ⟨w3, rfl⟩ : ∃ w3 : World, w3 = wc := ⟨_, rfl⟩
  obtain ⟨b1, rfl, hn1, hb3⟩ := hcut
  have HX3 := Lib.hid (HX.out.next hb3)
  clear hb3
  rcases b1 with _ | _
  case true =>
    go_wp2_with fail
    go_ret
    exact ⟨_, rfl, (fun h => by first | cases h | (simp at h; first | done | omega)), HX3.out.below⟩
  have HN := Lib.hid (hn1 rfl)
  clear hn1
  have HQ0 := Lib.hid HN.out.q0
  have HRG := Lib.hid HN.out.rg
  have HQ4 := Lib.hid HN.out.q4
  have HQ5 := Lib.hid HN.out.q5
  have HQ6 := Lib.hid HN.out.q6
  have HQ7 := Lib.hid HN.out.q7
  obtain ⟨qr, hqr⟩ : ∃ q, inB o.ret 0 c.retries = q := ⟨_, rfl⟩
  have HP1 := Lib.hid hqr
  clear hqr
  obtain ⟨qp, hqp⟩ : ∃ q, inB o.pre 0 c.preempts = q := ⟨_, rfl⟩
  have HP2 := Lib.hid hqp
  clear hqp
  obtain ⟨qc, hqc⟩ : ∃ q, inB o.code 0 256 = q := ⟨_, rfl⟩
  have HP3 := Lib.hid hqc
  clear hqc
  have e10 := fr_cell_of_heap HX3.out.op HO.out.f10
  have e11 := fr_cell_of_heap HX3.out.op HO.out.f11
  have e12 := fr_cell_of_heap HX3.out.op HO.out.f12
  have m8 := fr_cell_of_heap HX3.out.cfg HC.out.f8
  have m9 := fr_cell_of_heap HX3.out.cfg HC.out.f9
  go_wp2_with fail
  refine (rin30_any qr _ _ _ HP1.out _).mono ?_
  rintro e w4 ⟨rfl, hb⟩
  have HX4 := Lib.hid (HX3.out.next hb)
  clear hb
  clear e10 e11 e12 m8 m9
  have e10 := fr_cell_of_heap HX4.out.op HO.out.f10
  have e11 := fr_cell_of_heap HX4.out.op HO.out.f11
  have e12 := fr_cell_of_heap HX4.out.op HO.out.f12
  have m8 := fr_cell_of_heap HX4.out.cfg HC.out.f8
  have m9 := fr_cell_of_heap HX4.out.cfg HC.out.f9
  rcases qr with _ | _
  · go_wp2_with fail
    go_ret
    exact ⟨_, rfl, (fun h => by first | cases h | (simp at h; first | done | omega)), HX4.out.below⟩
  clear e10 e11 e12 m8 m9
  have e10 := fr_cell_of_heap HX4.out.op HO.out.f10
  have e11 := fr_cell_of_heap HX4.out.op HO.out.f11
  have e12 := fr_cell_of_heap HX4.out.op HO.out.f12
  have m8 := fr_cell_of_heap HX4.out.cfg HC.out.f8
  have m9 := fr_cell_of_heap HX4.out.cfg HC.out.f9
  go_wp2_with fail
  refine (rin30_any qp _ _ _ HP2.out _).mono ?_
  rintro e w5 ⟨rfl, hb⟩
  have HX5 := Lib.hid (HX4.out.next hb)
  clear hb
  clear e10 e11 e12 m8 m9
  have e10 := fr_cell_of_heap HX5.out.op HO.out.f10
  have e11 := fr_cell_of_heap HX5.out.op HO.out.f11
  have e12 := fr_cell_of_heap HX5.out.op HO.out.f12
  have m8 := fr_cell_of_heap HX5.out.cfg HC.out.f8
  have m9 := fr_cell_of_heap HX5.out.cfg HC.out.f9
  rcases qp with _ | _
  · go_wp2_with fail
    go_ret
    exact ⟨_, rfl, (fun h => by first | cases h | (simp at h; first | done | omega)), HX5.out.below⟩
  clear e10 e11 e12 m8 m9
  have e10 := fr_cell_of_heap HX5.out.op HO.out.f10
  have e11 := fr_cell_of_heap HX5.out.op HO.out.f11
  have e12 := fr_cell_of_heap HX5.out.op HO.out.f12
  have m8 := fr_cell_of_heap HX5.out.cfg HC.out.f8
  have m9 := fr_cell_of_heap HX5.out.cfg HC.out.f9
  go_wp2_with fail
  refine (rin30_any qc _ _ _ HP3.out _).mono ?_
  rintro e w6 ⟨rfl, hb⟩
  have HX6 := Lib.hid (HX5.out.next hb)
  clear hb
  clear e10 e11 e12 m8 m9
  rcases qc with _ | _
  · go_wp2_with fail
    go_ret
    exact ⟨_, rfl, (fun h => by first | cases h | (simp at h; first | done | omega)), HX6.out.below⟩
  have hkc := cfgOk_of (show checkE c = 0 by simpa using HQ0.out)
  have b0 := inB_iff.1 HP1.out
  have b1 := inB_iff.1 HP2.out
  have c0 := hkc.retries.2
  have c1 := hkc.preempts.2
  have s17 := inB_iff.1 HQ7.out
  obtain ⟨r0, r1⟩ := b0
  obtain ⟨p0, p1⟩ := b1
  obtain ⟨s1, s7⟩ := s17
  clear hkc
  have e8 := fr_cell_of_heap HX6.out.op HO.out.f8
  have e9 := fr_cell_of_heap HX6.out.op HO.out.f9
  have e10 := fr_cell_of_heap HX6.out.op HO.out.f10
  have e11 := fr_cell_of_heap HX6.out.op HO.out.f11
  obtain ⟨bt, hbt⟩ : ∃ b, b = badT o := ⟨_, rfl⟩
  have HBT := Lib.hid hbt
  clear hbt
  go_upto_region 6 with fail
  go_cut [116] (fun s wx => s = .bool bt ∧ Below w6.heap.size w6 wx)
  case first =>
    by_cases s2 : o.state ≤ 2
    · have HV := Lib.hid (show badT o = (o.att != o.ret + o.pre) by unfold badT; rw [if_pos s2])
      have HI := Lib.hid (show inB o.state 3 5 = false by have : ¬ (3 : Int) ≤ o.state := by omega
                                                          simp [inB, this])
      rcases ha : (o.att != o.ret + o.pre) with _ | _
      · have HA := Lib.hid ha
        go_wp2_with fail
        refine (rin30_any false _ _ _ HI.out _).mono ?_
        rintro e w7 ⟨rfl, hb7⟩
        have e8 := cell_below hb7 e8
        have e9 := cell_below hb7 e9
        have HB7 := Lib.hid hb7
        clear hb7
        go_wp2_with fail
        go_meet
        exact ⟨by rw [HBT.out, HV.out, HA.out], HB7.out⟩
      · have HA := Lib.hid ha
        go_wp2_with fail
        go_meet
        exact ⟨by rw [HBT.out, HV.out, HA.out], Below.refl _ _⟩
    by_cases s5 : o.state ≤ 5
    · have HV := Lib.hid (show badT o = (o.att != o.ret + o.pre + 1) by unfold badT; rw [if_neg s2, if_pos s5])
      have s3 : (3 : Int) ≤ o.state := by omega
      have HI := Lib.hid (show inB o.state 3 5 = true by simp [inB, s3, s5])
      clear s2
      rcases ha : (o.att != o.ret + o.pre + 1) with _ | _
      all_goals
        have HA := Lib.hid ha
        go_wp2_with fail
        refine (rin30_any true _ _ _ HI.out _).mono ?_
        rintro e w7 ⟨rfl, hb7⟩
        have e8 := cell_below hb7 e8
        have e9 := cell_below hb7 e9
        have HB7 := Lib.hid hb7
        clear hb7
        go_wp2_with fail
        go_meet
        exact ⟨by rw [HBT.out, HV.out, HA.out], HB7.out⟩
    · have HV := Lib.hid (show badT o = ((o.att != o.ret + o.pre) && (o.att != o.ret + o.pre + 1)) by unfold badT; rw [if_neg s2, if_neg s5])
      have s3 : (6 : Int) ≤ o.state := by omega
      have HI := Lib.hid (show inB o.state 3 5 = false by simp [inB, s5])
      clear s2 s5
      rcases ha : (o.att != o.ret + o.pre) with _ | _
      all_goals
        rcases hc : (o.att != o.ret + o.pre + 1) with _ | _
        all_goals
          have HA := Lib.hid ha
          have HD := Lib.hid hc
          go_wp2_with fail
          refine (rin30_any false _ _ _ HI.out _).mono ?_
          rintro e w7 ⟨rfl, hb7⟩
          have e8 := cell_below hb7 e8
          have e9 := cell_below hb7 e9
          have HB7 := Lib.hid hb7
          clear hb7
          go_wp2_with fail
          go_meet
          exact ⟨by rw [HBT.out, HV.out, HA.out, HD.out] <;> rfl, HB7.out⟩
  case rest =>
  obtain ⟨w7, rfl⟩ : ∃ w7 : World, w7 = wc := ⟨_, rfl⟩
  obtain ⟨rfl, hb7⟩ := hcut
  have HX7 := Lib.hid (HX6.out.next hb7)
  clear hb7 e8 e9 e10 e11
  have e8 := fr_cell_of_heap HX7.out.op HO.out.f8
  have e13 := fr_cell_of_heap HX7.out.op HO.out.f13
  have e14 := fr_cell_of_heap HX7.out.op HO.out.f14
  have e16 := fr_cell_of_heap HX7.out.op HO.out.f16
  have e17 := fr_cell_of_heap HX7.out.op HO.out.f17
  rcases bt with _ | _
  case true =>
    go_wp2_with fail
    go_ret
    exact ⟨_, rfl, (fun h => by first | cases h | (simp at h; first | done | omega)), HX7.out.below⟩
  have HOK := Lib.hid (fun (hrun : o.state = 3 → 1 ≤ o.ep ∧ 1 ≤ o.wk) (hrest : o.state ≠ 3 → o.ep = 0 ∧ o.wk = 0 ∧ o.st = 0) (hwake : o.wake = 0 ∨ o.state = 2) => opok_make HQ0.out HRG.out HQ4.out HQ5.out HQ6.out HQ7.out HP1.out HP2.out HP3.out HBT.out.symm hrun hrest hwake)
  by_cases s3 : o.state = 3
  · have HS := Lib.hid s3
    have s3b : (o.state == 3) = true := beq_iff_eq.2 s3
    clear s3
    by_cases v1 : 1 ≤ o.ep
    · by_cases v2 : 1 ≤ o.wk
      · by_cases v3 : o.wake = 0
        · have v3b : (o.wake == 0) = true := beq_iff_eq.2 v3
          have HK := Lib.hid (HOK.out (fun _ => ⟨v1, v2⟩) (fun h => absurd HS.out h) (.inl v3))
          clear v3
          go_wp2_with fail
          go_ret
          exact ⟨_, rfl, fun _ => HK.out, HX7.out.below⟩
        · have v3b : (o.wake == 0) = false := beq_eq_false_iff_ne.2 v3
          clear v3
          go_wp2_with fail
          go_ret
          exact ⟨_, rfl, (fun h => by first | cases h | (simp at h; first | done | omega)), HX7.out.below⟩
      · have n2 : o.wk < 1 := by omega
        clear v2
        go_wp2_with fail
        go_ret
        exact ⟨_, rfl, (fun h => by first | cases h | (simp at h; first | done | omega)), HX7.out.below⟩
    · have n1 : o.ep < 1 := by omega
      clear v1
      go_wp2_with fail
      go_ret
      exact ⟨_, rfl, (fun h => by first | cases h | (simp at h; first | done | omega)), HX7.out.below⟩
  · have HS := Lib.hid s3
    have s3b : (o.state == 3) = false := beq_eq_false_iff_ne.2 s3
    clear s3
    by_cases v1 : o.ep = 0
    · have w1b : (o.ep == 0) = true := beq_iff_eq.2 v1
      have HV1 := Lib.hid v1
      clear v1
      by_cases v2 : o.wk = 0
      · have w2b : (o.wk == 0) = true := beq_iff_eq.2 v2
        have HV2 := Lib.hid v2
        clear v2
        by_cases v3 : o.st = 0
        · have w3b : (o.st == 0) = true := beq_iff_eq.2 v3
          have HV3 := Lib.hid v3
          clear v3
          by_cases v4 : o.wake = 0
          · have w4b : (o.wake == 0) = true := beq_iff_eq.2 v4
            have HK := Lib.hid (HOK.out (fun h => absurd h HS.out) (fun _ => ⟨HV1.out, HV2.out, HV3.out⟩) (.inl v4))
            clear v4
            go_wp2_with fail
            go_ret
            exact ⟨_, rfl, fun _ => HK.out, HX7.out.below⟩
          · have w4b : (o.wake == 0) = false := beq_eq_false_iff_ne.2 v4
            clear v4
            by_cases v5 : o.state = 2
            · have w5b : (o.state == 2) = true := beq_iff_eq.2 v5
              have HK := Lib.hid (HOK.out (fun h => absurd h HS.out) (fun _ => ⟨HV1.out, HV2.out, HV3.out⟩) (.inr v5))
              clear v5
              go_wp2_with fail
              go_ret
              exact ⟨_, rfl, fun _ => HK.out, HX7.out.below⟩
            · have w5b : (o.state == 2) = false := beq_eq_false_iff_ne.2 v5
              clear v5
              go_wp2_with fail
              go_ret
              exact ⟨_, rfl, (fun h => by first | cases h | (simp at h; first | done | omega)), HX7.out.below⟩
        · have w3b : (o.st == 0) = false := beq_eq_false_iff_ne.2 v3
          clear v3
          go_wp2_with fail
          go_ret
          exact ⟨_, rfl, (fun h => by first | cases h | (simp at h; first | done | omega)), HX7.out.below⟩
      · have w2b : (o.wk == 0) = false := beq_eq_false_iff_ne.2 v2
        clear v2
        go_wp2_with fail
        go_ret
        exact ⟨_, rfl, (fun h => by first | cases h | (simp at h; first | done | omega)), HX7.out.below⟩
    · have w1b : (o.ep == 0) = false := beq_eq_false_iff_ne.2 v1
      clear v1
      go_wp2_with fail
      go_ret
      exact ⟨_, rfl, (fun h => by first | cases h | (simp at h; first | done | omega)), HX7.out.below⟩
end Go.Proofs.YtmijmfgclmaodaaGreatDoor
