/-
  law15.FlowActs: the walk.
-/
import Derived.Test.YtohkchilogmneaaDoes2
namespace Go.Proofs.Ytohkchilogmneaa
open Go.RowKit Go.Sort

theorem Twin.start {q : Int} {w w1 : World} {f : Nat} {ρ : Roles} (h : RState q w f 0 false [] ρ w1) : Twin q w f w1.heap.size 0 (w1.alloc (.cells #[.int .i64 q, .slice none 0 0, .bool false] 53)) := by
  have hz : ∀ j, w1.heap.size ≤ j → fence ρ w1 j = [] := fun j hj => by simp [fence, Nat.not_lt.2 hj]
  refine ⟨false, [], fence ρ w1, .slice none 0 0, [], ⟨h.fence.on box_below, ⟨fr_alloc_at, ⟨⟨none, 0, rfl, Nat.le_refl _, fun j u hu => by simp [flatRV] at hu⟩, fun p hp => by (cases hp)⟩, fun k hk => by (cases hk), fun p hp => by (cases hp), fun hb => hb.1 rfl, fun k hk => ?_, by simp, fun p hp => by (cases hp)⟩, hz _ (Nat.le_refl _), h.below.size⟩, rfl⟩
  simp at hk
  exact ⟨by omega, hz k (by omega)⟩
def FARel (q : Int) (W : World) (b : Nat) (l : List Ac) (g : Nat) (i : Value) (wr : World) : Prop := ∃ k : Nat, g = l.length - k ∧ i = .int .i64 k ∧ k ≤ l.length ∧ Twin q W (W.heap.size + 1) b k wr
theorem lenF_none {id : Int} {rows : List FRow} (h : atF id rows = none) : lenF id rows = 0 ∧ dfF id rows = 0 := by unfold lenF dfF; rw [h]; exact ⟨rfl, rfl⟩
theorem lenF_some {id : Int} {rows : List FRow} {r : FRow} (h : atF id rows = some r) : lenF id rows = r.its.length ∧ dfF id rows = r.df := by unfold lenF dfF; rw [h]; exact ⟨rfl, rfl⟩
set_option maxRecDepth 100000 in
set_option maxHeartbeats 16000000 in
/-- THE WALK: FlowActs. -/
theorem flowActs_any (q : Int) (v : Value) (l : List Ac) (w : World) (hl : AcsAt w v l) (hok : ∀ y ∈ l, AcOk y) : Calls Try.prog 5 #[.int .i64 q, v] w (TrueBelow w) := by
  have HA := Lib.hid hl
  have HOK := Lib.hid hok
  obtain ⟨a, cap, rfl⟩ := hl.form
  clear hl hok
  by_cases hlen : 200 < l.length
  · have hd : decide (200 < (l.length : Int)) = true := decide_eq_true (by omega)
    go_enter Try.func5, Try.ntmps5
    go_wp2_with fail
    have hnew : Calls Try.prog 10 #[.int .i64 q] w fun e w' => ∃ u, e = .returned u ∧ Below w.heap.size w w' := by
      by_cases hq : 1 ≤ q ∧ q ≤ 64
      · refine (flowNew_any q w hq.1 hq.2).mono ?_
        rintro e w' ⟨rfl, hw⟩
        exact ⟨_, rfl, by rw [hw]; exact box_below.alloc (by simp) _⟩
      · refine (flowNew_nil q w hq).mono ?_
        rintro e w' ⟨rfl, hw⟩
        exact ⟨_, rfl, hw⟩
    refine hnew.mono ?_
    rintro e w1 ⟨u, rfl, hb1⟩
    have HB1 := Lib.hid hb1
    clear hb1 hnew
    go_wp2_with fail
    refine (live15_any _).mono ?_
    rintro e w2 ⟨rfl, hb⟩
    have HB := Lib.hid (HB1.out.trans (hb.mono HB1.out.size))
    clear hb
    go_wp2_with fail
    go_ret
    exact ⟨rfl, HB.out⟩
  · have hd : decide (200 < (l.length : Int)) = false := decide_eq_false (by omega)
    have hd0 : ¬ 200 < (l.length : Int) := by omega
    by_cases hq : 1 ≤ q ∧ q ≤ 64
    · have hq1 : ¬ q < 1 := by omega
      have hq2 : ¬ 64 < q := by omega
      have HQ := Lib.hid hq
      clear hq
      go_enter Try.func5, Try.ntmps5
      go_wp2_with fail
      refine (flowNew_any q _ HQ.out.1 HQ.out.2).mono ?_
      rintro e w1 ⟨rfl, hw1⟩
      obtain ⟨ρ1, hs1⟩ := flowNew_state q w w1 HQ.out.1 HQ.out.2 hw1
      have HT1 := Lib.hid (Twin.start hs1)
      clear hw1 hs1
      go_upto_region 5 with fail
      obtain ⟨w2, hw2⟩ : ∃ w2 : World, w2 = w1.alloc (.cells #[.int .i64 q, .slice none 0 0, .bool false] 53) := ⟨_, rfl⟩
      obtain ⟨b, hb⟩ : ∃ b : Nat, b = w1.heap.size := ⟨_, rfl⟩
      rw [← hw2, ← hb] at HT1
      rw [← hw2, ← hb]
      clear hw2 hb
      go_wp2_with fail
      go_loopg [7] l.length (fun g i wr => FARel q w b l g i wr)
      case atStart => exact ⟨0, rfl, rfl, Nat.zero_le _, HT1.out⟩
      case round =>
        obtain ⟨k, hg, rfl, hk, hT⟩ := hrel
        have HG := Lib.hid hg
        have HT := Lib.hid hT
        have hbel : Below w.heap.size w wr := by
          obtain ⟨gv, rows, ρ, v, l', h, -⟩ := hT
          exact h.st.below
        have HB := Lib.hid hbel
        clear hg hT hbel
        by_cases hlt : k < l.length
        · obtain ⟨x, hx⟩ : ∃ x, l[k]? = some x := ⟨_, List.getElem?_eq_getElem hlt⟩
          have HXX := Lib.hid hx
          obtain ⟨g, off, cap', hv, hc⟩ := HA.out.at hx
          cases hv
          have hgw : g < w.heap.size := World.block_lt_of_cell? w _ (hc 0 _ rfl)
          have HC := Lib.hid hc
          have hkl : (k : Int) < (l.length : Int) := by omega
          have cx : ∀ i u, (encAc x)[i]? = some u → wr.cell? ⟨g, off + k * 5 + i, none⟩ = some u := fun i u hu => by
            rw [Nat.add_assoc]
            exact cell_below HB.out (hc i u hu)
          have x0 : wr.cell? ⟨g, off + k * 5, none⟩ = some (.int .i64 x.kind) := cx 0 _ rfl
          have x1 := cx 1 _ rfl
          have x2 := cx 2 _ rfl
          have x3 := cx 3 _ rfl
          have x4 := cx 4 _ rfl
          have HXO := Lib.hid (HOK.out x (List.mem_of_getElem? hx))
          have HKS := Lib.hid (show k < 1000000 by omega)
          clear hx hc cx
          go_wp2_with fail
          refine (does15_any x HXO.out HT.out HKS.out).mono ?_
          rintro e w3 ⟨rfl, hT3⟩
          have HT3 := Lib.hid hT3
          obtain ⟨gv, rows, ρ, v3, l3, hB3, hm3⟩ := hT3
          have HB3 := Lib.hid hB3
          have HM3 := Lib.hid hm3
          have b0 : w3.cell? ⟨b, 0, none⟩ = some (.int .i64 q) := fr_cell_of_heap hB3.doc.head rfl
          have b1 : w3.cell? ⟨b, 1, none⟩ = some v3 := fr_cell_of_heap hB3.doc.head rfl
          have b2 : w3.cell? ⟨b, 2, none⟩ = some (.bool gv) := fr_cell_of_heap hB3.doc.head rfl
          clear hB3 hm3 x0 x1 x2 x3 x4
          go_wp2_with fail
          refine (same15_any v3 l3 _ HB3.out.st.ring (by have := HB3.out.st.few; have := HKS.out; omega) HB3.out.doc.rows HM3.out).mono ?_
          rintro e w4 ⟨rfl, hb4⟩
          have HB4 := Lib.hid (HB3.out.on hb4)
          have hbel4 := HB4.out.st.below
          have x1 : w4.cell? ⟨g, off + k * 5 + 1, none⟩ = some (.int .i64 x.flow) := by
            rw [Nat.add_assoc]
            exact cell_below hbel4 (HC.out 1 _ rfl)
          clear hb4 b0 b1 b2 hbel4
          go_upto_region 10 with fail
          have y1 := cell_regrown x1
          have b0 := cell_regrown (show w4.cell? ⟨b, 0, none⟩ = some (.int .i64 q) from fr_cell_of_heap HB4.out.doc.head rfl)
          have b1 := cell_regrown (show w4.cell? ⟨b, 1, none⟩ = some v3 from fr_cell_of_heap HB4.out.doc.head rfl)
          have b2 := cell_regrown (show w4.cell? ⟨b, 2, none⟩ = some (.bool gv) from fr_cell_of_heap HB4.out.doc.head rfl)
          have hfind : ∀ (d : Nat) (os : Array Obj), Calls Try.prog 24 #[.agg #[.int .i64 q, v3, .bool gv], .int .i64 x.flow] (grow (redrawn w4 d) os) fun e w' => e = .returned (.int .i64 (placeF x.flow rows)) ∧ Below (grow (redrawn w4 d) os).heap.size (grow (redrawn w4 d) os) w' := fun d os => by
            have h := r15Find_any x.flow q gv v3 l3 (grow (redrawn w4 d) os) ((HB4.out.doc.below (below_regrown w4 d os)).rows) HB4.out.doc.few
            rw [HM3.out] at h
            exact h
          have HFIND := Lib.hid hfind
          clear hfind
          refine wp_region_quiet_below (by kernel_rfl) (by kernel_rfl) ?_
          repeat (go_big_quiet_step (exact Calls.regrown_of (HFIND.out _ _)))
          refine wpQuiet_nil ?_
          rintro _ ⟨⟨dq, osq⟩, rfl⟩
          obtain ⟨w5, hw5⟩ : ∃ w5 : World, w5 = grow (redrawn w4 dq) osq := ⟨_, rfl⟩
          have HB5 := Lib.hid (show Both q w (w.heap.size + 1) b (k + 1) gv rows ρ w5 gv v3 l3 by rw [hw5]; exact HB4.out.on (below_regrown w4 dq osq))
          rw [← hw5]
          clear hw5 y1 b0 b1 b2 x1 HFIND
          have hbel5 := HB5.out.st.below
          have x1 : w5.cell? ⟨g, off + k * 5 + 1, none⟩ = some (.int .i64 x.flow) := by
            rw [Nat.add_assoc]
            exact cell_below hbel5 (HC.out 1 _ rfl)
          have hlenC : ∀ (d : Nat) (os : Array Obj), Calls Try.prog 17 #[.pointer (some ⟨w.heap.size + 1, 0, none⟩), .int .i64 x.flow] (grow (redrawn w5 d) os) fun e w' => e = .returned (.int .i64 (lenF x.flow rows)) ∧ Below (grow (redrawn w5 d) os).heap.size (grow (redrawn w5 d) os) w' := fun d os =>
            flowLen_any x.flow _ (HB5.out.st.ring.below (below_regrown w5 d os))
          have hdfC : ∀ (d : Nat) (os : Array Obj), Calls Try.prog 20 #[.pointer (some ⟨w.heap.size + 1, 0, none⟩), .int .i64 x.flow] (grow (redrawn w5 d) os) fun e w' => e = .returned (.int .i64 (dfF x.flow rows)) ∧ Below (grow (redrawn w5 d) os).heap.size (grow (redrawn w5 d) os) w' := fun d os =>
            flowDeficit_any x.flow _ (HB5.out.st.ring.below (below_regrown w5 d os))
          have HLENC := Lib.hid hlenC
          have HDFC := Lib.hid hdfC
          have y1 := cell_regrown x1
          clear hlenC hdfC hbel5 x1
          rcases find_at (id := x.flow) (rows := rows) with ⟨h1, h2⟩ | ⟨m, r, h1, h2, h3, h4⟩
          · rw [placeF_none h1]
            rw [(lenF_none h2).1] at HLENC
            rw [(lenF_none h2).2] at HDFC
            clear h1 h2
            go_upto_region 11 with fail
            refine wp_region_quiet_below (by kernel_rfl) (by kernel_rfl) ?_
            repeat (go_big_quiet_step ((first | exact Calls.regrown_of (HLENC.out _ _) | exact Calls.regrown_of (HDFC.out _ _))))
            refine wpQuiet_nil ?_
            rintro _ ⟨⟨dq, osq⟩, rfl⟩
            clear y1
            go_wp2_with fail
            go_roundg (l.length - (k + 1))
            case rel => exact ⟨k + 1, rfl, by go_num, by omega, _, _, _, _, _, HB5.out.on (below_regrown w5 dq osq), HM3.out⟩
            case measure => have := HG.out; omega
          · rw [placeF_some h1]
            rw [(lenF_some h4).1] at HLENC
            rw [(lenF_some h4).2] at HDFC
            have hr3 := h2
            rw [← HM3.out] at hr3
            obtain ⟨⟨r', u⟩, hp, rfl⟩ := row_val hr3
            simp only at HLENC HDFC
            obtain ⟨gr, offr, capr, hv3, -, -, -, c2, c3⟩ := HB5.out.doc.rows.at hp
            obtain ⟨ai, ci, hu⟩ : ∃ ai ci, u = .slice ai r'.its.length ci := its_form (HB5.out.doc.rows.its _ (List.mem_of_getElem? hp))
            simp only at c2 c3
            rw [hu] at c3
            have hml : m < l3.length := (List.getElem?_eq_some_iff.1 hp).1
            have hm0 : ¬ ((m : Int) < 0) := by omega
            have hm1 : (m : Int) ≥ 0 := by omega
            have hm2 : (m : Int) < (l3.length : Int) := by omega
            have c2 := cell_regrown c2
            have c3 := cell_regrown c3
            have b1 : w5.cell? ⟨b, 1, none⟩ = some (.slice (some ⟨gr, offr, none⟩) l3.length capr) := by rw [← hv3]; exact fr_cell_of_heap HB5.out.doc.head rfl
            have b1 := cell_regrown b1
            have e1 : ((r'.its.length : Int) != (r'.its.length : Int)) = false := by simp
            have e2 : (r'.df != r'.df) = false := by simp
            clear h1 h2 h3 h4 hr3 hp hv3 hu hml
            go_upto_region 11 with fail
            refine wp_region_quiet_below (by kernel_rfl) (by kernel_rfl) ?_
            repeat (go_big_quiet_step ((first | exact Calls.regrown_of (HLENC.out _ _) | exact Calls.regrown_of (HDFC.out _ _))))
            refine wpQuiet_nil ?_
            rintro _ ⟨⟨dq, osq⟩, rfl⟩
            clear y1 c2 c3 b1 e1 e2
            go_wp2_with fail
            go_roundg (l.length - (k + 1))
            case rel => exact ⟨k + 1, rfl, by go_num, by omega, _, _, _, _, _, HB5.out.on (below_regrown w5 dq osq), HM3.out⟩
            case measure => have := HG.out; omega
        · go_wp2_with fail
          refine (live15_any _).mono ?_
          rintro e w2 ⟨rfl, hb2⟩
          have HB2 := Lib.hid (HB.out.trans (hb2.mono HB.out.size))
          clear hb2
          go_wp2_with fail
          go_ret
          exact ⟨rfl, HB2.out⟩
    · have HQ := Lib.hid hq
      have hq3 : q < 1 ∨ (¬ q < 1 ∧ 64 < q) := by omega
      clear hq
      go_enter Try.func5, Try.ntmps5
      go_wp2_with fail
      refine (flowNew_nil q _ HQ.out).mono ?_
      rintro e w1 ⟨rfl, hb1⟩
      have HB1 := Lib.hid hb1
      clear hb1
      rcases hq3 with hq1 | ⟨hq1, hq2⟩
      all_goals
        go_wp2_with fail
        refine (live15_any _).mono ?_
        rintro e w2 ⟨rfl, hb2⟩
        have HB2 := Lib.hid (HB1.out.trans (hb2.mono HB1.out.size))
        clear hb2
        go_wp2_with fail
        go_ret
        exact ⟨rfl, HB2.out⟩
end Go.Proofs.Ytohkchilogmneaa
