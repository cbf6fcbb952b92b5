/-
  law17.PoolActs: the walk.
-/
import Derived.Test.YtdbjihkgafhakaaGreatDoorSk25
import Derived.Deep.RegionHeld3
namespace Go.Proofs.YtdbjihkgafhakaaGreatDoor
open Go.RowKit
def x3D (a b c : Int) : Array Value := #[.int .i64 a, .int .i64 b, .int .i64 c]
set_option maxRecDepth 100000 in
set_option maxHeartbeats 16000000 in
theorem poolActs_any (a b c : Int) (v : Value) (l : List Pa) (W : World) (hr : Ready W) (hl : PasAt W v l) (hok : ∀ y ∈ l, I64 y.e.cls ∧ I64 y.e.ten ∧ I64 y.e.inv ∧ I64 y.e.id) : Calls Tryz.prog 4 #[.agg (x3D a b c), v] W (TrueBelow W) := by
  have HA := Lib.hid hl
  have HOK0 := Lib.hid hok
  have HR := Lib.hid hr
  obtain ⟨sa, cap, rfl, -⟩ := hl
  clear hok hr
  unfold x3D
  go_enter Tryz.func4, Tryz.ntmps4
  go_upto_region 1 with fail
  obtain ⟨w1, hw1⟩ : ∃ w1 : World, w1 = W.alloc (.cells #[.int .i64 a, .int .i64 b, .int .i64 c] 22) := ⟨_, rfl⟩
  have hx1 : w1.heap[W.heap.size]? = some (.cells (x3D a b c) 22 (0, 0)) := by rw [hw1]; exact fr_alloc_at
  have hb1 : Below W.heap.size W w1 := by rw [hw1]; exact box_below
  rw [← hw1]
  have HX1 := Lib.hid hx1
  have HB1 := Lib.hid hb1
  have i0 : w1.cell? ⟨W.heap.size, 0, none⟩ = some (.int .i64 a) := fr_cell_of_heap hx1 rfl
  have i1 : w1.cell? ⟨W.heap.size, 1, none⟩ = some (.int .i64 b) := fr_cell_of_heap hx1 rfl
  have i2 : w1.cell? ⟨W.heap.size, 2, none⟩ = some (.int .i64 c) := fr_cell_of_heap hx1 rfl
  have hlive : ∀ w3, Below W.heap.size W w3 → Calls Tryz.prog 8 #[] w3 (fun e w4 => e = .returned (.bool true) ∧ Below W.heap.size W w4) := fun w3 hb3 => by
    refine (live17_any w3 (HR.out.below hb3)).mono ?_
    rintro e w4 ⟨rfl, hb4⟩
    exact ⟨rfl, hb3.trans (hb4.mono hb3.size)⟩
  have HLV := Lib.hid hlive
  clear hw1 hx1 hb1 hlive
  by_cases hn : 1 ≤ a ∧ 1 ≤ b ∧ 1 ≤ c ∧ c ≤ 64
  · obtain ⟨m, hm⟩ : ∃ m : Nat, b = m := ⟨b.toNat, by omega⟩
    subst hm
    go_wp2_with fail
    refine (pnew_any a c m w1 hn.1 (by omega) hn.2.2.1 hn.2.2.2).mono ?_
    rintro e w2 ⟨rfl, hb2, hp2⟩
    have HP2 := Lib.hid (show PlState w1 (w1.heap.size + 2) ⟨a, m, c⟩ 0 (.slice none 0 0) [] (newRho w1) w2 from ⟨hp2, hb2, fun j hj => by simp [newRho]; omega⟩)
    have HX2 := Lib.hid ((hb2.block _ (fp_lt_of_heap HX1.out)).trans HX1.out)
    have HN := Lib.hid hn
    have hn1 : ¬ a < 1 := by omega
    have hn2 : ¬ (m : Int) < 1 := by omega
    have hn3 : ¬ c < 1 := by omega
    have hn4 : ¬ 64 < c := by omega
    clear hb2 hp2 i0 i1 i2 hn
    have i0 : w2.cell? ⟨W.heap.size, 0, none⟩ = some (.int .i64 a) := fr_cell_of_heap HX2.out rfl
    have i1 : w2.cell? ⟨W.heap.size, 1, none⟩ = some (.int .i64 m) := fr_cell_of_heap HX2.out rfl
    have i2 : w2.cell? ⟨W.heap.size, 2, none⟩ = some (.int .i64 c) := fr_cell_of_heap HX2.out rfl
    obtain ⟨P, hP⟩ : ∃ P : Nat, P = w1.heap.size + 2 := ⟨_, rfl⟩
    rw [← hP] at HP2
    rw [← hP]
    clear hP
    have HB2 := Lib.hid (HB1.out.trans (HP2.out.below.mono HB1.out.size))
    by_cases g1 : 120 < (l.length : Int)
    · go_wp2_with fail
      refine (HLV.out _ HB2.out).mono ?_
      rintro e w4 ⟨rfl, hb4⟩
      have HB4 := Lib.hid hb4
      clear hb4
      go_wp2_with fail
      go_ret
      exact ⟨rfl, HB4.out⟩
    · by_cases g2 : 8 < a
      · go_wp2_with fail
        refine (HLV.out _ HB2.out).mono ?_
        rintro e w4 ⟨rfl, hb4⟩
        have HB4 := Lib.hid hb4
        clear hb4
        go_wp2_with fail
        go_ret
        exact ⟨rfl, HB4.out⟩
      · by_cases g3 : 4 < (m : Int)
        · go_wp2_with fail
          refine (HLV.out _ HB2.out).mono ?_
          rintro e w4 ⟨rfl, hb4⟩
          have HB4 := Lib.hid hb4
          clear hb4
          go_wp2_with fail
          go_ret
          exact ⟨rfl, HB4.out⟩
        · have HG := Lib.hid (And.intro g1 (And.intro g2 g3))
          go_upto_region 7 with fail
          obtain ⟨w3, hw3⟩ : ∃ w3 : World, w3 = w2.alloc (.cells #[.int .i64 a, .int .i64 m, .int .i64 c, .int .i64 0, .slice none 0 0] 45) := ⟨_, rfl⟩
          obtain ⟨bb, hbb⟩ : ∃ bb : Nat, bb = w2.heap.size := ⟨_, rfl⟩
          rw [← hw3, ← hbb]
          have HT3 := Lib.hid (show TwinP w1 P bb ⟨a, m, c⟩ 0 w3 from by
            refine ⟨0, .slice none 0 0, [], fence (newRho w1) w2, .slice none 0 0, [], ?_, ?_, ?_, ?_, rfl, ?_⟩
            · rw [hw3]
              exact HP2.out.fence.on box_below
            · refine ⟨by rw [hw3, hbb]; exact fr_alloc_at, ⟨none, 0, rfl, Nat.le_refl _, fun j u hu => by simp at hu⟩, (fun p hp => by cases hp), (fun h => absurd rfl h), (fun p hp => by cases hp), (fun h => h.2 rfl), (fun k hk => ?_), (by simp), (fun p hp => by cases hp)⟩
              have hz : w3.heap.size = w2.heap.size + 1 := by rw [hw3]; simp
              exact ⟨fence_far (by omega), by omega⟩
            · rw [hbb]
              exact fence_far (Nat.le_refl _)
            · rw [hbb]
              exact HP2.out.below.size
            · refine ⟨⟨by show (0 : Int) ≤ a; have := HN.out.1; omega, (fun n hn => by cases hn), (fun t ht => by cases ht), List.nodup_nil, (fun i j n m h => by simp at h), (fun n hn => by cases hn)⟩, by omega, (fun n hn => by cases hn), (fun n hn => by cases hn), (fun n hn => by cases hn), ⟨⟨HN.out.1, by have := HG.out.2.1; omega⟩, ⟨by show 1 ≤ m; have := HN.out.2.1; omega, by show m ≤ 4; have := HG.out.2.2; omega⟩, ⟨HN.out.2.2.1, HN.out.2.2.2⟩⟩⟩)
          clear hw3 hbb i0 i1 i2
          go_wp2_with fail
          go_loopg [7] l.length (fun g i wr => ∃ k : Nat, g = l.length - k ∧ i = .int .i64 k ∧ k ≤ l.length ∧ TwinP w1 P bb ⟨a, m, c⟩ k wr)
          case atStart => exact ⟨0, rfl, rfl, Nat.zero_le _, HT3.out⟩
          case round =>
            obtain ⟨k, hg, rfl, hk, hT⟩ := hrel
            have HGK := Lib.hid hg
            have HT := Lib.hid hT
            have HBW := Lib.hid (show Below W.heap.size W wr by obtain ⟨_, _, _, _, _, _, h⟩ := hT; exact HB1.out.trans (h.st.below.mono HB1.out.size))
            clear hg hT
            by_cases hlt : k < l.length
            · obtain ⟨y, hy⟩ : ∃ y, l[k]? = some y := ⟨_, List.getElem?_eq_getElem hlt⟩
              obtain ⟨g, off, cap', hv, hc⟩ := (HA.out.below HBW.out).at hy
              cases hv
              have HY := Lib.hid (HOK0.out y (List.mem_of_getElem? hy))
              have HRA := Lib.hid hc
              have HCX := Lib.hid (show ∀ w', Below w1.heap.size w1 w' → ∀ j u, (encPa y)[j]? = some u → w'.cell? ⟨g, off + k * 10 + j, none⟩ = some u from fun w' hb j u hu => by
                obtain ⟨g', off', cap', hv', hc'⟩ := (HA.out.below (HB1.out.trans (hb.mono HB1.out.size))).at hy
                cases hv'
                exact hc' j u hu)
              have hkl : (k : Int) < (l.length : Int) := by omega
              clear hy hc
              go_wp2_with (refine wpList_load_mid rfl 27 _ rfl g (off + k * 10) rfl (encPa y) _ HRA.out Tryz.underlying27 rfl (pa_szE y) ?_)
              refine (long17_any y wr).mono ?_
              rintro e w2' ⟨rfl, hb2'⟩
              have HT2 := Lib.hid (HT.out.on hb2')
              have HBV := Lib.hid (HBW.out.trans (hb2'.mono HBW.out.size))
              clear hb2'
              rcases hly : longB y with _ | _
              · have HLG := Lib.hid (show y.e.need.size ≤ 200 ∧ y.plat.size ≤ 200 by
                  unfold longB at hly
                  simp only [Bool.or_eq_false_iff, decide_eq_false_iff_not] at hly
                  omega)
                have HKK := Lib.hid (show k ≤ 200 by have := HG.out.1; omega)
                have HTD := Lib.hid (show TwinP w1 P bb ⟨a, m, c⟩ k w2'.drew from HT2.out.on ⟨rfl, rfl, rfl, Nat.le_refl _, fun _ _ => rfl⟩)
                have HRD := Lib.hid (show Ready w2'.drew from HR.out.below (HBV.out.trans ⟨rfl, rfl, rfl, Nat.le_refl _, fun _ _ => rfl⟩))
                have hcx := HCX.out w2' (by obtain ⟨_, _, _, _, _, _, h⟩ := HT2.out; exact h.st.below)
                have x0 : w2'.cell? ⟨g, off + k * 10, none⟩ = some (.int .i64 y.kind) := hcx 0 _ rfl
                have x1 : w2'.cell? ⟨g, off + k * 10 + 1, none⟩ = some (.string y.e.need) := hcx 1 _ rfl
                have x2 : w2'.cell? ⟨g, off + k * 10 + 2, none⟩ = some (.int .i64 y.e.cls) := hcx 2 _ rfl
                have x3 : w2'.cell? ⟨g, off + k * 10 + 3, none⟩ = some (.int .i64 y.e.ten) := hcx 3 _ rfl
                have x4 : w2'.cell? ⟨g, off + k * 10 + 4, none⟩ = some (.int .i64 y.e.tw) := hcx 4 _ rfl
                have x5 : w2'.cell? ⟨g, off + k * 10 + 5, none⟩ = some (.int .i64 y.e.inv) := hcx 5 _ rfl
                have x6 : w2'.cell? ⟨g, off + k * 10 + 6, none⟩ = some (.int .i64 y.e.iw) := hcx 6 _ rfl
                have x7 : w2'.cell? ⟨g, off + k * 10 + 7, none⟩ = some (.int .i64 y.e.id) := hcx 7 _ rfl
                have x8 : w2'.cell? ⟨g, off + k * 10 + 8, none⟩ = some (.int .i64 y.e.cost) := hcx 8 _ rfl
                have x9 : w2'.cell? ⟨g, off + k * 10 + 9, none⟩ = some (.string y.plat) := hcx 9 _ rfl
                clear hly hcx
                go_upto_region 12 with fail
                dsimp only [List.append]
                refine wp_region_noPanic ?_
                refine wp_region_any (by kernel_rfl) ?_
                change wpAny _ _ _ _ _ _ _ (World.drew _)
                refine wpAny_take (i := 0) (oi := ⟨some 72, _, _, _, _, _⟩) (v := ?_) rfl (by kernel_rfl) (by kernel_rfl) (by kernel_rfl) (fun _ _ _ h => h) (Or.inl ⟨by rfl, ?_⟩) ?_
                rotate_left 1
                · intro w
                  go_simp
                  try with_reducible rfl
                try simp only [Act.put, List.setIfInBounds_toArray, List.set_cons_zero, List.set_cons_succ]
                refine wpAny_take (i := 1) (oi := ⟨some 73, _, _, _, _, _⟩) (v := ?_) rfl (by kernel_rfl) (by kernel_rfl) (by kernel_rfl) (fun _ _ _ h => h) (Or.inl ⟨by rfl, ?_⟩) ?_
                rotate_left 1
                · intro w
                  go_simp
                  try with_reducible rfl
                try simp only [Act.put, List.setIfInBounds_toArray, List.set_cons_zero, List.set_cons_succ]
                refine wpAny_take (i := 2) (oi := ⟨some 74, _, _, _, _, _⟩) (v := ?_) rfl (by kernel_rfl) (by kernel_rfl) (by kernel_rfl) (fun _ _ _ h => h) (Or.inl ⟨by rfl, ?_⟩) ?_
                rotate_left 1
                · intro w
                  go_simp
                  try with_reducible rfl
                try simp only [Act.put, List.setIfInBounds_toArray, List.set_cons_zero, List.set_cons_succ]
                refine wpAny_take (i := 3) (oi := ⟨some 75, _, _, _, _, _⟩) (v := ?_) rfl (by kernel_rfl) (by kernel_rfl) (by kernel_rfl) (fun _ _ _ h => h) (Or.inl ⟨by rfl, ?_⟩) ?_
                rotate_left 1
                · intro w
                  go_simp
                  try with_reducible rfl
                try simp only [Act.put, List.setIfInBounds_toArray, List.set_cons_zero, List.set_cons_succ]
                refine wpAny_take (i := 4) (oi := ⟨some 76, _, _, _, _, _⟩) (v := ?_) rfl (by kernel_rfl) (by kernel_rfl) (by kernel_rfl) (fun _ _ _ h => h) (Or.inl ⟨by rfl, ?_⟩) ?_
                rotate_left 1
                · intro w
                  go_simp
                  try with_reducible rfl
                try simp only [Act.put, List.setIfInBounds_toArray, List.set_cons_zero, List.set_cons_succ]
                refine wpAny_ready (rs := [5]) (by kernel_rfl) (by simp) ?_
                refine AllReady.cons (o := ⟨some 77, _, _, _, _, _⟩) rfl (fun K hK => ?_) AllReady.nil
                go_simp
                refine hK _ _ ?_
                clear hK K
                try simp only [Act.put, List.setIfInBounds_toArray, List.set_cons_zero, List.set_cons_succ]
                refine wpAny_ready (rs := [6]) (by kernel_rfl) (by simp) ?_
                refine AllReady.cons (o := ⟨some 78, _, _, _, _, _⟩) rfl (fun K hK => ?_) AllReady.nil
                go_simp
                refine (does17_any y HLG.out.1 HLG.out.2 HY.out.2.1 HY.out.2.2.1 HY.out.2.2.2 HRD.out HTD.out HKK.out).mono ?_
                rintro e w3 ⟨rfl, hT3⟩
                obtain ⟨nx3, v3, L3, ρ3, d3, l3, hB3⟩ := hT3
                have HB3 := Lib.hid hB3
                have e0 : w3.cell? ⟨bb, 0, none⟩ = some (.int .i64 a) := fr_cell_of_heap hB3.doc.head rfl
                have e1 : w3.cell? ⟨bb, 1, none⟩ = some (.int .i64 m) := fr_cell_of_heap hB3.doc.head rfl
                have e2 : w3.cell? ⟨bb, 2, none⟩ = some (.int .i64 c) := fr_cell_of_heap hB3.doc.head rfl
                have e3 : w3.cell? ⟨bb, 3, none⟩ = some (.int .i64 nx3) := fr_cell_of_heap hB3.doc.head rfl
                have e4 : w3.cell? ⟨bb, 4, none⟩ = some d3 := fr_cell_of_heap hB3.doc.head rfl
                have e5 := HCX.out w3 hB3.st.below 1 _ rfl
                have e6 := HCX.out w3 hB3.st.below 2 _ rfl
                obtain ⟨uu, hU1, hU2⟩ := uses_both y.e.need (x := ⟨a, m, c⟩) (next := nx3) (L := L3)
                have HU1 := Lib.hid hU1
                have HU2 := Lib.hid hU2
                have HOK := Lib.hid (hB3.lw.ok (by have := HKK.out; have := HG.out.1; omega))
                have HK1 := Lib.hid (show k + 1 ≤ 200 by have := HG.out.1; omega)
                clear hB3 hU1 hU2 x0 x1 x2 x3 x4 x5 x6 x7 x8 x9
                refine hK _ _ ?_
                clear hK K
                try simp only [Act.put, List.setIfInBounds_toArray, List.set_cons_zero, List.set_cons_succ]
                refine wpAny_take (i := 7) (oi := ⟨some 79, _, _, _, _, _⟩) (v := ?_) rfl (by kernel_rfl) (by kernel_rfl) (by kernel_rfl) (fun _ _ _ h => h) (Or.inl ⟨by rfl, ?_⟩) ?_
                rotate_left 1
                · intro w
                  go_simp
                  try with_reducible rfl
                try simp only [Act.put, List.setIfInBounds_toArray, List.set_cons_zero, List.set_cons_succ]
                refine wpAny_take (i := 8) (oi := ⟨some 80, _, _, _, _, _⟩) (v := ?_) rfl (by kernel_rfl) (by kernel_rfl) (by kernel_rfl) (fun _ _ _ h => h) (Or.inl ⟨by rfl, ?_⟩) ?_
                rotate_left 1
                · intro w
                  go_simp
                  try with_reducible rfl
                try simp only [Act.put, List.setIfInBounds_toArray, List.set_cons_zero, List.set_cons_succ]
                refine wpAny_of_held (S := (fun w' => w'.cell? ⟨bb, 0, none⟩ = some (.int .i64 a) ∧ w'.cell? ⟨bb, 1, none⟩ = some (.int .i64 m) ∧ w'.cell? ⟨bb, 2, none⟩ = some (.int .i64 c) ∧ w'.cell? ⟨bb, 3, none⟩ = some (.int .i64 nx3) ∧ w'.cell? ⟨bb, 4, none⟩ = some d3 ∧ w'.cell? ⟨g, off + k * 10 + 1, none⟩ = some (.string y.e.need) ∧ w'.cell? ⟨g, off + k * 10 + 2, none⟩ = some (.int .i64 y.e.cls))) _ _ _ _ ?_
                have hHeld : (fun w' => w'.cell? ⟨bb, 0, none⟩ = some (.int .i64 a) ∧ w'.cell? ⟨bb, 1, none⟩ = some (.int .i64 m) ∧ w'.cell? ⟨bb, 2, none⟩ = some (.int .i64 c) ∧ w'.cell? ⟨bb, 3, none⟩ = some (.int .i64 nx3) ∧ w'.cell? ⟨bb, 4, none⟩ = some d3 ∧ w'.cell? ⟨g, off + k * 10 + 1, none⟩ = some (.string y.e.need) ∧ w'.cell? ⟨g, off + k * 10 + 2, none⟩ = some (.int .i64 y.e.cls)) w3 := ⟨e0, e1, e2, e3, e4, e5, e6⟩
                refine wpAnyH_take (i := 9) (oi := ⟨some 81, _, _, _, _, _⟩) (v := ?_) rfl (by kernel_rfl) (by kernel_rfl) (by kernel_rfl) (fun _ _ _ h => h) (Or.inl ⟨by rfl, ?_⟩) (by assumption) ?_
                rotate_left 1
                · intro w hSw
                  try dsimp only at hSw
                  go_simp
                  try with_reducible rfl
                try simp only [Act.put, List.setIfInBounds_toArray, List.set_cons_zero, List.set_cons_succ]
                refine wpAnyH_take (i := 10) (oi := ⟨some 82, _, _, _, _, _⟩) (v := ?_) rfl (by kernel_rfl) (by kernel_rfl) (by kernel_rfl) (fun _ _ _ h => h) (Or.inl ⟨by rfl, ?_⟩) (by assumption) ?_
                rotate_left 1
                · intro w hSw
                  try dsimp only at hSw
                  go_simp
                  try with_reducible rfl
                try simp only [Act.put, List.setIfInBounds_toArray, List.set_cons_zero, List.set_cons_succ]
                refine wpAnyH_take (i := 11) (oi := ⟨some 83, _, _, _, _, _⟩) (v := ?_) rfl (by kernel_rfl) (by kernel_rfl) (by kernel_rfl) (fun _ _ _ h => h) (Or.inl ⟨by rfl, ?_⟩) (by assumption) ?_
                rotate_left 1
                · intro w hSw
                  try dsimp only at hSw
                  go_simp
                  try with_reducible rfl
                try simp only [Act.put, List.setIfInBounds_toArray, List.set_cons_zero, List.set_cons_succ]
                refine wpAnyH_take (i := 12) (oi := ⟨some 84, _, _, _, _, _⟩) (v := ?_) rfl (by kernel_rfl) (by kernel_rfl) (by kernel_rfl) (fun _ _ _ h => h) (Or.inl ⟨by rfl, ?_⟩) (by assumption) ?_
                rotate_left 1
                · intro w hSw
                  try dsimp only at hSw
                  go_simp
                  try with_reducible rfl
                try simp only [Act.put, List.setIfInBounds_toArray, List.set_cons_zero, List.set_cons_succ]
                refine wpAnyH_ready (rs := [13]) (by kernel_rfl) (by simp) ?_
                refine AllReadyH.cons (o := ⟨some 85, _, _, _, _, _⟩) rfl (fun K hK => ?_) AllReadyH.nil
                go_simp
                refine (same17_any _ HB3.out HK1.out).mono ?_
                rintro e w4 ⟨rfl, hb4⟩
                have HB4 := Lib.hid (HB3.out.on hb4)
                refine hK.out _ _ ⟨cell_below hb4 e0, cell_below hb4 e1, cell_below hb4 e2, cell_below hb4 e3, cell_below hb4 e4, cell_below hb4 e5, cell_below hb4 e6⟩ (fun hHeld => ?_)
                clear hK K
                try simp only [Act.put, List.setIfInBounds_toArray, List.set_cons_zero, List.set_cons_succ]
                obtain ⟨e0, e1, e2, e3, e4, e5, e6⟩ := hHeld
                have hHeld : (fun w' => w'.cell? ⟨bb, 0, none⟩ = some (.int .i64 a) ∧ w'.cell? ⟨bb, 1, none⟩ = some (.int .i64 m) ∧ w'.cell? ⟨bb, 2, none⟩ = some (.int .i64 c) ∧ w'.cell? ⟨bb, 3, none⟩ = some (.int .i64 nx3) ∧ w'.cell? ⟨bb, 4, none⟩ = some d3 ∧ w'.cell? ⟨g, off + k * 10 + 1, none⟩ = some (.string y.e.need) ∧ w'.cell? ⟨g, off + k * 10 + 2, none⟩ = some (.int .i64 y.e.cls)) w4 := ⟨e0, e1, e2, e3, e4, e5, e6⟩
                clear hb4
                refine wpAnyH_take (i := 14) (oi := ⟨some 86, _, _, _, _, _⟩) (v := ?_) rfl (by kernel_rfl) (by kernel_rfl) (by kernel_rfl) (fun _ _ _ h => h) (Or.inl ⟨by rfl, ?_⟩) (by assumption) ?_
                rotate_left 1
                · intro w hSw
                  try dsimp only at hSw
                  go_simp
                  try with_reducible rfl
                try simp only [Act.put, List.setIfInBounds_toArray, List.set_cons_zero, List.set_cons_succ]
                refine wpAnyH_take (i := 15) (oi := ⟨some 87, _, _, _, _, _⟩) (v := ?_) rfl (by kernel_rfl) (by kernel_rfl) (by kernel_rfl) (fun _ _ _ h => h) (Or.inl ⟨by rfl, ?_⟩) (by assumption) ?_
                rotate_left 1
                · intro w hSw
                  try dsimp only at hSw
                  go_simp
                  try with_reducible rfl
                try simp only [Act.put, List.setIfInBounds_toArray, List.set_cons_zero, List.set_cons_succ]
                refine wpAnyH_take (i := 16) (oi := ⟨some 88, _, _, _, _, _⟩) (v := ?_) rfl (by kernel_rfl) (by kernel_rfl) (by kernel_rfl) (fun _ _ _ h => h) (Or.inl ⟨by rfl, ?_⟩) (by assumption) ?_
                rotate_left 1
                · intro w hSw
                  try dsimp only at hSw
                  go_simp
                  try with_reducible rfl
                try simp only [Act.put, List.setIfInBounds_toArray, List.set_cons_zero, List.set_cons_succ]
                refine wpAnyH_take (i := 17) (oi := ⟨some 89, _, _, _, _, _⟩) (v := ?_) rfl (by kernel_rfl) (by kernel_rfl) (by kernel_rfl) (fun _ _ _ h => h) (Or.inl ⟨by rfl, ?_⟩) (by assumption) ?_
                rotate_left 1
                · intro w hSw
                  try dsimp only at hSw
                  go_simp
                  try with_reducible rfl
                try simp only [Act.put, List.setIfInBounds_toArray, List.set_cons_zero, List.set_cons_succ]
                refine wpAnyH_take (i := 18) (oi := ⟨some 90, _, _, _, _, _⟩) (v := ?_) rfl (by kernel_rfl) (by kernel_rfl) (by kernel_rfl) (fun _ _ _ h => h) (Or.inl ⟨by rfl, ?_⟩) (by assumption) ?_
                rotate_left 1
                · intro w hSw
                  try dsimp only at hSw
                  go_simp
                  try with_reducible rfl
                try simp only [Act.put, List.setIfInBounds_toArray, List.set_cons_zero, List.set_cons_succ]
                refine wpAnyH_take (i := 19) (oi := ⟨some 91, _, _, _, _, _⟩) (v := ?_) rfl (by kernel_rfl) (by kernel_rfl) (by kernel_rfl) (fun _ _ _ h => h) (Or.inl ⟨by rfl, ?_⟩) (by assumption) ?_
                rotate_left 1
                · intro w hSw
                  try dsimp only at hSw
                  go_simp
                  try with_reducible rfl
                try simp only [Act.put, List.setIfInBounds_toArray, List.set_cons_zero, List.set_cons_succ]
                refine wpAnyH_take (i := 20) (oi := ⟨some 92, _, _, _, _, _⟩) (v := ?_) rfl (by kernel_rfl) (by kernel_rfl) (by kernel_rfl) (fun _ _ _ h => h) (Or.inl ⟨by rfl, ?_⟩) (by assumption) ?_
                rotate_left 1
                · intro w hSw
                  try dsimp only at hSw
                  go_simp
                  try with_reducible rfl
                try simp only [Act.put, List.setIfInBounds_toArray, List.set_cons_zero, List.set_cons_succ]
                refine wpAnyH_take (i := 21) (oi := ⟨some 93, _, _, _, _, _⟩) (v := ?_) rfl (by kernel_rfl) (by kernel_rfl) (by kernel_rfl) (fun _ _ _ h => h) (Or.inl ⟨by rfl, ?_⟩) (by assumption) ?_
                rotate_left 1
                · intro w hSw
                  try dsimp only at hSw
                  go_simp
                  try with_reducible rfl
                try simp only [Act.put, List.setIfInBounds_toArray, List.set_cons_zero, List.set_cons_succ]
                refine wpAnyH_take (i := 22) (oi := ⟨some 94, _, _, _, _, _⟩) (v := ?_) rfl (by kernel_rfl) (by kernel_rfl) (by kernel_rfl) (fun _ _ _ h => h) (Or.inl ⟨by rfl, ?_⟩) (by assumption) ?_
                rotate_left 1
                · intro w hSw
                  try dsimp only at hSw
                  go_simp
                  try with_reducible rfl
                try simp only [Act.put, List.setIfInBounds_toArray, List.set_cons_zero, List.set_cons_succ]
                refine wpAnyH_take (i := 23) (oi := ⟨some 95, _, _, _, _, _⟩) (v := ?_) rfl (by kernel_rfl) (by kernel_rfl) (by kernel_rfl) (fun _ _ _ h => h) (Or.inl ⟨by rfl, ?_⟩) (by assumption) ?_
                rotate_left 1
                · intro w hSw
                  try dsimp only at hSw
                  go_simp
                  try with_reducible rfl
                try simp only [Act.put, List.setIfInBounds_toArray, List.set_cons_zero, List.set_cons_succ]
                refine wpAnyH_take (i := 25) (oi := ⟨some 97, _, _, _, _, _⟩) (v := ?_) rfl (by kernel_rfl) (by kernel_rfl) (by kernel_rfl) (fun _ _ _ h => h) (Or.inl ⟨by rfl, ?_⟩) (by assumption) ?_
                rotate_left 1
                · intro w hSw
                  try dsimp only at hSw
                  go_simp
                  try with_reducible rfl
                try simp only [Act.put, List.setIfInBounds_toArray, List.set_cons_zero, List.set_cons_succ]
                refine wpAnyH_take (i := 26) (oi := ⟨some 98, _, _, _, _, _⟩) (v := ?_) rfl (by kernel_rfl) (by kernel_rfl) (by kernel_rfl) (fun _ _ _ h => h) (Or.inl ⟨by rfl, ?_⟩) (by assumption) ?_
                rotate_left 1
                · intro w hSw
                  try dsimp only at hSw
                  go_simp
                  try with_reducible rfl
                try simp only [Act.put, List.setIfInBounds_toArray, List.set_cons_zero, List.set_cons_succ]
                refine wpAnyH_take (i := 27) (oi := ⟨some 99, _, _, _, _, _⟩) (v := ?_) rfl (by kernel_rfl) (by kernel_rfl) (by kernel_rfl) (fun _ _ _ h => h) (Or.inl ⟨by rfl, ?_⟩) (by assumption) ?_
                rotate_left 1
                · intro w hSw
                  try dsimp only at hSw
                  go_simp
                  try with_reducible rfl
                try simp only [Act.put, List.setIfInBounds_toArray, List.set_cons_zero, List.set_cons_succ]
                refine wpAnyH_take (i := 28) (oi := ⟨some 100, _, _, _, _, _⟩) (v := ?_) rfl (by kernel_rfl) (by kernel_rfl) (by kernel_rfl) (fun _ _ _ h => h) (Or.inl ⟨by rfl, ?_⟩) (by assumption) ?_
                rotate_left 1
                · intro w hSw
                  try dsimp only at hSw
                  go_simp
                  try with_reducible rfl
                try simp only [Act.put, List.setIfInBounds_toArray, List.set_cons_zero, List.set_cons_succ]
                refine wpAnyH_take (i := 29) (oi := ⟨some 101, _, _, _, _, _⟩) (v := ?_) rfl (by kernel_rfl) (by kernel_rfl) (by kernel_rfl) (fun _ _ _ h => h) (Or.inl ⟨by rfl, ?_⟩) (by assumption) ?_
                rotate_left 1
                · intro w hSw
                  try dsimp only at hSw
                  go_simp
                  try with_reducible rfl
                try simp only [Act.put, List.setIfInBounds_toArray, List.set_cons_zero, List.set_cons_succ]
                refine wpAnyH_take (i := 30) (oi := ⟨some 102, _, _, _, _, _⟩) (v := ?_) rfl (by kernel_rfl) (by kernel_rfl) (by kernel_rfl) (fun _ _ _ h => h) (Or.inl ⟨by rfl, ?_⟩) (by assumption) ?_
                rotate_left 1
                · intro w hSw
                  try dsimp only at hSw
                  go_simp
                  try with_reducible rfl
                try simp only [Act.put, List.setIfInBounds_toArray, List.set_cons_zero, List.set_cons_succ]
                refine wpAnyH_take (i := 31) (oi := ⟨some 103, _, _, _, _, _⟩) (v := ?_) rfl (by kernel_rfl) (by kernel_rfl) (by kernel_rfl) (fun _ _ _ h => h) (Or.inl ⟨by rfl, ?_⟩) (by assumption) ?_
                rotate_left 1
                · intro w hSw
                  try dsimp only at hSw
                  go_simp
                  try with_reducible rfl
                try simp only [Act.put, List.setIfInBounds_toArray, List.set_cons_zero, List.set_cons_succ]
                refine wpAnyH_take (i := 32) (oi := ⟨some 104, _, _, _, _, _⟩) (v := ?_) rfl (by kernel_rfl) (by kernel_rfl) (by kernel_rfl) (fun _ _ _ h => h) (Or.inl ⟨by rfl, ?_⟩) (by assumption) ?_
                rotate_left 1
                · intro w hSw
                  try dsimp only at hSw
                  go_simp
                  try with_reducible rfl
                try simp only [Act.put, List.setIfInBounds_toArray, List.set_cons_zero, List.set_cons_succ]
                refine wpAnyH_take (i := 33) (oi := ⟨some 105, _, _, _, _, _⟩) (v := ?_) rfl (by kernel_rfl) (by kernel_rfl) (by kernel_rfl) (fun _ _ _ h => h) (Or.inl ⟨by rfl, ?_⟩) (by assumption) ?_
                rotate_left 1
                · intro w hSw
                  try dsimp only at hSw
                  go_simp
                  try with_reducible rfl
                try simp only [Act.put, List.setIfInBounds_toArray, List.set_cons_zero, List.set_cons_succ]
                refine wpAnyH_ready (rs := [24]) (by kernel_rfl) (by simp) ?_
                refine AllReadyH.cons (o := ⟨some 96, _, _, _, _, _⟩) rfl (fun K hK => ?_) AllReadyH.nil
                go_simp
                refine (HU1.out P v3 ρ3 _ HB4.out.st.pool HOK.out).mono ?_
                rintro e w5 ⟨rfl, hb5⟩
                have HB5 := Lib.hid (HB4.out.on hb5)
                refine hK.out _ _ ⟨cell_below hb5 e0, cell_below hb5 e1, cell_below hb5 e2, cell_below hb5 e3, cell_below hb5 e4, cell_below hb5 e5, cell_below hb5 e6⟩ (fun hHeld => ?_)
                clear hK K
                try simp only [Act.put, List.setIfInBounds_toArray, List.set_cons_zero, List.set_cons_succ]
                obtain ⟨e0, e1, e2, e3, e4, e5, e6⟩ := hHeld
                have hHeld : (fun w' => w'.cell? ⟨bb, 0, none⟩ = some (.int .i64 a) ∧ w'.cell? ⟨bb, 1, none⟩ = some (.int .i64 m) ∧ w'.cell? ⟨bb, 2, none⟩ = some (.int .i64 c) ∧ w'.cell? ⟨bb, 3, none⟩ = some (.int .i64 nx3) ∧ w'.cell? ⟨bb, 4, none⟩ = some d3 ∧ w'.cell? ⟨g, off + k * 10 + 1, none⟩ = some (.string y.e.need) ∧ w'.cell? ⟨g, off + k * 10 + 2, none⟩ = some (.int .i64 y.e.cls)) w5 := ⟨e0, e1, e2, e3, e4, e5, e6⟩
                clear hb5
                refine wpAnyH_ready (rs := [34]) (by kernel_rfl) (by simp) ?_
                refine AllReadyH.cons (o := ⟨some 106, _, _, _, _, _⟩) rfl (fun K hK => ?_) AllReadyH.nil
                go_simp
                refine (HU2.out d3 l3 nx3 _ HB5.out.doc.rows (by have := HB5.out.doc.few; omega) HB5.out.abs).mono ?_
                rintro e w6 ⟨rfl, hb6⟩
                have HB6 := Lib.hid (HB5.out.on hb6)
                refine hK.out _ _ ⟨cell_below hb6 e0, cell_below hb6 e1, cell_below hb6 e2, cell_below hb6 e3, cell_below hb6 e4, cell_below hb6 e5, cell_below hb6 e6⟩ (fun hHeld => ?_)
                clear hK K
                try simp only [Act.put, List.setIfInBounds_toArray, List.set_cons_zero, List.set_cons_succ]
                obtain ⟨e0, e1, e2, e3, e4, e5, e6⟩ := hHeld
                have hHeld : (fun w' => w'.cell? ⟨bb, 0, none⟩ = some (.int .i64 a) ∧ w'.cell? ⟨bb, 1, none⟩ = some (.int .i64 m) ∧ w'.cell? ⟨bb, 2, none⟩ = some (.int .i64 c) ∧ w'.cell? ⟨bb, 3, none⟩ = some (.int .i64 nx3) ∧ w'.cell? ⟨bb, 4, none⟩ = some d3 ∧ w'.cell? ⟨g, off + k * 10 + 1, none⟩ = some (.string y.e.need) ∧ w'.cell? ⟨g, off + k * 10 + 2, none⟩ = some (.int .i64 y.e.cls)) w6 := ⟨e0, e1, e2, e3, e4, e5, e6⟩
                clear hb6
                refine wpAnyH_take (i := 35) (oi := ⟨some 107, _, _, _, _, _⟩) (v := ?_) rfl (by kernel_rfl) (by kernel_rfl) (by kernel_rfl) (fun _ _ _ h => h) (Or.inl ⟨by rfl, ?_⟩) (by assumption) ?_
                rotate_left 1
                · intro w hSw
                  try dsimp only at hSw
                  go_simp
                  try with_reducible rfl
                try simp only [Act.put, List.setIfInBounds_toArray, List.set_cons_zero, List.set_cons_succ]
                refine wpAnyH_take (i := 36) (oi := ⟨some 108, _, _, _, _, _⟩) (v := ?_) rfl (by kernel_rfl) (by kernel_rfl) (by kernel_rfl) (fun _ _ _ h => h) (Or.inl ⟨by rfl, ?_⟩) (by assumption) ?_
                rotate_left 1
                · intro w hSw
                  try dsimp only at hSw
                  go_simp
                  try with_reducible rfl
                try simp only [Act.put, List.setIfInBounds_toArray, List.set_cons_zero, List.set_cons_succ]
                refine wpAnyH_take (i := 37) (oi := ⟨some 109, _, _, _, _, _⟩) (v := ?_) rfl (by kernel_rfl) (by kernel_rfl) (by kernel_rfl) (fun _ _ _ h => h) (Or.inl ⟨by rfl, ?_⟩) (by assumption) ?_
                rotate_left 1
                · intro w hSw
                  try dsimp only at hSw
                  go_simp
                  try with_reducible rfl
                try simp only [Act.put, List.setIfInBounds_toArray, List.set_cons_zero, List.set_cons_succ]
                refine wpAnyH_take (i := 38) (oi := ⟨some 110, _, _, _, _, _⟩) (v := ?_) rfl (by kernel_rfl) (by kernel_rfl) (by kernel_rfl) (fun _ _ _ h => h) (Or.inl ⟨by rfl, ?_⟩) (by assumption) ?_
                rotate_left 1
                · intro w hSw
                  try dsimp only at hSw
                  go_simp
                  try with_reducible rfl
                try simp only [Act.put, List.setIfInBounds_toArray, List.set_cons_zero, List.set_cons_succ]
                refine wpAnyH_take (i := 39) (oi := ⟨some 111, _, _, _, _, _⟩) (v := ?_) rfl (by kernel_rfl) (by kernel_rfl) (by kernel_rfl) (fun _ _ _ h => h) (Or.inl ⟨by rfl, ?_⟩) (by assumption) ?_
                rotate_left 1
                · intro w hSw
                  try dsimp only at hSw
                  go_simp
                  try with_reducible rfl
                try simp only [Act.put, List.setIfInBounds_toArray, List.set_cons_zero, List.set_cons_succ]
                refine wpAnyH_take (i := 40) (oi := ⟨some 112, _, _, _, _, _⟩) (v := ?_) rfl (by kernel_rfl) (by kernel_rfl) (by kernel_rfl) (fun _ _ _ h => h) (Or.inl ⟨by rfl, ?_⟩) (by assumption) ?_
                rotate_left 1
                · intro w hSw
                  try dsimp only at hSw
                  go_simp
                  try with_reducible rfl
                try simp only [Act.put, List.setIfInBounds_toArray, List.set_cons_zero, List.set_cons_succ]
                refine wpAnyH_take (i := 41) (oi := ⟨some 113, _, _, _, _, _⟩) (v := ?_) rfl (by kernel_rfl) (by kernel_rfl) (by kernel_rfl) (fun _ _ _ h => h) (Or.inl ⟨by rfl, ?_⟩) (by assumption) ?_
                rotate_left 1
                · intro w hSw
                  try dsimp only at hSw
                  go_simp
                  try with_reducible rfl
                try simp only [Act.put, List.setIfInBounds_toArray, List.set_cons_zero, List.set_cons_succ]
                refine wpAnyH_take (i := 42) (oi := ⟨some 114, _, _, _, _, _⟩) (v := ?_) rfl (by kernel_rfl) (by kernel_rfl) (by kernel_rfl) (fun _ _ _ h => h) (Or.inl ⟨by rfl, ?_⟩) (by assumption) ?_
                rotate_left 1
                · intro w hSw
                  try dsimp only at hSw
                  go_simp
                  try with_reducible rfl
                try simp only [Act.put, List.setIfInBounds_toArray, List.set_cons_zero, List.set_cons_succ]
                refine wpAnyH_take (i := 43) (oi := ⟨some 115, _, _, _, _, _⟩) (v := ?_) rfl (by kernel_rfl) (by kernel_rfl) (by kernel_rfl) (fun _ _ _ h => h) (Or.inl ⟨by rfl, ?_⟩) (by assumption) ?_
                rotate_left 1
                · intro w hSw
                  try dsimp only at hSw
                  go_simp
                  try with_reducible rfl
                try simp only [Act.put, List.setIfInBounds_toArray, List.set_cons_zero, List.set_cons_succ]
                refine wpAnyH_take (i := 44) (oi := ⟨some 116, _, _, _, _, _⟩) (v := ?_) rfl (by kernel_rfl) (by kernel_rfl) (by kernel_rfl) (fun _ _ _ h => h) (Or.inl ⟨by rfl, ?_⟩) (by assumption) ?_
                rotate_left 1
                · intro w hSw
                  try dsimp only at hSw
                  go_simp
                  try with_reducible rfl
                try simp only [Act.put, List.setIfInBounds_toArray, List.set_cons_zero, List.set_cons_succ]
                refine wpAnyH_take (i := 45) (oi := ⟨some 117, _, _, _, _, _⟩) (v := ?_) rfl (by kernel_rfl) (by kernel_rfl) (by kernel_rfl) (fun _ _ _ h => h) (Or.inl ⟨by rfl, ?_⟩) (by assumption) ?_
                rotate_left 1
                · intro w hSw
                  try dsimp only at hSw
                  go_simp
                  try with_reducible rfl
                try simp only [Act.put, List.setIfInBounds_toArray, List.set_cons_zero, List.set_cons_succ]
                refine wpAnyH_take (i := 46) (oi := ⟨some 118, _, _, _, _, _⟩) (v := ?_) rfl (by kernel_rfl) (by kernel_rfl) (by kernel_rfl) (fun _ _ _ h => h) (Or.inl ⟨by rfl, ?_⟩) (by assumption) ?_
                rotate_left 1
                · intro w hSw
                  try dsimp only at hSw
                  go_simp
                  try with_reducible rfl
                try simp only [Act.put, List.setIfInBounds_toArray, List.set_cons_zero, List.set_cons_succ]
                refine wpAnyH_take (i := 47) (oi := ⟨some 119, _, _, _, _, _⟩) (v := ?_) rfl (by kernel_rfl) (by kernel_rfl) (by kernel_rfl) (fun _ _ _ h => h) (Or.inl ⟨by rfl, ?_⟩) (by assumption) ?_
                rotate_left 1
                · intro w hSw
                  try dsimp only at hSw
                  go_simp
                  try with_reducible rfl
                try simp only [Act.put, List.setIfInBounds_toArray, List.set_cons_zero, List.set_cons_succ]
                refine wpAnyH_take (i := 48) (oi := ⟨some 120, _, _, _, _, _⟩) (v := ?_) rfl (by kernel_rfl) (by kernel_rfl) (by kernel_rfl) (fun _ _ _ h => h) (Or.inl ⟨by rfl, ?_⟩) (by assumption) ?_
                rotate_left 1
                · intro w hSw
                  try dsimp only at hSw
                  go_simp
                  try with_reducible rfl
                try simp only [Act.put, List.setIfInBounds_toArray, List.set_cons_zero, List.set_cons_succ]
                refine wpAnyH_take (i := 49) (oi := ⟨some 121, _, _, _, _, _⟩) (v := ?_) rfl (by kernel_rfl) (by kernel_rfl) (by kernel_rfl) (fun _ _ _ h => h) (Or.inl ⟨by rfl, ?_⟩) (by assumption) ?_
                rotate_left 1
                · intro w hSw
                  try dsimp only at hSw
                  go_simp
                  try with_reducible rfl
                try simp only [Act.put, List.setIfInBounds_toArray, List.set_cons_zero, List.set_cons_succ]
                refine wpAnyH_take (i := 50) (oi := ⟨some 122, _, _, _, _, _⟩) (v := ?_) rfl (by kernel_rfl) (by kernel_rfl) (by kernel_rfl) (fun _ _ _ h => h) (Or.inl ⟨by rfl, ?_⟩) (by assumption) ?_
                rotate_left 1
                · intro w hSw
                  try dsimp only at hSw
                  go_simp
                  try with_reducible rfl
                try simp only [Act.put, List.setIfInBounds_toArray, List.set_cons_zero, List.set_cons_succ]
                refine wpAnyH_take (i := 52) (oi := ⟨some 124, _, _, _, _, _⟩) (v := ?_) rfl (by kernel_rfl) (by kernel_rfl) (by kernel_rfl) (fun _ _ _ h => h) (Or.inl ⟨by rfl, ?_⟩) (by assumption) ?_
                rotate_left 1
                · intro w hSw
                  try dsimp only at hSw
                  go_simp
                  try with_reducible rfl
                try simp only [Act.put, List.setIfInBounds_toArray, List.set_cons_zero, List.set_cons_succ]
                refine wpAnyH_take (i := 53) (oi := ⟨some 125, _, _, _, _, _⟩) (v := ?_) rfl (by kernel_rfl) (by kernel_rfl) (by kernel_rfl) (fun _ _ _ h => h) (Or.inl ⟨by rfl, ?_⟩) (by assumption) ?_
                rotate_left 1
                · intro w hSw
                  try dsimp only at hSw
                  go_simp
                  try with_reducible rfl
                try simp only [Act.put, List.setIfInBounds_toArray, List.set_cons_zero, List.set_cons_succ]
                refine wpAnyH_take (i := 54) (oi := ⟨some 126, _, _, _, _, _⟩) (v := ?_) rfl (by kernel_rfl) (by kernel_rfl) (by kernel_rfl) (fun _ _ _ h => h) (Or.inl ⟨by rfl, ?_⟩) (by assumption) ?_
                rotate_left 1
                · intro w hSw
                  try dsimp only at hSw
                  go_simp
                  try with_reducible rfl
                try simp only [Act.put, List.setIfInBounds_toArray, List.set_cons_zero, List.set_cons_succ]
                refine wpAnyH_take (i := 55) (oi := ⟨some 127, _, _, _, _, _⟩) (v := ?_) rfl (by kernel_rfl) (by kernel_rfl) (by kernel_rfl) (fun _ _ _ h => h) (Or.inl ⟨by rfl, ?_⟩) (by assumption) ?_
                rotate_left 1
                · intro w hSw
                  try dsimp only at hSw
                  go_simp
                  try with_reducible rfl
                try simp only [Act.put, List.setIfInBounds_toArray, List.set_cons_zero, List.set_cons_succ]
                refine wpAnyH_take (i := 56) (oi := ⟨some 128, _, _, _, _, _⟩) (v := ?_) rfl (by kernel_rfl) (by kernel_rfl) (by kernel_rfl) (fun _ _ _ h => h) (Or.inl ⟨by rfl, ?_⟩) (by assumption) ?_
                rotate_left 1
                · intro w hSw
                  try dsimp only at hSw
                  go_simp
                  try with_reducible rfl
                try simp only [Act.put, List.setIfInBounds_toArray, List.set_cons_zero, List.set_cons_succ]
                refine wpAnyH_take (i := 57) (oi := ⟨some 129, _, _, _, _, _⟩) (v := ?_) rfl (by kernel_rfl) (by kernel_rfl) (by kernel_rfl) (fun _ _ _ h => h) (Or.inl ⟨by rfl, ?_⟩) (by assumption) ?_
                rotate_left 1
                · intro w hSw
                  try dsimp only at hSw
                  go_simp
                  try with_reducible rfl
                try simp only [Act.put, List.setIfInBounds_toArray, List.set_cons_zero, List.set_cons_succ]
                refine wpAnyH_take (i := 58) (oi := ⟨some 130, _, _, _, _, _⟩) (v := ?_) rfl (by kernel_rfl) (by kernel_rfl) (by kernel_rfl) (fun _ _ _ h => h) (Or.inl ⟨by rfl, ?_⟩) (by assumption) ?_
                rotate_left 1
                · intro w hSw
                  try dsimp only at hSw
                  go_simp
                  try with_reducible rfl
                try simp only [Act.put, List.setIfInBounds_toArray, List.set_cons_zero, List.set_cons_succ]
                refine wpAnyH_take (i := 59) (oi := ⟨some 131, _, _, _, _, _⟩) (v := ?_) rfl (by kernel_rfl) (by kernel_rfl) (by kernel_rfl) (fun _ _ _ h => h) (Or.inl ⟨by rfl, ?_⟩) (by assumption) ?_
                rotate_left 1
                · intro w hSw
                  try dsimp only at hSw
                  go_simp
                  try with_reducible rfl
                try simp only [Act.put, List.setIfInBounds_toArray, List.set_cons_zero, List.set_cons_succ]
                refine wpAnyH_take (i := 60) (oi := ⟨some 132, _, _, _, _, _⟩) (v := ?_) rfl (by kernel_rfl) (by kernel_rfl) (by kernel_rfl) (fun _ _ _ h => h) (Or.inl ⟨by rfl, ?_⟩) (by assumption) ?_
                rotate_left 1
                · intro w hSw
                  try dsimp only at hSw
                  go_simp
                  try with_reducible rfl
                try simp only [Act.put, List.setIfInBounds_toArray, List.set_cons_zero, List.set_cons_succ]
                refine wpAnyH_take (i := 61) (oi := ⟨some 133, _, _, _, _, _⟩) (v := ?_) rfl (by kernel_rfl) (by kernel_rfl) (by kernel_rfl) (fun _ _ _ h => h) (Or.inl ⟨by rfl, ?_⟩) (by assumption) ?_
                rotate_left 1
                · intro w hSw
                  try dsimp only at hSw
                  go_simp
                  try with_reducible rfl
                try simp only [Act.put, List.setIfInBounds_toArray, List.set_cons_zero, List.set_cons_succ]
                refine wpAnyH_take (i := 62) (oi := ⟨some 134, _, _, _, _, _⟩) (v := ?_) rfl (by kernel_rfl) (by kernel_rfl) (by kernel_rfl) (fun _ _ _ h => h) (Or.inl ⟨by rfl, ?_⟩) (by assumption) ?_
                rotate_left 1
                · intro w hSw
                  try dsimp only at hSw
                  go_simp
                  try with_reducible rfl
                try simp only [Act.put, List.setIfInBounds_toArray, List.set_cons_zero, List.set_cons_succ]
                refine wpAnyH_take (i := 63) (oi := ⟨some 135, _, _, _, _, _⟩) (v := ?_) rfl (by kernel_rfl) (by kernel_rfl) (by kernel_rfl) (fun _ _ _ h => h) (Or.inl ⟨by rfl, ?_⟩) (by assumption) ?_
                rotate_left 1
                · intro w hSw
                  try dsimp only at hSw
                  go_simp
                  try with_reducible rfl
                try simp only [Act.put, List.setIfInBounds_toArray, List.set_cons_zero, List.set_cons_succ]
                refine wpAnyH_take (i := 64) (oi := ⟨some 136, _, _, _, _, _⟩) (v := ?_) rfl (by kernel_rfl) (by kernel_rfl) (by kernel_rfl) (fun _ _ _ h => h) (Or.inl ⟨by rfl, ?_⟩) (by assumption) ?_
                rotate_left 1
                · intro w hSw
                  try dsimp only at hSw
                  go_simp
                  try with_reducible rfl
                try simp only [Act.put, List.setIfInBounds_toArray, List.set_cons_zero, List.set_cons_succ]
                refine wpAnyH_take (i := 65) (oi := ⟨some 137, _, _, _, _, _⟩) (v := ?_) rfl (by kernel_rfl) (by kernel_rfl) (by kernel_rfl) (fun _ _ _ h => h) (Or.inl ⟨by rfl, ?_⟩) (by assumption) ?_
                rotate_left 1
                · intro w hSw
                  try dsimp only at hSw
                  go_simp
                  try with_reducible rfl
                try simp only [Act.put, List.setIfInBounds_toArray, List.set_cons_zero, List.set_cons_succ]
                refine wpAnyH_take (i := 66) (oi := ⟨some 138, _, _, _, _, _⟩) (v := ?_) rfl (by kernel_rfl) (by kernel_rfl) (by kernel_rfl) (fun _ _ _ h => h) (Or.inl ⟨by rfl, ?_⟩) (by assumption) ?_
                rotate_left 1
                · intro w hSw
                  try dsimp only at hSw
                  go_simp
                  try with_reducible rfl
                try simp only [Act.put, List.setIfInBounds_toArray, List.set_cons_zero, List.set_cons_succ]
                refine wpAnyH_ready (rs := [51]) (by kernel_rfl) (by simp) ?_
                refine AllReadyH.cons (o := ⟨some 123, _, _, _, _, _⟩) rfl (fun K hK => ?_) AllReadyH.nil
                go_simp
                obtain ⟨uw, hw1, hw2⟩ := waits_both y.e.need y.e.cls _ HB6.out.st.pool HB6.out.lw HK1.out
                have HW2 := Lib.hid hw2
                refine hw1.mono ?_
                rintro e w7 ⟨rfl, hb7⟩
                have HB7 := Lib.hid (HB6.out.on hb7)
                clear hw1 hw2
                refine hK.out _ _ ⟨cell_below hb7 e0, cell_below hb7 e1, cell_below hb7 e2, cell_below hb7 e3, cell_below hb7 e4, cell_below hb7 e5, cell_below hb7 e6⟩ (fun hHeld => ?_)
                clear hK K
                try simp only [Act.put, List.setIfInBounds_toArray, List.set_cons_zero, List.set_cons_succ]
                obtain ⟨e0, e1, e2, e3, e4, e5, e6⟩ := hHeld
                have hHeld : (fun w' => w'.cell? ⟨bb, 0, none⟩ = some (.int .i64 a) ∧ w'.cell? ⟨bb, 1, none⟩ = some (.int .i64 m) ∧ w'.cell? ⟨bb, 2, none⟩ = some (.int .i64 c) ∧ w'.cell? ⟨bb, 3, none⟩ = some (.int .i64 nx3) ∧ w'.cell? ⟨bb, 4, none⟩ = some d3 ∧ w'.cell? ⟨g, off + k * 10 + 1, none⟩ = some (.string y.e.need) ∧ w'.cell? ⟨g, off + k * 10 + 2, none⟩ = some (.int .i64 y.e.cls)) w7 := ⟨e0, e1, e2, e3, e4, e5, e6⟩
                clear hb7
                refine wpAnyH_ready (rs := [67]) (by kernel_rfl) (by simp) ?_
                refine AllReadyH.cons (o := ⟨some 139, _, _, _, _, _⟩) rfl (fun K hK => ?_) AllReadyH.nil
                go_simp
                refine (HW2.out _ bb d3 l3 nx3 _ HB7.out.doc HB7.out.abs).mono ?_
                rintro e w8 ⟨rfl, hb8⟩
                have HB8 := Lib.hid (HB7.out.on hb8)
                refine hK.out _ _ ⟨cell_below hb8 e0, cell_below hb8 e1, cell_below hb8 e2, cell_below hb8 e3, cell_below hb8 e4, cell_below hb8 e5, cell_below hb8 e6⟩ (fun hHeld => ?_)
                clear hK K
                try simp only [Act.put, List.setIfInBounds_toArray, List.set_cons_zero, List.set_cons_succ]
                refine wpAnyH_take (i := 68) (oi := ⟨some 140, _, _, _, _, _⟩) (v := ?_) rfl (by kernel_rfl) (by kernel_rfl) (by kernel_rfl) (fun _ _ _ h => h) (Or.inl ⟨by rfl, ?_⟩) (by assumption) ?_
                rotate_left 1
                · intro w hSw
                  try dsimp only at hSw
                  go_simp
                  try with_reducible rfl
                try simp only [Act.put, List.setIfInBounds_toArray, List.set_cons_zero, List.set_cons_succ]
                refine wpAnyH_take (i := 69) (oi := ⟨some 141, _, _, _, _, _⟩) (v := ?_) rfl (by kernel_rfl) (by kernel_rfl) (by kernel_rfl) (fun _ _ _ h => h) (Or.inl ⟨by rfl, ?_⟩) (by assumption) ?_
                rotate_left 1
                · intro w hSw
                  try dsimp only at hSw
                  go_simp
                  try with_reducible rfl
                try simp only [Act.put, List.setIfInBounds_toArray, List.set_cons_zero, List.set_cons_succ]
                refine wpAnyH_done (by kernel_rfl) ?_ _
                refine NoPanic.normal ?_
                clear hHeld e0 e1 e2 e3 e4 e5 e6
                go_wp2_with fail
                go_roundg (l.length - (k + 1))
                case rel => exact ⟨k + 1, rfl, by go_num, by omega, _, _, _, _, _, _, HB8.out⟩
                case measure => have := HGK.out; omega
              · go_wp2_with fail
                refine (HLV.out _ HBV.out).mono ?_
                rintro e w4 ⟨rfl, hb4⟩
                have HB4 := Lib.hid hb4
                clear hb4
                go_wp2_with fail
                go_ret
                exact ⟨rfl, HB4.out⟩
            · have HBE := HBW.out
              go_wp2_with fail
              refine (HLV.out _ HBE).mono ?_
              rintro e w4 ⟨rfl, hb4⟩
              have HB4 := Lib.hid hb4
              clear hb4
              go_wp2_with fail
              go_ret
              exact ⟨rfl, HB4.out⟩
  · go_wp2_with fail
    refine (pnew_nil a b c w1 hn).mono ?_
    rintro e w2 ⟨rfl, hb2⟩
    have HX2 := Lib.hid ((hb2.block _ (fp_lt_of_heap HX1.out)).trans HX1.out)
    have HB2 := Lib.hid (HB1.out.trans (hb2.mono HB1.out.size))
    clear hb2 i0 i1 i2
    have i0 : w2.cell? ⟨W.heap.size, 0, none⟩ = some (.int .i64 a) := fr_cell_of_heap HX2.out rfl
    have i1 : w2.cell? ⟨W.heap.size, 1, none⟩ = some (.int .i64 b) := fr_cell_of_heap HX2.out rfl
    have i2 : w2.cell? ⟨W.heap.size, 2, none⟩ = some (.int .i64 c) := fr_cell_of_heap HX2.out rfl
    have hcs : 120 < (l.length : Int) ∨ (¬ 120 < (l.length : Int) ∧ 8 < a) ∨ (¬ 120 < (l.length : Int) ∧ ¬ 8 < a ∧ 4 < b) ∨ ((¬ 120 < (l.length : Int) ∧ ¬ 8 < a ∧ ¬ 4 < b) ∧ (a < 1 ∨ (¬ a < 1 ∧ b < 1) ∨ (¬ a < 1 ∧ ¬ b < 1 ∧ c < 1) ∨ (¬ a < 1 ∧ ¬ b < 1 ∧ ¬ c < 1 ∧ 64 < c))) := by omega
    clear hn
    rcases hcs with h1 | ⟨h1, h2⟩ | ⟨h1, h2, h3⟩ | ⟨⟨h1, h2, h3⟩, h4 | ⟨h4, h5⟩ | ⟨h4, h5, h6⟩ | ⟨h4, h5, h6, h7⟩⟩
    all_goals
      go_wp2_with fail
      refine (HLV.out _ HB2.out).mono ?_
      rintro e w4 ⟨rfl, hb4⟩
      have HB4 := Lib.hid hb4
      clear hb4
      go_wp2_with fail
      go_ret
      exact ⟨rfl, HB4.out⟩
end Go.Proofs.YtdbjihkgafhakaaGreatDoor
