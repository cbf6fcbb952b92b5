/-
  state.Same, and the document's: the walks, whatever tells it of the lists.
  state: the first rule that does not hold: IndexFunc over the rules; Wrong of a state that has nothing, and of one whose worker has an operation that is not live: the walks.
  law35: what a configuration that may be has; all rules hold of a state that has nothing; the page's example: the walks.
-/
import Derived.Test.YtjmlimogmmikoaaGreatDoorSx08
import Derived.Deep.Cut
import Derived.Test.YtjmlimogmmikoaaGreatDoorSx10
import Derived.Test.YtjmlimogmmikoaaGreatDoorSx06
import Derived.Test.YtjmlimogmmikoaaGreatDoorSx11
namespace Go.Proofs.YtjmlimogmmikoaaGreatDoor
open Go.RowKit
set_option maxRecDepth 100000 in
set_option maxHeartbeats 8000000 in
theorem stsame_raw (x0 x2 x3 x4 x5 x6 y0 y2 y3 y4 y5 y6 : Int) (xd yd : Bool) (va7 va8 va9 va10 va11 va12 va13 va14 vb7 vb8 vb9 vb10 vb11 vb12 vb13 vb14 : Value) (q7 q8 q9 q10 q11 q12 q13 q14 N K R : Bool) (w : World) (hN : N = ((x0 == y0) && (xd == yd) && (x2 == y2) && (x3 == y3) && (x4 == y4) && (x5 == y5) && (x6 == y6))) (hK : K = (q7 && q8 && q9 && q10)) (hR : R = (q12 && q13 && q14))
    (h7 : ∀ w', Below w.heap.size w w' → Calls Tryz.prog 46 #[va7, vb7] w' (BoolPost q7 w'))
    (h8 : ∀ w', Below w.heap.size w w' → Calls Tryz.prog 46 #[va8, vb8] w' (BoolPost q8 w'))
    (h9 : ∀ w', Below w.heap.size w w' → Calls Tryz.prog 47 #[va9, vb9] w' (BoolPost q9 w'))
    (h10 : ∀ w', Below w.heap.size w w' → Calls Tryz.prog 48 #[va10, vb10] w' (BoolPost q10 w'))
    (h11 : ∀ w', Below w.heap.size w w' → Calls Tryz.prog 52 #[va11, vb11, .func (.func 53) #[] #[]] w' (BoolPost q11 w'))
    (h12 : ∀ w', Below w.heap.size w w' → Calls Tryz.prog 49 #[va12, vb12] w' (BoolPost q12 w'))
    (h13 : ∀ w', Below w.heap.size w w' → Calls Tryz.prog 50 #[va13, vb13] w' (BoolPost q13 w'))
    (h14 : ∀ w', Below w.heap.size w w' → Calls Tryz.prog 51 #[va14, vb14] w' (BoolPost q14 w'))
    : Calls Tryz.prog 12 #[.agg #[.int .u64 x0, .bool xd, .int .i64 x2, .int .i64 x3, .int .i64 x4, .int .i64 x5, .int .i64 x6, va7, va8, va9, va10, va11, va12, va13, va14], .agg #[.int .u64 y0, .bool yd, .int .i64 y2, .int .i64 y3, .int .i64 y4, .int .i64 y5, .int .i64 y6, vb7, vb8, vb9, vb10, vb11, vb12, vb13, vb14]] w (BoolPost (N && K && R && q11) w) := by
  have H7 := Lib.hid h7
  have H8 := Lib.hid h8
  have H9 := Lib.hid h9
  have H10 := Lib.hid h10
  have H11 := Lib.hid h11
  have H12 := Lib.hid h12
  have H13 := Lib.hid h13
  have H14 := Lib.hid h14
  clear h7 h8 h9 h10 h11 h12 h13 h14
  have HX := Lib.hid (show ((w.alloc (.cells #[.int .u64 x0, .bool xd, .int .i64 x2, .int .i64 x3, .int .i64 x4, .int .i64 x5, .int .i64 x6, va7, va8, va9, va10, va11, va12, va13, va14] 42)).alloc (.cells #[.int .u64 y0, .bool yd, .int .i64 y2, .int .i64 y3, .int .i64 y4, .int .i64 y5, .int .i64 y6, vb7, vb8, vb9, vb10, vb11, vb12, vb13, vb14] 42)).heap[w.heap.size]? = some (.cells #[.int .u64 x0, .bool xd, .int .i64 x2, .int .i64 x3, .int .i64 x4, .int .i64 x5, .int .i64 x6, va7, va8, va9, va10, va11, va12, va13, va14] 42 (0, 0)) from fr_alloc_old (heap_alloc_new _ _))
  have HY := Lib.hid (show ((w.alloc (.cells #[.int .u64 x0, .bool xd, .int .i64 x2, .int .i64 x3, .int .i64 x4, .int .i64 x5, .int .i64 x6, va7, va8, va9, va10, va11, va12, va13, va14] 42)).alloc (.cells #[.int .u64 y0, .bool yd, .int .i64 y2, .int .i64 y3, .int .i64 y4, .int .i64 y5, .int .i64 y6, vb7, vb8, vb9, vb10, vb11, vb12, vb13, vb14] 42)).heap[w.heap.size + 1]? = some (.cells #[.int .u64 y0, .bool yd, .int .i64 y2, .int .i64 y3, .int .i64 y4, .int .i64 y5, .int .i64 y6, vb7, vb8, vb9, vb10, vb11, vb12, vb13, vb14] 42 (0, 0)) from heap_alloc_two _ _ _)
  have HB := Lib.hid (show Below w.heap.size w ((w.alloc (.cells #[.int .u64 x0, .bool xd, .int .i64 x2, .int .i64 x3, .int .i64 x4, .int .i64 x5, .int .i64 x6, va7, va8, va9, va10, va11, va12, va13, va14] 42)).alloc (.cells #[.int .u64 y0, .bool yd, .int .i64 y2, .int .i64 y3, .int .i64 y4, .int .i64 y5, .int .i64 y6, vb7, vb8, vb9, vb10, vb11, vb12, vb13, vb14] 42)) from box_below.alloc (by simp) _)
  go_enter Tryz.func12, Tryz.ntmps12
  go_upto_region 1 with fail
  generalize (w.alloc (.cells #[.int .u64 x0, .bool xd, .int .i64 x2, .int .i64 x3, .int .i64 x4, .int .i64 x5, .int .i64 x6, va7, va8, va9, va10, va11, va12, va13, va14] 42)).alloc (.cells #[.int .u64 y0, .bool yd, .int .i64 y2, .int .i64 y3, .int .i64 y4, .int .i64 y5, .int .i64 y6, vb7, vb8, vb9, vb10, vb11, vb12, vb13, vb14] 42) = w2 at HX HY HB ⊢
  go_cut [5] (fun v wc => v = .bool N ∧ wc = w2)
  case first =>
    have a0 : w2.cell? ⟨w.heap.size, 0, none⟩ = some (.int .u64 x0) := fr_cell_of_heap HX.out rfl
    have b0 : w2.cell? ⟨w.heap.size + 1, 0, none⟩ = some (.int .u64 y0) := fr_cell_of_heap HY.out rfl
    have a1 : w2.cell? ⟨w.heap.size, 1, none⟩ = some (.bool xd) := fr_cell_of_heap HX.out rfl
    have b1 : w2.cell? ⟨w.heap.size + 1, 1, none⟩ = some (.bool yd) := fr_cell_of_heap HY.out rfl
    have a2 : w2.cell? ⟨w.heap.size, 2, none⟩ = some (.int .i64 x2) := fr_cell_of_heap HX.out rfl
    have b2 : w2.cell? ⟨w.heap.size + 1, 2, none⟩ = some (.int .i64 y2) := fr_cell_of_heap HY.out rfl
    have a3 : w2.cell? ⟨w.heap.size, 3, none⟩ = some (.int .i64 x3) := fr_cell_of_heap HX.out rfl
    have b3 : w2.cell? ⟨w.heap.size + 1, 3, none⟩ = some (.int .i64 y3) := fr_cell_of_heap HY.out rfl
    have a4 : w2.cell? ⟨w.heap.size, 4, none⟩ = some (.int .i64 x4) := fr_cell_of_heap HX.out rfl
    have b4 : w2.cell? ⟨w.heap.size + 1, 4, none⟩ = some (.int .i64 y4) := fr_cell_of_heap HY.out rfl
    have a5 : w2.cell? ⟨w.heap.size, 5, none⟩ = some (.int .i64 x5) := fr_cell_of_heap HX.out rfl
    have b5 : w2.cell? ⟨w.heap.size + 1, 5, none⟩ = some (.int .i64 y5) := fr_cell_of_heap HY.out rfl
    have a6 : w2.cell? ⟨w.heap.size, 6, none⟩ = some (.int .i64 x6) := fr_cell_of_heap HX.out rfl
    have b6 : w2.cell? ⟨w.heap.size + 1, 6, none⟩ = some (.int .i64 y6) := fr_cell_of_heap HY.out rfl
    rcases z0 : (x0 == y0) with _ | _
    · have HN := Lib.hid (show N = false by rw [hN]; simp [z0])
      clear hN
      go_wp2_with fail
      go_meet
      exact ⟨by rw [HN.out], rfl⟩
    rcases z1 : (xd == yd) with _ | _
    · have HN := Lib.hid (show N = false by rw [hN]; simp [z1])
      clear hN
      obtain rfl := bool_other z1
      clear z1
      rcases xd with _ | _ <;>
      · go_wp2_with fail
        go_meet
        exact ⟨by rw [HN.out], rfl⟩
    obtain rfl : xd = yd := beq_iff_eq.1 z1
    clear z1
    have zd : (xd == xd) = true := by simp
    rcases z2 : (x2 == y2) with _ | _
    · have HN := Lib.hid (show N = false by rw [hN]; simp [z2])
      clear hN
      rcases xd with _ | _ <;>
      · go_wp2_with fail
        go_meet
        exact ⟨by rw [HN.out], rfl⟩
    rcases z3 : (x3 == y3) with _ | _
    · have HN := Lib.hid (show N = false by rw [hN]; simp [z3])
      clear hN
      rcases xd with _ | _ <;>
      · go_wp2_with fail
        go_meet
        exact ⟨by rw [HN.out], rfl⟩
    rcases z4 : (x4 == y4) with _ | _
    · have HN := Lib.hid (show N = false by rw [hN]; simp [z4])
      clear hN
      rcases xd with _ | _ <;>
      · go_wp2_with fail
        go_meet
        exact ⟨by rw [HN.out], rfl⟩
    rcases z5 : (x5 == y5) with _ | _
    · have HN := Lib.hid (show N = false by rw [hN]; simp [z5])
      clear hN
      rcases xd with _ | _ <;>
      · go_wp2_with fail
        go_meet
        exact ⟨by rw [HN.out], rfl⟩
    rcases z6 : (x6 == y6) with _ | _
    · have HN := Lib.hid (show N = false by rw [hN]; simp [z6])
      clear hN
      rcases xd with _ | _ <;>
      · go_wp2_with fail
        go_meet
        exact ⟨by rw [HN.out], rfl⟩
    have HN := Lib.hid (show N = true by rw [hN]; simp [z0, z2, z3, z4, z5, z6])
    clear hN
    rcases xd with _ | _ <;>
    · go_wp2_with fail
      go_meet
      exact ⟨by rw [HN.out], rfl⟩
  case rest =>
    obtain ⟨rfl, rfl⟩ := hcut
    clear hN
    go_upto_region 2 with fail
    go_cut [6] (fun v wc => v = .bool K ∧ Below w.heap.size w wc ∧ wc.heap[w.heap.size]? = some (.cells #[.int .u64 x0, .bool xd, .int .i64 x2, .int .i64 x3, .int .i64 x4, .int .i64 x5, .int .i64 x6, va7, va8, va9, va10, va11, va12, va13, va14] 42 (0, 0)) ∧ wc.heap[w.heap.size + 1]? = some (.cells #[.int .u64 y0, .bool yd, .int .i64 y2, .int .i64 y3, .int .i64 y4, .int .i64 y5, .int .i64 y6, vb7, vb8, vb9, vb10, vb11, vb12, vb13, vb14] 42 (0, 0)))
    case first =>
      have a7 : wc.cell? ⟨w.heap.size, 7, none⟩ = some (va7) := fr_cell_of_heap HX.out rfl
      have b7 : wc.cell? ⟨w.heap.size + 1, 7, none⟩ = some (vb7) := fr_cell_of_heap HY.out rfl
      go_wp2_with fail
      refine (H7.out _ HB.out).mono ?_
      rintro e w17 ⟨rfl, hb⟩
      have HB7 := Lib.hid (HB.out.trans (hb.mono HB.out.size))
      have HX7 := Lib.hid ((hb.block _ (fp_lt_of_heap HX.out)).trans HX.out)
      have HY7 := Lib.hid ((hb.block _ (fp_lt_of_heap HY.out)).trans HY.out)
      clear hb a7 b7
      rcases q7 with _ | _
      · go_wp2_with fail
        go_meet
        exact ⟨by rw [hK]; rfl, HB7.out, HX7.out, HY7.out⟩
      have a8 : w17.cell? ⟨w.heap.size, 8, none⟩ = some (va8) := fr_cell_of_heap HX7.out rfl
      have b8 : w17.cell? ⟨w.heap.size + 1, 8, none⟩ = some (vb8) := fr_cell_of_heap HY7.out rfl
      go_wp2_with fail
      refine (H8.out _ HB7.out).mono ?_
      rintro e w18 ⟨rfl, hb⟩
      have HB8 := Lib.hid (HB7.out.trans (hb.mono HB7.out.size))
      have HX8 := Lib.hid ((hb.block _ (fp_lt_of_heap HX7.out)).trans HX7.out)
      have HY8 := Lib.hid ((hb.block _ (fp_lt_of_heap HY7.out)).trans HY7.out)
      clear hb a8 b8
      rcases q8 with _ | _
      · go_wp2_with fail
        go_meet
        exact ⟨by rw [hK]; rfl, HB8.out, HX8.out, HY8.out⟩
      have a9 : w18.cell? ⟨w.heap.size, 9, none⟩ = some (va9) := fr_cell_of_heap HX8.out rfl
      have b9 : w18.cell? ⟨w.heap.size + 1, 9, none⟩ = some (vb9) := fr_cell_of_heap HY8.out rfl
      go_wp2_with fail
      refine (H9.out _ HB8.out).mono ?_
      rintro e w19 ⟨rfl, hb⟩
      have HB9 := Lib.hid (HB8.out.trans (hb.mono HB8.out.size))
      have HX9 := Lib.hid ((hb.block _ (fp_lt_of_heap HX8.out)).trans HX8.out)
      have HY9 := Lib.hid ((hb.block _ (fp_lt_of_heap HY8.out)).trans HY8.out)
      clear hb a9 b9
      rcases q9 with _ | _
      · go_wp2_with fail
        go_meet
        exact ⟨by rw [hK]; rfl, HB9.out, HX9.out, HY9.out⟩
      have a10 : w19.cell? ⟨w.heap.size, 10, none⟩ = some (va10) := fr_cell_of_heap HX9.out rfl
      have b10 : w19.cell? ⟨w.heap.size + 1, 10, none⟩ = some (vb10) := fr_cell_of_heap HY9.out rfl
      go_wp2_with fail
      refine (H10.out _ HB9.out).mono ?_
      rintro e w20 ⟨rfl, hb⟩
      have HB10 := Lib.hid (HB9.out.trans (hb.mono HB9.out.size))
      have HX10 := Lib.hid ((hb.block _ (fp_lt_of_heap HX9.out)).trans HX9.out)
      have HY10 := Lib.hid ((hb.block _ (fp_lt_of_heap HY9.out)).trans HY9.out)
      clear hb a10 b10
      rcases q10 with _ | _
      · go_wp2_with fail
        go_meet
        exact ⟨by rw [hK]; rfl, HB10.out, HX10.out, HY10.out⟩
      · go_wp2_with fail
        go_meet
        exact ⟨by rw [hK]; rfl, HB10.out, HX10.out, HY10.out⟩
    case rest =>
      obtain ⟨rfl, hb, hx, hy⟩ := hcut
      have HB3 := Lib.hid hb
      have HX3 := Lib.hid hx
      have HY3 := Lib.hid hy
      clear hb hx hy hK HX HY HB
      obtain ⟨w3, hw3⟩ : ∃ w3 : World, w3 = wc := ⟨_, rfl⟩
      subst hw3
      go_upto_region 3 with fail
      go_cut [7] (fun v wc => v = .bool R ∧ Below w.heap.size w wc ∧ wc.heap[w.heap.size]? = some (.cells #[.int .u64 x0, .bool xd, .int .i64 x2, .int .i64 x3, .int .i64 x4, .int .i64 x5, .int .i64 x6, va7, va8, va9, va10, va11, va12, va13, va14] 42 (0, 0)) ∧ wc.heap[w.heap.size + 1]? = some (.cells #[.int .u64 y0, .bool yd, .int .i64 y2, .int .i64 y3, .int .i64 y4, .int .i64 y5, .int .i64 y6, vb7, vb8, vb9, vb10, vb11, vb12, vb13, vb14] 42 (0, 0)))
      case first =>
        have a12 : w3.cell? ⟨w.heap.size, 12, none⟩ = some (va12) := fr_cell_of_heap HX3.out rfl
        have b12 : w3.cell? ⟨w.heap.size + 1, 12, none⟩ = some (vb12) := fr_cell_of_heap HY3.out rfl
        go_wp2_with fail
        refine (H12.out _ HB3.out).mono ?_
        rintro e w22 ⟨rfl, hb⟩
        have HB12 := Lib.hid (HB3.out.trans (hb.mono HB3.out.size))
        have HX12 := Lib.hid ((hb.block _ (fp_lt_of_heap HX3.out)).trans HX3.out)
        have HY12 := Lib.hid ((hb.block _ (fp_lt_of_heap HY3.out)).trans HY3.out)
        clear hb a12 b12
        rcases q12 with _ | _
        · go_wp2_with fail
          go_meet
          exact ⟨by rw [hR]; rfl, HB12.out, HX12.out, HY12.out⟩
        have a13 : w22.cell? ⟨w.heap.size, 13, none⟩ = some (va13) := fr_cell_of_heap HX12.out rfl
        have b13 : w22.cell? ⟨w.heap.size + 1, 13, none⟩ = some (vb13) := fr_cell_of_heap HY12.out rfl
        go_wp2_with fail
        refine (H13.out _ HB12.out).mono ?_
        rintro e w23 ⟨rfl, hb⟩
        have HB13 := Lib.hid (HB12.out.trans (hb.mono HB12.out.size))
        have HX13 := Lib.hid ((hb.block _ (fp_lt_of_heap HX12.out)).trans HX12.out)
        have HY13 := Lib.hid ((hb.block _ (fp_lt_of_heap HY12.out)).trans HY12.out)
        clear hb a13 b13
        rcases q13 with _ | _
        · go_wp2_with fail
          go_meet
          exact ⟨by rw [hR]; rfl, HB13.out, HX13.out, HY13.out⟩
        have a14 : w23.cell? ⟨w.heap.size, 14, none⟩ = some (va14) := fr_cell_of_heap HX13.out rfl
        have b14 : w23.cell? ⟨w.heap.size + 1, 14, none⟩ = some (vb14) := fr_cell_of_heap HY13.out rfl
        go_wp2_with fail
        refine (H14.out _ HB13.out).mono ?_
        rintro e w24 ⟨rfl, hb⟩
        have HB14 := Lib.hid (HB13.out.trans (hb.mono HB13.out.size))
        have HX14 := Lib.hid ((hb.block _ (fp_lt_of_heap HX13.out)).trans HX13.out)
        have HY14 := Lib.hid ((hb.block _ (fp_lt_of_heap HY13.out)).trans HY13.out)
        clear hb a14 b14
        rcases q14 with _ | _
        · go_wp2_with fail
          go_meet
          exact ⟨by rw [hR]; rfl, HB14.out, HX14.out, HY14.out⟩
        · go_wp2_with fail
          go_meet
          exact ⟨by rw [hR]; rfl, HB14.out, HX14.out, HY14.out⟩
      case rest =>
        obtain ⟨rfl, hb, hx, hy⟩ := hcut
        have HB4 := Lib.hid hb
        have HX4 := Lib.hid hx
        have HY4 := Lib.hid hy
        clear hb hx hy hR HX3 HY3 HB3
        rcases N with _ | _
        · go_wp2_with fail
          go_ret
          exact ⟨by rfl, HB4.out⟩
        rcases K with _ | _
        · go_wp2_with fail
          go_ret
          exact ⟨by rfl, HB4.out⟩
        rcases R with _ | _
        · go_wp2_with fail
          go_ret
          exact ⟨by rfl, HB4.out⟩
        have a11 : wc.cell? ⟨w.heap.size, 11, none⟩ = some (va11) := fr_cell_of_heap HX4.out rfl
        have b11 : wc.cell? ⟨w.heap.size + 1, 11, none⟩ = some (vb11) := fr_cell_of_heap HY4.out rfl
        go_wp2_with fail
        refine (H11.out _ HB4.out).mono ?_
        rintro e w21 ⟨rfl, hb⟩
        have HB11 := Lib.hid (HB4.out.trans (hb.mono HB4.out.size))
        have HX11 := Lib.hid ((hb.block _ (fp_lt_of_heap HX4.out)).trans HX4.out)
        have HY11 := Lib.hid ((hb.block _ (fp_lt_of_heap HY4.out)).trans HY4.out)
        clear hb a11 b11
        rcases q11 with _ | _
        · go_wp2_with fail
          go_ret
          exact ⟨by rfl, HB11.out⟩
        · go_wp2_with fail
          go_ret
          exact ⟨by rfl, HB11.out⟩
set_option maxRecDepth 100000 in
set_option maxHeartbeats 8000000 in
theorem r35same_raw (x0 x2 x3 x4 x5 x6 y0 y2 y3 y4 y5 y6 : Int) (xd yd : Bool) (va7 va8 va9 va10 va11 va12 va13 va14 vb7 vb8 vb9 vb10 vb11 vb12 vb13 vb14 : Value) (q7 q8 q9 q10 q11 q12 q13 q14 N K : Bool) (w : World) (hN : N = ((x0 == y0) && (xd == yd) && (x2 == y2) && (x3 == y3) && (x4 == y4) && (x5 == y5) && (x6 == y6))) (hK : K = (q7 && q8 && q9 && q10))
    (h7 : ∀ w', Below w.heap.size w w' → Calls Tryz.prog 54 #[va7, vb7] w' (BoolPost q7 w'))
    (h8 : ∀ w', Below w.heap.size w w' → Calls Tryz.prog 54 #[va8, vb8] w' (BoolPost q8 w'))
    (h9 : ∀ w', Below w.heap.size w w' → Calls Tryz.prog 55 #[va9, vb9] w' (BoolPost q9 w'))
    (h10 : ∀ w', Below w.heap.size w w' → Calls Tryz.prog 56 #[va10, vb10] w' (BoolPost q10 w'))
    (h11 : ∀ w', Below w.heap.size w w' → Calls Tryz.prog 60 #[va11, vb11] w' (BoolPost q11 w'))
    (h12 : ∀ w', Below w.heap.size w w' → Calls Tryz.prog 57 #[va12, vb12] w' (BoolPost q12 w'))
    (h13 : ∀ w', Below w.heap.size w w' → Calls Tryz.prog 58 #[va13, vb13] w' (BoolPost q13 w'))
    (h14 : ∀ w', Below w.heap.size w w' → Calls Tryz.prog 59 #[va14, vb14] w' (BoolPost q14 w'))
    : Calls Tryz.prog 13 #[.agg #[.int .u64 x0, .bool xd, .int .i64 x2, .int .i64 x3, .int .i64 x4, .int .i64 x5, .int .i64 x6, va7, va8, va9, va10, va11, va12, va13, va14], .agg #[.int .u64 y0, .bool yd, .int .i64 y2, .int .i64 y3, .int .i64 y4, .int .i64 y5, .int .i64 y6, vb7, vb8, vb9, vb10, vb11, vb12, vb13, vb14]] w (BoolPost (N && K && q12 && q13 && q14 && q11) w) := by
  have H7 := Lib.hid h7
  have H8 := Lib.hid h8
  have H9 := Lib.hid h9
  have H10 := Lib.hid h10
  have H11 := Lib.hid h11
  have H12 := Lib.hid h12
  have H13 := Lib.hid h13
  have H14 := Lib.hid h14
  clear h7 h8 h9 h10 h11 h12 h13 h14
  have HX := Lib.hid (show ((w.alloc (.cells #[.int .u64 x0, .bool xd, .int .i64 x2, .int .i64 x3, .int .i64 x4, .int .i64 x5, .int .i64 x6, va7, va8, va9, va10, va11, va12, va13, va14] 35)).alloc (.cells #[.int .u64 y0, .bool yd, .int .i64 y2, .int .i64 y3, .int .i64 y4, .int .i64 y5, .int .i64 y6, vb7, vb8, vb9, vb10, vb11, vb12, vb13, vb14] 35)).heap[w.heap.size]? = some (.cells #[.int .u64 x0, .bool xd, .int .i64 x2, .int .i64 x3, .int .i64 x4, .int .i64 x5, .int .i64 x6, va7, va8, va9, va10, va11, va12, va13, va14] 35 (0, 0)) from fr_alloc_old (heap_alloc_new _ _))
  have HY := Lib.hid (show ((w.alloc (.cells #[.int .u64 x0, .bool xd, .int .i64 x2, .int .i64 x3, .int .i64 x4, .int .i64 x5, .int .i64 x6, va7, va8, va9, va10, va11, va12, va13, va14] 35)).alloc (.cells #[.int .u64 y0, .bool yd, .int .i64 y2, .int .i64 y3, .int .i64 y4, .int .i64 y5, .int .i64 y6, vb7, vb8, vb9, vb10, vb11, vb12, vb13, vb14] 35)).heap[w.heap.size + 1]? = some (.cells #[.int .u64 y0, .bool yd, .int .i64 y2, .int .i64 y3, .int .i64 y4, .int .i64 y5, .int .i64 y6, vb7, vb8, vb9, vb10, vb11, vb12, vb13, vb14] 35 (0, 0)) from heap_alloc_two _ _ _)
  have HB := Lib.hid (show Below w.heap.size w ((w.alloc (.cells #[.int .u64 x0, .bool xd, .int .i64 x2, .int .i64 x3, .int .i64 x4, .int .i64 x5, .int .i64 x6, va7, va8, va9, va10, va11, va12, va13, va14] 35)).alloc (.cells #[.int .u64 y0, .bool yd, .int .i64 y2, .int .i64 y3, .int .i64 y4, .int .i64 y5, .int .i64 y6, vb7, vb8, vb9, vb10, vb11, vb12, vb13, vb14] 35)) from box_below.alloc (by simp) _)
  go_enter Tryz.func13, Tryz.ntmps13
  go_upto_region 1 with fail
  generalize (w.alloc (.cells #[.int .u64 x0, .bool xd, .int .i64 x2, .int .i64 x3, .int .i64 x4, .int .i64 x5, .int .i64 x6, va7, va8, va9, va10, va11, va12, va13, va14] 35)).alloc (.cells #[.int .u64 y0, .bool yd, .int .i64 y2, .int .i64 y3, .int .i64 y4, .int .i64 y5, .int .i64 y6, vb7, vb8, vb9, vb10, vb11, vb12, vb13, vb14] 35) = w2 at HX HY HB ⊢
  go_cut [5] (fun v wc => v = .bool N ∧ wc = w2)
  case first =>
    have a0 : w2.cell? ⟨w.heap.size, 0, none⟩ = some (.int .u64 x0) := fr_cell_of_heap HX.out rfl
    have b0 : w2.cell? ⟨w.heap.size + 1, 0, none⟩ = some (.int .u64 y0) := fr_cell_of_heap HY.out rfl
    have a1 : w2.cell? ⟨w.heap.size, 1, none⟩ = some (.bool xd) := fr_cell_of_heap HX.out rfl
    have b1 : w2.cell? ⟨w.heap.size + 1, 1, none⟩ = some (.bool yd) := fr_cell_of_heap HY.out rfl
    have a2 : w2.cell? ⟨w.heap.size, 2, none⟩ = some (.int .i64 x2) := fr_cell_of_heap HX.out rfl
    have b2 : w2.cell? ⟨w.heap.size + 1, 2, none⟩ = some (.int .i64 y2) := fr_cell_of_heap HY.out rfl
    have a3 : w2.cell? ⟨w.heap.size, 3, none⟩ = some (.int .i64 x3) := fr_cell_of_heap HX.out rfl
    have b3 : w2.cell? ⟨w.heap.size + 1, 3, none⟩ = some (.int .i64 y3) := fr_cell_of_heap HY.out rfl
    have a4 : w2.cell? ⟨w.heap.size, 4, none⟩ = some (.int .i64 x4) := fr_cell_of_heap HX.out rfl
    have b4 : w2.cell? ⟨w.heap.size + 1, 4, none⟩ = some (.int .i64 y4) := fr_cell_of_heap HY.out rfl
    have a5 : w2.cell? ⟨w.heap.size, 5, none⟩ = some (.int .i64 x5) := fr_cell_of_heap HX.out rfl
    have b5 : w2.cell? ⟨w.heap.size + 1, 5, none⟩ = some (.int .i64 y5) := fr_cell_of_heap HY.out rfl
    have a6 : w2.cell? ⟨w.heap.size, 6, none⟩ = some (.int .i64 x6) := fr_cell_of_heap HX.out rfl
    have b6 : w2.cell? ⟨w.heap.size + 1, 6, none⟩ = some (.int .i64 y6) := fr_cell_of_heap HY.out rfl
    rcases z0 : (x0 == y0) with _ | _
    · have HN := Lib.hid (show N = false by rw [hN]; simp [z0])
      clear hN
      go_wp2_with fail
      go_meet
      exact ⟨by rw [HN.out], rfl⟩
    rcases z1 : (xd == yd) with _ | _
    · have HN := Lib.hid (show N = false by rw [hN]; simp [z1])
      clear hN
      obtain rfl := bool_other z1
      clear z1
      rcases xd with _ | _ <;>
      · go_wp2_with fail
        go_meet
        exact ⟨by rw [HN.out], rfl⟩
    obtain rfl : xd = yd := beq_iff_eq.1 z1
    clear z1
    have zd : (xd == xd) = true := by simp
    rcases z2 : (x2 == y2) with _ | _
    · have HN := Lib.hid (show N = false by rw [hN]; simp [z2])
      clear hN
      rcases xd with _ | _ <;>
      · go_wp2_with fail
        go_meet
        exact ⟨by rw [HN.out], rfl⟩
    rcases z3 : (x3 == y3) with _ | _
    · have HN := Lib.hid (show N = false by rw [hN]; simp [z3])
      clear hN
      rcases xd with _ | _ <;>
      · go_wp2_with fail
        go_meet
        exact ⟨by rw [HN.out], rfl⟩
    rcases z4 : (x4 == y4) with _ | _
    · have HN := Lib.hid (show N = false by rw [hN]; simp [z4])
      clear hN
      rcases xd with _ | _ <;>
      · go_wp2_with fail
        go_meet
        exact ⟨by rw [HN.out], rfl⟩
    rcases z5 : (x5 == y5) with _ | _
    · have HN := Lib.hid (show N = false by rw [hN]; simp [z5])
      clear hN
      rcases xd with _ | _ <;>
      · go_wp2_with fail
        go_meet
        exact ⟨by rw [HN.out], rfl⟩
    rcases z6 : (x6 == y6) with _ | _
    · have HN := Lib.hid (show N = false by rw [hN]; simp [z6])
      clear hN
      rcases xd with _ | _ <;>
      · go_wp2_with fail
        go_meet
        exact ⟨by rw [HN.out], rfl⟩
    have HN := Lib.hid (show N = true by rw [hN]; simp [z0, z2, z3, z4, z5, z6])
    clear hN
    rcases xd with _ | _ <;>
    · go_wp2_with fail
      go_meet
      exact ⟨by rw [HN.out], rfl⟩
  case rest =>
    obtain ⟨rfl, rfl⟩ := hcut
    clear hN
    go_upto_region 2 with fail
    go_cut [6] (fun v wc => v = .bool K ∧ Below w.heap.size w wc ∧ wc.heap[w.heap.size]? = some (.cells #[.int .u64 x0, .bool xd, .int .i64 x2, .int .i64 x3, .int .i64 x4, .int .i64 x5, .int .i64 x6, va7, va8, va9, va10, va11, va12, va13, va14] 35 (0, 0)) ∧ wc.heap[w.heap.size + 1]? = some (.cells #[.int .u64 y0, .bool yd, .int .i64 y2, .int .i64 y3, .int .i64 y4, .int .i64 y5, .int .i64 y6, vb7, vb8, vb9, vb10, vb11, vb12, vb13, vb14] 35 (0, 0)))
    case first =>
      have a7 : wc.cell? ⟨w.heap.size, 7, none⟩ = some (va7) := fr_cell_of_heap HX.out rfl
      have b7 : wc.cell? ⟨w.heap.size + 1, 7, none⟩ = some (vb7) := fr_cell_of_heap HY.out rfl
      go_wp2_with fail
      refine (H7.out _ HB.out).mono ?_
      rintro e w17 ⟨rfl, hb⟩
      have HB7 := Lib.hid (HB.out.trans (hb.mono HB.out.size))
      have HX7 := Lib.hid ((hb.block _ (fp_lt_of_heap HX.out)).trans HX.out)
      have HY7 := Lib.hid ((hb.block _ (fp_lt_of_heap HY.out)).trans HY.out)
      clear hb a7 b7
      rcases q7 with _ | _
      · go_wp2_with fail
        go_meet
        exact ⟨by rw [hK]; rfl, HB7.out, HX7.out, HY7.out⟩
      have a8 : w17.cell? ⟨w.heap.size, 8, none⟩ = some (va8) := fr_cell_of_heap HX7.out rfl
      have b8 : w17.cell? ⟨w.heap.size + 1, 8, none⟩ = some (vb8) := fr_cell_of_heap HY7.out rfl
      go_wp2_with fail
      refine (H8.out _ HB7.out).mono ?_
      rintro e w18 ⟨rfl, hb⟩
      have HB8 := Lib.hid (HB7.out.trans (hb.mono HB7.out.size))
      have HX8 := Lib.hid ((hb.block _ (fp_lt_of_heap HX7.out)).trans HX7.out)
      have HY8 := Lib.hid ((hb.block _ (fp_lt_of_heap HY7.out)).trans HY7.out)
      clear hb a8 b8
      rcases q8 with _ | _
      · go_wp2_with fail
        go_meet
        exact ⟨by rw [hK]; rfl, HB8.out, HX8.out, HY8.out⟩
      have a9 : w18.cell? ⟨w.heap.size, 9, none⟩ = some (va9) := fr_cell_of_heap HX8.out rfl
      have b9 : w18.cell? ⟨w.heap.size + 1, 9, none⟩ = some (vb9) := fr_cell_of_heap HY8.out rfl
      go_wp2_with fail
      refine (H9.out _ HB8.out).mono ?_
      rintro e w19 ⟨rfl, hb⟩
      have HB9 := Lib.hid (HB8.out.trans (hb.mono HB8.out.size))
      have HX9 := Lib.hid ((hb.block _ (fp_lt_of_heap HX8.out)).trans HX8.out)
      have HY9 := Lib.hid ((hb.block _ (fp_lt_of_heap HY8.out)).trans HY8.out)
      clear hb a9 b9
      rcases q9 with _ | _
      · go_wp2_with fail
        go_meet
        exact ⟨by rw [hK]; rfl, HB9.out, HX9.out, HY9.out⟩
      have a10 : w19.cell? ⟨w.heap.size, 10, none⟩ = some (va10) := fr_cell_of_heap HX9.out rfl
      have b10 : w19.cell? ⟨w.heap.size + 1, 10, none⟩ = some (vb10) := fr_cell_of_heap HY9.out rfl
      go_wp2_with fail
      refine (H10.out _ HB9.out).mono ?_
      rintro e w20 ⟨rfl, hb⟩
      have HB10 := Lib.hid (HB9.out.trans (hb.mono HB9.out.size))
      have HX10 := Lib.hid ((hb.block _ (fp_lt_of_heap HX9.out)).trans HX9.out)
      have HY10 := Lib.hid ((hb.block _ (fp_lt_of_heap HY9.out)).trans HY9.out)
      clear hb a10 b10
      rcases q10 with _ | _
      · go_wp2_with fail
        go_meet
        exact ⟨by rw [hK]; rfl, HB10.out, HX10.out, HY10.out⟩
      · go_wp2_with fail
        go_meet
        exact ⟨by rw [hK]; rfl, HB10.out, HX10.out, HY10.out⟩
    case rest =>
      obtain ⟨rfl, hb, hx, hy⟩ := hcut
      have HB3 := Lib.hid hb
      have HX3 := Lib.hid hx
      have HY3 := Lib.hid hy
      clear hb hx hy hK HX HY HB
      obtain ⟨w3, hw3⟩ : ∃ w3 : World, w3 = wc := ⟨_, rfl⟩
      subst hw3
      rcases N with _ | _
      · go_wp2_with fail
        go_ret
        exact ⟨by rfl, HB3.out⟩
      rcases K with _ | _
      · go_wp2_with fail
        go_ret
        exact ⟨by rfl, HB3.out⟩
      have a12 : w3.cell? ⟨w.heap.size, 12, none⟩ = some (va12) := fr_cell_of_heap HX3.out rfl
      have b12 : w3.cell? ⟨w.heap.size + 1, 12, none⟩ = some (vb12) := fr_cell_of_heap HY3.out rfl
      go_wp2_with fail
      refine (H12.out _ HB3.out).mono ?_
      rintro e w22 ⟨rfl, hb⟩
      have HB12 := Lib.hid (HB3.out.trans (hb.mono HB3.out.size))
      have HX12 := Lib.hid ((hb.block _ (fp_lt_of_heap HX3.out)).trans HX3.out)
      have HY12 := Lib.hid ((hb.block _ (fp_lt_of_heap HY3.out)).trans HY3.out)
      clear hb a12 b12
      rcases q12 with _ | _
      · go_wp2_with fail
        go_ret
        exact ⟨by rfl, HB12.out⟩
      have a13 : w22.cell? ⟨w.heap.size, 13, none⟩ = some (va13) := fr_cell_of_heap HX12.out rfl
      have b13 : w22.cell? ⟨w.heap.size + 1, 13, none⟩ = some (vb13) := fr_cell_of_heap HY12.out rfl
      go_wp2_with fail
      refine (H13.out _ HB12.out).mono ?_
      rintro e w23 ⟨rfl, hb⟩
      have HB13 := Lib.hid (HB12.out.trans (hb.mono HB12.out.size))
      have HX13 := Lib.hid ((hb.block _ (fp_lt_of_heap HX12.out)).trans HX12.out)
      have HY13 := Lib.hid ((hb.block _ (fp_lt_of_heap HY12.out)).trans HY12.out)
      clear hb a13 b13
      rcases q13 with _ | _
      · go_wp2_with fail
        go_ret
        exact ⟨by rfl, HB13.out⟩
      have a14 : w23.cell? ⟨w.heap.size, 14, none⟩ = some (va14) := fr_cell_of_heap HX13.out rfl
      have b14 : w23.cell? ⟨w.heap.size + 1, 14, none⟩ = some (vb14) := fr_cell_of_heap HY13.out rfl
      go_wp2_with fail
      refine (H14.out _ HB13.out).mono ?_
      rintro e w24 ⟨rfl, hb⟩
      have HB14 := Lib.hid (HB13.out.trans (hb.mono HB13.out.size))
      have HX14 := Lib.hid ((hb.block _ (fp_lt_of_heap HX13.out)).trans HX13.out)
      have HY14 := Lib.hid ((hb.block _ (fp_lt_of_heap HY13.out)).trans HY13.out)
      clear hb a14 b14
      rcases q14 with _ | _
      · go_wp2_with fail
        go_ret
        exact ⟨by rfl, HB14.out⟩
      have a11 : w24.cell? ⟨w.heap.size, 11, none⟩ = some (va11) := fr_cell_of_heap HX14.out rfl
      have b11 : w24.cell? ⟨w.heap.size + 1, 11, none⟩ = some (vb11) := fr_cell_of_heap HY14.out rfl
      go_wp2_with fail
      refine (H11.out _ HB14.out).mono ?_
      rintro e w21 ⟨rfl, hb⟩
      have HB11 := Lib.hid (HB14.out.trans (hb.mono HB14.out.size))
      have HX11 := Lib.hid ((hb.block _ (fp_lt_of_heap HX14.out)).trans HX14.out)
      have HY11 := Lib.hid ((hb.block _ (fp_lt_of_heap HY14.out)).trans HY14.out)
      clear hb a11 b11
      rcases q11 with _ | _
      · go_wp2_with fail
        go_ret
        exact ⟨by rfl, HB11.out⟩
      · go_wp2_with fail
        go_ret
        exact ⟨by rfl, HB11.out⟩
end Go.Proofs.YtjmlimogmmikoaaGreatDoor
namespace Go.Proofs.YtjmlimogmmikoaaGreatDoor
open Go.RowKit
def RuleOk (b : Bool) (u : Value) (w : World) : Prop := ∀ w', Below w.heap.size w w' → Calls Tryz.prog 34 #[u] w' (BoolPost (!b) w')
set_option maxRecDepth 100000 in
set_option maxHeartbeats 2000000 in
theorem rulesix (fs : List Value) (r g : Nat) (w : World) (hl : fs.length = 12) (hr : r ≤ 12) (hc : ∀ (j : Nat) u, fs[j]? = some u → w.cell? ⟨g, j, none⟩ = some u)
    (h : ∀ (j : Nat) u, j < r → fs[j]? = some u → RuleOk true u w) (h2 : ∀ u, fs[r]? = some u → RuleOk false u w) :
    Calls Tryz.prog 33 #[.slice (some ⟨g, 0, none⟩) 12 12, .func (.func 34) #[] #[]] w fun e w' => e = .returned (.int .i64 (if r < 12 then (r : Int) else -1)) ∧ Below w.heap.size w w' := by
  have HC := Lib.hid hc
  have H := Lib.hid h
  have H2 := Lib.hid h2
  clear hc h h2
  go_enter Tryz.func33, Tryz.ntmps33
  go_wp2
  go_loopw [8] (fun i wr => ∃ k : Nat, k ≤ r ∧ i = .int .i64 k ∧ Below w.heap.size w wr) (fun i _ => 12 - (intOf i).toNat)
  case atStart => exact ⟨0, Nat.zero_le _, rfl, Below.refl _ _⟩
  case round =>
    obtain ⟨k, hk, rfl, hb⟩ := hrel
    have HB := Lib.hid hb
    by_cases hlt : k < 12
    · obtain ⟨u, hu⟩ : ∃ u, fs[k]? = some u := ⟨_, List.getElem?_eq_getElem (by omega)⟩
      have c0 := cell_below hb (HC.out k u hu)
      have HU := Lib.hid hu
      clear hu hb
      rcases Nat.lt_or_ge k r with hkr | hkr
      · go_wp2_with fail
        refine (H.out k u hkr HU.out _ HB.out).mono ?_
        rintro e w2 ⟨rfl, hb2⟩
        have HB2 := Lib.hid (HB.out.trans (hb2.mono HB.out.size))
        clear hb2 c0
        go_wp2_with fail
        go_roundw
        case rel => exact ⟨k + 1, by omega, by go_num, HB2.out⟩
        case measure => simp [intOf]; omega
      · obtain rfl : k = r := by omega
        go_wp2_with fail
        refine (H2.out u HU.out _ HB.out).mono ?_
        rintro e w2 ⟨rfl, hb2⟩
        have HB2 := Lib.hid (HB.out.trans (hb2.mono HB.out.size))
        clear hb2 c0
        go_wp2_with fail
        go_ret
        exact ⟨ret_int (by first | rfl | rw [if_pos hlt]), HB2.out⟩
    · clear hb
      go_wp2_with fail
      go_ret
      exact ⟨ret_int (by first | rfl | rw [if_neg (by omega)]), HB.out⟩
set_option maxRecDepth 100000 in
set_option maxHeartbeats 2000000 in
theorem rule0 (tv lv : Value) (c : Cfg) (b : Nat) (w : World) (hg : w.heap[b]? = some (.cells (cfA tv lv c) 25 (0, 0))) (hC : CfgAt w tv lv c) (q : Bool) (hq : (checkE c == 0) = q) : RuleOk q (.func (.func 20) #[] #[.pointer (some ⟨b, 0, none⟩)]) w := by
  intro w2 hb2
  have HC := Lib.hid (hC.below hb2)
  have HG := Lib.hid ((hb2.block b (Array.getElem?_eq_some_iff.1 hg).1).trans hg)
  have HQ := Lib.hid hq
  clear hq hC hg hb2
  go_enter Tryz.func34, Tryz.ntmps34
  go_wp2_with fail
  have H1 : Calls Tryz.prog 20 #[.pointer (some ⟨b, 0, none⟩)] w2 (BoolPost q w2) := by
    go_enter Tryz.func20, Tryz.ntmps20
    go_wp2_with (refine wpList_load_agg 25 HG.out Tryz.underlying25 rfl cfg_info rfl _ rfl rfl ?_)
    refine (check_any _ tv lv c _ (cfA_cells tv lv c) HC.out).mono ?_
    rintro e w3 ⟨rfl, hb3⟩
    go_wp2_with fail
    go_ret
    exact ⟨ret_bool HQ.out, hb3⟩
  refine H1.mono ?_
  rintro e w3 ⟨rfl, hb3⟩
  go_wp2_with fail
  go_ret
  exact ⟨rfl, hb3⟩
set_option maxRecDepth 100000 in
set_option maxHeartbeats 2000000 in
theorem rule1 {lw : Int} {ws tv lv : Value} {c : Cfg} {w : World} (h : 1 ≤ c.keep) : RuleOk true (.func (.func 22) #[.agg (ckA lw ws tv lv c)] #[]) w := by
  intro w2 hb2
  go_enter Tryz.func34, Tryz.ntmps34
  go_wp2_with fail
  refine (rops_nil lw ws tv lv c _ h).mono ?_
  rintro e w3 ⟨rfl, hb3⟩
  go_wp2_with fail
  go_ret
  exact ⟨rfl, hb3⟩
set_option maxRecDepth 100000 in
set_option maxHeartbeats 2000000 in
theorem rule2 {lw : Int} {ws tv lv : Value} {c : Cfg} {w : World} (hC : CfgAt w tv lv c) (h : checkE c = 0) : RuleOk true (.func (.func 23) #[.agg (ckA lw ws tv lv c)] #[]) w := by
  intro w2 hb2
  go_enter Tryz.func34, Tryz.ntmps34
  go_wp2_with fail
  refine (rinv_nil lw ws tv lv c _ (hC.below hb2) h).mono ?_
  rintro e w3 ⟨rfl, hb3⟩
  go_wp2_with fail
  go_ret
  exact ⟨rfl, hb3⟩
set_option maxRecDepth 100000 in
set_option maxHeartbeats 2000000 in
theorem rule3 {tv lv : Value} {c : Cfg} {w : World} (hr : Ready w) (h : 1 ≤ c.workers) : RuleOk true (.func (.func 24) #[.agg (ckA 0 (.slice none 0 0) tv lv c)] #[]) w := by
  intro w2 hb2
  go_enter Tryz.func34, Tryz.ntmps34
  go_wp2_with fail
  refine (rworkers_nil tv lv c _ (hr.below hb2) h).mono ?_
  rintro e w3 ⟨rfl, hb3⟩
  go_wp2_with fail
  go_ret
  exact ⟨rfl, hb3⟩
set_option maxRecDepth 100000 in
set_option maxHeartbeats 2000000 in
theorem rule3no {lw : Int} {tv lv : Value} {c : Cfg} {w : World} {g off cap : Nat} {x : Wk} (hr : Ready w) (hC : CfgAt w tv lv c) (hR : RowsW w (.slice (some ⟨g, off, none⟩) 1 cap) [x]) (hs : SmallW x) (hL : LoadsW c.workers [x] lw) (hcl : x.cls < classesV c) (hop : x.op ≠ 0) : RuleOk false (.func (.func 24) #[.agg (ckA lw (.slice (some ⟨g, off, none⟩) 1 cap) tv lv c)] #[]) w := by
  intro w2 hb2
  go_enter Tryz.func34, Tryz.ntmps34
  go_wp2_with fail
  refine (rworkers_one lw g off cap tv lv c x _ (hr.below hb2) (hC.below hb2) (hR.below hb2) hs hL hcl hop).mono ?_
  rintro e w3 ⟨rfl, hb3⟩
  go_wp2_with fail
  go_ret
  exact ⟨rfl, hb3⟩
set_option maxRecDepth 100000 in
set_option maxHeartbeats 2000000 in
theorem rule4 {lw : Int} {ws tv lv : Value} {c : Cfg} {w : World} (hC : CfgAt w tv lv c) (h1 : 1 ≤ c.pools) (h2 : 1 ≤ classesV c) (h3 : 1 ≤ c.q) (h4 : c.q ≤ 64) : RuleOk true (.func (.func 25) #[.agg (ckA lw ws tv lv c)] #[]) w := by
  intro w2 hb2
  go_enter Tryz.func34, Tryz.ntmps34
  go_wp2_with fail
  refine (rpools_nil lw ws tv lv c _ (hC.below hb2) h1 h2 h3 h4).mono ?_
  rintro e w3 ⟨rfl, hb3⟩
  go_wp2_with fail
  go_ret
  exact ⟨rfl, hb3⟩
set_option maxRecDepth 100000 in
set_option maxHeartbeats 2000000 in
theorem rule5 {lw : Int} {ws tv lv : Value} {c : Cfg} {w : World} : RuleOk true (.func (.func 26) #[.agg (ckA lw ws tv lv c)] #[]) w := by
  intro w2 hb2
  go_enter Tryz.func34, Tryz.ntmps34
  go_wp2_with fail
  refine (rwaiting_nil lw ws tv lv c _).mono ?_
  rintro e w3 ⟨rfl, hb3⟩
  go_wp2_with fail
  go_ret
  exact ⟨rfl, hb3⟩
set_option maxRecDepth 100000 in
set_option maxHeartbeats 2000000 in
theorem rule6 {lw : Int} {ws tv lv : Value} {c : Cfg} {w : World} : RuleOk true (.func (.func 27) #[.agg (ckA lw ws tv lv c)] #[]) w := by
  intro w2 hb2
  go_enter Tryz.func34, Tryz.ntmps34
  go_wp2_with fail
  refine (repochs_nil lw ws tv lv c _).mono ?_
  rintro e w3 ⟨rfl, hb3⟩
  go_wp2_with fail
  go_ret
  exact ⟨rfl, hb3⟩
set_option maxRecDepth 100000 in
set_option maxHeartbeats 2000000 in
theorem rule7 {lw : Int} {tv lv : Value} {c : Cfg} {w : World} : RuleOk true (.func (.func 28) #[.agg (ckA lw (.slice none 0 0) tv lv c)] #[]) w := by
  intro w2 hb2
  go_enter Tryz.func34, Tryz.ntmps34
  go_wp2_with fail
  refine (rtimes_nil lw tv lv c _).mono ?_
  rintro e w3 ⟨rfl, hb3⟩
  go_wp2_with fail
  go_ret
  exact ⟨rfl, hb3⟩
set_option maxRecDepth 100000 in
set_option maxHeartbeats 2000000 in
theorem rule8 {lw : Int} {ws tv lv : Value} {c : Cfg} {w : World} (h : 1 ≤ c.keys) : RuleOk true (.func (.func 29) #[.agg (ckA lw ws tv lv c)] #[]) w := by
  intro w2 hb2
  go_enter Tryz.func34, Tryz.ntmps34
  go_wp2_with fail
  refine (rran_nil lw ws tv lv c _ h).mono ?_
  rintro e w3 ⟨rfl, hb3⟩
  go_wp2_with fail
  go_ret
  exact ⟨rfl, hb3⟩
set_option maxRecDepth 100000 in
set_option maxHeartbeats 2000000 in
theorem rule9 {lw : Int} {ws tv lv : Value} {c : Cfg} {w : World} (h : 1 ≤ c.dead) (h1 : c.dead ≤ 1000) : RuleOk true (.func (.func 30) #[.agg (ckA lw ws tv lv c)] #[]) w := by
  intro w2 hb2
  go_enter Tryz.func34, Tryz.ntmps34
  go_wp2_with fail
  refine (rletters_nil lw ws tv lv c _ h h1).mono ?_
  rintro e w3 ⟨rfl, hb3⟩
  go_wp2_with fail
  go_ret
  exact ⟨rfl, hb3⟩
set_option maxRecDepth 100000 in
set_option maxHeartbeats 2000000 in
theorem rule10 {lw : Int} {ws tv lv : Value} {c : Cfg} {w : World} (h : 0 ≤ c.watch) : RuleOk true (.func (.func 31) #[.agg (ckA lw ws tv lv c)] #[]) w := by
  intro w2 hb2
  go_enter Tryz.func34, Tryz.ntmps34
  go_wp2_with fail
  refine (rwatch_nil lw ws tv lv c _ h).mono ?_
  rintro e w3 ⟨rfl, hb3⟩
  go_wp2_with fail
  go_ret
  exact ⟨rfl, hb3⟩
set_option maxRecDepth 100000 in
set_option maxHeartbeats 2000000 in
theorem rule11 {lw : Int} {ws tv lv : Value} {c : Cfg} {w : World} : RuleOk true (.func (.func 32) #[.agg (ckA lw ws tv lv c)] #[]) w := by
  intro w2 hb2
  go_enter Tryz.func34, Tryz.ntmps34
  go_wp2_with fail
  refine (rtwins_nil lw ws tv lv c _).mono ?_
  rintro e w3 ⟨rfl, hb3⟩
  go_wp2_with fail
  go_ret
  exact ⟨rfl, hb3⟩
def rulesF (b : Nat) (lw : Int) (ws tv lv : Value) (c : Cfg) : List Value := [.func (.func 20) #[] #[.pointer (some ⟨b, 0, none⟩)], .func (.func 22) #[.agg (ckA lw ws tv lv c)] #[], .func (.func 23) #[.agg (ckA lw ws tv lv c)] #[], .func (.func 24) #[.agg (ckA lw ws tv lv c)] #[], .func (.func 25) #[.agg (ckA lw ws tv lv c)] #[], .func (.func 26) #[.agg (ckA lw ws tv lv c)] #[], .func (.func 27) #[.agg (ckA lw ws tv lv c)] #[], .func (.func 28) #[.agg (ckA lw ws tv lv c)] #[], .func (.func 29) #[.agg (ckA lw ws tv lv c)] #[], .func (.func 30) #[.agg (ckA lw ws tv lv c)] #[], .func (.func 31) #[.agg (ckA lw ws tv lv c)] #[], .func (.func 32) #[.agg (ckA lw ws tv lv c)] #[]]
theorem wpList_built2 {P : Program} {ops : Array Oper} {rest : List Oper} {o : Oper} {a : Act} {w : World} {Q : Exit → Act → World → Prop} {u v : Value} (hg : o.guard = none) (t : TypeId) (i j : Nat) (x y : Operand) (ho : o.op = .build t #[(i, x), (j, y)])
    (hx : a.eval x = u) (hy : a.eval y = v) {cells : Array Value} (hb : P.built t [(i, u), (j, v)] = some cells) (h : wpList P ops Q rest (a.put o.dst (.agg cells)) w) : wpList P ops Q (o :: rest) a w :=
  wpList_builtN hg t _ ho _ (by simp [hx, hy]) hb h
theorem built_ck (lw : Int) (ws tv lv : Value) (c : Cfg) : Tryz.prog.built 72 [(0, .agg (stA lw ws)), (1, .agg (cfA tv lv c))] = some (ckA lw ws tv lv c) := by kernel_rfl
set_option maxRecDepth 100000 in
set_option maxHeartbeats 2000000 in
theorem wrong_any (lw : Int) (ws tv lv : Value) (c : Cfg) (r : Nat) (w : World) (hr : r ≤ 12)
    (h : ∀ w2, Below w.heap.size w w2 → w2.heap[w.heap.size]? = some (.cells (cfA tv lv c) 25 (0, 0)) → (∀ (j : Nat) u, j < r → (rulesF w.heap.size lw ws tv lv c)[j]? = some u → RuleOk true u w2) ∧ (∀ u, (rulesF w.heap.size lw ws tv lv c)[r]? = some u → RuleOk false u w2)) (ho : (ckA lw ws tv lv c).all (·.oneCell') = true) :
    Calls Tryz.prog 9 #[.agg (cfA tv lv c), .agg (stA lw ws)] w fun e w' => e = .returned (.int .i64 (if r < 12 then (r : Int) + 1 else 0)) ∧ Below w.heap.size w w' := by
  have H := Lib.hid h
  have HO := Lib.hid ho
  clear h ho
  go_enter Tryz.func9, Tryz.ntmps9
  go_upto_region 2 with (first
    | refine wpList_load_agg 42 (heap_alloc_two w _ _) Tryz.underlying42 rfl st_info rfl _ rfl rfl ?_
    | refine wpList_load_agg 25 (fr_alloc_old (heap_alloc_new w _)) Tryz.underlying25 rfl cfg_info rfl _ rfl rfl ?_
    | refine wpList_built2 (u := .agg (stA lw ws)) (v := .agg (cfA tv lv c)) rfl 72 _ _ _ _ rfl rfl rfl (built_ck lw ws tv lv c) ?_
    | (refine wpList_store_new rfl 72 _ _ rfl (w.heap.size + 1 + 1) ?a1 _ rfl rfl ?a2 ?a3 ?a4 ?_; (case a1 => simp); (case a2 => exact ck_info); (case a3 => rfl); (case a4 => exact HO.out)))
  have HG := Lib.hid (heap_alloc_three w (.cells (cfA tv lv c) 25) (.cells (stA lw ws) 42) (.cells (ckA lw ws tv lv c) 72))
  have HG0 := Lib.hid (fr_alloc_old (o := .cells (ckA lw ws tv lv c) 72) (fr_alloc_old (o := .cells (stA lw ws) 42) (heap_alloc_new w (.cells (cfA tv lv c) 25))))
  have HB := Lib.hid (((box_below (w := w) (o := .cells (cfA tv lv c) 25)).alloc (by simp) (.cells (stA lw ws) 42)).alloc (by simp; omega) (.cells (ckA lw ws tv lv c) 72))
  generalize ((w.alloc (.cells (cfA tv lv c) 25)).alloc (.cells (stA lw ws) 42)).alloc (.cells (ckA lw ws tv lv c) 72) = W3 at HG HG0 HB ⊢
  go_upto_region 3 with (refine wpList_load_agg 72 HG.out Tryz.underlying72 rfl ck_info rfl _ rfl rfl ?_)
  go_wp2_with fail
  obtain ⟨q1, q2⟩ := H.out (W3.alloc (.cells (rulesF w.heap.size lw ws tv lv c).toArray 38)) (HB.out.alloc HB.out.size _) (fr_alloc_old HG0.out)
  refine (rulesix (rulesF w.heap.size lw ws tv lv c) r W3.heap.size _ rfl hr (fun j u hu => cell_alloc_at (by rw [← hu]; simp [rulesF])) q1 q2).mono ?_
  rintro e w5 ⟨rfl, hb5⟩
  have HB5 := Lib.hid ((HB.out.alloc HB.out.size (.cells (rulesF w.heap.size lw ws tv lv c).toArray 38)).trans (hb5.mono (by have := HB.out.size; simp; omega)))
  clear q1 q2 hb5
  rcases Nat.lt_or_ge r 12 with hlt | hlt
  · rw [if_pos hlt]
    go_wp2_with fail
    go_ret
    exact ⟨ret_int (by first | rfl | rw [if_pos hlt]), HB5.out⟩
  · rw [if_neg (by omega)]
    go_wp2_with fail
    go_ret
    exact ⟨ret_int (by first | rfl | rw [if_neg (by omega)]), HB5.out⟩
end Go.Proofs.YtjmlimogmmikoaaGreatDoor
namespace Go.Proofs.YtjmlimogmmikoaaGreatDoor
open Go.RowKit
structure CkOk (c : Cfg) : Prop where
  keep : 1 ≤ c.keep
  workers : 1 ≤ c.workers
  pools : 1 ≤ c.pools
  q : 1 ≤ c.q ∧ c.q ≤ 64
  keys : 1 ≤ c.keys
  dead : 1 ≤ c.dead ∧ c.dead ≤ 1000
  watch : 0 ≤ c.watch
  cls : 1 ≤ classesV c
theorem ckOk_of {c : Cfg} (h : checkE c = 0) : CkOk c := by
  have hcl : 1 ≤ classesV c := by unfold classesV; rw [if_pos h]; omega
  unfold checkE at h
  split at h
  · rename_i hne; exact absurd h hne
  · split at h
    · cases h
    · split at h
      · cases h
      · rename_i hl
        have hab : (aOk c && bOk c && dOk c) = true := by
          rcases Bool.eq_false_or_eq_true (aOk c && bOk c && dOk c) with hx | hx
          · exact hx
          · exact absurd (.inr hx) hl
        simp only [Bool.and_eq_true, aOk, bOk, dOk, inB_iff] at hab
        exact ⟨by omega, by omega, by omega, by omega, by omega, by omega, by omega, hcl⟩
theorem rules_nil {tv lv : Value} {c : Cfg} {b : Nat} {w : World} (hE : checkE c = 0) (hC : CfgAt w tv lv c) (hr : Ready w) (hg : w.heap[b]? = some (.cells (cfA tv lv c) 25 (0, 0))) :
    (∀ (j : Nat) u, j < 12 → (rulesF b 0 (.slice none 0 0) tv lv c)[j]? = some u → RuleOk true u w) ∧ (∀ u, (rulesF b 0 (.slice none 0 0) tv lv c)[12]? = some u → RuleOk false u w) := by
  have hk := ckOk_of hE
  refine ⟨fun j u hj hu => ?_, fun u hu => by simp [rulesF] at hu⟩
  have hj' : j = 0 ∨ j = 1 ∨ j = 2 ∨ j = 3 ∨ j = 4 ∨ j = 5 ∨ j = 6 ∨ j = 7 ∨ j = 8 ∨ j = 9 ∨ j = 10 ∨ j = 11 := by omega
  rcases hj' with rfl | rfl | rfl | rfl | rfl | rfl | rfl | rfl | rfl | rfl | rfl | rfl <;> (simp [rulesF] at hu; subst hu)
  · exact rule0 tv lv c b w hg hC true (by rw [hE]; rfl)
  · exact rule1 hk.keep
  · exact rule2 hC hE
  · exact rule3 hr hk.workers
  · exact rule4 hC hk.pools hk.cls hk.q.1 hk.q.2
  · exact rule5
  · exact rule6
  · exact rule7
  · exact rule8 hk.keys
  · exact rule9 hk.dead.1 hk.dead.2
  · exact rule10 hk.watch
  · exact rule11
theorem rules_one {lw : Int} {g off cap : Nat} {x : Wk} {tv lv : Value} {c : Cfg} {b : Nat} {w : World} (hE : checkE c = 0) (hC : CfgAt w tv lv c) (hr : Ready w) (hg : w.heap[b]? = some (.cells (cfA tv lv c) 25 (0, 0)))
    (hR : RowsW w (.slice (some ⟨g, off, none⟩) 1 cap) [x]) (hs : SmallW x) (hL : LoadsW c.workers [x] lw) (hcl : x.cls < classesV c) (hop : x.op ≠ 0) :
    (∀ (j : Nat) u, j < 3 → (rulesF b lw (.slice (some ⟨g, off, none⟩) 1 cap) tv lv c)[j]? = some u → RuleOk true u w) ∧ (∀ u, (rulesF b lw (.slice (some ⟨g, off, none⟩) 1 cap) tv lv c)[3]? = some u → RuleOk false u w) := by
  have hk := ckOk_of hE
  refine ⟨fun j u hj hu => ?_, fun u hu => ?_⟩
  · have hj' : j = 0 ∨ j = 1 ∨ j = 2 := by omega
    rcases hj' with rfl | rfl | rfl <;> (simp [rulesF] at hu; subst hu)
    · exact rule0 tv lv c b w hg hC true (by rw [hE]; rfl)
    · exact rule1 hk.keep
    · exact rule2 hC hE
  · simp [rulesF] at hu
    subst hu
    exact rule3no hr hC hR hs hL hcl hop
def c35 : Cfg := ⟨[⟨⟨#[97]⟩, 1, 9⟩], [], 1, 2, 3, 2, 2, 2, 0, 0, 1, 4, 5, 2, 2, 2, 50, 2, 0⟩
theorem c35_ok : checkE c35 = 0 := by decide +kernel
def x35 : Wk := ⟨1, 0, 5, ⟨#[119]⟩, ⟨#[]⟩, false, 3⟩
theorem x35_loads : LoadsW c35.workers [x35] 1 := by
  refine ⟨by decide, by decide, by decide, fun j x hj hx => ?_⟩
  obtain rfl : j = 0 := by simp at hj; omega
  obtain rfl : x35 = x := by simpa using hx
  exact ⟨by decide +kernel, by decide +kernel, by simp, by decide, by decide, by decide⟩
set_option maxRecDepth 100000 in
set_option maxHeartbeats 2000000 in
theorem live35_any (w : World) (hr : Ready w) : Calls Tryz.prog 8 #[] w (BoolPost true w) := by
  have HR := Lib.hid hr
  clear hr
  go_enter Tryz.func8, Tryz.ntmps8
  go_upto_region 2 with (refine wpList_store_new rfl 25 _ _ rfl (w.heap.size + 1) ?a1 _ rfl rfl ?a2 ?a3 ?a4 ?_; (case a1 => simp); (case a2 => exact cfg_info); (case a3 => rfl); (case a4 => simp [Value.oneCell']))
  have hg1 : ((w.alloc (.cells #[.string ⟨#[97]⟩, .int .i64 1, .int .i64 9] 70)).alloc (.cells #[.slice (some ⟨w.heap.size, 0, none⟩) 1 1, .slice none 0 0, .int .i64 1, .int .i64 2, .int .i64 3, .int .i64 2, .int .i64 2, .int .i64 2, .int .i64 0, .int .i64 0, .int .i64 1, .int .i64 4, .int .i64 5, .int .i64 2, .int .i64 2, .int .i64 2, .int .i64 50, .int .i64 2, .int .i64 0] 25)).heap[w.heap.size + 1]? = some (.cells (cfA (.slice (some ⟨w.heap.size, 0, none⟩) 1 1) (.slice none 0 0) c35) 25 (0, 0)) := heap_alloc_two _ _ _
  have hc1 : CfgAt ((w.alloc (.cells #[.string ⟨#[97]⟩, .int .i64 1, .int .i64 9] 70)).alloc (.cells #[.slice (some ⟨w.heap.size, 0, none⟩) 1 1, .slice none 0 0, .int .i64 1, .int .i64 2, .int .i64 3, .int .i64 2, .int .i64 2, .int .i64 2, .int .i64 0, .int .i64 0, .int .i64 1, .int .i64 4, .int .i64 5, .int .i64 2, .int .i64 2, .int .i64 2, .int .i64 50, .int .i64 2, .int .i64 0] 25)) (.slice (some ⟨w.heap.size, 0, none⟩) 1 1) (.slice none 0 0) c35 := by
    refine ⟨⟨_, _, rfl, by decide, fun i t ht => ?_⟩, ⟨_, _, rfl, by decide, fun i t ht => by cases ht⟩⟩
    match i, ht with
    | 0, ht =>
      cases ht
      exact ⟨by decide, _, _, rfl, cell_below box_below (cell_alloc_at rfl), cell_below box_below (cell_alloc_at rfl), cell_below box_below (cell_alloc_at rfl)⟩
    | i + 1, ht => cases ht
  have hb1 : Below w.heap.size w ((w.alloc (.cells #[.string ⟨#[97]⟩, .int .i64 1, .int .i64 9] 70)).alloc (.cells #[.slice (some ⟨w.heap.size, 0, none⟩) 1 1, .slice none 0 0, .int .i64 1, .int .i64 2, .int .i64 3, .int .i64 2, .int .i64 2, .int .i64 2, .int .i64 0, .int .i64 0, .int .i64 1, .int .i64 4, .int .i64 5, .int .i64 2, .int .i64 2, .int .i64 2, .int .i64 50, .int .i64 2, .int .i64 0] 25)) := box_below.alloc (by simp) _
  have hs1 : ((w.alloc (.cells #[.string ⟨#[97]⟩, .int .i64 1, .int .i64 9] 70)).alloc (.cells #[.slice (some ⟨w.heap.size, 0, none⟩) 1 1, .slice none 0 0, .int .i64 1, .int .i64 2, .int .i64 3, .int .i64 2, .int .i64 2, .int .i64 2, .int .i64 0, .int .i64 0, .int .i64 1, .int .i64 4, .int .i64 5, .int .i64 2, .int .i64 2, .int .i64 2, .int .i64 50, .int .i64 2, .int .i64 0] 25)).heap.size = w.heap.size + 1 + 1 := by simp
  generalize (w.alloc (.cells #[.string ⟨#[97]⟩, .int .i64 1, .int .i64 9] 70)).alloc (.cells #[.slice (some ⟨w.heap.size, 0, none⟩) 1 1, .slice none 0 0, .int .i64 1, .int .i64 2, .int .i64 3, .int .i64 2, .int .i64 2, .int .i64 2, .int .i64 0, .int .i64 0, .int .i64 1, .int .i64 4, .int .i64 5, .int .i64 2, .int .i64 2, .int .i64 2, .int .i64 50, .int .i64 2, .int .i64 0] 25) = W1 at hg1 hc1 hb1 hs1 ⊢
  have HG1 := Lib.hid hg1
  have HC1 := Lib.hid hc1
  have HB1 := Lib.hid hb1
  clear hg1 hc1 hb1
  go_wp2_with fail
  refine (stnew_any _).mono ?_
  rintro e w2 ⟨rfl, hb2⟩
  have HB2 := Lib.hid (HB1.out.trans (hb2.mono HB1.out.size))
  have n2 : w.heap.size + 1 + 1 ≤ w2.heap.size := by have := hb2.size; omega
  have hg3 : (w2.alloc (.cells (stA 0 (.slice none 0 0)) 42)).heap[w.heap.size + 1]? = some (.cells (cfA (.slice (some ⟨w.heap.size, 0, none⟩) 1 1) (.slice none 0 0) c35) 25 (0, 0)) := fr_alloc_old ((hb2.block _ (by omega)).trans HG1.out)
  have hs3 : (w2.alloc (.cells (stA 0 (.slice none 0 0)) 42)).heap[w2.heap.size]? = some (.cells (stA 0 (.slice none 0 0)) 42 (0, 0)) := heap_alloc_new _ _
  have HBX := Lib.hid hb2
  have hb3 := HB2.out.alloc HB2.out.size (.cells (stA 0 (.slice none 0 0)) 42)
  have hc3 := (HC1.out.below hb2).below (box_below (o := .cells (stA 0 (.slice none 0 0)) 42))
  have HG3 := Lib.hid hg3
  have HS3 := Lib.hid hs3
  have HB3 := Lib.hid hb3
  have HC3 := Lib.hid hc3
  clear hg3 hs3 hb3 hc3 hb2
  go_wp2_with (first
    | (refine wpList_store_new rfl 42 _ _ rfl w2.heap.size ?a1 _ rfl rfl ?a2 ?a3 ?a4 ?_; (case a1 => rfl); (case a2 => exact st_info); (case a3 => rfl); (case a4 => simp [stA, Value.oneCell']))
    | refine wpList_load_agg 25 HG3.out Tryz.underlying25 rfl cfg_info rfl _ rfl rfl ?_
    | refine wpList_load_agg 42 HS3.out Tryz.underlying42 rfl st_info rfl _ rfl rfl ?_)
  refine (wrong_any 0 (.slice none 0 0) (.slice (some ⟨w.heap.size, 0, none⟩) 1 1) (.slice none 0 0) c35 12 _ (Nat.le_refl _) (fun w5 hb5 hg5 => rules_nil c35_ok (HC3.out.below hb5) ((HR.out.below HB3.out).below hb5) hg5) (by simp [ckA, Value.oneCell'])).mono ?_
  rintro e w4 ⟨rfl, hb4⟩
  have HB4 := Lib.hid (HB3.out.trans (hb4.mono HB3.out.size))
  have n4 : w2.heap.size + 1 ≤ w4.heap.size := by have := hb4.size; simp at this; omega
  have hs4 : w4.heap[w2.heap.size]? = some (.cells (stA 0 (.slice none 0 0)) 42 (0, 0)) := (hb4.block _ (by simp)).trans HS3.out
  have hg4 : w4.heap[w.heap.size + 1]? = some (.cells (cfA (.slice (some ⟨w.heap.size, 0, none⟩) 1 1) (.slice none 0 0) c35) 25 (0, 0)) := (hb4.block _ (by simp; omega)).trans HG3.out
  have hs5 : (w4.alloc (.cells #[.int .i64 1, .int .i64 0, .int .i64 5, .string ⟨#[119]⟩, .string ⟨#[]⟩, .bool false, .int .u64 3] 67)).heap[w2.heap.size]? = some (.cells (stA 0 (.slice none 0 0)) 42 (0, 0)) := fr_alloc_old hs4
  have hs6 : (((w4.alloc (.cells #[.int .i64 1, .int .i64 0, .int .i64 5, .string ⟨#[119]⟩, .string ⟨#[]⟩, .bool false, .int .u64 3] 67)).setCell ⟨w2.heap.size, 9, none⟩ (.slice (some ⟨w4.heap.size, 0, none⟩) 1 1)).setCell ⟨w2.heap.size, 4, none⟩ (.int .i64 1)).heap[w2.heap.size]? = some (.cells (stA 1 (.slice (some ⟨w4.heap.size, 0, none⟩) 1 1)) 42 (0, 0)) := fr_setCell_at (fr_setCell_at hs5)
  have hg6 : (((w4.alloc (.cells #[.int .i64 1, .int .i64 0, .int .i64 5, .string ⟨#[119]⟩, .string ⟨#[]⟩, .bool false, .int .u64 3] 67)).setCell ⟨w2.heap.size, 9, none⟩ (.slice (some ⟨w4.heap.size, 0, none⟩) 1 1)).setCell ⟨w2.heap.size, 4, none⟩ (.int .i64 1)).heap[w.heap.size + 1]? = some (.cells (cfA (.slice (some ⟨w.heap.size, 0, none⟩) 1 1) (.slice none 0 0) c35) 25 (0, 0)) := by rw [fr_setCell_other (by omega), fr_setCell_other (by omega)]; exact fr_alloc_old hg4
  have k9 : (w4.alloc (.cells #[.int .i64 1, .int .i64 0, .int .i64 5, .string ⟨#[119]⟩, .string ⟨#[]⟩, .bool false, .int .u64 3] 67)).cell? ⟨w2.heap.size, 9, none⟩ = some (.slice none 0 0) := fr_cell_of_heap hs5 rfl
  have f9 : (w4.alloc (.cells #[.int .i64 1, .int .i64 0, .int .i64 5, .string ⟨#[119]⟩, .string ⟨#[]⟩, .bool false, .int .u64 3] 67)).frozen? ⟨w2.heap.size, 9, none⟩ = false := fr_free_of_heap hs5
  have k4 : ((w4.alloc (.cells #[.int .i64 1, .int .i64 0, .int .i64 5, .string ⟨#[119]⟩, .string ⟨#[]⟩, .bool false, .int .u64 3] 67)).setCell ⟨w2.heap.size, 9, none⟩ (.slice (some ⟨w4.heap.size, 0, none⟩) 1 1)).cell? ⟨w2.heap.size, 4, none⟩ = some (.int .i64 0) := fr_cell_of_heap (fr_setCell_at hs5) rfl
  have f4 : ((w4.alloc (.cells #[.int .i64 1, .int .i64 0, .int .i64 5, .string ⟨#[119]⟩, .string ⟨#[]⟩, .bool false, .int .u64 3] 67)).setCell ⟨w2.heap.size, 9, none⟩ (.slice (some ⟨w4.heap.size, 0, none⟩) 1 1)).frozen? ⟨w2.heap.size, 4, none⟩ = false := fr_free_of_heap (fr_setCell_at hs5)
  have hb6 : Below w2.heap.size w2 (((w4.alloc (.cells #[.int .i64 1, .int .i64 0, .int .i64 5, .string ⟨#[119]⟩, .string ⟨#[]⟩, .bool false, .int .u64 3] 67)).setCell ⟨w2.heap.size, 9, none⟩ (.slice (some ⟨w4.heap.size, 0, none⟩) 1 1)).setCell ⟨w2.heap.size, 4, none⟩ (.int .i64 1)) := (((box_below2 hb4).alloc (by omega) _).setCell (Nat.le_refl _) _).setCell (Nat.le_refl _) _
  have hx6 : RowsW (((w4.alloc (.cells #[.int .i64 1, .int .i64 0, .int .i64 5, .string ⟨#[119]⟩, .string ⟨#[]⟩, .bool false, .int .u64 3] 67)).setCell ⟨w2.heap.size, 9, none⟩ (.slice (some ⟨w4.heap.size, 0, none⟩) 1 1)).setCell ⟨w2.heap.size, 4, none⟩ (.int .i64 1)) (.slice (some ⟨w4.heap.size, 0, none⟩) 1 1) [x35] := ⟨_, _, rfl, by decide, fun j u hu => ⟨w4.heap.size, 0, rfl, by
    have hj : j < 7 := (List.getElem?_eq_some_iff.1 hu).1
    refine fr_cell_of_heap (w := (((w4.alloc (.cells #[.int .i64 1, .int .i64 0, .int .i64 5, .string ⟨#[119]⟩, .string ⟨#[]⟩, .bool false, .int .u64 3] 67)).setCell ⟨w2.heap.size, 9, none⟩ (.slice (some ⟨w4.heap.size, 0, none⟩) 1 1)).setCell ⟨w2.heap.size, 4, none⟩ (.int .i64 1))) (cs := #[.int .i64 1, .int .i64 0, .int .i64 5, .string ⟨#[119]⟩, .string ⟨#[]⟩, .bool false, .int .u64 3]) (t := 67) (fr := (0, 0)) (by rw [fr_setCell_other (by omega), fr_setCell_other (by omega)]; exact heap_alloc_new _ _) ?_
    rw [Nat.zero_add, ← hu]
    simp [flatW, encW, x35]⟩⟩
  have hc2 := HC1.out.below (HBX.out)
  have HK9 := Lib.hid k9
  have HF9 := Lib.hid f9
  have HK4 := Lib.hid k4
  have HF4 := Lib.hid f4
  have HS6 := Lib.hid hs6
  have HG6 := Lib.hid hg6
  have HX6 := Lib.hid hx6
  have HC6 := Lib.hid (hc2.below hb6)
  have HB6 := Lib.hid (HB2.out.trans (hb6.mono HB2.out.size))
  have HK3 := Lib.hid (show (((w4.alloc (.cells #[.int .i64 1, .int .i64 0, .int .i64 5, .string ⟨#[119]⟩, .string ⟨#[]⟩, .bool false, .int .u64 3] 67)).setCell ⟨w2.heap.size, 9, none⟩ (.slice (some ⟨w4.heap.size, 0, none⟩) 1 1)).setCell ⟨w2.heap.size, 4, none⟩ (.int .i64 1)).cell? ⟨w2.heap.size, 3, none⟩ = some (.int .i64 1) from fr_cell_of_heap hs6 rfl)
  clear hb4 hs4 hg4 hs5 hs6 hg6 k9 f9 k4 f4 hb6 hx6 hc2 HB3 HC3 HS3 HG3 HB4 HB1 HG1 HC1
  rw [if_neg (by decide)]
  have k9 := HK9.out
  have f9 := HF9.out
  have k4 := HK4.out
  have f4 := HF4.out
  go_upto_region 6 with fail
  clear k9 f9 k4 f4
  generalize (((w4.alloc (.cells #[.int .i64 1, .int .i64 0, .int .i64 5, .string ⟨#[119]⟩, .string ⟨#[]⟩, .bool false, .int .u64 3] 67)).setCell ⟨w2.heap.size, 9, none⟩ (.slice (some ⟨w4.heap.size, 0, none⟩) 1 1)).setCell ⟨w2.heap.size, 4, none⟩ (.int .i64 1)) = W6 at HS6 HG6 HX6 HC6 HB6 HK3 ⊢
  go_wp2_with (first
    | refine wpList_load_agg 25 HG6.out Tryz.underlying25 rfl cfg_info rfl _ rfl rfl ?_
    | refine wpList_load_agg 42 HS6.out Tryz.underlying42 rfl st_info rfl _ rfl rfl ?_)
  refine (wrong_any 1 (.slice (some ⟨w4.heap.size, 0, none⟩) 1 1) (.slice (some ⟨w.heap.size, 0, none⟩) 1 1) (.slice none 0 0) c35 3 _ (by decide) (fun w5 hb5 hg5 => rules_one c35_ok (HC6.out.below hb5) ((HR.out.below HB6.out).below hb5) hg5 (HX6.out.below hb5) (by unfold SmallW; decide) x35_loads (by decide +kernel) (by decide)) (by simp [ckA, Value.oneCell'])).mono ?_
  rintro e w7 ⟨rfl, hb7⟩
  have k3 := cell_below hb7 HK3.out
  have HB7 := Lib.hid (HB6.out.trans (hb7.mono HB6.out.size))
  clear hb7
  rw [if_pos (by decide), show ((3 : Nat) : Int) + 1 = 4 from rfl]
  go_wp2_with fail
  go_ret
  exact ⟨rfl, HB7.out⟩
end Go.Proofs.YtjmlimogmmikoaaGreatDoor
