/-
  law16.all: the walk.
-/
import Derived.Test.YtohkchilogmneaaSNear
namespace Go.Proofs.Ytohkchilogmneaa
open Go.RowKit

/-- What all tenants' and all invocations' ways ask. -/
def AllT (w3 : Int → Int → Int) (q C : Int) (ls : List Lt) : Prop :=
  (∀ t u : Nat, u < t → t < 3 → FairT (w3 t 3) (w3 u 3) q C ls t 3 u 3) ∧ ∀ t i j : Nat, t < 3 → j < i → i < 3 → FairT (w3 t i) (w3 t j) q C ls t i t j
def ARel1 (w : World) (g : Nat) (i : Value) (wr : World) : Prop := ∃ T : Nat, g = 3 - T ∧ i = .int .i64 T ∧ T ≤ 3 ∧ Below w.heap.size w wr
def ARel2 (w : World) (T : Nat) (g : Nat) (i : Value) (wr : World) : Prop := ∃ U : Nat, g = T - U ∧ i = .int .i64 U ∧ U ≤ T ∧ Below w.heap.size w wr
set_option maxRecDepth 100000 in
set_option maxHeartbeats 8000000 in
/-- THE WALK: all, where all were treated alike. -/
theorem all16_any (ls : List Lt) (V : Value) (w3 : Int → Int → Int) (q C : Int) (W : World) (hL : LtsAt W V ls) (hne : ls ≠ []) (hlen : ls.length ≤ 1000) (hw : ∀ u i, 1 ≤ w3 u i ∧ w3 u i ≤ 16) (hq : 0 ≤ q ∧ q < 1048576) (hC : 0 ≤ C ∧ C < 1048576) (h : AllT w3 q C ls) :
    Calls Try.prog 37 #[V, .agg (w3C w3), .int .i64 q, .int .i64 C] W (TrueBelow W) := by
  have h34 : (3 : Nat) < 4 := by decide
  have HF1 := Lib.hid (fun (t u : Nat) (hut : u < t) (ht : t < 3) (w : World) (hb : Below W.heap.size W w) => fair16_any ls V t 3 u 3 ht h34 (Nat.lt_trans hut ht) h34 (w3 t 3) (w3 u 3) q C w (hL.below hb) hne hlen (hw t 3) (hw u 3) hq hC (h.1 t u hut ht))
  have HF2 := Lib.hid (fun (t i j : Nat) (ht : t < 3) (hji : j < i) (hi : i < 3) (w : World) (hb : Below W.heap.size W w) => fair16_any ls V t i t j ht (Nat.lt_succ_of_lt hi) ht (Nat.lt_succ_of_lt (Nat.lt_trans hji hi)) (w3 t i) (w3 t j) q C w (hL.below hb) hne hlen (hw t i) (hw t j) hq hC (h.2 t i j ht hji hi))
  clear hL hne hlen hw hq hC h h34
  go_enter Try.func37, Try.ntmps37
  go_upto_region 1 with fail
  obtain ⟨w1, hw1⟩ : ∃ w1 : World, w1 = W.alloc (.cells (w3C w3) 61) := ⟨_, rfl⟩
  rw [← hw1]
  have HWS := Lib.hid (show w1.heap[W.heap.size]? = some (.cells (w3C w3) 61 (0, 0)) by rw [hw1]; exact fr_alloc_at)
  have HB1 := Lib.hid (show Below W.heap.size W w1 by rw [hw1]; exact box_below)
  clear hw1
  go_wp2_with fail
  go_loopg [9] 3 (fun g i wr => ARel1 w1 g i wr)
  case atStart => exact ⟨0, rfl, rfl, by omega, Below.refl _ _⟩
  case round =>
    obtain ⟨T, hg, rfl, hT, hb⟩ := hrel
    have HG1 := Lib.hid hg
    have HBT := Lib.hid hb
    clear hg hb
    by_cases hT3 : T < 3
    · have hTi : (T : Int) < 3 := by omega
      go_wp2_with fail
      go_loopg [10] T (fun g i wr => ARel2 w1 T g i wr)
      case atStart => exact ⟨0, rfl, rfl, by omega, HBT.out⟩
      case round =>
        obtain ⟨U, hg, rfl, hU, hb⟩ := hrel
        have HG2 := Lib.hid hg
        have HBU := Lib.hid hb
        clear hg hb
        by_cases hUT : U < T
        · have hUi : (U : Int) < 3 := by omega
          have hUT2 : (U : Int) < (T : Int) := by omega
          have hws := (HBU.out.block _ (fp_lt_of_heap HWS.out)).trans HWS.out
          have s1 : wr.cell? ⟨W.heap.size, T * 4 + 3, none⟩ = some (.int .i64 (w3 T 3)) := fr_cell_of_heap hws (w3_at w3 hT3 (by decide))
          have s2 : wr.cell? ⟨W.heap.size, U * 4 + 3, none⟩ = some (.int .i64 (w3 U 3)) := fr_cell_of_heap hws (w3_at w3 (by omega) (by decide))
          have HC := Lib.hid (HF1.out T U hUT hT3 wr.drew (HB1.out.trans ((below_drewN HBU.out 1).mono HB1.out.size)))
          clear hws
          go_upto_region 7 with fail
          go_region_held3 (fun w' => w'.cell? ⟨W.heap.size, T * 4 + 3, none⟩ = some (.int .i64 (w3 T 3)) ∧ w'.cell? ⟨W.heap.size, U * 4 + 3, none⟩ = some (.int .i64 (w3 U 3)))
            (first | go_keep | exact ⟨cell_below (w := wr.drew) hb9 s1, cell_below (w := wr.drew) hb9 s2⟩)
            (first | (go_at_call 70; refine HC.out.mono ?_; rintro e w9 ⟨rfl, hb9⟩))
          have HB9 := Lib.hid (HBU.out.trans (Below.mono (show Below wr.heap.size wr w9 from ⟨hb9.os, hb9.tape, hb9.output, hb9.size, hb9.block⟩) HBU.out.size))
          clear hb9 s1 s2
          go_wp2_with fail
          go_roundg (T - (U + 1))
          case rel => exact ⟨U + 1, rfl, by go_num, by omega, HB9.out⟩
          case measure => have := HG2.out; omega
        · go_wp2_with fail
          go_loopg [11] 3 (fun g i wr => ARel1 w1 g i wr)
          case atStart => exact ⟨0, rfl, rfl, by omega, HBU.out⟩
          case round =>
            obtain ⟨I, hg, rfl, hI, hb⟩ := hrel
            have HG3 := Lib.hid hg
            have HBI := Lib.hid hb
            clear hg hb
            by_cases hI3 : I < 3
            · have hIi : (I : Int) < 3 := by omega
              go_wp2_with fail
              go_loopg [12] I (fun g i wr => ARel2 w1 I g i wr)
              case atStart => exact ⟨0, rfl, rfl, by omega, HBI.out⟩
              case round =>
                obtain ⟨J, hg, rfl, hJ, hb⟩ := hrel
                have HG4 := Lib.hid hg
                have HBJ := Lib.hid hb
                clear hg hb
                by_cases hJI : J < I
                · have hJi : (J : Int) < 4 := by omega
                  have hIi4 : (I : Int) < 4 := by omega
                  have hJI2 : (J : Int) < (I : Int) := by omega
                  have hws := (HBJ.out.block _ (fp_lt_of_heap HWS.out)).trans HWS.out
                  have s1 : wr.cell? ⟨W.heap.size, T * 4 + I, none⟩ = some (.int .i64 (w3 T I)) := fr_cell_of_heap hws (w3_at w3 hT3 (by omega))
                  have s2 : wr.cell? ⟨W.heap.size, T * 4 + J, none⟩ = some (.int .i64 (w3 T J)) := fr_cell_of_heap hws (w3_at w3 hT3 (by omega))
                  have HC := Lib.hid (HF2.out T I J hT3 hJI hI3 wr.drew (HB1.out.trans ((below_drewN HBJ.out 1).mono HB1.out.size)))
                  clear hws
                  go_upto_region 15 with fail
                  go_region_held3 (fun w' => w'.cell? ⟨W.heap.size, T * 4 + I, none⟩ = some (.int .i64 (w3 T I)) ∧ w'.cell? ⟨W.heap.size, T * 4 + J, none⟩ = some (.int .i64 (w3 T J)))
                    (first | go_keep | exact ⟨cell_below (w := wr.drew) hb9 s1, cell_below (w := wr.drew) hb9 s2⟩)
                    (first | (go_at_call 70; refine HC.out.mono ?_; rintro e w9 ⟨rfl, hb9⟩))
                  have HB9 := Lib.hid (HBJ.out.trans (Below.mono (show Below wr.heap.size wr w9 from ⟨hb9.os, hb9.tape, hb9.output, hb9.size, hb9.block⟩) HBJ.out.size))
                  clear hb9 s1 s2
                  go_wp2_with fail
                  go_roundg (I - (J + 1))
                  case rel => exact ⟨J + 1, rfl, by go_num, by omega, HB9.out⟩
                  case measure => have := HG4.out; omega
                · go_wp2_with fail
                  go_roundg (3 - (I + 1))
                  case rel => exact ⟨I + 1, rfl, by go_num, by omega, HBJ.out⟩
                  case measure => have := HG3.out; omega
            · go_wp2_with fail
              go_roundg (3 - (T + 1))
              case rel => exact ⟨T + 1, rfl, by go_num, by omega, HBI.out⟩
              case measure => have := HG1.out; omega
    · go_wp2_with fail
      go_ret
      exact ⟨rfl, HB1.out.trans (HBT.out.mono HB1.out.size)⟩
end Go.Proofs.Ytohkchilogmneaa
