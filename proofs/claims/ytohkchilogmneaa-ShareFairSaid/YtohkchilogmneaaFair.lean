/-
  law15.fair: the walk.
-/
import Derived.Test.YtohkchilogmneaaNear
import Derived.Deep.RegionHeld3
import Derived.Deep.DeepCutAuto
namespace Go.Proofs.Ytohkchilogmneaa
open Go.RowKit

def lkC (L : Lk) : Array Value := #[.int .i64 (L.t 0), .int .i64 (L.t 1), .int .i64 (L.t 2), .int .i64 (L.t 3), .int .i64 (L.d 0), .int .i64 (L.d 1), .int .i64 (L.d 2), .int .i64 (L.d 3), .bool (L.b 0), .bool (L.b 1), .bool (L.b 2), .bool (L.b 3)]
def wsC (ws : Int → Int) : Array Value := #[.int .i64 (ws 0), .int .i64 (ws 1), .int .i64 (ws 2), .int .i64 (ws 3)]
theorem lk_t (L : Lk) {i : Nat} (hi : i < 4) : (lkC L)[i]? = some (.int .i64 (L.t i)) := by
  match i, hi with
  | 0, _ => rfl
  | 1, _ => rfl
  | 2, _ => rfl
  | 3, _ => rfl
theorem lk_d (L : Lk) {i : Nat} (hi : i < 4) : (lkC L)[4 + i]? = some (.int .i64 (L.d i)) := by
  match i, hi with
  | 0, _ => rfl
  | 1, _ => rfl
  | 2, _ => rfl
  | 3, _ => rfl
theorem lk_b (L : Lk) {i : Nat} (hi : i < 4) : (lkC L)[8 + i]? = some (.bool (L.b i)) := by
  match i, hi with
  | 0, _ => rfl
  | 1, _ => rfl
  | 2, _ => rfl
  | 3, _ => rfl
theorem ws_at (ws : Int → Int) {i : Nat} (hi : i < 4) : (wsC ws)[i]? = some (.int .i64 (ws i)) := by
  match i, hi with
  | 0, _ => rfl
  | 1, _ => rfl
  | 2, _ => rfl
  | 3, _ => rfl
theorem wrap_i64 {n : Int} (h : -9223372036854775808 ≤ n ∧ n ≤ 9223372036854775807) : wrap64 n = n := by unfold wrap64; omega
set_option maxRecDepth 100000 in
set_option maxHeartbeats 2000000 in
/-- THE WALK: fair, where it is so. -/
theorem fair_any (a b : Lk) (i j : Nat) (hi : i < 4) (hj : j < 4) (ws : Int → Int) (q C : Int) (W : World) (hw : ∀ i, 1 ≤ ws i ∧ ws i ≤ 16) (hq : 0 ≤ q ∧ q < 1048576) (hC : 0 ≤ C ∧ C < 1048576) (h : FairOk ws q C a b i j) :
    Calls Try.prog 56 #[.agg (lkC a), .agg (lkC b), .int .i64 i, .int .i64 j, .agg (wsC ws), .int .i64 q, .int .i64 C] W (TrueBelow W) := by
  have HH := Lib.hid h
  have HQ := Lib.hid hq
  have HC := Lib.hid hC
  have HW := Lib.hid hw
  have HI := Lib.hid hi
  have HJ := Lib.hid hj
  obtain ⟨hx, hy, h1, h2⟩ := h
  obtain ⟨x, ex⟩ : ∃ x, x = b.t i - a.t i := ⟨_, rfl⟩
  obtain ⟨y, ey⟩ : ∃ y, y = b.t j - a.t j := ⟨_, rfl⟩
  rw [← ex] at hx h1 h2
  rw [← ey] at hy h1 h2
  have HN := Lib.hid (fun W => near_any x (ws i) y (ws j) q C W hx ⟨(hw i).1, by have := (hw i).2; omega⟩ hy ⟨(hw j).1, by have := (hw j).2; omega⟩ hq hC h1 h2)
  have e1 : wrap64 (b.t i - a.t i) = x := by rw [← ex]; exact wrap_i64 (by omega)
  have e2 : wrap64 (b.t j - a.t j) = y := by rw [← ey]; exact wrap_i64 (by omega)
  have u1 : IntKind.u64.wrap x = x := wrap_u64 (by omega)
  have u2 : IntKind.u64.wrap y = y := wrap_u64 (by omega)
  have u3 : IntKind.u64.wrap (ws i) = ws i := wrap_u64 (by have := hw i; omega)
  have u4 : IntKind.u64.wrap (ws j) = ws j := wrap_u64 (by have := hw j; omega)
  have u5 : IntKind.u64.wrap q = q := wrap_u64 (by omega)
  have u6 : IntKind.u64.wrap C = C := wrap_u64 (by omega)
  have HU := Lib.hid (And.intro u3 (And.intro u4 (And.intro u5 u6)))
  have hi2 : (i : Int) < 4 := by omega
  have hj2 : (j : Int) < 4 := by omega
  clear ex ey hx hy h1 h2 hq hC hw u3 u4 u5 u6 hi hj
  go_enter Try.func56, Try.ntmps56
  go_upto_region 1 with fail
  obtain ⟨w1, hw1⟩ : ∃ w1 : World, w1 = ((W.alloc (.cells (lkC a) 29)).alloc (.cells (lkC b) 29)).alloc (.cells (wsC ws) 22) := ⟨_, rfl⟩
  rw [← hw1]
  have hA : w1.heap[W.heap.size]? = some (.cells (lkC a) 29 (0, 0)) := by rw [hw1]; exact fr_alloc_old (fr_alloc_old fr_alloc_at)
  have hB : w1.heap[W.heap.size + 1]? = some (.cells (lkC b) 29 (0, 0)) := by rw [hw1]; exact fr_alloc_old (heap_alloc_two W _ _)
  have hS : w1.heap[W.heap.size + 2]? = some (.cells (wsC ws) 22 (0, 0)) := by
    rw [hw1, show W.heap.size + 2 = ((W.alloc (.cells (lkC a) 29)).alloc (.cells (lkC b) 29)).heap.size by simp]
    exact fr_alloc_at
  have HB := Lib.hid (show Below W.heap.size W w1 by rw [hw1]; exact (box_below.alloc (by simp) _).alloc (by simp; omega) _)
  have a1 : w1.cell? ⟨W.heap.size, i, none⟩ = some (.int .i64 (a.t i)) := fr_cell_of_heap hA (lk_t a HI.out)
  have a2 : w1.cell? ⟨W.heap.size, j, none⟩ = some (.int .i64 (a.t j)) := fr_cell_of_heap hA (lk_t a HJ.out)
  have b1 : w1.cell? ⟨W.heap.size + 1, i, none⟩ = some (.int .i64 (b.t i)) := fr_cell_of_heap hB (lk_t b HI.out)
  have b2 : w1.cell? ⟨W.heap.size + 1, j, none⟩ = some (.int .i64 (b.t j)) := fr_cell_of_heap hB (lk_t b HJ.out)
  have HS := Lib.hid hS
  clear hw1 hA hB hS
  go_quiet (fail)
  clear a1 a2 b1 b2 e1 e2 u1 u2
  go_upto_region 2 with fail
  obtain ⟨u3, u4, u5, u6⟩ := HU.out
  obtain ⟨w2, hw2⟩ : ∃ w2 : World, w2 = w1.drewN nq := ⟨_, rfl⟩
  rw [← hw2]
  have hS2 : w2.heap[W.heap.size + 1 + 1]? = some (.cells (wsC ws) 22 (0, 0)) := by rw [hw2]; exact HS.out
  have HB2 := Lib.hid (show Below W.heap.size W w2 by rw [hw2]; exact below_drewN HB.out nq)
  have s1 : w2.cell? ⟨W.heap.size + 1 + 1, i, none⟩ = some (.int .i64 (ws i)) := fr_cell_of_heap hS2 (ws_at ws HI.out)
  have s2 : w2.cell? ⟨W.heap.size + 1 + 1, j, none⟩ = some (.int .i64 (ws j)) := fr_cell_of_heap hS2 (ws_at ws HJ.out)
  clear hw2 hS2
  go_region_held3 (fun w' => w'.cell? ⟨W.heap.size + 1 + 1, i, none⟩ = some (.int .i64 (ws i)) ∧ w'.cell? ⟨W.heap.size + 1 + 1, j, none⟩ = some (.int .i64 (ws j)))
    (first | go_keep | exact ⟨cell_below (w := w2.drew) hb9 s1, cell_below (w := w2.drew) hb9 s2⟩)
    (first | (go_at_call 87; refine (HN.out _).mono ?_; rintro e w9 ⟨rfl, hb9⟩))
  go_wp2_with fail
  go_ret
  exact ⟨rfl, HB2.out.trans (Below.mono (show Below w2.heap.size w2 w9 from ⟨hb9.os, hb9.tape, hb9.output, hb9.size, hb9.block⟩) HB2.out.size)⟩
end Go.Proofs.Ytohkchilogmneaa
