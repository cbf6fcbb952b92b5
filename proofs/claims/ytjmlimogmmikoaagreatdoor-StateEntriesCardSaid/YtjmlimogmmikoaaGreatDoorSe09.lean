/-
  state: Same of two states that have nothing; To of such a one: the walks.
  law35: what a configuration that may be has; all rules hold of a state that has nothing; the page's example: the walks.
-/
import Derived.Test.YtjmlimogmmikoaaGreatDoorSe07
import Derived.Test.YtjmlimogmmikoaaGreatDoorSe08
namespace Go.Proofs.YtjmlimogmmikoaaGreatDoor
open Go.RowKit
set_option maxRecDepth 100000 in
set_option maxHeartbeats 2000000 in
theorem eqNilOp (a1 a2 : Option Addr) (c1 c2 : Nat) (w : World) : Calls Tryz.prog 46 #[.slice a1 0 c1, .slice a2 0 c2] w fun e w' => e = .returned (.bool true) ∧ w' = w := by
  go_enter Tryz.func46, Tryz.ntmps46
  go_wp2
  go_loopw [13] (fun i wr => i = .int .i64 0 ∧ wr = w) (fun i _ => 1)
  case atStart => exact ⟨rfl, rfl⟩
  case round =>
    obtain ⟨rfl, rfl⟩ := hrel
    go_wp2
    go_ret
    exact ⟨rfl, rfl⟩
set_option maxRecDepth 100000 in
set_option maxHeartbeats 2000000 in
theorem eqNilWk (a1 a2 : Option Addr) (c1 c2 : Nat) (w : World) : Calls Tryz.prog 47 #[.slice a1 0 c1, .slice a2 0 c2] w fun e w' => e = .returned (.bool true) ∧ w' = w := by
  go_enter Tryz.func47, Tryz.ntmps47
  go_wp2
  go_loopw [13] (fun i wr => i = .int .i64 0 ∧ wr = w) (fun i _ => 1)
  case atStart => exact ⟨rfl, rfl⟩
  case round =>
    obtain ⟨rfl, rfl⟩ := hrel
    go_wp2
    go_ret
    exact ⟨rfl, rfl⟩
set_option maxRecDepth 100000 in
set_option maxHeartbeats 2000000 in
theorem eqNilInv (a1 a2 : Option Addr) (c1 c2 : Nat) (w : World) : Calls Tryz.prog 48 #[.slice a1 0 c1, .slice a2 0 c2] w fun e w' => e = .returned (.bool true) ∧ w' = w := by
  go_enter Tryz.func48, Tryz.ntmps48
  go_wp2
  go_loopw [13] (fun i wr => i = .int .i64 0 ∧ wr = w) (fun i _ => 1)
  case atStart => exact ⟨rfl, rfl⟩
  case round =>
    obtain ⟨rfl, rfl⟩ := hrel
    go_wp2
    go_ret
    exact ⟨rfl, rfl⟩
set_option maxRecDepth 100000 in
set_option maxHeartbeats 2000000 in
theorem eqNilRow (a1 a2 : Option Addr) (c1 c2 : Nat) (w : World) : Calls Tryz.prog 49 #[.slice a1 0 c1, .slice a2 0 c2] w fun e w' => e = .returned (.bool true) ∧ w' = w := by
  go_enter Tryz.func49, Tryz.ntmps49
  go_wp2
  go_loopw [13] (fun i wr => i = .int .i64 0 ∧ wr = w) (fun i _ => 1)
  case atStart => exact ⟨rfl, rfl⟩
  case round =>
    obtain ⟨rfl, rfl⟩ := hrel
    go_wp2
    go_ret
    exact ⟨rfl, rfl⟩
set_option maxRecDepth 100000 in
set_option maxHeartbeats 2000000 in
theorem eqNilLet (a1 a2 : Option Addr) (c1 c2 : Nat) (w : World) : Calls Tryz.prog 50 #[.slice a1 0 c1, .slice a2 0 c2] w fun e w' => e = .returned (.bool true) ∧ w' = w := by
  go_enter Tryz.func50, Tryz.ntmps50
  go_wp2
  go_loopw [13] (fun i wr => i = .int .i64 0 ∧ wr = w) (fun i _ => 1)
  case atStart => exact ⟨rfl, rfl⟩
  case round =>
    obtain ⟨rfl, rfl⟩ := hrel
    go_wp2
    go_ret
    exact ⟨rfl, rfl⟩
set_option maxRecDepth 100000 in
set_option maxHeartbeats 2000000 in
theorem eqNilWt (a1 a2 : Option Addr) (c1 c2 : Nat) (w : World) : Calls Tryz.prog 51 #[.slice a1 0 c1, .slice a2 0 c2] w fun e w' => e = .returned (.bool true) ∧ w' = w := by
  go_enter Tryz.func51, Tryz.ntmps51
  go_wp2
  go_loopw [13] (fun i wr => i = .int .i64 0 ∧ wr = w) (fun i _ => 1)
  case atStart => exact ⟨rfl, rfl⟩
  case round =>
    obtain ⟨rfl, rfl⟩ := hrel
    go_wp2
    go_ret
    exact ⟨rfl, rfl⟩
set_option maxRecDepth 100000 in
set_option maxHeartbeats 2000000 in
theorem eqfNil (a1 a2 : Option Addr) (c1 c2 : Nat) (g : Value) (w : World) : Calls Tryz.prog 52 #[.slice a1 0 c1, .slice a2 0 c2, g] w fun e w' => e = .returned (.bool true) ∧ w' = w := by
  go_enter Tryz.func52, Tryz.ntmps52
  go_wp2
  go_loopw [17] (fun i wr => i = .int .i64 0 ∧ wr = w) (fun i _ => 1)
  case atStart => exact ⟨rfl, rfl⟩
  case round =>
    obtain ⟨rfl, rfl⟩ := hrel
    go_wp2
    go_ret
    exact ⟨rfl, rfl⟩
set_option maxRecDepth 100000 in
set_option maxHeartbeats 2000000 in
theorem lpools_nil (w : World) : Calls Tryz.prog 35 #[.slice none 0 0] w fun e w' => (∃ p : Nat, e = .returned (.slice (some ⟨p, 0, none⟩) 0 0)) ∧ Below w.heap.size w w' := by
  go_enter Tryz.func35, Tryz.ntmps35
  go_wp2
  go_loopw [3, 4] (fun ov i wr => ov = .slice (some ⟨w.heap.size, 0, none⟩) 0 0 ∧ i = .int .i64 0 ∧ wr = w.alloc (.cells #[] 98)) (fun _ i _ => 1)
  case atStart => exact ⟨rfl, rfl, rfl⟩
  case round =>
    obtain ⟨rfl, rfl, rfl⟩ := hrel
    go_wp2
    go_ret
    exact ⟨⟨_, rfl⟩, box_below⟩
theorem cell_setRow_not {w : World} {g b i : Nat} {ds : Array Value} (h : b ≠ g) : (w.setRow g ds).cell? ⟨b, i, none⟩ = w.cell? ⟨b, i, none⟩ := by simp only [World.cell?, setRow_not h]
def stP (p : Nat) : Array Value := #[.int .u64 0, .bool false, .int .i64 0, .int .i64 1, .int .i64 0, .int .i64 0, .int .i64 0, .slice none 0 0, .slice none 0 0, .slice none 0 0, .slice none 0 0, .slice (some ⟨p, 0, none⟩) 0 0, .slice none 0 0, .slice none 0 0, .slice none 0 0]
theorem stP_one (p : Nat) : (stP p).all (·.oneCell') = true := by simp [stP, Value.oneCell']
set_option maxRecDepth 100000 in
set_option maxHeartbeats 2000000 in
theorem to_nil (w : World) : Calls Tryz.prog 10 #[.agg (stA 0 (.slice none 0 0))] w fun e w' => (∃ p : Nat, e = .returned (.agg (stP p))) ∧ Below w.heap.size w w' := by
  have hh : ((w.alloc (.cells (stA 0 (.slice none 0 0)) 35)).alloc (.cells #[.int .u64 0, .bool false, .int .i64 0, .int .i64 0, .int .i64 0, .int .i64 0, .int .i64 0, .slice none 0 0, .slice none 0 0, .slice none 0 0, .slice none 0 0, .slice none 0 0, .slice none 0 0, .slice none 0 0, .slice none 0 0] 42)).heap[w.heap.size]? = some (.cells (stA 0 (.slice none 0 0)) 35) := fr_alloc_old (heap_alloc_new _ _)
  have hz : ((w.alloc (.cells (stA 0 (.slice none 0 0)) 35)).alloc (.cells #[.int .u64 0, .bool false, .int .i64 0, .int .i64 0, .int .i64 0, .int .i64 0, .int .i64 0, .slice none 0 0, .slice none 0 0, .slice none 0 0, .slice none 0 0, .slice none 0 0, .slice none 0 0, .slice none 0 0, .slice none 0 0] 42)).heap[w.heap.size + 1]? = some (.cells #[.int .u64 0, .bool false, .int .i64 0, .int .i64 0, .int .i64 0, .int .i64 0, .int .i64 0, .slice none 0 0, .slice none 0 0, .slice none 0 0, .slice none 0 0, .slice none 0 0, .slice none 0 0, .slice none 0 0, .slice none 0 0] 42) := heap_alloc_two _ _ _
  have hb : Below w.heap.size w ((w.alloc (.cells (stA 0 (.slice none 0 0)) 35)).alloc (.cells #[.int .u64 0, .bool false, .int .i64 0, .int .i64 0, .int .i64 0, .int .i64 0, .int .i64 0, .slice none 0 0, .slice none 0 0, .slice none 0 0, .slice none 0 0, .slice none 0 0, .slice none 0 0, .slice none 0 0, .slice none 0 0] 42)) := box_below.alloc (by simp) _
  have hlt : w.heap.size + 1 < ((w.alloc (.cells (stA 0 (.slice none 0 0)) 35)).alloc (.cells #[.int .u64 0, .bool false, .int .i64 0, .int .i64 0, .int .i64 0, .int .i64 0, .int .i64 0, .slice none 0 0, .slice none 0 0, .slice none 0 0, .slice none 0 0, .slice none 0 0, .slice none 0 0, .slice none 0 0, .slice none 0 0] 42)).heap.size := by simp
  go_enter Tryz.func10, Tryz.ntmps10
  go_upto_region 1 with fail
  generalize ((w.alloc (.cells (stA 0 (.slice none 0 0)) 35)).alloc (.cells #[.int .u64 0, .bool false, .int .i64 0, .int .i64 0, .int .i64 0, .int .i64 0, .int .i64 0, .slice none 0 0, .slice none 0 0, .slice none 0 0, .slice none 0 0, .slice none 0 0, .slice none 0 0, .slice none 0 0, .slice none 0 0] 42)) = W2 at hh hz hb hlt ⊢
  have a0 : W2.drew.cell? ⟨w.heap.size, 0, none⟩ = some (.int .u64 0) := fr_cell_of_heap (w := W2) (i := 0) hh rfl
  have a1 : W2.drew.cell? ⟨w.heap.size, 1, none⟩ = some (.bool false) := fr_cell_of_heap (w := W2) (i := 1) hh rfl
  have a2 : W2.drew.cell? ⟨w.heap.size, 2, none⟩ = some (.int .i64 0) := fr_cell_of_heap (w := W2) (i := 2) hh rfl
  have a3 : W2.drew.cell? ⟨w.heap.size, 3, none⟩ = some (.int .i64 1) := fr_cell_of_heap (w := W2) (i := 3) hh rfl
  have a4 : W2.drew.cell? ⟨w.heap.size, 4, none⟩ = some (.int .i64 0) := fr_cell_of_heap (w := W2) (i := 4) hh rfl
  have a5 : W2.drew.cell? ⟨w.heap.size, 5, none⟩ = some (.int .i64 0) := fr_cell_of_heap (w := W2) (i := 5) hh rfl
  have a6 : W2.drew.cell? ⟨w.heap.size, 6, none⟩ = some (.int .i64 0) := fr_cell_of_heap (w := W2) (i := 6) hh rfl
  have a7 : W2.drew.cell? ⟨w.heap.size, 7, none⟩ = some (.slice none 0 0) := fr_cell_of_heap (w := W2) (i := 7) hh rfl
  have a8 : W2.drew.cell? ⟨w.heap.size, 8, none⟩ = some (.slice none 0 0) := fr_cell_of_heap (w := W2) (i := 8) hh rfl
  have a9 : W2.drew.cell? ⟨w.heap.size, 9, none⟩ = some (.slice none 0 0) := fr_cell_of_heap (w := W2) (i := 9) hh rfl
  have a10 : W2.drew.cell? ⟨w.heap.size, 10, none⟩ = some (.slice none 0 0) := fr_cell_of_heap (w := W2) (i := 10) hh rfl
  have a11 : W2.drew.cell? ⟨w.heap.size, 11, none⟩ = some (.slice none 0 0) := fr_cell_of_heap (w := W2) (i := 11) hh rfl
  have a12 : W2.drew.cell? ⟨w.heap.size, 12, none⟩ = some (.slice none 0 0) := fr_cell_of_heap (w := W2) (i := 12) hh rfl
  have a13 : W2.drew.cell? ⟨w.heap.size, 13, none⟩ = some (.slice none 0 0) := fr_cell_of_heap (w := W2) (i := 13) hh rfl
  have a14 : W2.drew.cell? ⟨w.heap.size, 14, none⟩ = some (.slice none 0 0) := fr_cell_of_heap (w := W2) (i := 14) hh rfl
  have HZ := Lib.hid (show W2.drew.heap[w.heap.size + 1]? = some (.cells #[.int .u64 0, .bool false, .int .i64 0, .int .i64 0, .int .i64 0, .int .i64 0, .int .i64 0, .slice none 0 0, .slice none 0 0, .slice none 0 0, .slice none 0 0, .slice none 0 0, .slice none 0 0, .slice none 0 0, .slice none 0 0] 42) from hz)
  have HB := Lib.hid (show Below w.heap.size w W2.drew from hb.drew)
  have HLT := Lib.hid (show w.heap.size + 1 < W2.drew.heap.size from hlt)
  clear hh hz hb hlt
  refine wp_region_noPanic ?_
  refine wp_region_any (by kernel_rfl) ?_
  change wpAny _ _ _ _ _ _ _ (World.drew _)
  refine wpAny_of_held (S := (fun w2 => w2.cell? ⟨w.heap.size, 0, none⟩ = some (.int .u64 0) ∧ w2.cell? ⟨w.heap.size, 1, none⟩ = some (.bool false) ∧ w2.cell? ⟨w.heap.size, 2, none⟩ = some (.int .i64 0) ∧ w2.cell? ⟨w.heap.size, 3, none⟩ = some (.int .i64 1) ∧ w2.cell? ⟨w.heap.size, 4, none⟩ = some (.int .i64 0) ∧ w2.cell? ⟨w.heap.size, 5, none⟩ = some (.int .i64 0) ∧ w2.cell? ⟨w.heap.size, 6, none⟩ = some (.int .i64 0) ∧ w2.cell? ⟨w.heap.size, 7, none⟩ = some (.slice none 0 0) ∧ w2.cell? ⟨w.heap.size, 8, none⟩ = some (.slice none 0 0) ∧ w2.cell? ⟨w.heap.size, 9, none⟩ = some (.slice none 0 0) ∧ w2.cell? ⟨w.heap.size, 10, none⟩ = some (.slice none 0 0) ∧ w2.cell? ⟨w.heap.size, 11, none⟩ = some (.slice none 0 0) ∧ w2.cell? ⟨w.heap.size, 12, none⟩ = some (.slice none 0 0) ∧ w2.cell? ⟨w.heap.size, 13, none⟩ = some (.slice none 0 0) ∧ w2.cell? ⟨w.heap.size, 14, none⟩ = some (.slice none 0 0))) _ _ _ _ ?_
  have hHeld : (fun w2 => w2.cell? ⟨w.heap.size, 0, none⟩ = some (.int .u64 0) ∧ w2.cell? ⟨w.heap.size, 1, none⟩ = some (.bool false) ∧ w2.cell? ⟨w.heap.size, 2, none⟩ = some (.int .i64 0) ∧ w2.cell? ⟨w.heap.size, 3, none⟩ = some (.int .i64 1) ∧ w2.cell? ⟨w.heap.size, 4, none⟩ = some (.int .i64 0) ∧ w2.cell? ⟨w.heap.size, 5, none⟩ = some (.int .i64 0) ∧ w2.cell? ⟨w.heap.size, 6, none⟩ = some (.int .i64 0) ∧ w2.cell? ⟨w.heap.size, 7, none⟩ = some (.slice none 0 0) ∧ w2.cell? ⟨w.heap.size, 8, none⟩ = some (.slice none 0 0) ∧ w2.cell? ⟨w.heap.size, 9, none⟩ = some (.slice none 0 0) ∧ w2.cell? ⟨w.heap.size, 10, none⟩ = some (.slice none 0 0) ∧ w2.cell? ⟨w.heap.size, 11, none⟩ = some (.slice none 0 0) ∧ w2.cell? ⟨w.heap.size, 12, none⟩ = some (.slice none 0 0) ∧ w2.cell? ⟨w.heap.size, 13, none⟩ = some (.slice none 0 0) ∧ w2.cell? ⟨w.heap.size, 14, none⟩ = some (.slice none 0 0)) W2.drew := ⟨a0, a1, a2, a3, a4, a5, a6, a7, a8, a9, a10, a11, a12, a13, a14⟩
  refine wpAnyH_take (i := 0) (oi := ⟨some 3, _, _, _, _, _⟩) (v := ?_) rfl (by kernel_rfl) (by kernel_rfl) (by kernel_rfl) (fun _ _ _ h => h) (Or.inl ⟨by rfl, ?_⟩) (by assumption) ?_
  rotate_left 1
  · intro w hSw
    try dsimp only at hSw
    go_simp
    try with_reducible rfl
  try simp only [Act.put, List.setIfInBounds_toArray, List.set_cons_zero, List.set_cons_succ]
  refine wpAnyH_take (i := 1) (oi := ⟨some 4, _, _, _, _, _⟩) (v := ?_) rfl (by kernel_rfl) (by kernel_rfl) (by kernel_rfl) (fun _ _ _ h => h) (Or.inl ⟨by rfl, ?_⟩) (by assumption) ?_
  rotate_left 1
  · intro w hSw
    try dsimp only at hSw
    go_simp
    try with_reducible rfl
  try simp only [Act.put, List.setIfInBounds_toArray, List.set_cons_zero, List.set_cons_succ]
  refine wpAnyH_take (i := 2) (oi := ⟨some 5, _, _, _, _, _⟩) (v := ?_) rfl (by kernel_rfl) (by kernel_rfl) (by kernel_rfl) (fun _ _ _ h => h) (Or.inl ⟨by rfl, ?_⟩) (by assumption) ?_
  rotate_left 1
  · intro w hSw
    try dsimp only at hSw
    go_simp
    try with_reducible rfl
  try simp only [Act.put, List.setIfInBounds_toArray, List.set_cons_zero, List.set_cons_succ]
  refine wpAnyH_take (i := 3) (oi := ⟨some 6, _, _, _, _, _⟩) (v := ?_) rfl (by kernel_rfl) (by kernel_rfl) (by kernel_rfl) (fun _ _ _ h => h) (Or.inl ⟨by rfl, ?_⟩) (by assumption) ?_
  rotate_left 1
  · intro w hSw
    try dsimp only at hSw
    go_simp
    try with_reducible rfl
  try simp only [Act.put, List.setIfInBounds_toArray, List.set_cons_zero, List.set_cons_succ]
  refine wpAnyH_take (i := 4) (oi := ⟨some 7, _, _, _, _, _⟩) (v := ?_) rfl (by kernel_rfl) (by kernel_rfl) (by kernel_rfl) (fun _ _ _ h => h) (Or.inl ⟨by rfl, ?_⟩) (by assumption) ?_
  rotate_left 1
  · intro w hSw
    try dsimp only at hSw
    go_simp
    try with_reducible rfl
  try simp only [Act.put, List.setIfInBounds_toArray, List.set_cons_zero, List.set_cons_succ]
  refine wpAnyH_take (i := 5) (oi := ⟨some 8, _, _, _, _, _⟩) (v := ?_) rfl (by kernel_rfl) (by kernel_rfl) (by kernel_rfl) (fun _ _ _ h => h) (Or.inl ⟨by rfl, ?_⟩) (by assumption) ?_
  rotate_left 1
  · intro w hSw
    try dsimp only at hSw
    go_simp
    try with_reducible rfl
  try simp only [Act.put, List.setIfInBounds_toArray, List.set_cons_zero, List.set_cons_succ]
  refine wpAnyH_take (i := 6) (oi := ⟨some 9, _, _, _, _, _⟩) (v := ?_) rfl (by kernel_rfl) (by kernel_rfl) (by kernel_rfl) (fun _ _ _ h => h) (Or.inl ⟨by rfl, ?_⟩) (by assumption) ?_
  rotate_left 1
  · intro w hSw
    try dsimp only at hSw
    go_simp
    try with_reducible rfl
  try simp only [Act.put, List.setIfInBounds_toArray, List.set_cons_zero, List.set_cons_succ]
  refine wpAnyH_take (i := 7) (oi := ⟨some 10, _, _, _, _, _⟩) (v := ?_) rfl (by kernel_rfl) (by kernel_rfl) (by kernel_rfl) (fun _ _ _ h => h) (Or.inl ⟨by rfl, ?_⟩) (by assumption) ?_
  rotate_left 1
  · intro w hSw
    try dsimp only at hSw
    go_simp
    try with_reducible rfl
  try simp only [Act.put, List.setIfInBounds_toArray, List.set_cons_zero, List.set_cons_succ]
  refine wpAnyH_take (i := 8) (oi := ⟨some 11, _, _, _, _, _⟩) (v := ?_) rfl (by kernel_rfl) (by kernel_rfl) (by kernel_rfl) (fun _ _ _ h => h) (Or.inl ⟨by rfl, ?_⟩) (by assumption) ?_
  rotate_left 1
  · intro w hSw
    try dsimp only at hSw
    go_simp
    try with_reducible rfl
  try simp only [Act.put, List.setIfInBounds_toArray, List.set_cons_zero, List.set_cons_succ]
  refine wpAnyH_take (i := 9) (oi := ⟨some 12, _, _, _, _, _⟩) (v := ?_) rfl (by kernel_rfl) (by kernel_rfl) (by kernel_rfl) (fun _ _ _ h => h) (Or.inl ⟨by rfl, ?_⟩) (by assumption) ?_
  rotate_left 1
  · intro w hSw
    try dsimp only at hSw
    go_simp
    try with_reducible rfl
  try simp only [Act.put, List.setIfInBounds_toArray, List.set_cons_zero, List.set_cons_succ]
  refine wpAnyH_take (i := 10) (oi := ⟨some 13, _, _, _, _, _⟩) (v := ?_) rfl (by kernel_rfl) (by kernel_rfl) (by kernel_rfl) (fun _ _ _ h => h) (Or.inl ⟨by rfl, ?_⟩) (by assumption) ?_
  rotate_left 1
  · intro w hSw
    try dsimp only at hSw
    go_simp
    try with_reducible rfl
  try simp only [Act.put, List.setIfInBounds_toArray, List.set_cons_zero, List.set_cons_succ]
  refine wpAnyH_take (i := 11) (oi := ⟨some 14, _, _, _, _, _⟩) (v := ?_) rfl (by kernel_rfl) (by kernel_rfl) (by kernel_rfl) (fun _ _ _ h => h) (Or.inl ⟨by rfl, ?_⟩) (by assumption) ?_
  rotate_left 1
  · intro w hSw
    try dsimp only at hSw
    go_simp
    try with_reducible rfl
  try simp only [Act.put, List.setIfInBounds_toArray, List.set_cons_zero, List.set_cons_succ]
  refine wpAnyH_take (i := 12) (oi := ⟨some 15, _, _, _, _, _⟩) (v := ?_) rfl (by kernel_rfl) (by kernel_rfl) (by kernel_rfl) (fun _ _ _ h => h) (Or.inl ⟨by rfl, ?_⟩) (by assumption) ?_
  rotate_left 1
  · intro w hSw
    try dsimp only at hSw
    go_simp
    try with_reducible rfl
  try simp only [Act.put, List.setIfInBounds_toArray, List.set_cons_zero, List.set_cons_succ]
  refine wpAnyH_take (i := 13) (oi := ⟨some 16, _, _, _, _, _⟩) (v := ?_) rfl (by kernel_rfl) (by kernel_rfl) (by kernel_rfl) (fun _ _ _ h => h) (Or.inl ⟨by rfl, ?_⟩) (by assumption) ?_
  rotate_left 1
  · intro w hSw
    try dsimp only at hSw
    go_simp
    try with_reducible rfl
  try simp only [Act.put, List.setIfInBounds_toArray, List.set_cons_zero, List.set_cons_succ]
  refine wpAnyH_take (i := 14) (oi := ⟨some 17, _, _, _, _, _⟩) (v := ?_) rfl (by kernel_rfl) (by kernel_rfl) (by kernel_rfl) (fun _ _ _ h => h) (Or.inl ⟨by rfl, ?_⟩) (by assumption) ?_
  rotate_left 1
  · intro w hSw
    try dsimp only at hSw
    go_simp
    try with_reducible rfl
  try simp only [Act.put, List.setIfInBounds_toArray, List.set_cons_zero, List.set_cons_succ]
  refine wpAnyH_take (i := 15) (oi := ⟨some 18, _, _, _, _, _⟩) (v := ?_) rfl (by kernel_rfl) (by kernel_rfl) (by kernel_rfl) (fun _ _ _ h => h) (Or.inl ⟨by rfl, ?_⟩) (by assumption) ?_
  rotate_left 1
  · intro w hSw
    try dsimp only at hSw
    go_simp
    try with_reducible rfl
  try simp only [Act.put, List.setIfInBounds_toArray, List.set_cons_zero, List.set_cons_succ]
  refine wpAnyH_take (i := 16) (oi := ⟨some 19, _, _, _, _, _⟩) (v := ?_) rfl (by kernel_rfl) (by kernel_rfl) (by kernel_rfl) (fun _ _ _ h => h) (Or.inl ⟨by rfl, ?_⟩) (by assumption) ?_
  rotate_left 1
  · intro w hSw
    try dsimp only at hSw
    go_simp
    try with_reducible rfl
  try simp only [Act.put, List.setIfInBounds_toArray, List.set_cons_zero, List.set_cons_succ]
  refine wpAnyH_take (i := 17) (oi := ⟨some 20, _, _, _, _, _⟩) (v := ?_) rfl (by kernel_rfl) (by kernel_rfl) (by kernel_rfl) (fun _ _ _ h => h) (Or.inl ⟨by rfl, ?_⟩) (by assumption) ?_
  rotate_left 1
  · intro w hSw
    try dsimp only at hSw
    go_simp
    try with_reducible rfl
  try simp only [Act.put, List.setIfInBounds_toArray, List.set_cons_zero, List.set_cons_succ]
  refine wpAnyH_take (i := 18) (oi := ⟨some 21, _, _, _, _, _⟩) (v := ?_) rfl (by kernel_rfl) (by kernel_rfl) (by kernel_rfl) (fun _ _ _ h => h) (Or.inl ⟨by rfl, ?_⟩) (by assumption) ?_
  rotate_left 1
  · intro w hSw
    try dsimp only at hSw
    go_simp
    try with_reducible rfl
  try simp only [Act.put, List.setIfInBounds_toArray, List.set_cons_zero, List.set_cons_succ]
  refine wpAnyH_take (i := 19) (oi := ⟨some 22, _, _, _, _, _⟩) (v := ?_) rfl (by kernel_rfl) (by kernel_rfl) (by kernel_rfl) (fun _ _ _ h => h) (Or.inl ⟨by rfl, ?_⟩) (by assumption) ?_
  rotate_left 1
  · intro w hSw
    try dsimp only at hSw
    go_simp
    try with_reducible rfl
  try simp only [Act.put, List.setIfInBounds_toArray, List.set_cons_zero, List.set_cons_succ]
  refine wpAnyH_take (i := 20) (oi := ⟨some 23, _, _, _, _, _⟩) (v := ?_) rfl (by kernel_rfl) (by kernel_rfl) (by kernel_rfl) (fun _ _ _ h => h) (Or.inl ⟨by rfl, ?_⟩) (by assumption) ?_
  rotate_left 1
  · intro w hSw
    try dsimp only at hSw
    go_simp
    try with_reducible rfl
  try simp only [Act.put, List.setIfInBounds_toArray, List.set_cons_zero, List.set_cons_succ]
  refine wpAnyH_take (i := 21) (oi := ⟨some 24, _, _, _, _, _⟩) (v := ?_) rfl (by kernel_rfl) (by kernel_rfl) (by kernel_rfl) (fun _ _ _ h => h) (Or.inl ⟨by rfl, ?_⟩) (by assumption) ?_
  rotate_left 1
  · intro w hSw
    try dsimp only at hSw
    go_simp
    try with_reducible rfl
  try simp only [Act.put, List.setIfInBounds_toArray, List.set_cons_zero, List.set_cons_succ]
  refine wpAnyH_take (i := 22) (oi := ⟨some 25, _, _, _, _, _⟩) (v := ?_) rfl (by kernel_rfl) (by kernel_rfl) (by kernel_rfl) (fun _ _ _ h => h) (Or.inl ⟨by rfl, ?_⟩) (by assumption) ?_
  rotate_left 1
  · intro w hSw
    try dsimp only at hSw
    go_simp
    try with_reducible rfl
  try simp only [Act.put, List.setIfInBounds_toArray, List.set_cons_zero, List.set_cons_succ]
  refine wpAnyH_take (i := 23) (oi := ⟨some 26, _, _, _, _, _⟩) (v := ?_) rfl (by kernel_rfl) (by kernel_rfl) (by kernel_rfl) (fun _ _ _ h => h) (Or.inl ⟨by rfl, ?_⟩) (by assumption) ?_
  rotate_left 1
  · intro w hSw
    try dsimp only at hSw
    go_simp
    try with_reducible rfl
  try simp only [Act.put, List.setIfInBounds_toArray, List.set_cons_zero, List.set_cons_succ]
  refine wpAnyH_take (i := 25) (oi := ⟨some 28, _, _, _, _, _⟩) (v := ?_) rfl (by kernel_rfl) (by kernel_rfl) (by kernel_rfl) (fun _ _ _ h => h) (Or.inl ⟨by rfl, ?_⟩) (by assumption) ?_
  rotate_left 1
  · intro w hSw
    try dsimp only at hSw
    go_simp
    try with_reducible rfl
  try simp only [Act.put, List.setIfInBounds_toArray, List.set_cons_zero, List.set_cons_succ]
  refine wpAnyH_take (i := 26) (oi := ⟨some 29, _, _, _, _, _⟩) (v := ?_) rfl (by kernel_rfl) (by kernel_rfl) (by kernel_rfl) (fun _ _ _ h => h) (Or.inl ⟨by rfl, ?_⟩) (by assumption) ?_
  rotate_left 1
  · intro w hSw
    try dsimp only at hSw
    go_simp
    try with_reducible rfl
  try simp only [Act.put, List.setIfInBounds_toArray, List.set_cons_zero, List.set_cons_succ]
  refine wpAnyH_take (i := 27) (oi := ⟨some 30, _, _, _, _, _⟩) (v := ?_) rfl (by kernel_rfl) (by kernel_rfl) (by kernel_rfl) (fun _ _ _ h => h) (Or.inl ⟨by rfl, ?_⟩) (by assumption) ?_
  rotate_left 1
  · intro w hSw
    try dsimp only at hSw
    go_simp
    try with_reducible rfl
  try simp only [Act.put, List.setIfInBounds_toArray, List.set_cons_zero, List.set_cons_succ]
  refine wpAnyH_take (i := 28) (oi := ⟨some 31, _, _, _, _, _⟩) (v := ?_) rfl (by kernel_rfl) (by kernel_rfl) (by kernel_rfl) (fun _ _ _ h => h) (Or.inl ⟨by rfl, ?_⟩) (by assumption) ?_
  rotate_left 1
  · intro w hSw
    try dsimp only at hSw
    go_simp
    try with_reducible rfl
  try simp only [Act.put, List.setIfInBounds_toArray, List.set_cons_zero, List.set_cons_succ]
  refine wpAnyH_take (i := 29) (oi := ⟨some 32, _, _, _, _, _⟩) (v := ?_) rfl (by kernel_rfl) (by kernel_rfl) (by kernel_rfl) (fun _ _ _ h => h) (Or.inl ⟨by rfl, ?_⟩) (by assumption) ?_
  rotate_left 1
  · intro w hSw
    try dsimp only at hSw
    go_simp
    try with_reducible rfl
  try simp only [Act.put, List.setIfInBounds_toArray, List.set_cons_zero, List.set_cons_succ]
  refine wpAnyH_take (i := 30) (oi := ⟨some 33, _, _, _, _, _⟩) (v := ?_) rfl (by kernel_rfl) (by kernel_rfl) (by kernel_rfl) (fun _ _ _ h => h) (Or.inl ⟨by rfl, ?_⟩) (by assumption) ?_
  rotate_left 1
  · intro w hSw
    try dsimp only at hSw
    go_simp
    try with_reducible rfl
  try simp only [Act.put, List.setIfInBounds_toArray, List.set_cons_zero, List.set_cons_succ]
  refine wpAnyH_ready (rs := [24]) (by kernel_rfl) (by simp) ?_
  refine AllReadyH.cons (o := ⟨some 27, _, _, _, _, _⟩) rfl (fun K hK => ?_) AllReadyH.nil
  go_simp
  refine (lpools_nil _).mono ?_
  rintro e w6 ⟨⟨p, rfl⟩, hb6⟩
  have hHeld6 : (fun w2 => w2.cell? ⟨w.heap.size, 0, none⟩ = some (.int .u64 0) ∧ w2.cell? ⟨w.heap.size, 1, none⟩ = some (.bool false) ∧ w2.cell? ⟨w.heap.size, 2, none⟩ = some (.int .i64 0) ∧ w2.cell? ⟨w.heap.size, 3, none⟩ = some (.int .i64 1) ∧ w2.cell? ⟨w.heap.size, 4, none⟩ = some (.int .i64 0) ∧ w2.cell? ⟨w.heap.size, 5, none⟩ = some (.int .i64 0) ∧ w2.cell? ⟨w.heap.size, 6, none⟩ = some (.int .i64 0) ∧ w2.cell? ⟨w.heap.size, 7, none⟩ = some (.slice none 0 0) ∧ w2.cell? ⟨w.heap.size, 8, none⟩ = some (.slice none 0 0) ∧ w2.cell? ⟨w.heap.size, 9, none⟩ = some (.slice none 0 0) ∧ w2.cell? ⟨w.heap.size, 10, none⟩ = some (.slice none 0 0) ∧ w2.cell? ⟨w.heap.size, 11, none⟩ = some (.slice none 0 0) ∧ w2.cell? ⟨w.heap.size, 12, none⟩ = some (.slice none 0 0) ∧ w2.cell? ⟨w.heap.size, 13, none⟩ = some (.slice none 0 0) ∧ w2.cell? ⟨w.heap.size, 14, none⟩ = some (.slice none 0 0)) w6 := ⟨cell_below hb6 hHeld.1, cell_below hb6 hHeld.2.1, cell_below hb6 hHeld.2.2.1, cell_below hb6 hHeld.2.2.2.1, cell_below hb6 hHeld.2.2.2.2.1, cell_below hb6 hHeld.2.2.2.2.2.1, cell_below hb6 hHeld.2.2.2.2.2.2.1, cell_below hb6 hHeld.2.2.2.2.2.2.2.1, cell_below hb6 hHeld.2.2.2.2.2.2.2.2.1, cell_below hb6 hHeld.2.2.2.2.2.2.2.2.2.1, cell_below hb6 hHeld.2.2.2.2.2.2.2.2.2.2.1, cell_below hb6 hHeld.2.2.2.2.2.2.2.2.2.2.2.1, cell_below hb6 hHeld.2.2.2.2.2.2.2.2.2.2.2.2.1, cell_below hb6 hHeld.2.2.2.2.2.2.2.2.2.2.2.2.2.1, cell_below hb6 hHeld.2.2.2.2.2.2.2.2.2.2.2.2.2.2⟩
  refine hK.out _ _ hHeld6 (fun hHeld => ?_)
  clear hK K
  try simp only [Act.put, List.setIfInBounds_toArray, List.set_cons_zero, List.set_cons_succ]
  clear hHeld6
  refine wpAnyH_take (i := 31) (oi := ⟨some 34, _, _, _, _, _⟩) (v := ?_) rfl (by kernel_rfl) (by kernel_rfl) (by kernel_rfl) (fun _ _ _ h => h) (Or.inl ⟨by rfl, ?_⟩) (by assumption) ?_
  rotate_left 1
  · intro w hSw
    try dsimp only at hSw
    go_simp
    try with_reducible rfl
  try simp only [Act.put, List.setIfInBounds_toArray, List.set_cons_zero, List.set_cons_succ]
  have HZ6 := Lib.hid ((hb6.block _ HLT.out).trans HZ.out)
  have HB6 := Lib.hid (HB.out.trans (hb6.mono HB.out.size))
  refine wpAnyH_ready (rs := [32]) (by kernel_rfl) (by simp) ?_
  refine AllReadyH.cons (o := ⟨none, _, _, _, _, _⟩) rfl (fun K hK => ?_) AllReadyH.nil
  refine wp_store_row 42 _ _ rfl (w.heap.size + 1) (stP p) rfl rfl 42 _ HZ6.out st_info rfl (stP_one p) ?_
  refine hK.out _ _ ⟨(cell_setRow_not (by omega)).trans hHeld.1, (cell_setRow_not (by omega)).trans hHeld.2.1, (cell_setRow_not (by omega)).trans hHeld.2.2.1, (cell_setRow_not (by omega)).trans hHeld.2.2.2.1, (cell_setRow_not (by omega)).trans hHeld.2.2.2.2.1, (cell_setRow_not (by omega)).trans hHeld.2.2.2.2.2.1, (cell_setRow_not (by omega)).trans hHeld.2.2.2.2.2.2.1, (cell_setRow_not (by omega)).trans hHeld.2.2.2.2.2.2.2.1, (cell_setRow_not (by omega)).trans hHeld.2.2.2.2.2.2.2.2.1, (cell_setRow_not (by omega)).trans hHeld.2.2.2.2.2.2.2.2.2.1, (cell_setRow_not (by omega)).trans hHeld.2.2.2.2.2.2.2.2.2.2.1, (cell_setRow_not (by omega)).trans hHeld.2.2.2.2.2.2.2.2.2.2.2.1, (cell_setRow_not (by omega)).trans hHeld.2.2.2.2.2.2.2.2.2.2.2.2.1, (cell_setRow_not (by omega)).trans hHeld.2.2.2.2.2.2.2.2.2.2.2.2.2.1, (cell_setRow_not (by omega)).trans hHeld.2.2.2.2.2.2.2.2.2.2.2.2.2.2⟩ (fun hHeld => ?_)
  clear hK K
  refine wpAnyH_done (by kernel_rfl) ?_ _
  refine NoPanic.normal ?_
  clear hHeld
  go_wp2_with fail
  refine bodyPost_ret (v := .agg (stP p)) (results_row1 Tryz.results10 rfl (setRow_at HZ6.out) Tryz.underlying42 rfl st_info) rfl ⟨⟨p, rfl⟩, below_setRow HB6.out (by omega) _⟩
set_option maxRecDepth 100000 in
set_option maxHeartbeats 2000000 in
theorem same_nil (p : Nat) (w : World) : Calls Tryz.prog 12 #[.agg (stA 0 (.slice none 0 0)), .agg (stP p)] w (BoolPost true w) := by
  have a0 : (stA 0 (.slice none 0 0))[0]? = some (.int .u64 0) := rfl
  have b0 : (stP p)[0]? = some (.int .u64 0) := rfl
  have a1 : (stA 0 (.slice none 0 0))[1]? = some (.bool false) := rfl
  have b1 : (stP p)[1]? = some (.bool false) := rfl
  have a2 : (stA 0 (.slice none 0 0))[2]? = some (.int .i64 0) := rfl
  have b2 : (stP p)[2]? = some (.int .i64 0) := rfl
  have a3 : (stA 0 (.slice none 0 0))[3]? = some (.int .i64 1) := rfl
  have b3 : (stP p)[3]? = some (.int .i64 1) := rfl
  have a4 : (stA 0 (.slice none 0 0))[4]? = some (.int .i64 0) := rfl
  have b4 : (stP p)[4]? = some (.int .i64 0) := rfl
  have a5 : (stA 0 (.slice none 0 0))[5]? = some (.int .i64 0) := rfl
  have b5 : (stP p)[5]? = some (.int .i64 0) := rfl
  have a6 : (stA 0 (.slice none 0 0))[6]? = some (.int .i64 0) := rfl
  have b6 : (stP p)[6]? = some (.int .i64 0) := rfl
  have a7 : (stA 0 (.slice none 0 0))[7]? = some (.slice none 0 0) := rfl
  have b7 : (stP p)[7]? = some (.slice none 0 0) := rfl
  have a8 : (stA 0 (.slice none 0 0))[8]? = some (.slice none 0 0) := rfl
  have b8 : (stP p)[8]? = some (.slice none 0 0) := rfl
  have a9 : (stA 0 (.slice none 0 0))[9]? = some (.slice none 0 0) := rfl
  have b9 : (stP p)[9]? = some (.slice none 0 0) := rfl
  have a10 : (stA 0 (.slice none 0 0))[10]? = some (.slice none 0 0) := rfl
  have b10 : (stP p)[10]? = some (.slice none 0 0) := rfl
  have a11 : (stA 0 (.slice none 0 0))[11]? = some (.slice none 0 0) := rfl
  have b11 : (stP p)[11]? = some (.slice (some ⟨p, 0, none⟩) 0 0) := rfl
  have a12 : (stA 0 (.slice none 0 0))[12]? = some (.slice none 0 0) := rfl
  have b12 : (stP p)[12]? = some (.slice none 0 0) := rfl
  have a13 : (stA 0 (.slice none 0 0))[13]? = some (.slice none 0 0) := rfl
  have b13 : (stP p)[13]? = some (.slice none 0 0) := rfl
  have a14 : (stA 0 (.slice none 0 0))[14]? = some (.slice none 0 0) := rfl
  have b14 : (stP p)[14]? = some (.slice none 0 0) := rfl
  go_enter Tryz.func12, Tryz.ntmps12
  go_wp2_with fail
  refine (eqNilOp _ _ _ _ _).mono ?_
  rintro e w2 ⟨rfl, rfl⟩
  go_wp2_with fail
  refine (eqNilOp _ _ _ _ _).mono ?_
  rintro e w2 ⟨rfl, rfl⟩
  go_wp2_with fail
  refine (eqNilWk _ _ _ _ _).mono ?_
  rintro e w2 ⟨rfl, rfl⟩
  go_wp2_with fail
  refine (eqNilInv _ _ _ _ _).mono ?_
  rintro e w2 ⟨rfl, rfl⟩
  go_wp2_with fail
  refine (eqNilRow _ _ _ _ _).mono ?_
  rintro e w2 ⟨rfl, rfl⟩
  go_wp2_with fail
  refine (eqNilLet _ _ _ _ _).mono ?_
  rintro e w2 ⟨rfl, rfl⟩
  go_wp2_with fail
  refine (eqNilWt _ _ _ _ _).mono ?_
  rintro e w2 ⟨rfl, rfl⟩
  go_wp2_with fail
  refine (eqfNil _ _ _ _ _ _).mono ?_
  rintro e w2 ⟨rfl, rfl⟩
  go_wp2_with fail
  go_ret
  exact ⟨rfl, box_below.alloc (by simp) _⟩
end Go.Proofs.YtjmlimogmmikoaaGreatDoor
namespace Go.Proofs.YtjmlimogmmikoaaGreatDoor
open Go.RowKit
structure CkOk (c : Cfg) : Prop where
  keep : 1 ≤ c.keep
  workers : 1 ≤ c.workers
  pools : 1 ≤ c.pools
  q : 1 ≤ c.q ∧ c.q ≤ 64
  keys : 1 ≤ c.keys
  dead : 1 ≤ c.dead ∧ c.dead ≤ 1000
  watch : 0 ≤ c.watch
  cls : 1 ≤ classesV c
theorem ckOk_of {c : Cfg} (h : checkE c = 0) : CkOk c := by
  have hcl : 1 ≤ classesV c := by unfold classesV; rw [if_pos h]; omega
  unfold checkE at h
  split at h
  · rename_i hne; exact absurd h hne
  · split at h
    · cases h
    · split at h
      · cases h
      · rename_i hl
        have hab : (aOk c && bOk c && dOk c) = true := by
          rcases Bool.eq_false_or_eq_true (aOk c && bOk c && dOk c) with hx | hx
          · exact hx
          · exact absurd (.inr hx) hl
        simp only [Bool.and_eq_true, aOk, bOk, dOk, inB_iff] at hab
        exact ⟨by omega, by omega, by omega, by omega, by omega, by omega, by omega, hcl⟩
theorem rules_nil {tv lv : Value} {c : Cfg} {b : Nat} {w : World} (hE : checkE c = 0) (hC : CfgAt w tv lv c) (hr : Ready w) (hg : w.heap[b]? = some (.cells (cfA tv lv c) 25 (0, 0))) :
    (∀ (j : Nat) u, j < 12 → (rulesF b 0 (.slice none 0 0) tv lv c)[j]? = some u → RuleOk true u w) ∧ (∀ u, (rulesF b 0 (.slice none 0 0) tv lv c)[12]? = some u → RuleOk false u w) := by
  have hk := ckOk_of hE
  refine ⟨fun j u hj hu => ?_, fun u hu => by simp [rulesF] at hu⟩
  have hj' : j = 0 ∨ j = 1 ∨ j = 2 ∨ j = 3 ∨ j = 4 ∨ j = 5 ∨ j = 6 ∨ j = 7 ∨ j = 8 ∨ j = 9 ∨ j = 10 ∨ j = 11 := by omega
  rcases hj' with rfl | rfl | rfl | rfl | rfl | rfl | rfl | rfl | rfl | rfl | rfl | rfl <;> (simp [rulesF] at hu; subst hu)
  · exact rule0 tv lv c b w hg hC true (by rw [hE]; rfl)
  · exact rule1 hk.keep
  · exact rule2 hC hE
  · exact rule3 hr hk.workers
  · exact rule4 hC hk.pools hk.cls hk.q.1 hk.q.2
  · exact rule5
  · exact rule6
  · exact rule7
  · exact rule8 hk.keys
  · exact rule9 hk.dead.1 hk.dead.2
  · exact rule10 hk.watch
  · exact rule11
theorem rules_one {lw : Int} {g off cap : Nat} {x : Wk} {tv lv : Value} {c : Cfg} {b : Nat} {w : World} (hE : checkE c = 0) (hC : CfgAt w tv lv c) (hr : Ready w) (hg : w.heap[b]? = some (.cells (cfA tv lv c) 25 (0, 0)))
    (hR : RowsW w (.slice (some ⟨g, off, none⟩) 1 cap) [x]) (hs : SmallW x) (hL : LoadsW c.workers [x] lw) (hcl : x.cls < classesV c) (hop : x.op ≠ 0) :
    (∀ (j : Nat) u, j < 3 → (rulesF b lw (.slice (some ⟨g, off, none⟩) 1 cap) tv lv c)[j]? = some u → RuleOk true u w) ∧ (∀ u, (rulesF b lw (.slice (some ⟨g, off, none⟩) 1 cap) tv lv c)[3]? = some u → RuleOk false u w) := by
  have hk := ckOk_of hE
  refine ⟨fun j u hj hu => ?_, fun u hu => ?_⟩
  · have hj' : j = 0 ∨ j = 1 ∨ j = 2 := by omega
    rcases hj' with rfl | rfl | rfl <;> (simp [rulesF] at hu; subst hu)
    · exact rule0 tv lv c b w hg hC true (by rw [hE]; rfl)
    · exact rule1 hk.keep
    · exact rule2 hC hE
  · simp [rulesF] at hu
    subst hu
    exact rule3no hr hC hR hs hL hcl hop
set_option maxRecDepth 100000 in
set_option maxHeartbeats 1000000 in
theorem wide_any (tv lv : Value) (c : Cfg) (w : World) (hC : CfgAt w tv lv c) : Calls Tryz.prog 7 #[.agg (cfA tv lv c)] w (BoolPost (decide (20 < c.ts.length) || decide (20 < c.ls.length)) w) := by
  obtain ⟨la, lcap, rfl, hlen, -⟩ := hC.1
  obtain ⟨ma, mcap, rfl, hlen2, -⟩ := hC.2
  have k0 : (cfA (.slice la c.ts.length lcap) (.slice ma c.ls.length mcap) c)[0]? = some (.slice la c.ts.length lcap) := rfl
  have k1 : (cfA (.slice la c.ts.length lcap) (.slice ma c.ls.length mcap) c)[1]? = some (.slice ma c.ls.length mcap) := rfl
  by_cases h1 : 20 < c.ts.length
  · go_enter Tryz.func7, Tryz.ntmps7
    go_wp2
    go_ret
    exact ⟨ret_bool (by simp), box_below⟩
  · by_cases h2 : 20 < c.ls.length
    · go_enter Tryz.func7, Tryz.ntmps7
      go_wp2
      go_ret
      exact ⟨ret_bool (by rw [show decide ((20 : Int) < c.ts.length) = decide (20 < c.ts.length) from decide_eq_decide.2 (by omega), show decide ((20 : Int) < c.ls.length) = decide (20 < c.ls.length) from decide_eq_decide.2 (by omega)]), box_below⟩
    · go_enter Tryz.func7, Tryz.ntmps7
      go_wp2
      go_ret
      exact ⟨ret_bool (by rw [show decide ((20 : Int) < c.ts.length) = decide (20 < c.ts.length) from decide_eq_decide.2 (by omega), show decide ((20 : Int) < c.ls.length) = decide (20 < c.ls.length) from decide_eq_decide.2 (by omega)]), box_below⟩
def c35 : Cfg := ⟨[⟨⟨#[97]⟩, 1, 9⟩], [], 1, 2, 3, 2, 2, 2, 0, 0, 1, 4, 5, 2, 2, 2, 50, 2, 0⟩
theorem c35_ok : checkE c35 = 0 := by decide +kernel
def x35 : Wk := ⟨1, 0, 5, ⟨#[119]⟩, ⟨#[]⟩, false, 3⟩
theorem x35_loads : LoadsW c35.workers [x35] 1 := by
  refine ⟨by decide, by decide, by decide, fun j x hj hx => ?_⟩
  obtain rfl : j = 0 := by simp at hj; omega
  obtain rfl : x35 = x := by simpa using hx
  exact ⟨by decide +kernel, by decide +kernel, by simp, by decide, by decide, by decide⟩
set_option maxRecDepth 100000 in
set_option maxHeartbeats 2000000 in
theorem live35_any (w : World) (hr : Ready w) : Calls Tryz.prog 8 #[] w (BoolPost true w) := by
  have HR := Lib.hid hr
  clear hr
  go_enter Tryz.func8, Tryz.ntmps8
  go_upto_region 2 with (refine wpList_store_new rfl 25 _ _ rfl (w.heap.size + 1) ?a1 _ rfl rfl ?a2 ?a3 ?a4 ?_; (case a1 => simp); (case a2 => exact cfg_info); (case a3 => rfl); (case a4 => simp [Value.oneCell']))
  have hg1 : ((w.alloc (.cells #[.string ⟨#[97]⟩, .int .i64 1, .int .i64 9] 70)).alloc (.cells #[.slice (some ⟨w.heap.size, 0, none⟩) 1 1, .slice none 0 0, .int .i64 1, .int .i64 2, .int .i64 3, .int .i64 2, .int .i64 2, .int .i64 2, .int .i64 0, .int .i64 0, .int .i64 1, .int .i64 4, .int .i64 5, .int .i64 2, .int .i64 2, .int .i64 2, .int .i64 50, .int .i64 2, .int .i64 0] 25)).heap[w.heap.size + 1]? = some (.cells (cfA (.slice (some ⟨w.heap.size, 0, none⟩) 1 1) (.slice none 0 0) c35) 25 (0, 0)) := heap_alloc_two _ _ _
  have hc1 : CfgAt ((w.alloc (.cells #[.string ⟨#[97]⟩, .int .i64 1, .int .i64 9] 70)).alloc (.cells #[.slice (some ⟨w.heap.size, 0, none⟩) 1 1, .slice none 0 0, .int .i64 1, .int .i64 2, .int .i64 3, .int .i64 2, .int .i64 2, .int .i64 2, .int .i64 0, .int .i64 0, .int .i64 1, .int .i64 4, .int .i64 5, .int .i64 2, .int .i64 2, .int .i64 2, .int .i64 50, .int .i64 2, .int .i64 0] 25)) (.slice (some ⟨w.heap.size, 0, none⟩) 1 1) (.slice none 0 0) c35 := by
    refine ⟨⟨_, _, rfl, by decide, fun i t ht => ?_⟩, ⟨_, _, rfl, by decide, fun i t ht => by cases ht⟩⟩
    match i, ht with
    | 0, ht =>
      cases ht
      exact ⟨by decide, _, _, rfl, cell_below box_below (cell_alloc_at rfl), cell_below box_below (cell_alloc_at rfl), cell_below box_below (cell_alloc_at rfl)⟩
    | i + 1, ht => cases ht
  have hb1 : Below w.heap.size w ((w.alloc (.cells #[.string ⟨#[97]⟩, .int .i64 1, .int .i64 9] 70)).alloc (.cells #[.slice (some ⟨w.heap.size, 0, none⟩) 1 1, .slice none 0 0, .int .i64 1, .int .i64 2, .int .i64 3, .int .i64 2, .int .i64 2, .int .i64 2, .int .i64 0, .int .i64 0, .int .i64 1, .int .i64 4, .int .i64 5, .int .i64 2, .int .i64 2, .int .i64 2, .int .i64 50, .int .i64 2, .int .i64 0] 25)) := box_below.alloc (by simp) _
  have hs1 : ((w.alloc (.cells #[.string ⟨#[97]⟩, .int .i64 1, .int .i64 9] 70)).alloc (.cells #[.slice (some ⟨w.heap.size, 0, none⟩) 1 1, .slice none 0 0, .int .i64 1, .int .i64 2, .int .i64 3, .int .i64 2, .int .i64 2, .int .i64 2, .int .i64 0, .int .i64 0, .int .i64 1, .int .i64 4, .int .i64 5, .int .i64 2, .int .i64 2, .int .i64 2, .int .i64 50, .int .i64 2, .int .i64 0] 25)).heap.size = w.heap.size + 1 + 1 := by simp
  generalize (w.alloc (.cells #[.string ⟨#[97]⟩, .int .i64 1, .int .i64 9] 70)).alloc (.cells #[.slice (some ⟨w.heap.size, 0, none⟩) 1 1, .slice none 0 0, .int .i64 1, .int .i64 2, .int .i64 3, .int .i64 2, .int .i64 2, .int .i64 2, .int .i64 0, .int .i64 0, .int .i64 1, .int .i64 4, .int .i64 5, .int .i64 2, .int .i64 2, .int .i64 2, .int .i64 50, .int .i64 2, .int .i64 0] 25) = W1 at hg1 hc1 hb1 hs1 ⊢
  have HG1 := Lib.hid hg1
  have HC1 := Lib.hid hc1
  have HB1 := Lib.hid hb1
  clear hg1 hc1 hb1
  go_wp2_with fail
  refine (stnew_any _).mono ?_
  rintro e w2 ⟨rfl, hb2⟩
  have HB2 := Lib.hid (HB1.out.trans (hb2.mono HB1.out.size))
  have n2 : w.heap.size + 1 + 1 ≤ w2.heap.size := by have := hb2.size; omega
  have hg3 : (w2.alloc (.cells (stA 0 (.slice none 0 0)) 42)).heap[w.heap.size + 1]? = some (.cells (cfA (.slice (some ⟨w.heap.size, 0, none⟩) 1 1) (.slice none 0 0) c35) 25 (0, 0)) := fr_alloc_old ((hb2.block _ (by omega)).trans HG1.out)
  have hs3 : (w2.alloc (.cells (stA 0 (.slice none 0 0)) 42)).heap[w2.heap.size]? = some (.cells (stA 0 (.slice none 0 0)) 42 (0, 0)) := heap_alloc_new _ _
  have HBX := Lib.hid hb2
  have hb3 := HB2.out.alloc HB2.out.size (.cells (stA 0 (.slice none 0 0)) 42)
  have hc3 := (HC1.out.below hb2).below (box_below (o := .cells (stA 0 (.slice none 0 0)) 42))
  have HG3 := Lib.hid hg3
  have HS3 := Lib.hid hs3
  have HB3 := Lib.hid hb3
  have HC3 := Lib.hid hc3
  clear hg3 hs3 hb3 hc3 hb2
  go_wp2_with (first
    | (refine wpList_store_new rfl 42 _ _ rfl w2.heap.size ?a1 _ rfl rfl ?a2 ?a3 ?a4 ?_; (case a1 => rfl); (case a2 => exact st_info); (case a3 => rfl); (case a4 => simp [stA, Value.oneCell']))
    | refine wpList_load_agg 25 HG3.out Tryz.underlying25 rfl cfg_info rfl _ rfl rfl ?_
    | refine wpList_load_agg 42 HS3.out Tryz.underlying42 rfl st_info rfl _ rfl rfl ?_)
  refine (wrong_any 0 (.slice none 0 0) (.slice (some ⟨w.heap.size, 0, none⟩) 1 1) (.slice none 0 0) c35 12 _ (Nat.le_refl _) (fun w5 hb5 hg5 => rules_nil c35_ok (HC3.out.below hb5) ((HR.out.below HB3.out).below hb5) hg5) (by simp [ckA, Value.oneCell'])).mono ?_
  rintro e w4 ⟨rfl, hb4⟩
  have HB4 := Lib.hid (HB3.out.trans (hb4.mono HB3.out.size))
  have n4 : w2.heap.size + 1 ≤ w4.heap.size := by have := hb4.size; simp at this; omega
  have hs4 : w4.heap[w2.heap.size]? = some (.cells (stA 0 (.slice none 0 0)) 42 (0, 0)) := (hb4.block _ (by simp)).trans HS3.out
  have hg4 : w4.heap[w.heap.size + 1]? = some (.cells (cfA (.slice (some ⟨w.heap.size, 0, none⟩) 1 1) (.slice none 0 0) c35) 25 (0, 0)) := (hb4.block _ (by simp; omega)).trans HG3.out
  have hs5 : (w4.alloc (.cells #[.int .i64 1, .int .i64 0, .int .i64 5, .string ⟨#[119]⟩, .string ⟨#[]⟩, .bool false, .int .u64 3] 67)).heap[w2.heap.size]? = some (.cells (stA 0 (.slice none 0 0)) 42 (0, 0)) := fr_alloc_old hs4
  have hs6 : (((w4.alloc (.cells #[.int .i64 1, .int .i64 0, .int .i64 5, .string ⟨#[119]⟩, .string ⟨#[]⟩, .bool false, .int .u64 3] 67)).setCell ⟨w2.heap.size, 9, none⟩ (.slice (some ⟨w4.heap.size, 0, none⟩) 1 1)).setCell ⟨w2.heap.size, 4, none⟩ (.int .i64 1)).heap[w2.heap.size]? = some (.cells (stA 1 (.slice (some ⟨w4.heap.size, 0, none⟩) 1 1)) 42 (0, 0)) := fr_setCell_at (fr_setCell_at hs5)
  have hg6 : (((w4.alloc (.cells #[.int .i64 1, .int .i64 0, .int .i64 5, .string ⟨#[119]⟩, .string ⟨#[]⟩, .bool false, .int .u64 3] 67)).setCell ⟨w2.heap.size, 9, none⟩ (.slice (some ⟨w4.heap.size, 0, none⟩) 1 1)).setCell ⟨w2.heap.size, 4, none⟩ (.int .i64 1)).heap[w.heap.size + 1]? = some (.cells (cfA (.slice (some ⟨w.heap.size, 0, none⟩) 1 1) (.slice none 0 0) c35) 25 (0, 0)) := by rw [fr_setCell_other (by omega), fr_setCell_other (by omega)]; exact fr_alloc_old hg4
  have k9 : (w4.alloc (.cells #[.int .i64 1, .int .i64 0, .int .i64 5, .string ⟨#[119]⟩, .string ⟨#[]⟩, .bool false, .int .u64 3] 67)).cell? ⟨w2.heap.size, 9, none⟩ = some (.slice none 0 0) := fr_cell_of_heap hs5 rfl
  have f9 : (w4.alloc (.cells #[.int .i64 1, .int .i64 0, .int .i64 5, .string ⟨#[119]⟩, .string ⟨#[]⟩, .bool false, .int .u64 3] 67)).frozen? ⟨w2.heap.size, 9, none⟩ = false := fr_free_of_heap hs5
  have k4 : ((w4.alloc (.cells #[.int .i64 1, .int .i64 0, .int .i64 5, .string ⟨#[119]⟩, .string ⟨#[]⟩, .bool false, .int .u64 3] 67)).setCell ⟨w2.heap.size, 9, none⟩ (.slice (some ⟨w4.heap.size, 0, none⟩) 1 1)).cell? ⟨w2.heap.size, 4, none⟩ = some (.int .i64 0) := fr_cell_of_heap (fr_setCell_at hs5) rfl
  have f4 : ((w4.alloc (.cells #[.int .i64 1, .int .i64 0, .int .i64 5, .string ⟨#[119]⟩, .string ⟨#[]⟩, .bool false, .int .u64 3] 67)).setCell ⟨w2.heap.size, 9, none⟩ (.slice (some ⟨w4.heap.size, 0, none⟩) 1 1)).frozen? ⟨w2.heap.size, 4, none⟩ = false := fr_free_of_heap (fr_setCell_at hs5)
  have hb6 : Below w2.heap.size w2 (((w4.alloc (.cells #[.int .i64 1, .int .i64 0, .int .i64 5, .string ⟨#[119]⟩, .string ⟨#[]⟩, .bool false, .int .u64 3] 67)).setCell ⟨w2.heap.size, 9, none⟩ (.slice (some ⟨w4.heap.size, 0, none⟩) 1 1)).setCell ⟨w2.heap.size, 4, none⟩ (.int .i64 1)) := (((box_below2 hb4).alloc (by omega) _).setCell (Nat.le_refl _) _).setCell (Nat.le_refl _) _
  have hx6 : RowsW (((w4.alloc (.cells #[.int .i64 1, .int .i64 0, .int .i64 5, .string ⟨#[119]⟩, .string ⟨#[]⟩, .bool false, .int .u64 3] 67)).setCell ⟨w2.heap.size, 9, none⟩ (.slice (some ⟨w4.heap.size, 0, none⟩) 1 1)).setCell ⟨w2.heap.size, 4, none⟩ (.int .i64 1)) (.slice (some ⟨w4.heap.size, 0, none⟩) 1 1) [x35] := ⟨_, _, rfl, by decide, fun j u hu => ⟨w4.heap.size, 0, rfl, by
    have hj : j < 7 := (List.getElem?_eq_some_iff.1 hu).1
    refine fr_cell_of_heap (w := (((w4.alloc (.cells #[.int .i64 1, .int .i64 0, .int .i64 5, .string ⟨#[119]⟩, .string ⟨#[]⟩, .bool false, .int .u64 3] 67)).setCell ⟨w2.heap.size, 9, none⟩ (.slice (some ⟨w4.heap.size, 0, none⟩) 1 1)).setCell ⟨w2.heap.size, 4, none⟩ (.int .i64 1))) (cs := #[.int .i64 1, .int .i64 0, .int .i64 5, .string ⟨#[119]⟩, .string ⟨#[]⟩, .bool false, .int .u64 3]) (t := 67) (fr := (0, 0)) (by rw [fr_setCell_other (by omega), fr_setCell_other (by omega)]; exact heap_alloc_new _ _) ?_
    rw [Nat.zero_add, ← hu]
    simp [flatW, encW, x35]⟩⟩
  have hc2 := HC1.out.below (HBX.out)
  have HK9 := Lib.hid k9
  have HF9 := Lib.hid f9
  have HK4 := Lib.hid k4
  have HF4 := Lib.hid f4
  have HS6 := Lib.hid hs6
  have HG6 := Lib.hid hg6
  have HX6 := Lib.hid hx6
  have HC6 := Lib.hid (hc2.below hb6)
  have HB6 := Lib.hid (HB2.out.trans (hb6.mono HB2.out.size))
  have HK3 := Lib.hid (show (((w4.alloc (.cells #[.int .i64 1, .int .i64 0, .int .i64 5, .string ⟨#[119]⟩, .string ⟨#[]⟩, .bool false, .int .u64 3] 67)).setCell ⟨w2.heap.size, 9, none⟩ (.slice (some ⟨w4.heap.size, 0, none⟩) 1 1)).setCell ⟨w2.heap.size, 4, none⟩ (.int .i64 1)).cell? ⟨w2.heap.size, 3, none⟩ = some (.int .i64 1) from fr_cell_of_heap hs6 rfl)
  clear hb4 hs4 hg4 hs5 hs6 hg6 k9 f9 k4 f4 hb6 hx6 hc2 HB3 HC3 HS3 HG3 HB4 HB1 HG1 HC1
  rw [if_neg (by decide)]
  have k9 := HK9.out
  have f9 := HF9.out
  have k4 := HK4.out
  have f4 := HF4.out
  go_upto_region 6 with fail
  clear k9 f9 k4 f4
  generalize (((w4.alloc (.cells #[.int .i64 1, .int .i64 0, .int .i64 5, .string ⟨#[119]⟩, .string ⟨#[]⟩, .bool false, .int .u64 3] 67)).setCell ⟨w2.heap.size, 9, none⟩ (.slice (some ⟨w4.heap.size, 0, none⟩) 1 1)).setCell ⟨w2.heap.size, 4, none⟩ (.int .i64 1)) = W6 at HS6 HG6 HX6 HC6 HB6 HK3 ⊢
  go_wp2_with (first
    | refine wpList_load_agg 25 HG6.out Tryz.underlying25 rfl cfg_info rfl _ rfl rfl ?_
    | refine wpList_load_agg 42 HS6.out Tryz.underlying42 rfl st_info rfl _ rfl rfl ?_)
  refine (wrong_any 1 (.slice (some ⟨w4.heap.size, 0, none⟩) 1 1) (.slice (some ⟨w.heap.size, 0, none⟩) 1 1) (.slice none 0 0) c35 3 _ (by decide) (fun w5 hb5 hg5 => rules_one c35_ok (HC6.out.below hb5) ((HR.out.below HB6.out).below hb5) hg5 (HX6.out.below hb5) (by unfold SmallW; decide) x35_loads (by decide +kernel) (by decide)) (by simp [ckA, Value.oneCell'])).mono ?_
  rintro e w7 ⟨rfl, hb7⟩
  have k3 := cell_below hb7 HK3.out
  have HB7 := Lib.hid (HB6.out.trans (hb7.mono HB6.out.size))
  clear hb7
  rw [if_pos (by decide), show ((3 : Nat) : Int) + 1 = 4 from rfl]
  go_wp2_with fail
  go_ret
  exact ⟨rfl, HB7.out⟩
end Go.Proofs.YtjmlimogmmikoaaGreatDoor
