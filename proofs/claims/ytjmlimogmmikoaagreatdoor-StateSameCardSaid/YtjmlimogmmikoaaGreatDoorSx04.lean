/-
  state: the rules, of a state that has nothing but perhaps workers: the walks.
  Arguments that came in, opened: structs and slices of structs, whatever the number of fields; what a datum weighs.
  Arguments that came in, opened: a slice of elements of whatever type, element by element.
  prop.one: the pair of a piece: the walks.
  prop.Parse: the walks.
-/
import Derived.Test.YtjmlimogmmikoaaGreatDoorSx03
import Derived.Deep.MidRow
import Derived.Deep.RegionHeld3
import Derived.Deep.RegionHeldLaw
import Derived.Test.YtjmlimogmmikoaaGreatDoorSx01
import Derived.Deep.Slices
import Derived.Deep.Fields
import Derived.ChangeSame
import Derived.Test.YtjmlimogmmikoaaGreatDoorSx02
namespace Go.Proofs.YtjmlimogmmikoaaGreatDoor
open Go.RowKit
theorem ck_cfg {w : World} {b : Nat} {lw : Int} {ws tv lv : Value} {c : Cfg} (h : w.heap[b]? = some (.cells (ckA lw ws tv lv c) 72 (0, 0))) : ∀ (i : Nat) u, (cfA tv lv c).toList[i]? = some u → w.cell? ⟨b, 15 + i, none⟩ = some u := by
  intro i u hu
  refine fr_cell_of_heap h ?_
  have hi : i < 19 := (List.getElem?_eq_some_iff.1 hu).1
  have : i = 0 ∨ i = 1 ∨ i = 2 ∨ i = 3 ∨ i = 4 ∨ i = 5 ∨ i = 6 ∨ i = 7 ∨ i = 8 ∨ i = 9 ∨ i = 10 ∨ i = 11 ∨ i = 12 ∨ i = 13 ∨ i = 14 ∨ i = 15 ∨ i = 16 ∨ i = 17 ∨ i = 18 := by omega
  rcases this with rfl | rfl | rfl | rfl | rfl | rfl | rfl | rfl | rfl | rfl | rfl | rfl | rfl | rfl | rfl | rfl | rfl | rfl | rfl <;> exact hu
theorem below_ch {w1 w2 w3 : World} (h1 : Below w1.heap.size w1 w2) (h2 : Below w2.heap.size w2 w3) : Below w1.heap.size w1 w3 := h1.trans (h2.mono h1.size)
theorem ck_info : (Tryz.prog.info? 72).map (·.size) = some 34 := by kernel_rfl
set_option maxRecDepth 100000 in
set_option maxHeartbeats 1000000 in
theorem rops_nil (lw : Int) (ws tv lv : Value) (c : Cfg) (w : World) (h : 1 ≤ c.keep) : Calls Tryz.prog 22 #[.agg (ckA lw ws tv lv c)] w (BoolPost true w) := by
  have k3 : (w.alloc (.cells (ckA lw ws tv lv c) 72)).cell? ⟨w.heap.size, 3, none⟩ = some (.int .i64 1) := cell_alloc_at rfl
  have k7 : (w.alloc (.cells (ckA lw ws tv lv c) 72)).cell? ⟨w.heap.size, 7, none⟩ = some (.slice none 0 0) := cell_alloc_at rfl
  have k8 : (w.alloc (.cells (ckA lw ws tv lv c) 72)).cell? ⟨w.heap.size, 8, none⟩ = some (.slice none 0 0) := cell_alloc_at rfl
  have k29 : (w.alloc (.cells (ckA lw ws tv lv c) 72)).cell? ⟨w.heap.size, 29, none⟩ = some (.int .i64 c.keep) := cell_alloc_at rfl
  go_enter Tryz.func22, Tryz.ntmps22
  go_wp2_with fail
  refine (opsload_nil c.keep _ h).mono ?_
  rintro e w1 ⟨⟨b, rfl⟩, hb1⟩
  have HB := Lib.hid (box_below2 hb1)
  have m7 := cell_below hb1 k7
  have m8 := cell_below hb1 k8
  clear hb1 k3 k7 k8 k29
  go_wp2_with fail
  refine (hasNilOp _ _).mono ?_
  rintro e w2 ⟨rfl, rfl⟩
  go_wp2_with fail
  refine (hasNilOp _ _).mono ?_
  rintro e w2 ⟨rfl, rfl⟩
  go_wp2_with fail
  go_ret
  exact ⟨rfl, HB.out⟩
set_option maxRecDepth 100000 in
set_option maxHeartbeats 1000000 in
theorem rinv_nil (lw : Int) (ws tv lv : Value) (c : Cfg) (w : World) (hC : CfgAt w tv lv c) (h : checkE c = 0) : Calls Tryz.prog 23 #[.agg (ckA lw ws tv lv c)] w (BoolPost true w) := by
  have k5 : (w.alloc (.cells (ckA lw ws tv lv c) 72)).cell? ⟨w.heap.size, 5, none⟩ = some (.int .i64 0) := cell_alloc_at rfl
  have k7 : (w.alloc (.cells (ckA lw ws tv lv c) 72)).cell? ⟨w.heap.size, 7, none⟩ = some (.slice none 0 0) := cell_alloc_at rfl
  have k10 : (w.alloc (.cells (ckA lw ws tv lv c) 72)).cell? ⟨w.heap.size, 10, none⟩ = some (.slice none 0 0) := cell_alloc_at rfl
  have HK := Lib.hid (ck_cfg (heap_alloc_new w (.cells (ckA lw ws tv lv c) 72)))
  have HC := Lib.hid (hC.below (box_below (o := .cells (ckA lw ws tv lv c) 72)))
  have HE := Lib.hid h
  have hmm := @run_makeMap Tryz.prog
  clear hC h
  go_enter Tryz.func23, Tryz.ntmps23
  go_wp2_with (refine wpList_load_mid rfl 25 _ rfl w.heap.size 15 rfl (cfA tv lv c).toList _ HK.out Tryz.underlying25 rfl cfg_info ?_)
  refine (invocload_nil tv lv c _ HC.out HE.out).mono ?_
  rintro e w1 ⟨⟨b, rfl⟩, hb1⟩
  have HB := Lib.hid (box_below2 hb1)
  have m7 := cell_below (Below.alloc (Below.alloc hb1 hb1.size (.map #[] 0)) (by have := hb1.size; simp at this ⊢; omega) (.cells #[.map (some w1.heap.size)] 127)) k7
  have m10 := cell_below (Below.alloc (Below.alloc hb1 hb1.size (.map #[] 0)) (by have := hb1.size; simp at this ⊢; omega) (.cells #[.map (some w1.heap.size)] 127)) k10
  have n5 : w.heap.size + 1 ≤ w1.heap.size := by have := hb1.size; simp at this; omega
  have HBW := Lib.hid ((HB.out.alloc (by omega) (.map #[] 0)).alloc (by simp; omega) (.cells #[.map (some w1.heap.size)] 127))
  clear hb1 k5 k7 k10
  go_wp2
  go_loopw [27] (fun i wr => i = .int .i64 0 ∧ wr = (w1.alloc (.map #[] 0)).alloc (.cells #[.map (some w1.heap.size)] 127)) (fun i _ => 1)
  case atStart => exact ⟨rfl, rfl⟩
  case round =>
    obtain ⟨rfl, rfl⟩ := hrel
    go_wp2_with fail
    refine (hasNilInv _ _).mono ?_
    rintro e w2 ⟨rfl, rfl⟩
    go_wp2_with fail
    go_ret
    exact ⟨rfl, HBW.out⟩
set_option maxRecDepth 100000 in
set_option maxHeartbeats 1000000 in
theorem repochs_nil (lw : Int) (ws tv lv : Value) (c : Cfg) (w : World) : Calls Tryz.prog 27 #[.agg (ckA lw ws tv lv c)] w (BoolPost true w) := by
  have k2 : (w.alloc (.cells (ckA lw ws tv lv c) 72)).cell? ⟨w.heap.size, 2, none⟩ = some (.int .i64 0) := cell_alloc_at rfl
  have k7 : (w.alloc (.cells (ckA lw ws tv lv c) 72)).cell? ⟨w.heap.size, 7, none⟩ = some (.slice none 0 0) := cell_alloc_at rfl
  have hmm := @run_makeMap Tryz.prog
  have m2 := cell_below (box_below (o := .map #[] 0)) k2
  have m7 := cell_below (box_below (o := .map #[] 0)) k7
  have HB := Lib.hid ((box_below (w := w) (o := .cells (ckA lw ws tv lv c) 72)).alloc (by simp) (.map #[] 0))
  go_enter Tryz.func27, Tryz.ntmps27
  go_wp2
  go_loopw [11] (fun i wr => i = .int .i64 0 ∧ wr = (w.alloc (.cells (ckA lw ws tv lv c) 72)).alloc (.map #[] 0)) (fun i _ => 1)
  case atStart => exact ⟨rfl, rfl⟩
  case round =>
    obtain ⟨rfl, rfl⟩ := hrel
    go_wp2
    go_ret
    exact ⟨rfl, HB.out⟩
set_option maxRecDepth 100000 in
set_option maxHeartbeats 1000000 in
theorem rtwins_nil (lw : Int) (ws tv lv : Value) (c : Cfg) (w : World) : Calls Tryz.prog 32 #[.agg (ckA lw ws tv lv c)] w (BoolPost true w) := by
  have k7 : (w.alloc (.cells (ckA lw ws tv lv c) 72)).cell? ⟨w.heap.size, 7, none⟩ = some (.slice none 0 0) := cell_alloc_at rfl
  have hmm := @run_makeMap Tryz.prog
  have hlen := run_len_map (P := Tryz.prog) (w := (w.alloc (.cells (ckA lw ws tv lv c) 72)).alloc (.map #[] 0)) 162 3 (w.heap.size + 1) #[] 0 (by kernel_rfl) (heap_alloc_two _ _ _)
  have m7 := cell_below (box_below (o := .map #[] 0)) k7
  have HB := Lib.hid ((box_below (w := w) (o := .cells (ckA lw ws tv lv c) 72)).alloc (by simp) (.map #[] 0))
  go_enter Tryz.func32, Tryz.ntmps32
  go_wp2
  go_loopw [11] (fun i wr => i = .int .i64 0 ∧ wr = (w.alloc (.cells (ckA lw ws tv lv c) 72)).alloc (.map #[] 0)) (fun i _ => 1)
  case atStart => exact ⟨rfl, rfl⟩
  case round =>
    obtain ⟨rfl, rfl⟩ := hrel
    go_wp2
    go_ret
    exact ⟨rfl, HB.out⟩
set_option maxRecDepth 100000 in
set_option maxHeartbeats 1000000 in
theorem rran_nil (lw : Int) (ws tv lv : Value) (c : Cfg) (w : World) (h : 1 ≤ c.keys) : Calls Tryz.prog 29 #[.agg (ckA lw ws tv lv c)] w (BoolPost true w) := by
  have k12 : (w.alloc (.cells (ckA lw ws tv lv c) 72)).cell? ⟨w.heap.size, 12, none⟩ = some (.slice none 0 0) := cell_alloc_at rfl
  have k30 : (w.alloc (.cells (ckA lw ws tv lv c) 72)).cell? ⟨w.heap.size, 30, none⟩ = some (.int .i64 c.keys) := cell_alloc_at rfl
  go_enter Tryz.func29, Tryz.ntmps29
  go_wp2_with fail
  refine (historyload_nil c.keys _ h).mono ?_
  rintro e w1 ⟨⟨b, rfl⟩, hb1⟩
  go_wp2_with fail
  go_ret
  exact ⟨rfl, box_below2 hb1⟩
set_option maxRecDepth 100000 in
set_option maxHeartbeats 1000000 in
theorem rletters_nil (lw : Int) (ws tv lv : Value) (c : Cfg) (w : World) (h : 1 ≤ c.dead) (h1 : c.dead ≤ 1000) : Calls Tryz.prog 30 #[.agg (ckA lw ws tv lv c)] w (BoolPost true w) := by
  have k13 : (w.alloc (.cells (ckA lw ws tv lv c) 72)).cell? ⟨w.heap.size, 13, none⟩ = some (.slice none 0 0) := cell_alloc_at rfl
  have k28 : (w.alloc (.cells (ckA lw ws tv lv c) 72)).cell? ⟨w.heap.size, 28, none⟩ = some (.int .i64 c.dead) := cell_alloc_at rfl
  go_enter Tryz.func30, Tryz.ntmps30
  go_wp2_with fail
  refine (deadload_nil c.dead _ h h1).mono ?_
  rintro e w1 ⟨⟨b, rfl⟩, hb1⟩
  go_wp2_with fail
  go_ret
  exact ⟨rfl, box_below2 hb1⟩
set_option maxRecDepth 100000 in
set_option maxHeartbeats 1000000 in
theorem rtimes_nil (lw : Int) (tv lv : Value) (c : Cfg) (w : World) : Calls Tryz.prog 28 #[.agg (ckA lw (.slice none 0 0) tv lv c)] w (BoolPost true w) := by
  have k7 : (w.alloc (.cells (ckA lw (.slice none 0 0) tv lv c) 72)).cell? ⟨w.heap.size, 7, none⟩ = some (.slice none 0 0) := cell_alloc_at rfl
  have k9 : (w.alloc (.cells (ckA lw (.slice none 0 0) tv lv c) 72)).cell? ⟨w.heap.size, 9, none⟩ = some (.slice none 0 0) := cell_alloc_at rfl
  go_enter Tryz.func28, Tryz.ntmps28
  go_wp2_with fail
  refine (hasNilWk _ _).mono ?_
  rintro e w2 ⟨rfl, rfl⟩
  go_wp2_with fail
  refine (hasNilOp _ _).mono ?_
  rintro e w2 ⟨rfl, rfl⟩
  go_wp2_with fail
  go_ret
  exact ⟨rfl, box_below⟩
set_option maxRecDepth 100000 in
set_option maxHeartbeats 1000000 in
theorem rwatch_nil (lw : Int) (ws tv lv : Value) (c : Cfg) (w : World) (h : 0 ≤ c.watch) : Calls Tryz.prog 31 #[.agg (ckA lw ws tv lv c)] w (BoolPost true w) := by
  have k14 : (w.alloc (.cells (ckA lw ws tv lv c) 72)).cell? ⟨w.heap.size, 14, none⟩ = some (.slice none 0 0) := cell_alloc_at rfl
  have k33 : (w.alloc (.cells (ckA lw ws tv lv c) 72)).cell? ⟨w.heap.size, 33, none⟩ = some (.int .i64 c.watch) := cell_alloc_at rfl
  go_enter Tryz.func31, Tryz.ntmps31
  go_wp2_with fail
  refine (watchload_nil c.watch _ h).mono ?_
  rintro e w1 ⟨⟨b, rfl⟩, hb1⟩
  have HB := Lib.hid (box_below2 hb1)
  have m14 := cell_below hb1 k14
  clear hb1 k14 k33
  go_wp2_with fail
  refine (hasNilWt _ _).mono ?_
  rintro e w2 ⟨rfl, rfl⟩
  go_wp2_with fail
  go_ret
  exact ⟨rfl, HB.out⟩
set_option maxRecDepth 100000 in
set_option maxHeartbeats 1000000 in
theorem rload_nil (lw : Int) (ws tv lv : Value) (c : Cfg) (w : World) (hC : CfgAt w tv lv c) (h1 : 1 ≤ c.pools) (h2 : 1 ≤ classesV c) (h3 : 1 ≤ c.q) (h4 : c.q ≤ 64) : Calls Tryz.prog 81 #[.agg (ckA lw ws tv lv c)] w (MadePost w) := by
  have k22 : (w.alloc (.cells (ckA lw ws tv lv c) 72)).cell? ⟨w.heap.size, 22, none⟩ = some (.int .i64 c.pools) := cell_alloc_at rfl
  have k17 : (w.alloc (.cells (ckA lw ws tv lv c) 72)).cell? ⟨w.heap.size, 17, none⟩ = some (.int .i64 c.q) := cell_alloc_at rfl
  have k11 : (w.alloc (.cells (ckA lw ws tv lv c) 72)).cell? ⟨w.heap.size, 11, none⟩ = some (.slice none 0 0) := cell_alloc_at rfl
  have k6 : (w.alloc (.cells (ckA lw ws tv lv c) 72)).cell? ⟨w.heap.size, 6, none⟩ = some (.int .i64 0) := cell_alloc_at rfl
  have hR0 := ck_cfg (heap_alloc_new w (.cells (ckA lw ws tv lv c) 72))
  have hR : (w.alloc (.cells (ckA lw ws tv lv c) 72)).rangeAt w.heap.size 15 (cfA tv lv c).toList := hR0
  have hRL := fun (w2 : World) (hw :  w2.rangeAt w.heap.size 15 (cfA tv lv c).toList ∧ w2.cell? ⟨w.heap.size, 22, none⟩ = some (.int .i64 c.pools) ∧ w2.cell? ⟨w.heap.size, 17, none⟩ = some (.int .i64 c.q) ∧ w2.cell? ⟨w.heap.size, 11, none⟩ = some (.slice none 0 0) ∧ w2.cell? ⟨w.heap.size, 6, none⟩ = some (.int .i64 0)) => run_loadAt_mid (P := Tryz.prog) w2 w.heap.size 15 25 (cfA tv lv c).toList _ hw.1 Tryz.underlying25 rfl cfg_info
  have HC := Lib.hid (hC.below (box_below (o := .cells (ckA lw ws tv lv c) 72)))
  have HH := Lib.hid (And.intro h1 (And.intro h2 (And.intro h3 h4)))
  have hbd : Below (w.alloc (.cells (ckA lw ws tv lv c) 72)).heap.size (w.alloc (.cells (ckA lw ws tv lv c) 72)) (w.alloc (.cells (ckA lw ws tv lv c) 72)).drew := ⟨rfl, rfl, rfl, Nat.le_refl _, fun _ _ => rfl⟩
  clear hC h1 h2 h3 h4 hR0
  go_enter Tryz.func81, Tryz.ntmps81
  go_wp2_with fail
  refine wp_region_noPanic ?_
  refine wp_region_any (by kernel_rfl) ?_
  change wpAny _ _ _ _ _ _ _ (World.drew _)
  refine wpAny_of_held (S := (fun w2 => w2.rangeAt w.heap.size 15 (cfA tv lv c).toList ∧ w2.cell? ⟨w.heap.size, 22, none⟩ = some (.int .i64 c.pools) ∧ w2.cell? ⟨w.heap.size, 17, none⟩ = some (.int .i64 c.q) ∧ w2.cell? ⟨w.heap.size, 11, none⟩ = some (.slice none 0 0) ∧ w2.cell? ⟨w.heap.size, 6, none⟩ = some (.int .i64 0))) _ _ _ _ ?_
  have hHeld : (fun w2 => w2.rangeAt w.heap.size 15 (cfA tv lv c).toList ∧ w2.cell? ⟨w.heap.size, 22, none⟩ = some (.int .i64 c.pools) ∧ w2.cell? ⟨w.heap.size, 17, none⟩ = some (.int .i64 c.q) ∧ w2.cell? ⟨w.heap.size, 11, none⟩ = some (.slice none 0 0) ∧ w2.cell? ⟨w.heap.size, 6, none⟩ = some (.int .i64 0)) (w.alloc (.cells (ckA lw ws tv lv c) 72)).drew := ⟨hR, k22, k17, k11, k6⟩
  refine wpAnyH_take (i := 0) (oi := ⟨some 4, _, _, _, _, _⟩) (v := ?_) rfl (by kernel_rfl) (by kernel_rfl) (by kernel_rfl) (fun _ _ _ h => h) (Or.inl ⟨by rfl, ?_⟩) (by assumption) ?_
  rotate_left 1
  · intro w hSw
    try dsimp only at hSw
    go_simp
    try with_reducible rfl
  try simp only [Act.put, List.setIfInBounds_toArray, List.set_cons_zero, List.set_cons_succ]
  refine wpAnyH_take (i := 1) (oi := ⟨some 5, _, _, _, _, _⟩) (v := ?_) rfl (by kernel_rfl) (by kernel_rfl) (by kernel_rfl) (fun _ _ _ h => h) (Or.inl ⟨by rfl, ?_⟩) (by assumption) ?_
  rotate_left 1
  · intro w hSw
    try dsimp only at hSw
    go_simp
    try with_reducible rfl
  try simp only [Act.put, List.setIfInBounds_toArray, List.set_cons_zero, List.set_cons_succ]
  refine wpAnyH_take (i := 2) (oi := ⟨some 6, _, _, _, _, _⟩) (v := ?_) rfl (by kernel_rfl) (by kernel_rfl) (by kernel_rfl) (fun _ _ _ h => h) (Or.inl ⟨by rfl, ?_⟩) (by assumption) ?_
  rotate_left 1
  · intro w hSw
    try dsimp only at hSw
    go_simp
    try with_reducible rfl
  try simp only [Act.put, List.setIfInBounds_toArray, List.set_cons_zero, List.set_cons_succ]
  refine wpAnyH_take (i := 3) (oi := ⟨some 7, _, _, _, _, _⟩) (v := ?_) rfl (by kernel_rfl) (by kernel_rfl) (by kernel_rfl) (fun _ _ _ h => h) (Or.inl ⟨by rfl, ?_⟩) (by assumption) ?_
  rotate_left 1
  · intro w hSw
    try dsimp only at hSw
    go_simp
    try with_reducible rfl
  try simp only [Act.put, List.setIfInBounds_toArray, List.set_cons_zero, List.set_cons_succ]
  refine wpAnyH_take (i := 4) (oi := ⟨some 8, _, _, _, _, _⟩) (v := _) rfl (by kernel_rfl) (by kernel_rfl) (by kernel_rfl) (fun _ _ _ h => h) (yieldsIf_load_mid (by rfl) 25 _ rfl w.heap.size 15 rfl (cfA tv lv c).toList _ (fun w hw => hw.1) Tryz.underlying25 rfl cfg_info) (by assumption) ?_
  try simp only [Act.put, List.setIfInBounds_toArray, List.set_cons_zero, List.set_cons_succ]
  refine wpAnyH_take (i := 6) (oi := ⟨some 10, _, _, _, _, _⟩) (v := ?_) rfl (by kernel_rfl) (by kernel_rfl) (by kernel_rfl) (fun _ _ _ h => h) (Or.inl ⟨by rfl, ?_⟩) (by assumption) ?_
  rotate_left 1
  · intro w hSw
    try dsimp only at hSw
    go_simp
    try with_reducible rfl
  try simp only [Act.put, List.setIfInBounds_toArray, List.set_cons_zero, List.set_cons_succ]
  refine wpAnyH_take (i := 7) (oi := ⟨some 11, _, _, _, _, _⟩) (v := ?_) rfl (by kernel_rfl) (by kernel_rfl) (by kernel_rfl) (fun _ _ _ h => h) (Or.inl ⟨by rfl, ?_⟩) (by assumption) ?_
  rotate_left 1
  · intro w hSw
    try dsimp only at hSw
    go_simp
    try with_reducible rfl
  try simp only [Act.put, List.setIfInBounds_toArray, List.set_cons_zero, List.set_cons_succ]
  refine wpAnyH_take (i := 8) (oi := ⟨some 12, _, _, _, _, _⟩) (v := ?_) rfl (by kernel_rfl) (by kernel_rfl) (by kernel_rfl) (fun _ _ _ h => h) (Or.inl ⟨by rfl, ?_⟩) (by assumption) ?_
  rotate_left 1
  · intro w hSw
    try dsimp only at hSw
    go_simp
    try with_reducible rfl
  try simp only [Act.put, List.setIfInBounds_toArray, List.set_cons_zero, List.set_cons_succ]
  refine wpAnyH_take (i := 9) (oi := ⟨some 13, _, _, _, _, _⟩) (v := ?_) rfl (by kernel_rfl) (by kernel_rfl) (by kernel_rfl) (fun _ _ _ h => h) (Or.inl ⟨by rfl, ?_⟩) (by assumption) ?_
  rotate_left 1
  · intro w hSw
    try dsimp only at hSw
    go_simp
    try with_reducible rfl
  try simp only [Act.put, List.setIfInBounds_toArray, List.set_cons_zero, List.set_cons_succ]
  refine wpAnyH_take (i := 10) (oi := ⟨some 14, _, _, _, _, _⟩) (v := ?_) rfl (by kernel_rfl) (by kernel_rfl) (by kernel_rfl) (fun _ _ _ h => h) (Or.inl ⟨by rfl, ?_⟩) (by assumption) ?_
  rotate_left 1
  · intro w hSw
    try dsimp only at hSw
    go_simp
    try with_reducible rfl
  try simp only [Act.put, List.setIfInBounds_toArray, List.set_cons_zero, List.set_cons_succ]
  refine wpAnyH_take (i := 11) (oi := ⟨some 15, _, _, _, _, _⟩) (v := ?_) rfl (by kernel_rfl) (by kernel_rfl) (by kernel_rfl) (fun _ _ _ h => h) (Or.inl ⟨by rfl, ?_⟩) (by assumption) ?_
  rotate_left 1
  · intro w hSw
    try dsimp only at hSw
    go_simp
    try with_reducible rfl
  try simp only [Act.put, List.setIfInBounds_toArray, List.set_cons_zero, List.set_cons_succ]
  refine wpAnyH_take (i := 12) (oi := ⟨some 16, _, _, _, _, _⟩) (v := ?_) rfl (by kernel_rfl) (by kernel_rfl) (by kernel_rfl) (fun _ _ _ h => h) (Or.inl ⟨by rfl, ?_⟩) (by assumption) ?_
  rotate_left 1
  · intro w hSw
    try dsimp only at hSw
    go_simp
    try with_reducible rfl
  try simp only [Act.put, List.setIfInBounds_toArray, List.set_cons_zero, List.set_cons_succ]
  refine wpAnyH_take (i := 13) (oi := ⟨some 17, _, _, _, _, _⟩) (v := ?_) rfl (by kernel_rfl) (by kernel_rfl) (by kernel_rfl) (fun _ _ _ h => h) (Or.inl ⟨by rfl, ?_⟩) (by assumption) ?_
  rotate_left 1
  · intro w hSw
    try dsimp only at hSw
    go_simp
    try with_reducible rfl
  try simp only [Act.put, List.setIfInBounds_toArray, List.set_cons_zero, List.set_cons_succ]
  refine wpAnyH_take (i := 14) (oi := ⟨some 18, _, _, _, _, _⟩) (v := ?_) rfl (by kernel_rfl) (by kernel_rfl) (by kernel_rfl) (fun _ _ _ h => h) (Or.inl ⟨by rfl, ?_⟩) (by assumption) ?_
  rotate_left 1
  · intro w hSw
    try dsimp only at hSw
    go_simp
    try with_reducible rfl
  try simp only [Act.put, List.setIfInBounds_toArray, List.set_cons_zero, List.set_cons_succ]
  refine wpAnyH_ready (rs := [5]) (by kernel_rfl) (by simp) ?_
  refine AllReadyH.cons (o := ⟨some 9, _, _, _, _, _⟩) rfl (fun K hK => ?_) AllReadyH.nil
  go_simp
  refine (classes_any _ tv lv c _ (cfA_cells tv lv c) (HC.out.below hbd)).mono ?_
  rintro e w6 ⟨rfl, hb6'⟩
  have hb6 := below_ch hbd hb6'
  have hHeld6 : (fun w2 => w2.rangeAt w.heap.size 15 (cfA tv lv c).toList ∧ w2.cell? ⟨w.heap.size, 22, none⟩ = some (.int .i64 c.pools) ∧ w2.cell? ⟨w.heap.size, 17, none⟩ = some (.int .i64 c.q) ∧ w2.cell? ⟨w.heap.size, 11, none⟩ = some (.slice none 0 0) ∧ w2.cell? ⟨w.heap.size, 6, none⟩ = some (.int .i64 0)) w6 := ⟨fun j v hj => cell_below hb6' (hHeld.1 j v hj), cell_below hb6' hHeld.2.1, cell_below hb6' hHeld.2.2.1, cell_below hb6' hHeld.2.2.2.1, cell_below hb6' hHeld.2.2.2.2⟩
  refine hK.out _ _ hHeld6 (fun hHeld => ?_)
  clear hK K
  try simp only [Act.put, List.setIfInBounds_toArray, List.set_cons_zero, List.set_cons_succ]
  clear hHeld6
  refine wpAnyH_ready (rs := [15]) (by kernel_rfl) (by simp) ?_
  refine AllReadyH.cons (o := ⟨some 19, _, _, _, _, _⟩) rfl (fun K hK => ?_) AllReadyH.nil
  go_simp
  refine (poolload_nil c.pools (classesV c) c.q _ HH.out.1 HH.out.2.1 HH.out.2.2.1 HH.out.2.2.2).mono ?_
  rintro e w7 ⟨⟨b7, rfl⟩, hb7'⟩
  have hb7 := below_ch hb6 hb7'
  have hHeld7 : (fun w2 => w2.rangeAt w.heap.size 15 (cfA tv lv c).toList ∧ w2.cell? ⟨w.heap.size, 22, none⟩ = some (.int .i64 c.pools) ∧ w2.cell? ⟨w.heap.size, 17, none⟩ = some (.int .i64 c.q) ∧ w2.cell? ⟨w.heap.size, 11, none⟩ = some (.slice none 0 0) ∧ w2.cell? ⟨w.heap.size, 6, none⟩ = some (.int .i64 0)) w7 := ⟨fun j v hj => cell_below hb7' (hHeld.1 j v hj), cell_below hb7' hHeld.2.1, cell_below hb7' hHeld.2.2.1, cell_below hb7' hHeld.2.2.2.1, cell_below hb7' hHeld.2.2.2.2⟩
  refine hK.out _ _ hHeld7 (fun hHeld => ?_)
  clear hK K
  try simp only [Act.put, List.setIfInBounds_toArray, List.set_cons_zero, List.set_cons_succ]
  clear hHeld7
  refine wpAnyH_take (i := 16) (oi := ⟨some 20, _, _, _, _, _⟩) (v := ?_) rfl (by kernel_rfl) (by kernel_rfl) (by kernel_rfl) (fun _ _ _ h => h) (Or.inl ⟨by rfl, ?_⟩) (by assumption) ?_
  rotate_left 1
  · intro w hSw
    try dsimp only at hSw
    go_simp
    try with_reducible rfl
  try simp only [Act.put, List.setIfInBounds_toArray, List.set_cons_zero, List.set_cons_succ]
  refine wpAnyH_take (i := 17) (oi := ⟨some 21, _, _, _, _, _⟩) (v := ?_) rfl (by kernel_rfl) (by kernel_rfl) (by kernel_rfl) (fun _ _ _ h => h) (Or.inl ⟨by rfl, ?_⟩) (by assumption) ?_
  rotate_left 1
  · intro w hSw
    try dsimp only at hSw
    go_simp
    try with_reducible rfl
  try simp only [Act.put, List.setIfInBounds_toArray, List.set_cons_zero, List.set_cons_succ]
  refine wpAnyH_take (i := 18) (oi := ⟨some 2, _, _, _, _, _⟩) (v := ?_) rfl (by kernel_rfl) (by kernel_rfl) (by kernel_rfl) (fun _ _ _ h => h) (Or.inl ⟨by rfl, ?_⟩) (by assumption) ?_
  rotate_left 1
  · intro w hSw
    try dsimp only at hSw
    go_simp
    try with_reducible rfl
  try simp only [Act.put, List.setIfInBounds_toArray, List.set_cons_zero, List.set_cons_succ]
  refine wpAnyH_take (i := 19) (oi := ⟨some 3, _, _, _, _, _⟩) (v := ?_) rfl (by kernel_rfl) (by kernel_rfl) (by kernel_rfl) (fun _ _ _ h => h) (Or.inl ⟨by rfl, ?_⟩) (by assumption) ?_
  rotate_left 1
  · intro w hSw
    try dsimp only at hSw
    go_simp
    try with_reducible rfl
  try simp only [Act.put, List.setIfInBounds_toArray, List.set_cons_zero, List.set_cons_succ]
  refine wpAnyH_done (by kernel_rfl) ?_ _
  refine NoPanic.normal ?_
  clear hHeld
  go_wp2_with fail
  go_ret2
  exact ⟨⟨_, rfl⟩, box_below2 hb7⟩
set_option maxRecDepth 100000 in
set_option maxHeartbeats 1000000 in
theorem rpools_nil (lw : Int) (ws tv lv : Value) (c : Cfg) (w : World) (hC : CfgAt w tv lv c) (h1 : 1 ≤ c.pools) (h2 : 1 ≤ classesV c) (h3 : 1 ≤ c.q) (h4 : c.q ≤ 64) : Calls Tryz.prog 25 #[.agg (ckA lw ws tv lv c)] w (BoolPost true w) := by
  have k7 : (w.alloc (.cells (ckA lw ws tv lv c) 72)).cell? ⟨w.heap.size, 7, none⟩ = some (.slice none 0 0) := cell_alloc_at rfl
  have k11 : (w.alloc (.cells (ckA lw ws tv lv c) 72)).cell? ⟨w.heap.size, 11, none⟩ = some (.slice none 0 0) := cell_alloc_at rfl
  have HG := Lib.hid (heap_alloc_new w (.cells (ckA lw ws tv lv c) 72))
  have HC := Lib.hid (hC.below (box_below (o := .cells (ckA lw ws tv lv c) 72)))
  have HH := Lib.hid (And.intro h1 (And.intro h2 (And.intro h3 h4)))
  have hmm := @run_makeMap Tryz.prog
  clear hC h1 h2 h3 h4
  go_enter Tryz.func25, Tryz.ntmps25
  go_wp2_with (refine wpList_load_agg 72 HG.out Tryz.underlying72 rfl ck_info rfl _ rfl rfl ?_)
  refine (rload_nil lw ws tv lv c _ HC.out HH.out.1 HH.out.2.1 HH.out.2.2.1 HH.out.2.2.2).mono ?_
  rintro e w1 ⟨⟨b, rfl⟩, hb1⟩
  have HB := Lib.hid (box_below2 hb1)
  have m7 := cell_below (Below.alloc (Below.alloc hb1 hb1.size (.map #[] 0)) (by have := hb1.size; simp at this ⊢; omega) (.cells #[.map (some w1.heap.size)] 141)) k7
  have m11 := cell_below (Below.alloc (Below.alloc hb1 hb1.size (.map #[] 0)) (by have := hb1.size; simp at this ⊢; omega) (.cells #[.map (some w1.heap.size)] 141)) k11
  have n5 : w.heap.size + 1 ≤ w1.heap.size := by have := hb1.size; simp at this; omega
  have HBW := Lib.hid ((HB.out.alloc (by omega) (.map #[] 0)).alloc (by simp; omega) (.cells #[.map (some w1.heap.size)] 141))
  clear hb1 k7 k11
  go_wp2
  go_loopw [20] (fun i wr => i = .int .i64 0 ∧ wr = (w1.alloc (.map #[] 0)).alloc (.cells #[.map (some w1.heap.size)] 141)) (fun i _ => 1)
  case atStart => exact ⟨rfl, rfl⟩
  case round =>
    obtain ⟨rfl, rfl⟩ := hrel
    go_wp2_with fail
    refine (hasNilPRow _ _).mono ?_
    rintro e w2 ⟨rfl, rfl⟩
    go_wp2_with fail
    go_ret
    exact ⟨rfl, HBW.out⟩
set_option maxRecDepth 100000 in
set_option maxHeartbeats 1000000 in
theorem reach_nil (lw : Int) (ws tv lv f : Value) (c : Cfg) (w : World) : Calls Tryz.prog 85 #[.agg (ckA lw ws tv lv c), f] w fun e w' => e = .returned (.tuple #[]) ∧ Below w.heap.size w w' := by
  have k11 : (w.alloc (.cells (ckA lw ws tv lv c) 72)).cell? ⟨w.heap.size, 11, none⟩ = some (.slice none 0 0) := cell_alloc_at rfl
  go_enter Tryz.func85, Tryz.ntmps85
  go_wp2
  go_loopw [18] (fun i wr => i = .int .i64 0 ∧ wr = w.alloc (.cells (ckA lw ws tv lv c) 72)) (fun i _ => 1)
  case atStart => exact ⟨rfl, rfl⟩
  case round =>
    obtain ⟨rfl, rfl⟩ := hrel
    go_wp2
    exact bodyPost_end (results_none rfl _ _ _) rfl ⟨rfl, box_below⟩
set_option maxRecDepth 100000 in
set_option maxHeartbeats 1000000 in
theorem rwaiting_nil (lw : Int) (ws tv lv : Value) (c : Cfg) (w : World) : Calls Tryz.prog 26 #[.agg (ckA lw ws tv lv c)] w (BoolPost true w) := by
  have k7 : (w.alloc (.cells (ckA lw ws tv lv c) 72)).cell? ⟨w.heap.size, 7, none⟩ = some (.slice none 0 0) := cell_alloc_at rfl
  have HG := Lib.hid (fr_alloc_old (o := .cells #[.map (some (w.heap.size + 1))] 145) (fr_alloc_old (o := .map #[] 0) (heap_alloc_new w (.cells (ckA lw ws tv lv c) 72))))
  have HBW := Lib.hid (show Below w.heap.size w (((w.alloc (.cells (ckA lw ws tv lv c) 72)).alloc (.map #[] 0)).alloc (.cells #[.map (some (w.heap.size + 1))] 145)) from (box_below.alloc (by simp) _).alloc (by simp; omega) _)
  have HG1 := Lib.hid (fr_alloc_old (o := .cells #[.map (some (w.heap.size + 1))] 145) (heap_alloc_two w (.cells (ckA lw ws tv lv c) 72) (.map #[] 0)))
  have HG2 := Lib.hid (heap_alloc_three w (.cells (ckA lw ws tv lv c) 72) (.map #[] 0) (.cells #[.map (some (w.heap.size + 1))] 145))
  have HK7 := Lib.hid (cell_below (box_below (o := .cells #[.map (some (w.heap.size + 1))] 145)) (cell_below (box_below (o := .map #[] 0)) k7))
  have hmm := @run_makeMap Tryz.prog
  clear k7
  go_enter Tryz.func26, Tryz.ntmps26
  go_wp2_with (refine wpList_load_agg 72 HG.out Tryz.underlying72 rfl ck_info rfl _ rfl rfl ?_)
  refine (reach_nil lw ws tv lv _ c _).mono ?_
  rintro e w1 ⟨rfl, hb1⟩
  have m7 := cell_below hb1 HK7.out
  have m0 : w1.cell? ⟨w.heap.size + 1 + 1, 0, none⟩ = some (.map (some (w.heap.size + 1))) := cell_below hb1 (fr_cell_of_heap HG2.out rfl)
  have hlen := run_len_map (P := Tryz.prog) (w := w1) 145 3 (w.heap.size + 1) #[] 0 (by kernel_rfl) (by rw [hb1.block _ (by simp)]; exact HG1.out)
  have HB1 := Lib.hid (HBW.out.trans (hb1.mono (by simp; omega)))
  clear hb1 HG HG1 HG2 HK7 HBW
  go_wp2
  go_loopw [4, 15] (fun n i wr => n = .int .i64 0 ∧ i = .int .i64 0 ∧ wr = w1) (fun _ i _ => 1)
  case atStart => exact ⟨rfl, rfl, rfl⟩
  case round =>
    obtain ⟨rfl, rfl, rfl⟩ := hrel
    go_wp2
    go_ret
    exact ⟨rfl, HB1.out⟩
end Go.Proofs.YtjmlimogmmikoaaGreatDoor
namespace Go.Proofs.YtjmlimogmmikoaaGreatDoor
open Go.ChangeShapes Go.WideShapes Go.ChangeAt Go.RowKit Go.Deep
section
variable {H : Type} {enc : TypeId × Value → H} {P : Program} {w : World} {base : Nat} {spare : Nat → Bool} {held : Bool}
theorem cell_spot {w : World} {a : Addr} {u : Value} (h : w.cell? a = some u) : a.spot = none := by
  unfold World.cell? at h
  split at h
  · split at h
    · cases h
    · rename_i hs; simpa using hs
  · cases h
theorem weightsAll_mem {e : TypeId} {d : DataW H} {x : Nat} : ∀ {l : List (DataW H)}, d ∈ l → x ∈ d.weights P e → x ∈ DataW.weightsAll P e l
  | [], h, _ => by cases h
  | a :: r, h, hx => by
    rw [DataW.weightsAll]
    rcases List.mem_cons.1 h with rfl | h
    · exact List.mem_append_left _ hx
    · exact List.mem_append_right _ (weightsAll_mem h hx)
theorem weightsEach_mem {t : TypeId} {d : DataW H} {x : Nat} : ∀ {ts : List TypeId} {ds : List (DataW H)} {i : Nat}, ts[i]? = some t → ds[i]? = some d → x ∈ d.weights P t → x ∈ DataW.weightsEach P ts ds
  | [], _, _, h, _, _ => by simp at h
  | _ :: _, [], _, _, h, _ => by simp at h
  | t0 :: ts, d0 :: ds, i, ht, hd, hx => by
    rw [DataW.weightsEach]
    cases i with
    | zero =>
      simp at ht hd
      subst ht hd
      exact List.mem_append_left _ hx
    | succ i => exact List.mem_append_right _ (weightsEach_mem (i := i) (by simpa using ht) (by simpa using hd) hx)
theorem weights_slice_len {t e : TypeId} {l sp : List (DataW H)} (ht : P.underlying t = some (.slice e)) : (l.length + sp.length) * P.bytesOf e ∈ DataW.weights P t (.slice l sp) := by
  simp [DataW.weights, ht]
theorem weights_slice_mem {t e : TypeId} {l sp : List (DataW H)} {d : DataW H} {x : Nat} (ht : P.underlying t = some (.slice e)) (hd : d ∈ l) (hx : x ∈ d.weights P e) : x ∈ DataW.weights P t (.slice l sp) := by
  simp only [DataW.weights, ht]
  exact List.mem_cons_of_mem _ (List.mem_append_left _ (weightsAll_mem hd hx))
theorem weights_struct_mem {t : TypeId} {fs : Array Field} {l : List (DataW H)} {d : DataW H} {x j : Nat} {f : Field} (ht : P.underlying t = some (.struct fs)) (hf : fs[j]? = some f) (hd : l[j]? = some d) (hx : x ∈ d.weights P f.type) : x ∈ DataW.weights P t (.agg l) := by
  simp only [DataW.weights, ht]
  exact weightsEach_mem (i := j) (by simp [hf]) hd hx
end
end Go.Proofs.YtjmlimogmmikoaaGreatDoor
namespace Go.Proofs.YtjmlimogmmikoaaGreatDoor
open Go.ChangeShapes Go.WideShapes Go.ChangeAt Go.RowKit Go.Deep
section
variable {H : Type} {enc : TypeId × Value → H} {P : Program} {w : World} {base : Nat} {spare : Nat → Bool} {held : Bool}
theorem choose_list {α : Type} (n : Nat) (p : Nat → α → Prop) (h : ∀ i, i < n → ∃ x, p i x) : ∃ l : List α, l.length = n ∧ ∀ i x, l[i]? = some x → p i x := by
  induction n with
  | zero => exact ⟨[], rfl, fun i x hx => by simp at hx⟩
  | succ n ih =>
    obtain ⟨l, hl, hp⟩ := ih (fun i hi => h i (by omega))
    obtain ⟨x, hx⟩ := h n (by omega)
    refine ⟨l ++ [x], by simp [hl], fun i y hy => ?_⟩
    rcases Nat.lt_or_ge i n with hi | hi
    · rw [List.getElem?_append_left (by omega)] at hy
      exact hp i y hy
    · have hi2 : i < (l ++ [x]).length := (List.getElem?_eq_some_iff.1 hy).1
      have : i = n := by simp at hi2; omega
      subst this
      rw [List.getElem?_append_right (by omega), hl, Nat.sub_self] at hy
      simp at hy
      subst hy
      exact hx
theorem flat_split {α : Type} (en : α → List Value) (K : Nat) (hK : ∀ x, (en x).length = K) (h0 : 0 < K) {l : List α} {j : Nat} {u : Value} (h : (l.flatMap en)[j]? = some u) : ∃ x, l[j / K]? = some x ∧ (en x)[j % K]? = some u := by
  have hj : j < l.length * K := by rw [← flat_len en K hK l]; exact (List.getElem?_eq_some_iff.1 h).1
  have hd : j / K < l.length := Nat.div_lt_of_lt_mul (by rw [Nat.mul_comm]; exact hj)
  have hm : j % K < K := Nat.mod_lt _ h0
  refine ⟨l[j / K], List.getElem?_eq_getElem hd, ?_⟩
  rw [← flat_at en K hK (j % K) (List.getElem?_eq_getElem hd) hm, Nat.mul_comm, Nat.div_add_mod]
  exact h
theorem open_enc {α : Type} (en : α → List Value) (K : Nat) (hK : ∀ x, (en x).length = K) (h0 : 0 < K) (Q : α → Prop) {t e : TypeId} {fuel : Nat} {v : Value} {x : DataW H × List MemPlace} (ht : P.underlying t = some (.slice e)) (hC : P.cellsOf e = K)
    (dec : ∀ (n : Nat) (cs : List Value) (y : DataW H × List MemPlace), DataW.trod enc P w base spare held n e cs = some y → (∀ z ∈ y.1.weights P e, z ≤ 140737488351232) → ∃ x, cs = en x ∧ Q x)
    (hz : ∀ z ∈ x.1.weights P t, z ≤ 140737488351232) (h : DataW.trod enc P w base spare held fuel t [v] = some x) :
    ∃ (l : List α) (a : Option Addr) (cap : Nat), v = .slice a l.length cap ∧ l.length ≤ cap ∧ (l.length = 0 ∨ l.length * P.bytesOf e ≤ 140737488351232) ∧ (∀ y ∈ l, Q y) ∧
      ∀ (j : Nat) u, (l.flatMap en)[j]? = some u → ∃ g off, a = some ⟨g, off, none⟩ ∧ w.cell? ⟨g, off + j, none⟩ = some u := by
  rcases open_slice ht h with ⟨h1, h2⟩ | ⟨a, len, cap, m, n, D, Pl, hcs, hb, hl, hm, hmm, hx, hi⟩
  · have : v = .slice none 0 0 := by simpa using h1
    subst this
    exact ⟨[], none, 0, rfl, Nat.le_refl _, .inl rfl, (fun y hy => by cases hy), (fun j u hu => by simp at hu)⟩
  · have : v = .slice (some a) len cap := by simpa using hcs
    subst this
    have hlm : len ≤ m := by rw [hmm]; split <;> omega
    have key : ∀ i, i < len → ∃ y : α, Q y ∧ w.cells? base (a.add (i * K)) K = some (en y) := by
      intro i hil
      obtain ⟨cs', hc, ht'⟩ := hi i (by omega)
      rw [hC] at hc
      obtain ⟨y, rfl, hq⟩ := dec n cs' _ ht' (fun z hzz => hz z (by rw [hx]; exact weights_slice_mem ht (d := D i) (List.mem_map.2 ⟨i, List.mem_range.2 hil, rfl⟩) hzz))
      exact ⟨y, hq, hc⟩
    obtain ⟨l, hlen, hp⟩ := choose_list len _ key
    subst hlen
    refine ⟨l, some a, cap, rfl, hl, ?_, fun y hy => ?_, fun j u hu => ?_⟩
    · right
      have h1 := hz _ (by rw [hx]; exact weights_slice_len ht)
      simp only [List.length_map, List.length_range] at h1
      exact Nat.le_trans (Nat.mul_le_mul_right _ (by omega)) h1
    · obtain ⟨i, hi2, rfl⟩ := List.getElem_of_mem hy
      exact (hp i _ (List.getElem?_eq_getElem hi2)).1
    · obtain ⟨y, hy, hu2⟩ := flat_split en K hK h0 hu
      have hc := (hp _ _ hy).2
      obtain ⟨_, hcl, hat⟩ := World.cells?_some hc
      have hm2 : j % K < K := Nat.mod_lt _ h0
      have h1 := hat (j % K) hm2
      rw [hu2] at h1
      obtain ⟨b, off, spot⟩ := a
      have hsp : spot = none := by
        have hl0 : 0 < l.length := Nat.lt_of_le_of_lt (Nat.zero_le _) (List.getElem?_eq_some_iff.1 hy).1
        have hc0 := (hp 0 _ (List.getElem?_eq_getElem hl0)).2
        obtain ⟨_, hcl0, hat0⟩ := World.cells?_some hc0
        have h2 := hat0 0 h0
        rw [List.getElem?_eq_getElem (show 0 < (en l[0]).length by rw [hK]; exact h0)] at h2
        simp only [Nat.zero_mul, Addr.add, if_true] at h2
        exact cell_spot h2
      subst hsp
      refine ⟨b, off, rfl, ?_⟩
      rw [← h1]
      congr 1
      have e : ∀ (o i : Nat), (⟨b, o, none⟩ : Addr).add i = ⟨b, o + i, none⟩ := fun o i => by unfold Addr.add; split <;> simp_all
      rw [e, e, Nat.add_assoc, Nat.mul_comm, Nat.div_add_mod]
end
end Go.Proofs.YtjmlimogmmikoaaGreatDoor
namespace Go.Proofs.YtjmlimogmmikoaaGreatDoor
open Go.RowKit
theorem ba_size (l : List UInt8) : (ba l).size = l.length := by show (ba l).data.size = _; simp [ba]
theorem ba_toList2 (l : List UInt8) : (ba l).toList = l := by rw [ByteArray.toList_eq, ba_toList]
theorem free_below {w w' : World} (hb : Below w.heap.size w w') {a : Addr} {f : Bool} (h : w.frozen? a = f) (ha : a.block < w.heap.size) : w'.frozen? a = f := by
  rw [hb.frozen ha]; exact h
theorem free_alloc_at {w : World} {cs : Array Value} {t : TypeId} {i : Nat} : (w.alloc (.cells cs t)).frozen? ⟨w.heap.size, i, none⟩ = false := World.frozen?_alloc_new _ _ _ _
def oneR (x : List UInt8) : Pr := if oneE x = 0 then oneV x else (⟨#[]⟩, ⟨#[]⟩)
def OnePost (x : List UInt8) (w : World) (e : Ending) (w' : World) : Prop := e = .returned (.tuple #[.agg #[.string (oneR x).1, .string (oneR x).2], .int .i64 (oneE x)]) ∧ Below w.heap.size w w'
theorem oneE_none {x : List UInt8} (h : (61 : UInt8) ∉ x) : oneE x = 3 := by unfold oneE; rw [splitL_none h]
theorem oneE_more {k v : List UInt8} (h : (61 : UInt8) ∉ k) (h2 : (61 : UInt8) ∈ v) : oneE (k ++ 61 :: v) = 3 := by
  obtain ⟨a, b, rfl, ha⟩ := List.eq_append_cons_of_mem h2
  unfold oneE
  rw [splitL_app h, splitL_app ha]
  have := splitL_ne 61 b
  split
  · rename_i heq
    simp at heq
    exact absurd heq.2.2 this
  · rfl
theorem oneE_two {k v : List UInt8} (h : (61 : UInt8) ∉ k) (h2 : (61 : UInt8) ∉ v) : oneE (k ++ 61 :: v) = if pairOk k v = true then 0 else 5 := by
  unfold oneE
  rw [splitL_app h, splitL_none h2]
theorem oneV_two {k v : List UInt8} (h : (61 : UInt8) ∉ k) (h2 : (61 : UInt8) ∉ v) : oneV (k ++ 61 :: v) = (ba k, ba v) := by
  unfold oneV
  rw [splitL_app h, splitL_none h2]
theorem oneR_bad {x : List UInt8} (h : oneE x ≠ 0) : oneR x = (⟨#[]⟩, ⟨#[]⟩) := by unfold oneR; rw [if_neg h]
theorem oneR_good {x : List UInt8} (h : oneE x = 0) : oneR x = oneV x := by unfold oneR; rw [if_pos h]
set_option maxRecDepth 100000 in
set_option maxHeartbeats 1000000 in
theorem one_none (x : List UInt8) (w : World) (hr : Ready w) (hs : x.length ≤ 1048576) (h : (61 : UInt8) ∉ x) :
    Calls Tryz.prog 241 #[.string (ba x)] w (OnePost x w) := by
  have HE := Lib.hid (oneE_none h)
  have HV := Lib.hid (oneR_bad (x := x) (by rw [HE.out]; decide))
  have HC := Lib.hid (cut_none h)
  have HR := Lib.hid hr
  have hsz : (ba x).size < 4294967281 := by rw [ba_size]; omega
  clear h hr
  go_enter Tryz.func241, Tryz.ntmps241
  go_wp2_with fail
  refine (cut_any 61 (ba x) _ (HR.out.below ((Below.refl _ _).alloc (Nat.le_refl _) _)) hsz).mono ?_
  rintro e w1 ⟨rfl, hb1⟩
  rw [ba_toList, HC.out]
  have c0 := cell_below hb1 (cell_alloc_at (w := w) (t := 331) (cs := #[.string ⟨#[]⟩, .string ⟨#[]⟩]) (i := 0) (v := .string ⟨#[]⟩) rfl)
  have c1 := cell_below hb1 (cell_alloc_at (w := w) (t := 331) (cs := #[.string ⟨#[]⟩, .string ⟨#[]⟩]) (i := 1) (v := .string ⟨#[]⟩) rfl)
  have z0 := free_below hb1 (free_alloc_at (w := w) (t := 331) (cs := #[.string ⟨#[]⟩, .string ⟨#[]⟩]) (i := 0)) (by simp)
  have z1 := free_below hb1 (free_alloc_at (w := w) (t := 331) (cs := #[.string ⟨#[]⟩, .string ⟨#[]⟩]) (i := 1)) (by simp)
  have HB1 := Lib.hid (box_below2 hb1)
  have hsz1 : w.heap.size < w1.heap.size := Nat.lt_of_lt_of_le (by simp) hb1.size
  clear hb1
  go_wp2
  refine bodyPost_ret (v := .tuple #[.agg #[.string ⟨#[]⟩, .string ⟨#[]⟩], .int .i64 3]) ?_ rfl ?_
  · simp [results, Tryz.results241, go_sem, c0, c1]
  · unfold OnePost
    rw [HE.out, HV.out]
    exact ⟨rfl, (HB1.out.setCell (Nat.le_refl _) _).setCell (Nat.le_refl _) _⟩
set_option maxRecDepth 100000 in
set_option maxHeartbeats 1000000 in
theorem one_more (k v : List UInt8) (w : World) (hr : Ready w) (hs : (k ++ 61 :: v).length ≤ 1048576) (h : (61 : UInt8) ∉ k) (h2 : (61 : UInt8) ∈ v) :
    Calls Tryz.prog 241 #[.string (ba (k ++ 61 :: v))] w (OnePost (k ++ 61 :: v) w) := by
  have hsk : (ba k).size ≤ 140737488351232 := by rw [ba_size]; simp at hs; omega
  have hsv : (ba v).size ≤ 140737488351232 := by rw [ba_size]; simp at hs; omega
  have hsv2 : (ba v).size < 4294967281 := by rw [ba_size]; simp at hs; omega
  have HE := Lib.hid (oneE_more h h2)
  have HV := Lib.hid (oneR_bad (x := k ++ 61 :: v) (by rw [HE.out]; decide))
  have HD := Lib.hid (contains_some h2)
  clear h2
  have HC := Lib.hid (cut_app h (b := v))
  have HR := Lib.hid hr
  have hsz : (ba (k ++ 61 :: v)).size < 4294967281 := by rw [ba_size]; omega
  clear h hr
  go_enter Tryz.func241, Tryz.ntmps241
  go_wp2_with fail
  refine (cut_any 61 (ba (k ++ 61 :: v)) _ (HR.out.below ((Below.refl _ _).alloc (Nat.le_refl _) _)) hsz).mono ?_
  rintro e w1 ⟨rfl, hb1⟩
  rw [ba_toList, HC.out]
  have c0 := cell_below hb1 (cell_alloc_at (w := w) (t := 331) (cs := #[.string ⟨#[]⟩, .string ⟨#[]⟩]) (i := 0) (v := .string ⟨#[]⟩) rfl)
  have c1 := cell_below hb1 (cell_alloc_at (w := w) (t := 331) (cs := #[.string ⟨#[]⟩, .string ⟨#[]⟩]) (i := 1) (v := .string ⟨#[]⟩) rfl)
  have z0 := free_below hb1 (free_alloc_at (w := w) (t := 331) (cs := #[.string ⟨#[]⟩, .string ⟨#[]⟩]) (i := 0)) (by simp)
  have z1 := free_below hb1 (free_alloc_at (w := w) (t := 331) (cs := #[.string ⟨#[]⟩, .string ⟨#[]⟩]) (i := 1)) (by simp)
  have HB1 := Lib.hid (box_below2 hb1)
  have hsz1 : w.heap.size < w1.heap.size := Nat.lt_of_lt_of_le (by simp) hb1.size
  clear hb1
  go_wp2_with fail
  refine (contains_any 61 (ba v) _ (HR.out.below HB1.out) hsv2).mono ?_
  rintro e w1' ⟨rfl, rfl⟩
  rw [ba_toList, HD.out]
  go_wp2
  refine bodyPost_ret (v := .tuple #[.agg #[.string ⟨#[]⟩, .string ⟨#[]⟩], .int .i64 3]) ?_ rfl ?_
  · simp [results, Tryz.results241, go_sem, c0, c1]
  · unfold OnePost
    rw [HE.out, HV.out]
    exact ⟨rfl, (HB1.out.setCell (Nat.le_refl _) _).setCell (Nat.le_refl _) _⟩
set_option maxRecDepth 100000 in
set_option maxHeartbeats 1000000 in
theorem one_key (k v : List UInt8) (w : World) (hr : Ready w) (hs : (k ++ 61 :: v).length ≤ 1048576) (h : (61 : UInt8) ∉ k) (h2 : (61 : UInt8) ∉ v) (hk : nameB (ba k) = false) :
    Calls Tryz.prog 241 #[.string (ba (k ++ 61 :: v))] w (OnePost (k ++ 61 :: v) w) := by
  have hsk : (ba k).size ≤ 140737488351232 := by rw [ba_size]; simp at hs; omega
  have hsv : (ba v).size ≤ 140737488351232 := by rw [ba_size]; simp at hs; omega
  have hsv2 : (ba v).size < 4294967281 := by rw [ba_size]; simp at hs; omega
  have HE := Lib.hid (show oneE (k ++ 61 :: v) = 5 by rw [oneE_two h h2, if_neg]; unfold pairOk; simp [hk])
  have HV := Lib.hid (oneR_bad (x := k ++ 61 :: v) (by rw [HE.out]; decide))
  have HD := Lib.hid (contains_none h2)
  clear h2
  have HK := Lib.hid hk
  clear hk
  have HC := Lib.hid (cut_app h (b := v))
  have HR := Lib.hid hr
  have hsz : (ba (k ++ 61 :: v)).size < 4294967281 := by rw [ba_size]; omega
  clear h hr
  go_enter Tryz.func241, Tryz.ntmps241
  go_wp2_with fail
  refine (cut_any 61 (ba (k ++ 61 :: v)) _ (HR.out.below ((Below.refl _ _).alloc (Nat.le_refl _) _)) hsz).mono ?_
  rintro e w1 ⟨rfl, hb1⟩
  rw [ba_toList, HC.out]
  have c0 := cell_below hb1 (cell_alloc_at (w := w) (t := 331) (cs := #[.string ⟨#[]⟩, .string ⟨#[]⟩]) (i := 0) (v := .string ⟨#[]⟩) rfl)
  have c1 := cell_below hb1 (cell_alloc_at (w := w) (t := 331) (cs := #[.string ⟨#[]⟩, .string ⟨#[]⟩]) (i := 1) (v := .string ⟨#[]⟩) rfl)
  have z0 := free_below hb1 (free_alloc_at (w := w) (t := 331) (cs := #[.string ⟨#[]⟩, .string ⟨#[]⟩]) (i := 0)) (by simp)
  have z1 := free_below hb1 (free_alloc_at (w := w) (t := 331) (cs := #[.string ⟨#[]⟩, .string ⟨#[]⟩]) (i := 1)) (by simp)
  have HB1 := Lib.hid (box_below2 hb1)
  have hsz1 : w.heap.size < w1.heap.size := Nat.lt_of_lt_of_le (by simp) hb1.size
  clear hb1
  go_wp2_with fail
  refine (contains_any 61 (ba v) _ (HR.out.below HB1.out) hsv2).mono ?_
  rintro e w1' ⟨rfl, rfl⟩
  rw [ba_toList, HD.out]
  go_wp2_with fail
  refine (name_any (ba k) _ hsk).mono ?_
  rintro e w2 ⟨rfl, hb2⟩
  rw [HK.out]
  have c0' := cell_below hb2 c0
  have c1' := cell_below hb2 c1
  have z0' := free_below hb2 z0 hsz1
  have z1' := free_below hb2 z1 hsz1
  have HB2 := Lib.hid (HB1.out.trans (hb2.mono HB1.out.size))
  have hsz2 : w.heap.size < w2.heap.size := Nat.lt_of_lt_of_le hsz1 hb2.size
  clear hb2 c0 c1 z0 z1
  have c0 := c0'
  have c1 := c1'
  have z0 := z0'
  have z1 := z1'
  clear c0' c1' z0' z1'
  go_wp2
  refine bodyPost_ret (v := .tuple #[.agg #[.string ⟨#[]⟩, .string ⟨#[]⟩], .int .i64 5]) ?_ rfl ?_
  · simp [results, Tryz.results241, go_sem, c0, c1]
  · unfold OnePost
    rw [HE.out, HV.out]
    exact ⟨rfl, (HB2.out.setCell (Nat.le_refl _) _).setCell (Nat.le_refl _) _⟩
set_option maxRecDepth 100000 in
set_option maxHeartbeats 1000000 in
theorem one_any (k : List UInt8) (w : World) (hr : Ready w) (hs : (k ++ 61 :: [42]).length ≤ 1048576) (h : (61 : UInt8) ∉ k) (hk : nameB (ba k) = true) :
    Calls Tryz.prog 241 #[.string (ba (k ++ 61 :: [42]))] w (OnePost (k ++ 61 :: [42]) w) := by
  have h2 : (61 : UInt8) ∉ [42] := by decide
  have hsk : (ba k).size ≤ 140737488351232 := by rw [ba_size]; simp at hs; omega
  have hsv : (ba [42]).size ≤ 140737488351232 := by rw [ba_size]; decide
  have hsv2 : (ba [42]).size < 4294967281 := by rw [ba_size]; decide
  have HE := Lib.hid (show oneE (k ++ 61 :: [42]) = 0 by rw [oneE_two h h2, if_pos]; unfold pairOk; simp [hk])
  have HV := Lib.hid (show oneR (k ++ 61 :: [42]) = (ba k, ba [42]) by rw [oneR_good HE.out, oneV_two h h2])
  have HD := Lib.hid (contains_none h2)
  clear h2
  have HK := Lib.hid hk
  clear hk
  have q0 : (ba [42]).toList = [42] := ba_toList2 _
  have HC := Lib.hid (cut_app h (b := [42]))
  have HR := Lib.hid hr
  have hsz : (ba (k ++ 61 :: [42])).size < 4294967281 := by rw [ba_size]; omega
  clear h hr
  go_enter Tryz.func241, Tryz.ntmps241
  go_wp2_with fail
  refine (cut_any 61 (ba (k ++ 61 :: [42])) _ (HR.out.below ((Below.refl _ _).alloc (Nat.le_refl _) _)) hsz).mono ?_
  rintro e w1 ⟨rfl, hb1⟩
  rw [ba_toList, HC.out]
  have c0 := cell_below hb1 (cell_alloc_at (w := w) (t := 331) (cs := #[.string ⟨#[]⟩, .string ⟨#[]⟩]) (i := 0) (v := .string ⟨#[]⟩) rfl)
  have c1 := cell_below hb1 (cell_alloc_at (w := w) (t := 331) (cs := #[.string ⟨#[]⟩, .string ⟨#[]⟩]) (i := 1) (v := .string ⟨#[]⟩) rfl)
  have z0 := free_below hb1 (free_alloc_at (w := w) (t := 331) (cs := #[.string ⟨#[]⟩, .string ⟨#[]⟩]) (i := 0)) (by simp)
  have z1 := free_below hb1 (free_alloc_at (w := w) (t := 331) (cs := #[.string ⟨#[]⟩, .string ⟨#[]⟩]) (i := 1)) (by simp)
  have HB1 := Lib.hid (box_below2 hb1)
  have hsz1 : w.heap.size < w1.heap.size := Nat.lt_of_lt_of_le (by simp) hb1.size
  clear hb1
  go_wp2_with fail
  refine (contains_any 61 (ba [42]) _ (HR.out.below HB1.out) hsv2).mono ?_
  rintro e w1' ⟨rfl, rfl⟩
  rw [ba_toList, HD.out]
  go_wp2_with fail
  refine (name_any (ba k) _ hsk).mono ?_
  rintro e w2 ⟨rfl, hb2⟩
  rw [HK.out]
  have c0' := cell_below hb2 c0
  have c1' := cell_below hb2 c1
  have z0' := free_below hb2 z0 hsz1
  have z1' := free_below hb2 z1 hsz1
  have HB2 := Lib.hid (HB1.out.trans (hb2.mono HB1.out.size))
  have hsz2 : w.heap.size < w2.heap.size := Nat.lt_of_lt_of_le hsz1 hb2.size
  clear hb2 c0 c1 z0 z1
  have c0 := c0'
  have c1 := c1'
  have z0 := z0'
  have z1 := z1'
  clear c0' c1' z0' z1'
  go_wp2
  refine bodyPost_ret (v := .tuple #[.agg #[.string (ba k), .string (ba [42])], .int .i64 0]) ?_ rfl ?_
  · simp [results, Tryz.results241, go_sem, c0, c1]
  · unfold OnePost
    rw [HE.out, HV.out]
    exact ⟨rfl, (HB2.out.setCell (Nat.le_refl _) _).setCell (Nat.le_refl _) _⟩
set_option maxRecDepth 100000 in
set_option maxHeartbeats 1000000 in
theorem one_value (k v : List UInt8) (w : World) (hr : Ready w) (hs : (k ++ 61 :: v).length ≤ 1048576) (h : (61 : UInt8) ∉ k) (h2 : (61 : UInt8) ∉ v) (hk : nameB (ba k) = true) (hv : v ≠ [42]) (hn : nameB (ba v) = false) :
    Calls Tryz.prog 241 #[.string (ba (k ++ 61 :: v))] w (OnePost (k ++ 61 :: v) w) := by
  have hsk : (ba k).size ≤ 140737488351232 := by rw [ba_size]; simp at hs; omega
  have hsv : (ba v).size ≤ 140737488351232 := by rw [ba_size]; simp at hs; omega
  have hsv2 : (ba v).size < 4294967281 := by rw [ba_size]; simp at hs; omega
  have HE := Lib.hid (show oneE (k ++ 61 :: v) = 5 by rw [oneE_two h h2, if_neg]; unfold pairOk; simp [hk, hv, hn])
  have HV := Lib.hid (oneR_bad (x := k ++ 61 :: v) (by rw [HE.out]; decide))
  have HD := Lib.hid (contains_none h2)
  clear h2
  have HK := Lib.hid hk
  have HN := Lib.hid hn
  clear hk hn
  have q0 : ((ba v).toList == [42]) = false := by rw [ba_toList2]; exact beq_eq_false_iff_ne.2 hv
  clear hv
  have HC := Lib.hid (cut_app h (b := v))
  have HR := Lib.hid hr
  have hsz : (ba (k ++ 61 :: v)).size < 4294967281 := by rw [ba_size]; omega
  clear h hr
  go_enter Tryz.func241, Tryz.ntmps241
  go_wp2_with fail
  refine (cut_any 61 (ba (k ++ 61 :: v)) _ (HR.out.below ((Below.refl _ _).alloc (Nat.le_refl _) _)) hsz).mono ?_
  rintro e w1 ⟨rfl, hb1⟩
  rw [ba_toList, HC.out]
  have c0 := cell_below hb1 (cell_alloc_at (w := w) (t := 331) (cs := #[.string ⟨#[]⟩, .string ⟨#[]⟩]) (i := 0) (v := .string ⟨#[]⟩) rfl)
  have c1 := cell_below hb1 (cell_alloc_at (w := w) (t := 331) (cs := #[.string ⟨#[]⟩, .string ⟨#[]⟩]) (i := 1) (v := .string ⟨#[]⟩) rfl)
  have z0 := free_below hb1 (free_alloc_at (w := w) (t := 331) (cs := #[.string ⟨#[]⟩, .string ⟨#[]⟩]) (i := 0)) (by simp)
  have z1 := free_below hb1 (free_alloc_at (w := w) (t := 331) (cs := #[.string ⟨#[]⟩, .string ⟨#[]⟩]) (i := 1)) (by simp)
  have HB1 := Lib.hid (box_below2 hb1)
  have hsz1 : w.heap.size < w1.heap.size := Nat.lt_of_lt_of_le (by simp) hb1.size
  clear hb1
  go_wp2_with fail
  refine (contains_any 61 (ba v) _ (HR.out.below HB1.out) hsv2).mono ?_
  rintro e w1' ⟨rfl, rfl⟩
  rw [ba_toList, HD.out]
  go_wp2_with fail
  refine (name_any (ba k) _ hsk).mono ?_
  rintro e w2 ⟨rfl, hb2⟩
  rw [HK.out]
  have c0' := cell_below hb2 c0
  have c1' := cell_below hb2 c1
  have z0' := free_below hb2 z0 hsz1
  have z1' := free_below hb2 z1 hsz1
  have HB2 := Lib.hid (HB1.out.trans (hb2.mono HB1.out.size))
  have hsz2 : w.heap.size < w2.heap.size := Nat.lt_of_lt_of_le hsz1 hb2.size
  clear hb2 c0 c1 z0 z1
  have c0 := c0'
  have c1 := c1'
  have z0 := z0'
  have z1 := z1'
  clear c0' c1' z0' z1'
  go_wp2_with fail
  refine (name_any (ba v) _ hsv).mono ?_
  rintro e w3 ⟨rfl, hb3⟩
  rw [HN.out]
  have c0' := cell_below hb3 c0
  have c1' := cell_below hb3 c1
  have z0' := free_below hb3 z0 hsz2
  have z1' := free_below hb3 z1 hsz2
  have HB3 := Lib.hid (HB2.out.trans (hb3.mono HB2.out.size))
  have hsz3 : w.heap.size < w3.heap.size := Nat.lt_of_lt_of_le hsz2 hb3.size
  clear hb3 c0 c1 z0 z1
  have c0 := c0'
  have c1 := c1'
  have z0 := z0'
  have z1 := z1'
  clear c0' c1' z0' z1'
  go_wp2
  refine bodyPost_ret (v := .tuple #[.agg #[.string ⟨#[]⟩, .string ⟨#[]⟩], .int .i64 5]) ?_ rfl ?_
  · simp [results, Tryz.results241, go_sem, c0, c1]
  · unfold OnePost
    rw [HE.out, HV.out]
    exact ⟨rfl, (HB3.out.setCell (Nat.le_refl _) _).setCell (Nat.le_refl _) _⟩
set_option maxRecDepth 100000 in
set_option maxHeartbeats 1000000 in
theorem one_pair (k v : List UInt8) (w : World) (hr : Ready w) (hs : (k ++ 61 :: v).length ≤ 1048576) (h : (61 : UInt8) ∉ k) (h2 : (61 : UInt8) ∉ v) (hk : nameB (ba k) = true) (hv : v ≠ [42]) (hn : nameB (ba v) = true) :
    Calls Tryz.prog 241 #[.string (ba (k ++ 61 :: v))] w (OnePost (k ++ 61 :: v) w) := by
  have hsk : (ba k).size ≤ 140737488351232 := by rw [ba_size]; simp at hs; omega
  have hsv : (ba v).size ≤ 140737488351232 := by rw [ba_size]; simp at hs; omega
  have hsv2 : (ba v).size < 4294967281 := by rw [ba_size]; simp at hs; omega
  have HE := Lib.hid (show oneE (k ++ 61 :: v) = 0 by rw [oneE_two h h2, if_pos]; unfold pairOk; simp [hk, hn])
  have HV := Lib.hid (show oneR (k ++ 61 :: v) = (ba k, ba v) by rw [oneR_good HE.out, oneV_two h h2])
  have HD := Lib.hid (contains_none h2)
  clear h2
  have HK := Lib.hid hk
  have HN := Lib.hid hn
  clear hk hn
  have q0 : ((ba v).toList == [42]) = false := by rw [ba_toList2]; exact beq_eq_false_iff_ne.2 hv
  clear hv
  have HC := Lib.hid (cut_app h (b := v))
  have HR := Lib.hid hr
  have hsz : (ba (k ++ 61 :: v)).size < 4294967281 := by rw [ba_size]; omega
  clear h hr
  go_enter Tryz.func241, Tryz.ntmps241
  go_wp2_with fail
  refine (cut_any 61 (ba (k ++ 61 :: v)) _ (HR.out.below ((Below.refl _ _).alloc (Nat.le_refl _) _)) hsz).mono ?_
  rintro e w1 ⟨rfl, hb1⟩
  rw [ba_toList, HC.out]
  have c0 := cell_below hb1 (cell_alloc_at (w := w) (t := 331) (cs := #[.string ⟨#[]⟩, .string ⟨#[]⟩]) (i := 0) (v := .string ⟨#[]⟩) rfl)
  have c1 := cell_below hb1 (cell_alloc_at (w := w) (t := 331) (cs := #[.string ⟨#[]⟩, .string ⟨#[]⟩]) (i := 1) (v := .string ⟨#[]⟩) rfl)
  have z0 := free_below hb1 (free_alloc_at (w := w) (t := 331) (cs := #[.string ⟨#[]⟩, .string ⟨#[]⟩]) (i := 0)) (by simp)
  have z1 := free_below hb1 (free_alloc_at (w := w) (t := 331) (cs := #[.string ⟨#[]⟩, .string ⟨#[]⟩]) (i := 1)) (by simp)
  have HB1 := Lib.hid (box_below2 hb1)
  have hsz1 : w.heap.size < w1.heap.size := Nat.lt_of_lt_of_le (by simp) hb1.size
  clear hb1
  go_wp2_with fail
  refine (contains_any 61 (ba v) _ (HR.out.below HB1.out) hsv2).mono ?_
  rintro e w1' ⟨rfl, rfl⟩
  rw [ba_toList, HD.out]
  go_wp2_with fail
  refine (name_any (ba k) _ hsk).mono ?_
  rintro e w2 ⟨rfl, hb2⟩
  rw [HK.out]
  have c0' := cell_below hb2 c0
  have c1' := cell_below hb2 c1
  have z0' := free_below hb2 z0 hsz1
  have z1' := free_below hb2 z1 hsz1
  have HB2 := Lib.hid (HB1.out.trans (hb2.mono HB1.out.size))
  have hsz2 : w.heap.size < w2.heap.size := Nat.lt_of_lt_of_le hsz1 hb2.size
  clear hb2 c0 c1 z0 z1
  have c0 := c0'
  have c1 := c1'
  have z0 := z0'
  have z1 := z1'
  clear c0' c1' z0' z1'
  go_wp2_with fail
  refine (name_any (ba v) _ hsv).mono ?_
  rintro e w3 ⟨rfl, hb3⟩
  rw [HN.out]
  have c0' := cell_below hb3 c0
  have c1' := cell_below hb3 c1
  have z0' := free_below hb3 z0 hsz2
  have z1' := free_below hb3 z1 hsz2
  have HB3 := Lib.hid (HB2.out.trans (hb3.mono HB2.out.size))
  have hsz3 : w.heap.size < w3.heap.size := Nat.lt_of_lt_of_le hsz2 hb3.size
  clear hb3 c0 c1 z0 z1
  have c0 := c0'
  have c1 := c1'
  have z0 := z0'
  have z1 := z1'
  clear c0' c1' z0' z1'
  go_wp2
  refine bodyPost_ret (v := .tuple #[.agg #[.string (ba k), .string (ba v)], .int .i64 0]) ?_ rfl ?_
  · simp [results, Tryz.results241, go_sem, c0, c1]
  · unfold OnePost
    rw [HE.out, HV.out]
    exact ⟨rfl, (HB3.out.setCell (Nat.le_refl _) _).setCell (Nat.le_refl _) _⟩
theorem pair_any (x : List UInt8) (w : World) (hr : Ready w) (hs : x.length ≤ 1048576) : Calls Tryz.prog 241 #[.string (ba x)] w (OnePost x w) := by
  rcases first_of (c := 61) x with h | ⟨k, v, rfl, h⟩
  · exact one_none x w hr hs h
  · by_cases h2 : (61 : UInt8) ∈ v
    · exact one_more k v w hr hs h h2
    · rcases hk : nameB (ba k) with _ | _
      · exact one_key k v w hr hs h h2 hk
      · by_cases hv : v = [42]
        · subst hv; exact one_any k w hr hs h hk
        · rcases hn : nameB (ba v) with _ | _
          · exact one_value k v w hr hs h h2 hk hv hn
          · exact one_pair k v w hr hs h h2 hk hv hn
end Go.Proofs.YtjmlimogmmikoaaGreatDoor
namespace Go.Proofs.YtjmlimogmmikoaaGreatDoor
open Go.RowKit
def flatP (l : List Pr) : List Value := l.flatMap encP
theorem flatP_len : ∀ l : List Pr, (flatP l).length = l.length * 2
  | [] => rfl
  | p :: r => by rw [flatP, List.flatMap_cons, List.length_append, List.length_cons]; have := flatP_len r; unfold flatP at this; rw [this, encP_len]; omega
theorem flatP_snoc (l : List Pr) (p : Pr) : flatP (l ++ [p]) = flatP l ++ [.string p.1, .string p.2] := by simp [flatP, encP]
theorem flatP_get : ∀ {l : List Pr} {j : Nat} {p : Pr} (i : Nat), l[j]? = some p → i < 2 → (flatP l)[j * 2 + i]? = (encP p)[i]?
  | [], _, _, _, h, _ => by simp at h
  | q :: r, 0, p, i, h, hi => by
    simp at h
    subst h
    rw [flatP, List.flatMap_cons, List.getElem?_append_left (by rw [encP_len]; omega)]
    simp
  | q :: r, j + 1, p, i, h, hi => by
    have ih := flatP_get (l := r) (j := j) i (by simpa using h) hi
    rw [flatP, List.flatMap_cons, List.getElem?_append_right (by rw [encP_len]; omega), encP_len, ← ih]
    unfold flatP
    congr 1
    omega
/-! ### Is a key met? -/
def keyB (k : ByteArray) (x : Pr) : Bool := x.1.data.toList == k.data.toList
theorem keyB_list (k : ByteArray) (x : Pr) : (x.1.toList == k.toList) = keyB k x := by rw [ByteArray.toList_eq, ByteArray.toList_eq]; rfl
set_option maxHeartbeats 1000000 in
theorem sameKey_any (B : Nat) (k : ByteArray) (w : World) (hc : w.cell? ⟨B, 0, none⟩ = some (.string k)) (x : Pr) :
    Calls Tryz.prog 243 #[.agg #[.string x.1, .string x.2], .pointer (some ⟨B, 0, none⟩)] w fun e w' => e = .returned (.bool (keyB k x)) ∧ Below w.heap.size w w' := by
  have hB := World.block_lt_of_cell? w _ hc
  have hne : B ≠ w.heap.size := by simp at hB; omega
  have HQ := Lib.hid (keyB_list k x)
  go_enter Tryz.func243, Tryz.ntmps243
  go_wp2
  go_ret
  exact ⟨ret_bool HQ.out, box_below⟩
theorem pred_any (B : Nat) (k : ByteArray) (w : World) (hc : w.cell? ⟨B, 0, none⟩ = some (.string k)) : PredBelow Tryz.prog 243 #[.pointer (some ⟨B, 0, none⟩)] (fun x : Pr => .agg (encP x).toArray) (keyB k) w :=
  fun W x hb => (sameKey_any B k W (cell_below hb hc) x).mono fun _ _ ⟨he, hb'⟩ => ⟨he, hb.trans (hb'.mono hb.size)⟩
set_option maxHeartbeats 1000000 in
theorem index_nil (a : Option Addr) (cap : Nat) (f : Value) (w : World) :
    Calls Tryz.prog 259 #[.slice a 0 cap, f] w fun e w' => e = .returned (.int .i64 (-1)) ∧ w = w' := by
  go_enter Tryz.func259, Tryz.ntmps259
  go_wp2
  go_loop [8] (fun i => i = .int .i64 0) (fun _ => 0)
  case atStart => rfl
  case round =>
    subst hrel
    go_wp2
    go_ret
    exact ⟨rfl, rfl⟩
set_option maxHeartbeats 1000000 in
theorem has_nil (a : Option Addr) (cap : Nat) (f : Value) (w : World) :
    Calls Tryz.prog 242 #[.slice a 0 cap, f] w fun e w' => e = .returned (.bool false) ∧ w = w' := by
  go_enter Tryz.func242, Tryz.ntmps242
  go_wp2_with fail
  refine (index_nil _ _ _ _).mono ?_
  rintro e w1 ⟨rfl, rfl⟩
  go_wp2
  go_ret
  exact ⟨rfl, rfl⟩
theorem hasK_any {base : Nat} (v : Value) (l : List Pr) (B : Nat) (k : ByteArray) (w : World) (hown : w.ownsRow base 331 2 v l.length (flatP l)) (hc : w.cell? ⟨B, 0, none⟩ = some (.string k)) :
    Calls Tryz.prog 242 #[v, .func (.func 243) #[] #[.pointer (some ⟨B, 0, none⟩)]] w fun e w' => e = .returned (.bool (hasKey l k)) ∧ Below w.heap.size w w' := by
  obtain ⟨a, cap, rfl, hcap, hmax, hlen, hcell⟩ := own_cells hown
  rcases Nat.eq_zero_or_pos l.length with h0 | h0
  · have hl : l = [] := List.length_eq_zero_iff.1 h0
    subst hl
    exact (has_nil a cap _ w).mono fun _ _ ⟨he, hw⟩ => ⟨he, hw ▸ Below.refl _ _⟩
  · obtain ⟨p, hp⟩ : ∃ p, l[0]? = some p := ⟨_, List.getElem?_eq_getElem h0⟩
    obtain ⟨g, rfl, hg, hlt, _⟩ := hcell 0 (.string p.1) (by have := flatP_get 0 hp (by omega); simpa [encP] using this)
    have h := AnyQ.slices_ContainsFunc Tryz.hasPair 2 Tryz.isAgg331 Tryz.sizeOf331 encP encP_len (keyB k) 243 #[.pointer (some ⟨B, 0, none⟩)] (enters_of Tryz.func243 (by kernel_rfl) rfl)
      g 0 l.length cap l w (pred_any B k w hc) (Nat.le_refl _) (by unfold maxLen at hmax; omega) hlt (fun j hj i u hi => by
        have hlj : l[j]? = some l[j]! := by rw [List.getElem?_eq_getElem hj, getElem!_pos l j hj]
        have hi2 : i < 2 := (List.getElem?_eq_some_iff.1 hi).1
        obtain ⟨g', hg', _, _, hc', _⟩ := hcell (j * 2 + i) u (by rw [flatP_get i hlj hi2]; exact hi)
        cases hg'
        rw [Nat.zero_add]
        exact hc')
    rw [List.take_length] at h
    exact h
end Go.Proofs.YtjmlimogmmikoaaGreatDoor
