/-
  action.Right and the document's.
-/
import Derived.Test.YtmijmfgclmaodaaGreatDoorActOf
namespace Go.Proofs.YtmijmfgclmaodaaGreatDoor
open Go.RowKit

/-- May an action be? -/
def rightB (k c n : ByteArray) : Bool := decide (ofE k c n = 0) && (ba (canonP n)).toList == n.toList
theorem rightB_bad {k c n : ByteArray} (h : ofE k c n ≠ 0) : rightB k c n = false := by simp [rightB, h]
theorem rightB_not {k c n : ByteArray} (h : ((ba (canonP n)).toList == n.toList) = false) : rightB k c n = false := by unfold rightB; rw [h, Bool.and_false]
theorem rightB_yes {k c n : ByteArray} (h0 : ofE k c n = 0) (h : ((ba (canonP n)).toList == n.toList) = true) : rightB k c n = true := by unfold rightB; rw [h, h0]; rfl

set_option maxRecDepth 100000 in
set_option maxHeartbeats 1000000 in
theorem aright_bad (k c n : ByteArray) (w : World) (hr : Ready w) (hk : k.size ≤ 140737488351232) (hc : c.size ≤ 140737488351232) (hp : n.size ≤ 1048576) (h0 : ofE k c n ≠ 0) :
    Calls Tryz.prog 54 #[.agg #[.string k, .string c, .string n]] w fun e w' => e = .returned (.bool false) ∧ Below w.heap.size w w' := by
  have HR := Lib.hid hr
  have HZ := Lib.hid h0
  have hne : (ofE k c n == 0) = false := beq_eq_false_iff_ne.2 h0
  clear hr h0
  go_enter Tryz.func54, Tryz.ntmps54
  go_wp2_with fail
  refine (of_bad k c n _ (HR.out.below box_below) hk hc hp HZ.out).mono ?_
  rintro e w1 ⟨rfl, hb1⟩
  have HB1 := Lib.hid hb1
  clear hb1
  go_wp2
  go_ret
  exact ⟨rfl, (box_below.trans (HB1.out.mono (by simp))).alloc (by have := HB1.out.size; simp at this; omega) _⟩
set_option maxRecDepth 100000 in
set_option maxHeartbeats 1000000 in
theorem aright_good (k c n : ByteArray) (w : World) (hr : Ready w) (hk : k.size ≤ 140737488351232) (hc : c.size ≤ 140737488351232) (hp : n.size ≤ 1048576) (h0 : ofE k c n = 0) :
    Calls Tryz.prog 54 #[.agg #[.string k, .string c, .string n]] w fun e w' => e = .returned (.bool ((ba (canonP n)).toList == n.toList)) ∧ Below w.heap.size w w' := by
  have HR := Lib.hid hr
  have HZ := Lib.hid h0
  clear hr h0
  have hkk := ba_list_self k
  have hcc := ba_list_self c
  go_enter Tryz.func54, Tryz.ntmps54
  go_wp2_with fail
  refine (of_good k c n _ (HR.out.below box_below) hk hc hp HZ.out).mono ?_
  rintro e w1 ⟨rfl, hb1⟩
  have HB1 := Lib.hid hb1
  have hz : w.heap.size < w1.heap.size := by have := hb1.size; simp at this; omega
  have c0 : w1.cell? ⟨w.heap.size, 0, none⟩ = some (.string k) := cell_below hb1 (by simp)
  have c1 : w1.cell? ⟨w.heap.size, 1, none⟩ = some (.string c) := cell_below hb1 (by simp)
  have c2 : w1.cell? ⟨w.heap.size, 2, none⟩ = some (.string n) := cell_below hb1 (by simp)
  clear hb1
  go_wp2
  all_goals
    go_ret
    refine ⟨ret_bool ?_, (box_below.trans (HB1.out.mono (by simp))).alloc (by omega) _⟩
    first
      | exact (beq_eq_false_iff_ne.2 fun e => (by assumption : ¬ n.toList = (ba (canonP n)).toList) e.symm).symm
      | exact (beq_iff_eq.2 (by assumption : n.toList = (ba (canonP n)).toList).symm).symm
set_option maxRecDepth 100000 in
set_option maxHeartbeats 1000000 in
theorem araright_name (k c n : ByteArray) (w : World) (hk : k.size ≤ 140737488351232) (hp : n.size ≤ 1048576) (h0 : nameB k = false) :
    Calls Tryz.prog 39 #[.agg #[.string k, .string c, .string n]] w fun e w' => e = .returned (.bool false) ∧ Below w.heap.size w w' := by
  have HZ := Lib.hid h0
  clear h0
  go_enter Tryz.func39, Tryz.ntmps39
  go_wp2_with fail
  refine (rcanon_any n _ hp).mono ?_
  rintro e w1 ⟨rfl, hb1⟩
  obtain ⟨hc1, -⟩ := bcell hb1
  have HB1 := Lib.hid hb1
  clear hb1
  go_wp2_with fail
  refine (rname_any k _ hk).mono ?_
  rintro e w2 ⟨rfl, hb2⟩
  rw [HZ.out]
  go_wp2
  go_ret
  exact ⟨rfl, (box_below.trans (HB1.out.mono (by simp))).trans (hb2.mono (by have := HB1.out.size; simp at this; omega))⟩
set_option maxRecDepth 100000 in
set_option maxHeartbeats 1000000 in
theorem araright_long (k c n : ByteArray) (w : World) (hk : k.size ≤ 140737488351232) (hc : c.size ≤ 140737488351232) (hp : n.size ≤ 1048576) (h0 : nameB k = true) (h1 : 64 < c.size) :
    Calls Tryz.prog 39 #[.agg #[.string k, .string c, .string n]] w fun e w' => e = .returned (.bool false) ∧ Below w.heap.size w w' := by
  have HZ := Lib.hid h0
  clear h0
  go_enter Tryz.func39, Tryz.ntmps39
  go_wp2_with fail
  refine (rcanon_any n _ hp).mono ?_
  rintro e w1 ⟨rfl, hb1⟩
  have c0 : w1.cell? ⟨w.heap.size, 0, none⟩ = some (.string k) := cell_below hb1 (by simp)
  have c1' : w1.cell? ⟨w.heap.size, 1, none⟩ = some (.string c) := cell_below hb1 (by simp)
  have HB1 := Lib.hid hb1
  clear hb1
  go_wp2_with fail
  refine (rname_any k _ hk).mono ?_
  rintro e w2 ⟨rfl, hb2⟩
  rw [HZ.out]
  have hz : w.heap.size < w1.heap.size := by have := HB1.out.size; simp at this; omega
  have c1 := cell_below hb2 c1'
  have HB2 := Lib.hid hb2
  clear hb2
  go_wp2
  go_ret
  exact ⟨rfl, (box_below.trans (HB1.out.mono (by simp))).trans (HB2.out.mono (by omega))⟩
set_option maxRecDepth 100000 in
set_option maxHeartbeats 1000000 in
theorem araright_plat (k c n : ByteArray) (w : World) (hk : k.size ≤ 140737488351232) (hc : c.size ≤ 140737488351232) (hp : n.size ≤ 1048576) (h0 : nameB k = true) (h1 : ¬ 64 < c.size) (h2 : canonE n ≠ 0) :
    Calls Tryz.prog 39 #[.agg #[.string k, .string c, .string n]] w fun e w' => e = .returned (.bool false) ∧ Below w.heap.size w w' := by
  have HZ := Lib.hid h0
  have hne : (canonE n == 0) = false := beq_eq_false_iff_ne.2 h2
  clear h0 h2
  go_enter Tryz.func39, Tryz.ntmps39
  go_wp2_with fail
  refine (rcanon_any n _ hp).mono ?_
  rintro e w1 ⟨rfl, hb1⟩
  have c0 : w1.cell? ⟨w.heap.size, 0, none⟩ = some (.string k) := cell_below hb1 (by simp)
  have c1' : w1.cell? ⟨w.heap.size, 1, none⟩ = some (.string c) := cell_below hb1 (by simp)
  have HB1 := Lib.hid hb1
  clear hb1
  go_wp2_with fail
  refine (rname_any k _ hk).mono ?_
  rintro e w2 ⟨rfl, hb2⟩
  rw [HZ.out]
  have hz : w.heap.size < w1.heap.size := by have := HB1.out.size; simp at this; omega
  have c1 := cell_below hb2 c1'
  have HB2 := Lib.hid hb2
  clear hb2
  go_wp2
  go_ret
  exact ⟨rfl, (box_below.trans (HB1.out.mono (by simp))).trans (HB2.out.mono (by omega))⟩
set_option maxRecDepth 100000 in
set_option maxHeartbeats 1000000 in
theorem araright_good (k c n : ByteArray) (w : World) (hk : k.size ≤ 140737488351232) (hc : c.size ≤ 140737488351232) (hp : n.size ≤ 1048576) (h0 : nameB k = true) (h1 : ¬ 64 < c.size) (h2 : canonE n = 0) :
    Calls Tryz.prog 39 #[.agg #[.string k, .string c, .string n]] w fun e w' => e = .returned (.bool ((ba (canonP n)).toList == n.toList)) ∧ Below w.heap.size w w' := by
  have HZ := Lib.hid h0
  have HE := Lib.hid h2
  clear h0 h2
  go_enter Tryz.func39, Tryz.ntmps39
  go_wp2_with fail
  refine (rcanon_any n _ hp).mono ?_
  rintro e w1 ⟨rfl, hb1⟩
  rw [HE.out]
  have c0 : w1.cell? ⟨w.heap.size, 0, none⟩ = some (.string k) := cell_below hb1 (by simp)
  have c1' : w1.cell? ⟨w.heap.size, 1, none⟩ = some (.string c) := cell_below hb1 (by simp)
  have c2' : w1.cell? ⟨w.heap.size, 2, none⟩ = some (.string n) := cell_below hb1 (by simp)
  have HB1 := Lib.hid hb1
  clear hb1
  go_wp2_with fail
  refine (rname_any k _ hk).mono ?_
  rintro e w2 ⟨rfl, hb2⟩
  rw [HZ.out]
  have hz : w.heap.size < w1.heap.size := by have := HB1.out.size; simp at this; omega
  have c1 := cell_below hb2 c1'
  have c2 := cell_below hb2 c2'
  have HB2 := Lib.hid hb2
  clear hb2
  go_wp2
  go_ret
  exact ⟨rfl, (box_below.trans (HB1.out.mono (by simp))).trans (HB2.out.mono (by omega))⟩
theorem aright_any (k c n : ByteArray) (w : World) (hr : Ready w) (hk : k.size ≤ 140737488351232) (hc : c.size ≤ 140737488351232) (hp : n.size ≤ 1048576) :
    Calls Tryz.prog 54 #[.agg #[.string k, .string c, .string n]] w fun e w' => e = .returned (.bool (rightB k c n)) ∧ Below w.heap.size w w' := by
  by_cases h0 : ofE k c n = 0
  · have h : rightB k c n = ((ba (canonP n)).toList == n.toList) := by unfold rightB; rw [h0]; simp
    rw [h]
    exact aright_good k c n w hr hk hc hp h0
  · rw [rightB_bad h0]
    exact aright_bad k c n w hr hk hc hp h0
theorem araright_any (k c n : ByteArray) (w : World) (hk : k.size ≤ 140737488351232) (hc : c.size ≤ 140737488351232) (hp : n.size ≤ 1048576) :
    Calls Tryz.prog 39 #[.agg #[.string k, .string c, .string n]] w fun e w' => e = .returned (.bool (rightB k c n)) ∧ Below w.heap.size w w' := by
  rcases hn : nameB k with _ | _
  · rw [rightB_bad (by rw [ofE_name hn]; decide)]
    exact araright_name k c n w hk hp hn
  · by_cases hl : 64 < c.size
    · rw [rightB_bad (by rw [ofE_long hn hl]; decide)]
      exact araright_long k c n w hk hc hp hn hl
    · by_cases he : canonE n = 0
      · have h : rightB k c n = ((ba (canonP n)).toList == n.toList) := by unfold rightB; rw [ofE_plat hn hl, he]; simp
        rw [h]
        exact araright_good k c n w hk hc hp hn hl he
      · rw [rightB_bad (by rw [ofE_plat hn hl]; exact he)]
        exact araright_plat k c n w hk hc hp hn hl he
end Go.Proofs.YtmijmfgclmaodaaGreatDoor
