/-
  'ActionApart': the walk of the law, case by case.
-/
import Derived.Test.YtcojnjfpoiohoaaApart
namespace Go.Proofs.Ytcojnjfpoiohoaa
open Go.RowKit

set_option maxHeartbeats 400000 in
/-- THE WALK: like actions, like numbers. -/
theorem apart_like_same (k1 c1 n1 : ByteArray) (d0 : Nat) (w : World) (hk1 : k1.size ≤ 140737488351232) (hc1 : c1.size ≤ 140737488351232) (hn1 : n1.size ≤ 140737488351232) (h0 : U64 d0) (hA : k1.size + c1.size + n1.size ≤ 1000) :
    Calls Try.prog 3 #[.agg #[.string k1, .string c1, .string n1], .agg #[.string k1, .string c1, .string n1], .agg #[.int .u64 d0, .int .u64 d0]] w
      fun e w' => e = .returned (.bool true) ∧ Below w.heap.size w w' := by
  go_enter Try.func3, Try.ntmps3
  go_wp2_with fail
  obtain ⟨w0, hw0⟩ : ∃ w0 : World, w0 = ((w.alloc (.cells #[.string k1, .string c1, .string n1] 23)).alloc (.cells #[.string k1, .string c1, .string n1] 23)).alloc (.cells #[.int .u64 d0, .int .u64 d0] 25) := ⟨_, rfl⟩
  rw [← hw0]
  have a0' := cell_regrown (w := w0) (a := ⟨w.heap.size, 0, none⟩) (v := .string k1) (by rw [hw0]; simp [go_sem])
  have a1' := cell_regrown (w := w0) (a := ⟨w.heap.size, 1, none⟩) (v := .string c1) (by rw [hw0]; simp [go_sem])
  have a2' := cell_regrown (w := w0) (a := ⟨w.heap.size, 2, none⟩) (v := .string n1) (by rw [hw0]; simp [go_sem])
  have b0' := cell_regrown (w := w0) (a := ⟨w.heap.size + 1, 0, none⟩) (v := .string k1) (by rw [hw0]; simp [go_sem])
  have b1' := cell_regrown (w := w0) (a := ⟨w.heap.size + 1, 1, none⟩) (v := .string c1) (by rw [hw0]; simp [go_sem])
  have b2' := cell_regrown (w := w0) (a := ⟨w.heap.size + 1, 2, none⟩) (v := .string n1) (by rw [hw0]; simp [go_sem])
  have d0' := cell_regrown (w := w0) (a := ⟨w.heap.size + 2, 0, none⟩) (v := .int .u64 d0) (by rw [hw0]; simp [go_sem])
  have d1' := cell_regrown (w := w0) (a := ⟨w.heap.size + 2, 1, none⟩) (v := .int .u64 d0) (by rw [hw0]; simp [go_sem])
  have hB0 : Below w.heap.size w w0 := by rw [hw0]; exact ((((Below.refl _ _).alloc (Nat.le_refl _) _).alloc (by simp) _).alloc (by simp; omega) _)
  have HB0 := Lib.hid hB0
  clear hw0 hB0
  refine wp_region_quiet_below (by kernel_rfl) (by kernel_rfl) ?_
  repeat (go_big_quiet_step ((first | exact Calls.regrown_of (bytes_any _ _ _ _ (by assumption) (by assumption) (by assumption)) | exact Calls.regrown_of (digest_any _ _ _ _ (by assumption) (by assumption) (by assumption)) | exact Calls.regrown_of (hex_any _ _ (by assumption)) | exact Calls.regrown_of (live18_any _))))
  refine wpQuiet_nil ?_
  rintro _ ⟨⟨dq, osq⟩, rfl⟩
  go_wp2
  go_ret
  exact ⟨rfl, below_of_regrown HB0.out HB0.out.size⟩

set_option maxHeartbeats 400000 in
/-- THE WALK: like actions, unlike numbers. -/
theorem apart_like_other (k1 c1 n1 : ByteArray) (d0 d1 : Nat) (w : World) (hk1 : k1.size ≤ 140737488351232) (hc1 : c1.size ≤ 140737488351232) (hn1 : n1.size ≤ 140737488351232) (h0 : U64 d0) (h1 : U64 d1) (hA : k1.size + c1.size + n1.size ≤ 1000) (hd : ¬ d0 = d1) :
    Calls Try.prog 3 #[.agg #[.string k1, .string c1, .string n1], .agg #[.string k1, .string c1, .string n1], .agg #[.int .u64 d0, .int .u64 d1]] w
      fun e w' => e = .returned (.bool true) ∧ Below w.heap.size w w' := by
  have HDD := Lib.hid hd
  clear hd
  go_enter Try.func3, Try.ntmps3
  go_wp2_with fail
  obtain ⟨w0, hw0⟩ : ∃ w0 : World, w0 = ((w.alloc (.cells #[.string k1, .string c1, .string n1] 23)).alloc (.cells #[.string k1, .string c1, .string n1] 23)).alloc (.cells #[.int .u64 d0, .int .u64 d1] 25) := ⟨_, rfl⟩
  rw [← hw0]
  have a0' := cell_regrown (w := w0) (a := ⟨w.heap.size, 0, none⟩) (v := .string k1) (by rw [hw0]; simp [go_sem])
  have a1' := cell_regrown (w := w0) (a := ⟨w.heap.size, 1, none⟩) (v := .string c1) (by rw [hw0]; simp [go_sem])
  have a2' := cell_regrown (w := w0) (a := ⟨w.heap.size, 2, none⟩) (v := .string n1) (by rw [hw0]; simp [go_sem])
  have b0' := cell_regrown (w := w0) (a := ⟨w.heap.size + 1, 0, none⟩) (v := .string k1) (by rw [hw0]; simp [go_sem])
  have b1' := cell_regrown (w := w0) (a := ⟨w.heap.size + 1, 1, none⟩) (v := .string c1) (by rw [hw0]; simp [go_sem])
  have b2' := cell_regrown (w := w0) (a := ⟨w.heap.size + 1, 2, none⟩) (v := .string n1) (by rw [hw0]; simp [go_sem])
  have d0' := cell_regrown (w := w0) (a := ⟨w.heap.size + 2, 0, none⟩) (v := .int .u64 d0) (by rw [hw0]; simp [go_sem])
  have d1' := cell_regrown (w := w0) (a := ⟨w.heap.size + 2, 1, none⟩) (v := .int .u64 d1) (by rw [hw0]; simp [go_sem])
  have hB0 : Below w.heap.size w w0 := by rw [hw0]; exact ((((Below.refl _ _).alloc (Nat.le_refl _) _).alloc (by simp) _).alloc (by simp; omega) _)
  have HB0 := Lib.hid hB0
  clear hw0 hB0
  have hd := HDD.out
  have hx : ((hexB d0).toList == (hexB d1).toList) = false := ba_list_ne fun e => hd (hexB_inj h0 h1 e)
  have hy : ((d0 : Int) == (d1 : Int)) = false := beq_eq_false_iff_ne.2 fun e => hd (by omega)
  have hz : ¬ ((d0 : Int) = (d1 : Int)) := fun e => hd (by omega)
  refine wp_region_quiet_below (by kernel_rfl) (by kernel_rfl) ?_
  repeat (go_big_quiet_step ((first | exact Calls.regrown_of (bytes_any _ _ _ _ (by assumption) (by assumption) (by assumption)) | exact Calls.regrown_of (digest_any _ _ _ _ (by assumption) (by assumption) (by assumption)) | exact Calls.regrown_of (hex_any _ _ (by assumption)) | exact Calls.regrown_of (live18_any _))))
  clear hx
  clear hy
  clear hz
  refine wpQuiet_nil ?_
  rintro _ ⟨⟨dq, osq⟩, rfl⟩
  go_wp2
  go_ret
  exact ⟨rfl, below_of_regrown HB0.out HB0.out.size⟩

set_option maxHeartbeats 400000 in
/-- THE WALK: unlike keys, like numbers. -/
theorem apart_key_same (k1 c1 n1 k2 c2 n2 : ByteArray) (d0 : Nat) (w : World) (hk1 : k1.size ≤ 140737488351232) (hc1 : c1.size ≤ 140737488351232) (hn1 : n1.size ≤ 140737488351232) (hk2 : k2.size ≤ 140737488351232) (hc2 : c2.size ≤ 140737488351232) (hn2 : n2.size ≤ 140737488351232) (h0 : U64 d0) (hA : k1.size + c1.size + n1.size ≤ 1000) (hB : k2.size + c2.size + n2.size ≤ 1000) (hne : ¬ k1 = k2) :
    Calls Try.prog 3 #[.agg #[.string k1, .string c1, .string n1], .agg #[.string k2, .string c2, .string n2], .agg #[.int .u64 d0, .int .u64 d0]] w
      fun e w' => e = .returned (.bool true) ∧ Below w.heap.size w w' := by
  have HNE := Lib.hid hne
  clear hne
  go_enter Try.func3, Try.ntmps3
  go_wp2_with fail
  obtain ⟨w0, hw0⟩ : ∃ w0 : World, w0 = ((w.alloc (.cells #[.string k1, .string c1, .string n1] 23)).alloc (.cells #[.string k2, .string c2, .string n2] 23)).alloc (.cells #[.int .u64 d0, .int .u64 d0] 25) := ⟨_, rfl⟩
  rw [← hw0]
  have a0' := cell_regrown (w := w0) (a := ⟨w.heap.size, 0, none⟩) (v := .string k1) (by rw [hw0]; simp [go_sem])
  have a1' := cell_regrown (w := w0) (a := ⟨w.heap.size, 1, none⟩) (v := .string c1) (by rw [hw0]; simp [go_sem])
  have a2' := cell_regrown (w := w0) (a := ⟨w.heap.size, 2, none⟩) (v := .string n1) (by rw [hw0]; simp [go_sem])
  have b0' := cell_regrown (w := w0) (a := ⟨w.heap.size + 1, 0, none⟩) (v := .string k2) (by rw [hw0]; simp [go_sem])
  have b1' := cell_regrown (w := w0) (a := ⟨w.heap.size + 1, 1, none⟩) (v := .string c2) (by rw [hw0]; simp [go_sem])
  have b2' := cell_regrown (w := w0) (a := ⟨w.heap.size + 1, 2, none⟩) (v := .string n2) (by rw [hw0]; simp [go_sem])
  have d0' := cell_regrown (w := w0) (a := ⟨w.heap.size + 2, 0, none⟩) (v := .int .u64 d0) (by rw [hw0]; simp [go_sem])
  have d1' := cell_regrown (w := w0) (a := ⟨w.heap.size + 2, 1, none⟩) (v := .int .u64 d0) (by rw [hw0]; simp [go_sem])
  have hB0 : Below w.heap.size w w0 := by rw [hw0]; exact ((((Below.refl _ _).alloc (Nat.le_refl _) _).alloc (by simp) _).alloc (by simp; omega) _)
  have HB0 := Lib.hid hB0
  clear hw0 hB0
  have hne := HNE.out
  have e1 : ((bytesB k1 c1 n1).toList == (bytesB k2 c2 n2).toList) = false := ba_list_ne fun e => hne (bytes_inj e).1
  have e2 : (k1.toList == k2.toList) = false := ba_list_ne hne
  refine wp_region_quiet_below (by kernel_rfl) (by kernel_rfl) ?_
  repeat (go_big_quiet_step ((first | exact Calls.regrown_of (bytes_any _ _ _ _ (by assumption) (by assumption) (by assumption)) | exact Calls.regrown_of (digest_any _ _ _ _ (by assumption) (by assumption) (by assumption)) | exact Calls.regrown_of (hex_any _ _ (by assumption)) | exact Calls.regrown_of (live18_any _))))
  clear e1
  clear e2
  refine wpQuiet_nil ?_
  rintro _ ⟨⟨dq, osq⟩, rfl⟩
  go_wp2
  go_ret
  exact ⟨rfl, below_of_regrown HB0.out HB0.out.size⟩

set_option maxHeartbeats 400000 in
/-- THE WALK: unlike keys, unlike numbers. -/
theorem apart_key_other (k1 c1 n1 k2 c2 n2 : ByteArray) (d0 d1 : Nat) (w : World) (hk1 : k1.size ≤ 140737488351232) (hc1 : c1.size ≤ 140737488351232) (hn1 : n1.size ≤ 140737488351232) (hk2 : k2.size ≤ 140737488351232) (hc2 : c2.size ≤ 140737488351232) (hn2 : n2.size ≤ 140737488351232) (h0 : U64 d0) (h1 : U64 d1) (hA : k1.size + c1.size + n1.size ≤ 1000) (hB : k2.size + c2.size + n2.size ≤ 1000) (hne : ¬ k1 = k2) (hd : ¬ d0 = d1) :
    Calls Try.prog 3 #[.agg #[.string k1, .string c1, .string n1], .agg #[.string k2, .string c2, .string n2], .agg #[.int .u64 d0, .int .u64 d1]] w
      fun e w' => e = .returned (.bool true) ∧ Below w.heap.size w w' := by
  have HDD := Lib.hid hd
  clear hd
  have HNE := Lib.hid hne
  clear hne
  go_enter Try.func3, Try.ntmps3
  go_wp2_with fail
  obtain ⟨w0, hw0⟩ : ∃ w0 : World, w0 = ((w.alloc (.cells #[.string k1, .string c1, .string n1] 23)).alloc (.cells #[.string k2, .string c2, .string n2] 23)).alloc (.cells #[.int .u64 d0, .int .u64 d1] 25) := ⟨_, rfl⟩
  rw [← hw0]
  have a0' := cell_regrown (w := w0) (a := ⟨w.heap.size, 0, none⟩) (v := .string k1) (by rw [hw0]; simp [go_sem])
  have a1' := cell_regrown (w := w0) (a := ⟨w.heap.size, 1, none⟩) (v := .string c1) (by rw [hw0]; simp [go_sem])
  have a2' := cell_regrown (w := w0) (a := ⟨w.heap.size, 2, none⟩) (v := .string n1) (by rw [hw0]; simp [go_sem])
  have b0' := cell_regrown (w := w0) (a := ⟨w.heap.size + 1, 0, none⟩) (v := .string k2) (by rw [hw0]; simp [go_sem])
  have b1' := cell_regrown (w := w0) (a := ⟨w.heap.size + 1, 1, none⟩) (v := .string c2) (by rw [hw0]; simp [go_sem])
  have b2' := cell_regrown (w := w0) (a := ⟨w.heap.size + 1, 2, none⟩) (v := .string n2) (by rw [hw0]; simp [go_sem])
  have d0' := cell_regrown (w := w0) (a := ⟨w.heap.size + 2, 0, none⟩) (v := .int .u64 d0) (by rw [hw0]; simp [go_sem])
  have d1' := cell_regrown (w := w0) (a := ⟨w.heap.size + 2, 1, none⟩) (v := .int .u64 d1) (by rw [hw0]; simp [go_sem])
  have hB0 : Below w.heap.size w w0 := by rw [hw0]; exact ((((Below.refl _ _).alloc (Nat.le_refl _) _).alloc (by simp) _).alloc (by simp; omega) _)
  have HB0 := Lib.hid hB0
  clear hw0 hB0
  have hd := HDD.out
  have hne := HNE.out
  have e1 : ((bytesB k1 c1 n1).toList == (bytesB k2 c2 n2).toList) = false := ba_list_ne fun e => hne (bytes_inj e).1
  have e2 : (k1.toList == k2.toList) = false := ba_list_ne hne
  have hx : ((hexB d0).toList == (hexB d1).toList) = false := ba_list_ne fun e => hd (hexB_inj h0 h1 e)
  have hy : ((d0 : Int) == (d1 : Int)) = false := beq_eq_false_iff_ne.2 fun e => hd (by omega)
  have hz : ¬ ((d0 : Int) = (d1 : Int)) := fun e => hd (by omega)
  refine wp_region_quiet_below (by kernel_rfl) (by kernel_rfl) ?_
  repeat (go_big_quiet_step ((first | exact Calls.regrown_of (bytes_any _ _ _ _ (by assumption) (by assumption) (by assumption)) | exact Calls.regrown_of (digest_any _ _ _ _ (by assumption) (by assumption) (by assumption)) | exact Calls.regrown_of (hex_any _ _ (by assumption)) | exact Calls.regrown_of (live18_any _))))
  clear e1
  clear e2
  clear hx
  clear hy
  clear hz
  refine wpQuiet_nil ?_
  rintro _ ⟨⟨dq, osq⟩, rfl⟩
  go_wp2
  go_ret
  exact ⟨rfl, below_of_regrown HB0.out HB0.out.size⟩

set_option maxHeartbeats 400000 in
/-- THE WALK: like keys, unlike commands, like numbers. -/
theorem apart_command_same (k1 c1 n1 c2 n2 : ByteArray) (d0 : Nat) (w : World) (hk1 : k1.size ≤ 140737488351232) (hc1 : c1.size ≤ 140737488351232) (hn1 : n1.size ≤ 140737488351232) (hc2 : c2.size ≤ 140737488351232) (hn2 : n2.size ≤ 140737488351232) (h0 : U64 d0) (hA : k1.size + c1.size + n1.size ≤ 1000) (hB : k1.size + c2.size + n2.size ≤ 1000) (hne : ¬ c1 = c2) :
    Calls Try.prog 3 #[.agg #[.string k1, .string c1, .string n1], .agg #[.string k1, .string c2, .string n2], .agg #[.int .u64 d0, .int .u64 d0]] w
      fun e w' => e = .returned (.bool true) ∧ Below w.heap.size w w' := by
  have HNE := Lib.hid hne
  clear hne
  go_enter Try.func3, Try.ntmps3
  go_wp2_with fail
  obtain ⟨w0, hw0⟩ : ∃ w0 : World, w0 = ((w.alloc (.cells #[.string k1, .string c1, .string n1] 23)).alloc (.cells #[.string k1, .string c2, .string n2] 23)).alloc (.cells #[.int .u64 d0, .int .u64 d0] 25) := ⟨_, rfl⟩
  rw [← hw0]
  have a0' := cell_regrown (w := w0) (a := ⟨w.heap.size, 0, none⟩) (v := .string k1) (by rw [hw0]; simp [go_sem])
  have a1' := cell_regrown (w := w0) (a := ⟨w.heap.size, 1, none⟩) (v := .string c1) (by rw [hw0]; simp [go_sem])
  have a2' := cell_regrown (w := w0) (a := ⟨w.heap.size, 2, none⟩) (v := .string n1) (by rw [hw0]; simp [go_sem])
  have b0' := cell_regrown (w := w0) (a := ⟨w.heap.size + 1, 0, none⟩) (v := .string k1) (by rw [hw0]; simp [go_sem])
  have b1' := cell_regrown (w := w0) (a := ⟨w.heap.size + 1, 1, none⟩) (v := .string c2) (by rw [hw0]; simp [go_sem])
  have b2' := cell_regrown (w := w0) (a := ⟨w.heap.size + 1, 2, none⟩) (v := .string n2) (by rw [hw0]; simp [go_sem])
  have d0' := cell_regrown (w := w0) (a := ⟨w.heap.size + 2, 0, none⟩) (v := .int .u64 d0) (by rw [hw0]; simp [go_sem])
  have d1' := cell_regrown (w := w0) (a := ⟨w.heap.size + 2, 1, none⟩) (v := .int .u64 d0) (by rw [hw0]; simp [go_sem])
  have hB0 : Below w.heap.size w w0 := by rw [hw0]; exact ((((Below.refl _ _).alloc (Nat.le_refl _) _).alloc (by simp) _).alloc (by simp; omega) _)
  have HB0 := Lib.hid hB0
  clear hw0 hB0
  have hne := HNE.out
  have e1 : ((bytesB k1 c1 n1).toList == (bytesB k1 c2 n2).toList) = false := ba_list_ne fun e => hne (bytes_inj e).2.1
  have e2 : (c1.toList == c2.toList) = false := ba_list_ne hne
  refine wp_region_quiet_below (by kernel_rfl) (by kernel_rfl) ?_
  repeat (go_big_quiet_step ((first | exact Calls.regrown_of (bytes_any _ _ _ _ (by assumption) (by assumption) (by assumption)) | exact Calls.regrown_of (digest_any _ _ _ _ (by assumption) (by assumption) (by assumption)) | exact Calls.regrown_of (hex_any _ _ (by assumption)) | exact Calls.regrown_of (live18_any _))))
  clear e1
  clear e2
  refine wpQuiet_nil ?_
  rintro _ ⟨⟨dq, osq⟩, rfl⟩
  go_wp2
  go_ret
  exact ⟨rfl, below_of_regrown HB0.out HB0.out.size⟩

set_option maxHeartbeats 400000 in
/-- THE WALK: like keys, unlike commands, unlike numbers. -/
theorem apart_command_other (k1 c1 n1 c2 n2 : ByteArray) (d0 d1 : Nat) (w : World) (hk1 : k1.size ≤ 140737488351232) (hc1 : c1.size ≤ 140737488351232) (hn1 : n1.size ≤ 140737488351232) (hc2 : c2.size ≤ 140737488351232) (hn2 : n2.size ≤ 140737488351232) (h0 : U64 d0) (h1 : U64 d1) (hA : k1.size + c1.size + n1.size ≤ 1000) (hB : k1.size + c2.size + n2.size ≤ 1000) (hne : ¬ c1 = c2) (hd : ¬ d0 = d1) :
    Calls Try.prog 3 #[.agg #[.string k1, .string c1, .string n1], .agg #[.string k1, .string c2, .string n2], .agg #[.int .u64 d0, .int .u64 d1]] w
      fun e w' => e = .returned (.bool true) ∧ Below w.heap.size w w' := by
  have HDD := Lib.hid hd
  clear hd
  have HNE := Lib.hid hne
  clear hne
  go_enter Try.func3, Try.ntmps3
  go_wp2_with fail
  obtain ⟨w0, hw0⟩ : ∃ w0 : World, w0 = ((w.alloc (.cells #[.string k1, .string c1, .string n1] 23)).alloc (.cells #[.string k1, .string c2, .string n2] 23)).alloc (.cells #[.int .u64 d0, .int .u64 d1] 25) := ⟨_, rfl⟩
  rw [← hw0]
  have a0' := cell_regrown (w := w0) (a := ⟨w.heap.size, 0, none⟩) (v := .string k1) (by rw [hw0]; simp [go_sem])
  have a1' := cell_regrown (w := w0) (a := ⟨w.heap.size, 1, none⟩) (v := .string c1) (by rw [hw0]; simp [go_sem])
  have a2' := cell_regrown (w := w0) (a := ⟨w.heap.size, 2, none⟩) (v := .string n1) (by rw [hw0]; simp [go_sem])
  have b0' := cell_regrown (w := w0) (a := ⟨w.heap.size + 1, 0, none⟩) (v := .string k1) (by rw [hw0]; simp [go_sem])
  have b1' := cell_regrown (w := w0) (a := ⟨w.heap.size + 1, 1, none⟩) (v := .string c2) (by rw [hw0]; simp [go_sem])
  have b2' := cell_regrown (w := w0) (a := ⟨w.heap.size + 1, 2, none⟩) (v := .string n2) (by rw [hw0]; simp [go_sem])
  have d0' := cell_regrown (w := w0) (a := ⟨w.heap.size + 2, 0, none⟩) (v := .int .u64 d0) (by rw [hw0]; simp [go_sem])
  have d1' := cell_regrown (w := w0) (a := ⟨w.heap.size + 2, 1, none⟩) (v := .int .u64 d1) (by rw [hw0]; simp [go_sem])
  have hB0 : Below w.heap.size w w0 := by rw [hw0]; exact ((((Below.refl _ _).alloc (Nat.le_refl _) _).alloc (by simp) _).alloc (by simp; omega) _)
  have HB0 := Lib.hid hB0
  clear hw0 hB0
  have hd := HDD.out
  have hne := HNE.out
  have e1 : ((bytesB k1 c1 n1).toList == (bytesB k1 c2 n2).toList) = false := ba_list_ne fun e => hne (bytes_inj e).2.1
  have e2 : (c1.toList == c2.toList) = false := ba_list_ne hne
  have hx : ((hexB d0).toList == (hexB d1).toList) = false := ba_list_ne fun e => hd (hexB_inj h0 h1 e)
  have hy : ((d0 : Int) == (d1 : Int)) = false := beq_eq_false_iff_ne.2 fun e => hd (by omega)
  have hz : ¬ ((d0 : Int) = (d1 : Int)) := fun e => hd (by omega)
  refine wp_region_quiet_below (by kernel_rfl) (by kernel_rfl) ?_
  repeat (go_big_quiet_step ((first | exact Calls.regrown_of (bytes_any _ _ _ _ (by assumption) (by assumption) (by assumption)) | exact Calls.regrown_of (digest_any _ _ _ _ (by assumption) (by assumption) (by assumption)) | exact Calls.regrown_of (hex_any _ _ (by assumption)) | exact Calls.regrown_of (live18_any _))))
  clear e1
  clear e2
  clear hx
  clear hy
  clear hz
  refine wpQuiet_nil ?_
  rintro _ ⟨⟨dq, osq⟩, rfl⟩
  go_wp2
  go_ret
  exact ⟨rfl, below_of_regrown HB0.out HB0.out.size⟩

set_option maxHeartbeats 400000 in
/-- THE WALK: unlike needs, like numbers. -/
theorem apart_need_same (k1 c1 n1 n2 : ByteArray) (d0 : Nat) (w : World) (hk1 : k1.size ≤ 140737488351232) (hc1 : c1.size ≤ 140737488351232) (hn1 : n1.size ≤ 140737488351232) (hn2 : n2.size ≤ 140737488351232) (h0 : U64 d0) (hA : k1.size + c1.size + n1.size ≤ 1000) (hB : k1.size + c1.size + n2.size ≤ 1000) (hne : ¬ n1 = n2) :
    Calls Try.prog 3 #[.agg #[.string k1, .string c1, .string n1], .agg #[.string k1, .string c1, .string n2], .agg #[.int .u64 d0, .int .u64 d0]] w
      fun e w' => e = .returned (.bool true) ∧ Below w.heap.size w w' := by
  have HNE := Lib.hid hne
  clear hne
  go_enter Try.func3, Try.ntmps3
  go_wp2_with fail
  obtain ⟨w0, hw0⟩ : ∃ w0 : World, w0 = ((w.alloc (.cells #[.string k1, .string c1, .string n1] 23)).alloc (.cells #[.string k1, .string c1, .string n2] 23)).alloc (.cells #[.int .u64 d0, .int .u64 d0] 25) := ⟨_, rfl⟩
  rw [← hw0]
  have a0' := cell_regrown (w := w0) (a := ⟨w.heap.size, 0, none⟩) (v := .string k1) (by rw [hw0]; simp [go_sem])
  have a1' := cell_regrown (w := w0) (a := ⟨w.heap.size, 1, none⟩) (v := .string c1) (by rw [hw0]; simp [go_sem])
  have a2' := cell_regrown (w := w0) (a := ⟨w.heap.size, 2, none⟩) (v := .string n1) (by rw [hw0]; simp [go_sem])
  have b0' := cell_regrown (w := w0) (a := ⟨w.heap.size + 1, 0, none⟩) (v := .string k1) (by rw [hw0]; simp [go_sem])
  have b1' := cell_regrown (w := w0) (a := ⟨w.heap.size + 1, 1, none⟩) (v := .string c1) (by rw [hw0]; simp [go_sem])
  have b2' := cell_regrown (w := w0) (a := ⟨w.heap.size + 1, 2, none⟩) (v := .string n2) (by rw [hw0]; simp [go_sem])
  have d0' := cell_regrown (w := w0) (a := ⟨w.heap.size + 2, 0, none⟩) (v := .int .u64 d0) (by rw [hw0]; simp [go_sem])
  have d1' := cell_regrown (w := w0) (a := ⟨w.heap.size + 2, 1, none⟩) (v := .int .u64 d0) (by rw [hw0]; simp [go_sem])
  have hB0 : Below w.heap.size w w0 := by rw [hw0]; exact ((((Below.refl _ _).alloc (Nat.le_refl _) _).alloc (by simp) _).alloc (by simp; omega) _)
  have HB0 := Lib.hid hB0
  clear hw0 hB0
  have hne := HNE.out
  have e1 : ((bytesB k1 c1 n1).toList == (bytesB k1 c1 n2).toList) = false := ba_list_ne fun e => hne (bytes_inj e).2.2
  have e2 : (n1.toList == n2.toList) = false := ba_list_ne hne
  refine wp_region_quiet_below (by kernel_rfl) (by kernel_rfl) ?_
  repeat (go_big_quiet_step ((first | exact Calls.regrown_of (bytes_any _ _ _ _ (by assumption) (by assumption) (by assumption)) | exact Calls.regrown_of (digest_any _ _ _ _ (by assumption) (by assumption) (by assumption)) | exact Calls.regrown_of (hex_any _ _ (by assumption)) | exact Calls.regrown_of (live18_any _))))
  clear e1
  clear e2
  refine wpQuiet_nil ?_
  rintro _ ⟨⟨dq, osq⟩, rfl⟩
  go_wp2
  go_ret
  exact ⟨rfl, below_of_regrown HB0.out HB0.out.size⟩

set_option maxHeartbeats 400000 in
/-- THE WALK: unlike needs, unlike numbers. -/
theorem apart_need_other (k1 c1 n1 n2 : ByteArray) (d0 d1 : Nat) (w : World) (hk1 : k1.size ≤ 140737488351232) (hc1 : c1.size ≤ 140737488351232) (hn1 : n1.size ≤ 140737488351232) (hn2 : n2.size ≤ 140737488351232) (h0 : U64 d0) (h1 : U64 d1) (hA : k1.size + c1.size + n1.size ≤ 1000) (hB : k1.size + c1.size + n2.size ≤ 1000) (hne : ¬ n1 = n2) (hd : ¬ d0 = d1) :
    Calls Try.prog 3 #[.agg #[.string k1, .string c1, .string n1], .agg #[.string k1, .string c1, .string n2], .agg #[.int .u64 d0, .int .u64 d1]] w
      fun e w' => e = .returned (.bool true) ∧ Below w.heap.size w w' := by
  have HDD := Lib.hid hd
  clear hd
  have HNE := Lib.hid hne
  clear hne
  go_enter Try.func3, Try.ntmps3
  go_wp2_with fail
  obtain ⟨w0, hw0⟩ : ∃ w0 : World, w0 = ((w.alloc (.cells #[.string k1, .string c1, .string n1] 23)).alloc (.cells #[.string k1, .string c1, .string n2] 23)).alloc (.cells #[.int .u64 d0, .int .u64 d1] 25) := ⟨_, rfl⟩
  rw [← hw0]
  have a0' := cell_regrown (w := w0) (a := ⟨w.heap.size, 0, none⟩) (v := .string k1) (by rw [hw0]; simp [go_sem])
  have a1' := cell_regrown (w := w0) (a := ⟨w.heap.size, 1, none⟩) (v := .string c1) (by rw [hw0]; simp [go_sem])
  have a2' := cell_regrown (w := w0) (a := ⟨w.heap.size, 2, none⟩) (v := .string n1) (by rw [hw0]; simp [go_sem])
  have b0' := cell_regrown (w := w0) (a := ⟨w.heap.size + 1, 0, none⟩) (v := .string k1) (by rw [hw0]; simp [go_sem])
  have b1' := cell_regrown (w := w0) (a := ⟨w.heap.size + 1, 1, none⟩) (v := .string c1) (by rw [hw0]; simp [go_sem])
  have b2' := cell_regrown (w := w0) (a := ⟨w.heap.size + 1, 2, none⟩) (v := .string n2) (by rw [hw0]; simp [go_sem])
  have d0' := cell_regrown (w := w0) (a := ⟨w.heap.size + 2, 0, none⟩) (v := .int .u64 d0) (by rw [hw0]; simp [go_sem])
  have d1' := cell_regrown (w := w0) (a := ⟨w.heap.size + 2, 1, none⟩) (v := .int .u64 d1) (by rw [hw0]; simp [go_sem])
  have hB0 : Below w.heap.size w w0 := by rw [hw0]; exact ((((Below.refl _ _).alloc (Nat.le_refl _) _).alloc (by simp) _).alloc (by simp; omega) _)
  have HB0 := Lib.hid hB0
  clear hw0 hB0
  have hd := HDD.out
  have hne := HNE.out
  have e1 : ((bytesB k1 c1 n1).toList == (bytesB k1 c1 n2).toList) = false := ba_list_ne fun e => hne (bytes_inj e).2.2
  have e2 : (n1.toList == n2.toList) = false := ba_list_ne hne
  have hx : ((hexB d0).toList == (hexB d1).toList) = false := ba_list_ne fun e => hd (hexB_inj h0 h1 e)
  have hy : ((d0 : Int) == (d1 : Int)) = false := beq_eq_false_iff_ne.2 fun e => hd (by omega)
  have hz : ¬ ((d0 : Int) = (d1 : Int)) := fun e => hd (by omega)
  refine wp_region_quiet_below (by kernel_rfl) (by kernel_rfl) ?_
  repeat (go_big_quiet_step ((first | exact Calls.regrown_of (bytes_any _ _ _ _ (by assumption) (by assumption) (by assumption)) | exact Calls.regrown_of (digest_any _ _ _ _ (by assumption) (by assumption) (by assumption)) | exact Calls.regrown_of (hex_any _ _ (by assumption)) | exact Calls.regrown_of (live18_any _))))
  clear e1
  clear e2
  clear hx
  clear hy
  clear hz
  refine wpQuiet_nil ?_
  rintro _ ⟨⟨dq, osq⟩, rfl⟩
  go_wp2
  go_ret
  exact ⟨rfl, below_of_regrown HB0.out HB0.out.size⟩

end Go.Proofs.Ytcojnjfpoiohoaa
