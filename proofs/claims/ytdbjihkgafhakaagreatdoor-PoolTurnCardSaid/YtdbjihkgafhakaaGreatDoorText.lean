/-
  text.Name and what it calls: a text is a name just if 'nameB' says so.
-/
import Derived.Test.YtdbjihkgafhakaaGreatDoorName
namespace Go.Proofs.YtdbjihkgafhakaaGreatDoor
open Go.RowKit

def hasN (a b c r : Nat) : Bool := decide (a ≤ r) && (decide (r ≤ b) && decide (r ≠ c))

set_option maxHeartbeats 400000 in
/-- THE WALK: (letters).has. -/
theorem has_any (a b c r : Nat) (w : World) :
    Calls Tryz.prog 148 #[.agg #[.int .i32 a, .int .i32 b, .int .i32 c], .int .i32 r] w fun e w' => e = .returned (.bool (hasN a b c r)) ∧ Below w.heap.size w w' := by
  by_cases h1 : a ≤ r
  · by_cases h2 : r ≤ b
    · by_cases h3 : r = c
      · have H := Lib.hid (show hasN a b c r = false by simp [hasN, h3])
        have h4 : ((r : Int) != (c : Int)) = false := by simp [h3]
        clear h3
        go_enter Tryz.func148, Tryz.ntmps148
        go_wp2
        go_ret
        exact ⟨ret_bool H.out.symm, (Below.refl _ _).alloc (Nat.le_refl _) _⟩
      · have H := Lib.hid (show hasN a b c r = true by simp [hasN, h1, h2, h3])
        have h4 : ((r : Int) != (c : Int)) = true := by rw [bne_iff_ne]; omega
        clear h3
        go_enter Tryz.func148, Tryz.ntmps148
        go_wp2
        go_ret
        exact ⟨ret_bool H.out.symm, (Below.refl _ _).alloc (Nat.le_refl _) _⟩
    · have H := Lib.hid (show hasN a b c r = false by simp [hasN, h2])
      go_enter Tryz.func148, Tryz.ntmps148
      go_wp2
      go_ret
      exact ⟨ret_bool H.out.symm, (Below.refl _ _).alloc (Nat.le_refl _) _⟩
  · have H := Lib.hid (show hasN a b c r = false by simp [hasN, h1])
    go_enter Tryz.func148, Tryz.ntmps148
    go_wp2
    go_ret
    exact ⟨ret_bool H.out.symm, (Below.refl _ _).alloc (Nat.le_refl _) _⟩

def aN (k : Nat) : Nat := [97, 224, 945, 1072].getD k 0
def bN (k : Nat) : Nat := [122, 254, 969, 1103].getD k 0
def cN (k : Nat) : Nat := [0, 247, 962, 0].getD k 0
def rowCells : Array Value := #[.int .i32 97, .int .i32 122, .int .i32 0, .int .i32 224, .int .i32 254, .int .i32 247, .int .i32 945, .int .i32 969, .int .i32 962, .int .i32 1072, .int .i32 1103, .int .i32 0]
theorem rowCells_at : ∀ k : Fin 4, rowCells[k.val * 3]? = some (.int .i32 (aN k.val)) ∧ rowCells[k.val * 3 + 1]? = some (.int .i32 (bN k.val)) ∧ rowCells[k.val * 3 + 2]? = some (.int .i32 (cN k.val)) := by
  intro k
  match k with
  | ⟨0, _⟩ => exact ⟨rfl, rfl, rfl⟩
  | ⟨1, _⟩ => exact ⟨rfl, rfl, rfl⟩
  | ⟨2, _⟩ => exact ⟨rfl, rfl, rfl⟩
  | ⟨3, _⟩ => exact ⟨rfl, rfl, rfl⟩
theorem smallN_has (r : Nat) : smallN r = (hasN (aN 0) (bN 0) (cN 0) r || (hasN (aN 1) (bN 1) (cN 1) r || (hasN (aN 2) (bN 2) (cN 2) r || hasN (aN 3) (bN 3) (cN 3) r))) := by
  rw [Bool.eq_iff_iff]
  simp [smallN, btw, hasN, aN, bN, cN]
  omega

set_option maxHeartbeats 400000 in
/-- THE WALK: text.rows. -/
theorem rows_any (w : World) :
    Calls Tryz.prog 147 #[] w fun e w' => e = .returned (.slice (some ⟨w.heap.size, 0, none⟩) 4 4) ∧ w.alloc (.cells rowCells 230) = w' := by
  go_enter Tryz.func147, Tryz.ntmps147
  go_wp2
  go_ret
  exact ⟨rfl, rfl⟩

theorem small_hit {r k : Nat} (hk : k < 4) (h : hasN (aN k) (bN k) (cN k) r = true) : smallN r = true := by
  rw [smallN_has]
  match k, hk with
  | 0, _ => simp [h]
  | 1, _ => simp [h]
  | 2, _ => simp [h]
  | 3, _ => simp [h]
theorem small_none {r : Nat} (h : ∀ k, k < 4 → hasN (aN k) (bN k) (cN k) r = false) : smallN r = false := by
  rw [smallN_has, h 0 (by omega), h 1 (by omega), h 2 (by omega), h 3 (by omega)]
  rfl

set_option maxHeartbeats 400000 in
/-- THE WALK: text.letter. -/
theorem letter_any (r : Nat) (w : World) :
    Calls Tryz.prog 141 #[.int .i32 r] w fun e w' => e = .returned (.bool (smallN r)) ∧ Below w.heap.size w w' := by
  go_enter Tryz.func141, Tryz.ntmps141
  go_wp2_with fail
  refine (rows_any _).mono ?_
  rintro e w1 ⟨rfl, rfl⟩
  go_wp2
  go_loopw [7] (fun i wr => ∃ k : Nat, k ≤ 4 ∧ i = .int .i64 k ∧ Below (w.heap.size + 1) (w.alloc (.cells rowCells 230)) wr ∧ ∀ j, j < k → hasN (aN j) (bN j) (cN j) r = false)
    (fun i _ => 4 - (intOf i).toNat)
  case atStart => exact ⟨0, by omega, rfl, Below.refl _ _, fun j hj => by omega⟩
  case round =>
    obtain ⟨k, hk, rfl, hb, hno⟩ := hrel
    have HN := Lib.hid hno; clear hno
    by_cases hlt : k < 4
    · obtain ⟨c0, c1, c2⟩ := rowCells_at ⟨k, hlt⟩
      have d0 : wr.cell? ⟨w.heap.size, k * 3, none⟩ = some (.int .i32 (aN k)) := by rw [hb.cell (by simp)]; exact cell_alloc_at c0
      have d1 : wr.cell? ⟨w.heap.size, k * 3 + 1, none⟩ = some (.int .i32 (bN k)) := by rw [hb.cell (by simp)]; exact cell_alloc_at c1
      have d2 : wr.cell? ⟨w.heap.size, k * 3 + 2, none⟩ = some (.int .i32 (cN k)) := by rw [hb.cell (by simp)]; exact cell_alloc_at c2
      clear c0 c1 c2
      rcases Bool.eq_false_or_eq_true (hasN (aN k) (bN k) (cN k) r) with hh | hh
      · have HR := Lib.hid (small_hit hlt hh)
        go_wp2_with fail
        refine (has_any _ _ _ _ _).mono ?_
        rintro e w2 ⟨rfl, hb2⟩
        go_wp2
        go_ret
        exact ⟨ret_bool HR.out.symm, ((Below.refl _ _).alloc (Nat.le_refl _) _).trans ((hb.mono (by omega)).trans (((Below.refl _ _).alloc (by have := hb.size; simp at this; omega) _).trans (hb2.mono (by have := hb.size; simp at this; simp; omega))))⟩
      · have HR := Lib.hid hh
        go_wp2_with fail
        refine (has_any _ _ _ _ _).mono ?_
        rintro e w2 ⟨rfl, hb2⟩
        go_wp2
        go_roundw
        case rel =>
          refine ⟨k + 1, by omega, by go_num, (hb.alloc (by have := hb.size; simp at this; omega) _).trans (hb2.mono (by have := hb.size; simp at this; simp; omega)), fun j hj => ?_⟩
          rcases Nat.lt_or_ge j k with h | h
          · exact HN.out j h
          · obtain rfl : j = k := by omega
            exact HR.out
        case measure => simp [intOf]; omega
    · go_wp2
      go_ret
      exact ⟨ret_bool (small_none (fun j hj => HN.out j (by omega))).symm, ((Below.refl _ _).alloc (Nat.le_refl _) _).trans (hb.mono (by omega))⟩

theorem kindN_small {r : Nat} (h : smallN r = true) : kindN r = 1 := by unfold kindN; rw [if_pos h]
theorem kindN_digit {r : Nat} (h : smallN r = false) (h2 : 48 ≤ r ∧ r ≤ 57) : kindN r = 2 := by unfold kindN; rw [if_neg (by simp [h]), if_pos h2]
theorem kindN_sign {r : Nat} (h : smallN r = false) (h2 : ¬ (48 ≤ r ∧ r ≤ 57)) (h3 : r = 45 ∨ r = 46) : kindN r = 3 := by unfold kindN; rw [if_neg (by simp [h]), if_neg h2, if_pos h3]
theorem kindN_great {r : Nat} (h : smallN r = false) (h2 : ¬ (48 ≤ r ∧ r ≤ 57)) (h3 : ¬ (r = 45 ∨ r = 46)) (h4 : greatN r = true) : kindN r = 4 := by unfold kindN; rw [if_neg (by simp [h]), if_neg h2, if_neg h3, if_pos h4]
theorem kindN_other {r : Nat} (h : smallN r = false) (h2 : ¬ (48 ≤ r ∧ r ≤ 57)) (h3 : ¬ (r = 45 ∨ r = 46)) (h4 : greatN r = false) : kindN r = 0 := by unfold kindN; rw [if_neg (by simp [h]), if_neg h2, if_neg h3, if_neg (by simp [h4])]

set_option maxHeartbeats 400000 in
/-- THE WALK: text.Kind. -/
theorem kind_any (r : Nat) (w : World) (hr : r < 1114112) :
    Calls Tryz.prog 135 #[.int .i32 r] w fun e w' => e = .returned (.int .i64 (kindN r : Nat)) ∧ Below w.heap.size w w' := by
  rcases Bool.eq_false_or_eq_true (smallN r) with h1 | h1
  · have H := Lib.hid (show kindN r = 1 from kindN_small h1)
    go_enter Tryz.func135, Tryz.ntmps135
    go_wp2_with (go_at_call 141; refine (letter_any _ _).mono ?_; rintro e w' ⟨rfl, hb⟩)
    go_ret
    exact ⟨ret_int (by rw [H.out]; rfl), hb⟩
  · by_cases h2 : 48 ≤ r
    · by_cases h3 : r ≤ 57
      · have H := Lib.hid (show kindN r = 2 from kindN_digit h1 ⟨h2, h3⟩)
        go_enter Tryz.func135, Tryz.ntmps135
        go_wp2_with (go_at_call 141; refine (letter_any _ _).mono ?_; rintro e w' ⟨rfl, hb⟩)
        go_ret
        exact ⟨ret_int (by rw [H.out]; rfl), hb⟩
      · by_cases h4 : 65 ≤ r
        · have h5 : ((r : Int) == 45) = false := beq_eq_false_iff_ne.2 (by omega)
          have h6 : ((r : Int) == 46) = false := beq_eq_false_iff_ne.2 (by omega)
          rcases Bool.eq_false_or_eq_true (smallN (r + 32)) with h7 | h7
          · have H := Lib.hid (show kindN r = 4 from kindN_great h1 (by omega) (by omega) (by rw [greatN_small, h7]; simp; omega))
            go_enter Tryz.func135, Tryz.ntmps135
            go_wp2_with fail
            refine (letter_any _ _).mono ?_
            rintro e w1 ⟨rfl, hb⟩
            go_wp2_with fail
            rw [show (r : Int) + 32 = ((r + 32 : Nat) : Int) from by omega]
            refine (letter_any _ _).mono ?_
            rintro e w2 ⟨rfl, hb2⟩
            go_wp2
            go_ret
            exact ⟨ret_int (by rw [H.out]; rfl), hb.trans (hb2.mono hb.size)⟩
          · have H := Lib.hid (show kindN r = 0 from kindN_other h1 (by omega) (by omega) (by rw [greatN_small, h7]; simp))
            go_enter Tryz.func135, Tryz.ntmps135
            go_wp2_with fail
            refine (letter_any _ _).mono ?_
            rintro e w1 ⟨rfl, hb⟩
            go_wp2_with fail
            rw [show (r : Int) + 32 = ((r + 32 : Nat) : Int) from by omega]
            refine (letter_any _ _).mono ?_
            rintro e w2 ⟨rfl, hb2⟩
            go_wp2
            go_ret
            exact ⟨ret_int (by rw [H.out]; rfl), hb.trans (hb2.mono hb.size)⟩
        · have h5 : ((r : Int) == 45) = false := beq_eq_false_iff_ne.2 (by omega)
          have h6 : ((r : Int) == 46) = false := beq_eq_false_iff_ne.2 (by omega)
          have H := Lib.hid (show kindN r = 0 from kindN_other h1 (by omega) (by omega) (by rw [greatN_small]; simp; omega))
          go_enter Tryz.func135, Tryz.ntmps135
          go_wp2_with (go_at_call 141; refine (letter_any _ _).mono ?_; rintro e w' ⟨rfl, hb⟩)
          go_ret
          exact ⟨ret_int (by rw [H.out]; rfl), hb⟩
    · by_cases h4 : r = 45
      · subst h4
        have H := Lib.hid (show kindN 45 = 3 from kindN_sign (r := 45) h1 (by omega) (by omega))
        go_enter Tryz.func135, Tryz.ntmps135
        go_wp2_with (go_at_call 141; refine (letter_any _ _).mono ?_; rintro e w' ⟨rfl, hb⟩)
        go_ret
        exact ⟨ret_int (by rw [H.out]; rfl), hb⟩
      · by_cases h5 : r = 46
        · subst h5
          have H := Lib.hid (show kindN 46 = 3 from kindN_sign (r := 46) h1 (by omega) (by omega))
          go_enter Tryz.func135, Tryz.ntmps135
          go_wp2_with (go_at_call 141; refine (letter_any _ _).mono ?_; rintro e w' ⟨rfl, hb⟩)
          go_ret
          exact ⟨ret_int (by rw [H.out]; rfl), hb⟩
        · have h6 : ((r : Int) == 45) = false := beq_eq_false_iff_ne.2 (by omega)
          have h7 : ((r : Int) == 46) = false := beq_eq_false_iff_ne.2 (by omega)
          have H := Lib.hid (show kindN r = 0 from kindN_other h1 (by omega) (by omega) (by rw [greatN_small]; simp; omega))
          go_enter Tryz.func135, Tryz.ntmps135
          go_wp2_with (go_at_call 141; refine (letter_any _ _).mono ?_; rintro e w' ⟨rfl, hb⟩)
          go_ret
          exact ⟨ret_int (by rw [H.out]; rfl), hb⟩

end Go.Proofs.YtdbjihkgafhakaaGreatDoor
