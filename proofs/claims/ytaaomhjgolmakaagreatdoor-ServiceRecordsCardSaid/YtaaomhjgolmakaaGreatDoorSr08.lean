/-
  Names: the runes of a text, their kinds; plain.
  text.Name and what it calls: a text is a name just if 'nameB' says so.
  text.Name: a text is a name just if 'nameB' says so; the reference's own.
  billetref03.Name: a text is a name just if 'nameB' says so.
  Configurations: how one lies in memory; what is wrong with its tenants and limits.
  conf.Check and the reference's own: what is wrong with a configuration.
-/
import Derived.Test.YtaaomhjgolmakaaGreatDoorSr01
import Derived.Lib.OthersKept
import Derived.Deep.DeepCutAuto
namespace Go.Proofs.YtaaomhjgolmakaaGreatDoor
open Go.RowKit
def runesF (s : ByteArray) : Nat → Nat → List Nat
  | 0, _ => []
  | f + 1, pos => if pos < s.size then (Utf8.decode s pos).1 :: runesF s f (pos + (Utf8.decode s pos).2) else []
def runes (s : ByteArray) : List Nat := runesF s s.size 0
theorem runesF_end (s : ByteArray) (f pos : Nat) (h : ¬ pos < s.size) : runesF s f pos = [] := by cases f <;> simp [runesF, h]
theorem runesF_more (s : ByteArray) (f pos : Nat) (h : pos < s.size) (hf : s.size ≤ pos + f) : ∃ g, f = g + 1 ∧ runesF s f pos = (Utf8.decode s pos).1 :: runesF s g (pos + (Utf8.decode s pos).2) := by
  obtain ⟨g, rfl⟩ : ∃ g, f = g + 1 := ⟨f - 1, by omega⟩
  exact ⟨g, rfl, by simp [runesF, h]⟩
def DecOk (d : Nat × Nat) : Prop := d.1 < 1114112 ∧ 1 ≤ d.2 ∧ (d.1 < 1104 → d.2 ≤ 2)
theorem decOk_ite {c : Prop} [Decidable c] {a b : Nat × Nat} (ha : c → DecOk a) (hb : DecOk b) : DecOk (if c then a else b) := by
  by_cases h : c
  · rw [if_pos h]; exact ha h
  · rw [if_neg h]; exact hb
theorem decOk_err : DecOk (Utf8.runeError, 1) := ⟨by decide, by decide, by decide⟩
theorem valid_lt {c : Nat} (h : Utf8.valid c = true) : c < 1114112 := by
  simp [Utf8.valid] at h
  omega
theorem decode_ok (s : ByteArray) (pos : Nat) : DecOk (Utf8.decode s pos) := by
  unfold Utf8.decode
  refine decOk_ite (fun h => ?_) (decOk_ite (fun _ => decOk_ite (fun _ => ?_) decOk_err) (decOk_ite (fun _ => decOk_ite (fun h => ?_) decOk_err) (decOk_ite (fun _ => decOk_ite (fun h => ?_) decOk_err) decOk_err)))
  · refine ⟨?_, by simp only []; omega, fun _ => by simp only []; omega⟩
    show (s.get! (pos + 0)).toNat < 1114112
    have := UInt8.toNat_lt (s.get! (pos + 0))
    omega
  · refine ⟨?_, by simp only []; omega, fun _ => by simp only []; omega⟩
    show (s.get! (pos + 0)).toNat % 32 * 64 + (s.get! (pos + 1)).toNat % 64 < 1114112
    omega
  · simp only [Bool.and_eq_true, decide_eq_true_eq] at h
    exact ⟨valid_lt h.2, by simp only []; omega, fun h2 => absurd h.1 (by simp only [] at h2; omega)⟩
  · simp only [Bool.and_eq_true, decide_eq_true_eq] at h
    exact ⟨valid_lt h.2, by simp only []; omega, fun h2 => absurd h.1 (by simp only [] at h2; omega)⟩
theorem decode_small (s : ByteArray) (pos : Nat) : (Utf8.decode s pos).1 < 1114112 ∧ 1 ≤ (Utf8.decode s pos).2 ∧ ((Utf8.decode s pos).1 < 1104 → (Utf8.decode s pos).2 ≤ 2) := decode_ok s pos
def btw (a r b : Nat) : Bool := decide (a ≤ r) && decide (r ≤ b)
def smallN (r : Nat) : Bool := btw 97 r 122 || (btw 224 r 254 && decide (r ≠ 247)) || (btw 945 r 969 && decide (r ≠ 962)) || btw 1072 r 1103
def greatN (r : Nat) : Bool := btw 65 r 90 || (btw 192 r 222 && decide (r ≠ 215)) || (btw 913 r 937 && decide (r ≠ 930)) || btw 1040 r 1071
theorem smallN_rows (r : Nat) : smallN r = (btw 97 r 122 || (btw 224 r 254 && decide (r ≠ 247)) || (btw 945 r 969 && decide (r ≠ 962)) || btw 1072 r 1103) := rfl
theorem greatN_rows (r : Nat) : greatN r = (btw 65 r 90 || (btw 192 r 222 && decide (r ≠ 215)) || (btw 913 r 937 && decide (r ≠ 930)) || btw 1040 r 1071) := rfl
theorem greatN_small (r : Nat) : greatN r = (decide (65 ≤ r) && smallN (r + 32)) := by
  rw [Bool.eq_iff_iff]
  simp [greatN, smallN, btw]
  omega
def kindN (r : Nat) : Nat := if smallN r then 1 else if 48 ≤ r ∧ r ≤ 57 then 2 else if r = 45 ∨ r = 46 then 3 else if greatN r then 4 else 0
def okR (r : Nat) : Bool := kindN r != 0 && kindN r != 4
def nameB (s : ByteArray) : Bool := (runes s).all okR && decide (1 ≤ (runes s).length ∧ (runes s).length ≤ 16)
theorem okR_lt {r : Nat} (h : okR r = true) : r < 1104 := by
  by_cases hr : r < 1104
  · exact hr
  · have h1 : smallN r = false := by simp [smallN, btw]; omega
    have h2 : greatN r = false := by simp [greatN, btw]; omega
    have : kindN r = 0 := by
      unfold kindN
      rw [h1, h2, if_neg (by simp), if_neg (by omega), if_neg (by omega), if_neg (by simp)]
    simp [okR, this] at h
theorem runesF_size (s : ByteArray) : ∀ f pos, s.size ≤ pos + f → (runesF s f pos).all okR = true → s.size ≤ pos + 2 * (runesF s f pos).length
  | 0, pos, h, _ => by simp [runesF]; omega
  | f + 1, pos, h, ha => by
    by_cases hp : pos < s.size
    · have hd := decode_small s pos
      simp only [runesF, hp, if_true, List.all_cons, Bool.and_eq_true, List.length_cons] at ha ⊢
      have hw := hd.2.2 (okR_lt ha.1)
      have := runesF_size s f (pos + (Utf8.decode s pos).2) (by omega) ha.2
      omega
    · simp [runesF, hp]; omega
theorem nameB_size {s : ByteArray} (h : nameB s = true) : s.size ≤ 32 := by
  simp only [nameB, Bool.and_eq_true, decide_eq_true_eq] at h
  have := runesF_size s s.size 0 (by omega) h.1
  have h2 := h.2
  unfold runes at h2
  omega
end Go.Proofs.YtaaomhjgolmakaaGreatDoor
namespace Go.Proofs.YtaaomhjgolmakaaGreatDoor
open Go.RowKit
def hasN (a b c r : Nat) : Bool := decide (a ≤ r) && (decide (r ≤ b) && decide (r ≠ c))
set_option maxHeartbeats 400000 in
theorem has_any (a b c r : Nat) (w : World) :
    Calls Tryz.prog 518 #[.agg #[.int .i32 a, .int .i32 b, .int .i32 c], .int .i32 r] w fun e w' => e = .returned (.bool (hasN a b c r)) ∧ Below w.heap.size w w' := by
  by_cases h1 : a ≤ r
  · by_cases h2 : r ≤ b
    · by_cases h3 : r = c
      · have H := Lib.hid (show hasN a b c r = false by simp [hasN, h3])
        have h4 : ((r : Int) != (c : Int)) = false := by simp [h3]
        clear h3
        go_enter Tryz.func518, Tryz.ntmps518
        go_wp2
        go_ret
        exact ⟨ret_bool H.out.symm, (Below.refl _ _).alloc (Nat.le_refl _) _⟩
      · have H := Lib.hid (show hasN a b c r = true by simp [hasN, h1, h2, h3])
        have h4 : ((r : Int) != (c : Int)) = true := by rw [bne_iff_ne]; omega
        clear h3
        go_enter Tryz.func518, Tryz.ntmps518
        go_wp2
        go_ret
        exact ⟨ret_bool H.out.symm, (Below.refl _ _).alloc (Nat.le_refl _) _⟩
    · have H := Lib.hid (show hasN a b c r = false by simp [hasN, h2])
      go_enter Tryz.func518, Tryz.ntmps518
      go_wp2
      go_ret
      exact ⟨ret_bool H.out.symm, (Below.refl _ _).alloc (Nat.le_refl _) _⟩
  · have H := Lib.hid (show hasN a b c r = false by simp [hasN, h1])
    go_enter Tryz.func518, Tryz.ntmps518
    go_wp2
    go_ret
    exact ⟨ret_bool H.out.symm, (Below.refl _ _).alloc (Nat.le_refl _) _⟩
def aN (k : Nat) : Nat := [97, 224, 945, 1072].getD k 0
def bN (k : Nat) : Nat := [122, 254, 969, 1103].getD k 0
def cN (k : Nat) : Nat := [0, 247, 962, 0].getD k 0
def rowCells : Array Value := #[.int .i32 97, .int .i32 122, .int .i32 0, .int .i32 224, .int .i32 254, .int .i32 247, .int .i32 945, .int .i32 969, .int .i32 962, .int .i32 1072, .int .i32 1103, .int .i32 0]
theorem rowCells_at : ∀ k : Fin 4, rowCells[k.val * 3]? = some (.int .i32 (aN k.val)) ∧ rowCells[k.val * 3 + 1]? = some (.int .i32 (bN k.val)) ∧ rowCells[k.val * 3 + 2]? = some (.int .i32 (cN k.val)) := by
  intro k
  match k with
  | ⟨0, _⟩ => exact ⟨rfl, rfl, rfl⟩
  | ⟨1, _⟩ => exact ⟨rfl, rfl, rfl⟩
  | ⟨2, _⟩ => exact ⟨rfl, rfl, rfl⟩
  | ⟨3, _⟩ => exact ⟨rfl, rfl, rfl⟩
theorem smallN_has (r : Nat) : smallN r = (hasN (aN 0) (bN 0) (cN 0) r || (hasN (aN 1) (bN 1) (cN 1) r || (hasN (aN 2) (bN 2) (cN 2) r || hasN (aN 3) (bN 3) (cN 3) r))) := by
  rw [Bool.eq_iff_iff]
  simp [smallN, btw, hasN, aN, bN, cN]
  omega
set_option maxHeartbeats 400000 in
theorem rows_any (w : World) :
    Calls Tryz.prog 517 #[] w fun e w' => e = .returned (.slice (some ⟨w.heap.size, 0, none⟩) 4 4) ∧ w.alloc (.cells rowCells 703) = w' := by
  go_enter Tryz.func517, Tryz.ntmps517
  go_wp2
  go_ret
  exact ⟨rfl, rfl⟩
theorem small_hit {r k : Nat} (hk : k < 4) (h : hasN (aN k) (bN k) (cN k) r = true) : smallN r = true := by
  rw [smallN_has]
  match k, hk with
  | 0, _ => simp [h]
  | 1, _ => simp [h]
  | 2, _ => simp [h]
  | 3, _ => simp [h]
theorem small_none {r : Nat} (h : ∀ k, k < 4 → hasN (aN k) (bN k) (cN k) r = false) : smallN r = false := by
  rw [smallN_has, h 0 (by omega), h 1 (by omega), h 2 (by omega), h 3 (by omega)]
  rfl
set_option maxHeartbeats 400000 in
theorem letter_any (r : Nat) (w : World) :
    Calls Tryz.prog 409 #[.int .i32 r] w fun e w' => e = .returned (.bool (smallN r)) ∧ Below w.heap.size w w' := by
  go_enter Tryz.func409, Tryz.ntmps409
  go_wp2_with fail
  refine (rows_any _).mono ?_
  rintro e w1 ⟨rfl, rfl⟩
  go_wp2
  go_loopw [7] (fun i wr => ∃ k : Nat, k ≤ 4 ∧ i = .int .i64 k ∧ Below (w.heap.size + 1) (w.alloc (.cells rowCells 703)) wr ∧ ∀ j, j < k → hasN (aN j) (bN j) (cN j) r = false)
    (fun i _ => 4 - (intOf i).toNat)
  case atStart => exact ⟨0, by omega, rfl, Below.refl _ _, fun j hj => by omega⟩
  case round =>
    obtain ⟨k, hk, rfl, hb, hno⟩ := hrel
    have HN := Lib.hid hno; clear hno
    by_cases hlt : k < 4
    · obtain ⟨c0, c1, c2⟩ := rowCells_at ⟨k, hlt⟩
      have d0 : wr.cell? ⟨w.heap.size, k * 3, none⟩ = some (.int .i32 (aN k)) := by rw [hb.cell (by simp)]; exact cell_alloc_at c0
      have d1 : wr.cell? ⟨w.heap.size, k * 3 + 1, none⟩ = some (.int .i32 (bN k)) := by rw [hb.cell (by simp)]; exact cell_alloc_at c1
      have d2 : wr.cell? ⟨w.heap.size, k * 3 + 2, none⟩ = some (.int .i32 (cN k)) := by rw [hb.cell (by simp)]; exact cell_alloc_at c2
      clear c0 c1 c2
      rcases Bool.eq_false_or_eq_true (hasN (aN k) (bN k) (cN k) r) with hh | hh
      · have HR := Lib.hid (small_hit hlt hh)
        go_wp2_with fail
        refine (has_any _ _ _ _ _).mono ?_
        rintro e w2 ⟨rfl, hb2⟩
        go_wp2
        go_ret
        exact ⟨ret_bool HR.out.symm, ((Below.refl _ _).alloc (Nat.le_refl _) _).trans ((hb.mono (by omega)).trans (((Below.refl _ _).alloc (by have := hb.size; simp at this; omega) _).trans (hb2.mono (by have := hb.size; simp at this; simp; omega))))⟩
      · have HR := Lib.hid hh
        go_wp2_with fail
        refine (has_any _ _ _ _ _).mono ?_
        rintro e w2 ⟨rfl, hb2⟩
        go_wp2
        go_roundw
        case rel =>
          refine ⟨k + 1, by omega, by go_num, (hb.alloc (by have := hb.size; simp at this; omega) _).trans (hb2.mono (by have := hb.size; simp at this; simp; omega)), fun j hj => ?_⟩
          rcases Nat.lt_or_ge j k with h | h
          · exact HN.out j h
          · obtain rfl : j = k := by omega
            exact HR.out
        case measure => simp [intOf]; omega
    · go_wp2
      go_ret
      exact ⟨ret_bool (small_none (fun j hj => HN.out j (by omega))).symm, ((Below.refl _ _).alloc (Nat.le_refl _) _).trans (hb.mono (by omega))⟩
theorem kindN_small {r : Nat} (h : smallN r = true) : kindN r = 1 := by unfold kindN; rw [if_pos h]
theorem kindN_digit {r : Nat} (h : smallN r = false) (h2 : 48 ≤ r ∧ r ≤ 57) : kindN r = 2 := by unfold kindN; rw [if_neg (by simp [h]), if_pos h2]
theorem kindN_sign {r : Nat} (h : smallN r = false) (h2 : ¬ (48 ≤ r ∧ r ≤ 57)) (h3 : r = 45 ∨ r = 46) : kindN r = 3 := by unfold kindN; rw [if_neg (by simp [h]), if_neg h2, if_pos h3]
theorem kindN_great {r : Nat} (h : smallN r = false) (h2 : ¬ (48 ≤ r ∧ r ≤ 57)) (h3 : ¬ (r = 45 ∨ r = 46)) (h4 : greatN r = true) : kindN r = 4 := by unfold kindN; rw [if_neg (by simp [h]), if_neg h2, if_neg h3, if_pos h4]
theorem kindN_other {r : Nat} (h : smallN r = false) (h2 : ¬ (48 ≤ r ∧ r ≤ 57)) (h3 : ¬ (r = 45 ∨ r = 46)) (h4 : greatN r = false) : kindN r = 0 := by unfold kindN; rw [if_neg (by simp [h]), if_neg h2, if_neg h3, if_neg (by simp [h4])]
set_option maxHeartbeats 400000 in
theorem kind_any (r : Nat) (w : World) (hr : r < 1114112) :
    Calls Tryz.prog 259 #[.int .i32 r] w fun e w' => e = .returned (.int .i64 (kindN r : Nat)) ∧ Below w.heap.size w w' := by
  rcases Bool.eq_false_or_eq_true (smallN r) with h1 | h1
  · have H := Lib.hid (show kindN r = 1 from kindN_small h1)
    go_enter Tryz.func259, Tryz.ntmps259
    go_wp2_with (go_at_call 409; refine (letter_any _ _).mono ?_; rintro e w' ⟨rfl, hb⟩)
    go_ret
    exact ⟨ret_int (by rw [H.out]; rfl), hb⟩
  · by_cases h2 : 48 ≤ r
    · by_cases h3 : r ≤ 57
      · have H := Lib.hid (show kindN r = 2 from kindN_digit h1 ⟨h2, h3⟩)
        go_enter Tryz.func259, Tryz.ntmps259
        go_wp2_with (go_at_call 409; refine (letter_any _ _).mono ?_; rintro e w' ⟨rfl, hb⟩)
        go_ret
        exact ⟨ret_int (by rw [H.out]; rfl), hb⟩
      · by_cases h4 : 65 ≤ r
        · have h5 : ((r : Int) == 45) = false := beq_eq_false_iff_ne.2 (by omega)
          have h6 : ((r : Int) == 46) = false := beq_eq_false_iff_ne.2 (by omega)
          rcases Bool.eq_false_or_eq_true (smallN (r + 32)) with h7 | h7
          · have H := Lib.hid (show kindN r = 4 from kindN_great h1 (by omega) (by omega) (by rw [greatN_small, h7]; simp; omega))
            go_enter Tryz.func259, Tryz.ntmps259
            go_wp2_with fail
            refine (letter_any _ _).mono ?_
            rintro e w1 ⟨rfl, hb⟩
            go_wp2_with fail
            rw [show (r : Int) + 32 = ((r + 32 : Nat) : Int) from by omega]
            refine (letter_any _ _).mono ?_
            rintro e w2 ⟨rfl, hb2⟩
            go_wp2
            go_ret
            exact ⟨ret_int (by rw [H.out]; rfl), hb.trans (hb2.mono hb.size)⟩
          · have H := Lib.hid (show kindN r = 0 from kindN_other h1 (by omega) (by omega) (by rw [greatN_small, h7]; simp))
            go_enter Tryz.func259, Tryz.ntmps259
            go_wp2_with fail
            refine (letter_any _ _).mono ?_
            rintro e w1 ⟨rfl, hb⟩
            go_wp2_with fail
            rw [show (r : Int) + 32 = ((r + 32 : Nat) : Int) from by omega]
            refine (letter_any _ _).mono ?_
            rintro e w2 ⟨rfl, hb2⟩
            go_wp2
            go_ret
            exact ⟨ret_int (by rw [H.out]; rfl), hb.trans (hb2.mono hb.size)⟩
        · have h5 : ((r : Int) == 45) = false := beq_eq_false_iff_ne.2 (by omega)
          have h6 : ((r : Int) == 46) = false := beq_eq_false_iff_ne.2 (by omega)
          have H := Lib.hid (show kindN r = 0 from kindN_other h1 (by omega) (by omega) (by rw [greatN_small]; simp; omega))
          go_enter Tryz.func259, Tryz.ntmps259
          go_wp2_with (go_at_call 409; refine (letter_any _ _).mono ?_; rintro e w' ⟨rfl, hb⟩)
          go_ret
          exact ⟨ret_int (by rw [H.out]; rfl), hb⟩
    · by_cases h4 : r = 45
      · subst h4
        have H := Lib.hid (show kindN 45 = 3 from kindN_sign (r := 45) h1 (by omega) (by omega))
        go_enter Tryz.func259, Tryz.ntmps259
        go_wp2_with (go_at_call 409; refine (letter_any _ _).mono ?_; rintro e w' ⟨rfl, hb⟩)
        go_ret
        exact ⟨ret_int (by rw [H.out]; rfl), hb⟩
      · by_cases h5 : r = 46
        · subst h5
          have H := Lib.hid (show kindN 46 = 3 from kindN_sign (r := 46) h1 (by omega) (by omega))
          go_enter Tryz.func259, Tryz.ntmps259
          go_wp2_with (go_at_call 409; refine (letter_any _ _).mono ?_; rintro e w' ⟨rfl, hb⟩)
          go_ret
          exact ⟨ret_int (by rw [H.out]; rfl), hb⟩
        · have h6 : ((r : Int) == 45) = false := beq_eq_false_iff_ne.2 (by omega)
          have h7 : ((r : Int) == 46) = false := beq_eq_false_iff_ne.2 (by omega)
          have H := Lib.hid (show kindN r = 0 from kindN_other h1 (by omega) (by omega) (by rw [greatN_small]; simp; omega))
          go_enter Tryz.func259, Tryz.ntmps259
          go_wp2_with (go_at_call 409; refine (letter_any _ _).mono ?_; rintro e w' ⟨rfl, hb⟩)
          go_ret
          exact ⟨ret_int (by rw [H.out]; rfl), hb⟩
end Go.Proofs.YtaaomhjgolmakaaGreatDoor
namespace Go.Proofs.YtaaomhjgolmakaaGreatDoor
open Go.RowKit
theorem decode_width (s : ByteArray) (pos : Nat) : (Utf8.decode s pos).2 ≤ 4 := by
  unfold Utf8.decode
  have key : ∀ {c : Prop} [Decidable c] {a b : Nat × Nat}, a.2 ≤ 4 → b.2 ≤ 4 → (if c then a else b).2 ≤ 4 := by
    intro c _ a b ha hb
    split
    · exact ha
    · exact hb
  refine key ?_ (key (key ?_ ?_) (key (key ?_ ?_) (key (key ?_ ?_) ?_))) <;> simp only [] <;> omega
theorem all_append_bad {l r : List Nat} {x : Nat} (h : okR x = false) : (l ++ x :: r).all okR = false := by simp [h]
theorem nameB_bad {s : ByteArray} {l r : List Nat} {x : Nat} (h : l ++ x :: r = runes s) (hx : okR x = false) : nameB s = false := by
  unfold nameB
  rw [← h, all_append_bad hx]
  rfl
theorem nameB_all {s : ByteArray} {l : List Nat} (h : l = runes s) (hl : l.all okR = true) : nameB s = decide (1 ≤ l.length ∧ l.length ≤ 16) := by
  unfold nameB
  rw [← h, hl]
  rfl
set_option maxHeartbeats 1000000 in
theorem name_any (s : ByteArray) (w : World) (hs : s.size ≤ 140737488351232) :
    Calls Tryz.prog 139 #[.string s] w fun e w' => e = .returned (.bool (nameB s)) ∧ Below w.heap.size w w' := by
  go_enter Tryz.func139, Tryz.ntmps139
  go_wp2
  go_loopw [3] (fun n wr => ∃ (pos f : Nat) (l : List Nat), n = .int .i64 (l.length : Nat) ∧ l ++ runesF s f pos = runes s ∧ l.all okR = true ∧ s.size ≤ pos + f ∧ l.length ≤ pos ∧ pos ≤ s.size + 4 ∧ wr.heap[w.heap.size]? = some (.stringIter s pos) ∧ Below w.heap.size w wr)
    (fun _ wr => s.size - wr.iterPos w.heap.size)
  case atStart =>
    exact ⟨0, s.size, [], rfl, rfl, rfl, by omega, by simp, by omega, World.iter_heap _ _ _, (Below.refl _ _).alloc (Nat.le_refl _) _⟩
  case round =>
    obtain ⟨pos, f, l, rfl, hl, hok, hf, hlp, hp4, hit, hb⟩ := hrel
    have HL := Lib.hid hl; clear hl
    have HK := Lib.hid hok; clear hok
    by_cases hp : pos < s.size
    · have hnx := fun ty => Lib.run_next_any_at (P := Tryz.prog) wr w.heap.size s pos ty hit hp
      obtain ⟨g, rfl, hg⟩ := runesF_more s f pos hp hf
      have HG := Lib.hid hg; clear hg
      obtain ⟨hd1, hd2, _⟩ := decode_small s pos
      have hb1 : Below w.heap.size w (wr.iterAt w.heap.size s (pos + (Utf8.decode s pos).2)) := Lib.below_iterAt hb (Nat.le_refl _) _ _
      have hit1 : (wr.iterAt w.heap.size s (pos + (Utf8.decode s pos).2)).heap[w.heap.size]? = some (.stringIter s (pos + (Utf8.decode s pos).2)) := Lib.iterAt_heap _ _ _ _ _ hit
      have hsz : w.heap.size < (wr.iterAt w.heap.size s (pos + (Utf8.decode s pos).2)).heap.size := by
        rw [Lib.iterAt_size]
        exact (Array.getElem?_eq_some_iff.1 hit).1
      have HB1 := Lib.hid hb1; clear hb1
      have HI1 := Lib.hid hit1; clear hit1
      have hdw : (Utf8.decode s pos).2 ≤ 4 := decode_width s pos
      go_wp2_with fail
      refine (kind_any _ _ hd1).mono ?_
      rintro e w2 ⟨rfl, hb2⟩
      have hit2 := hb2.block w.heap.size hsz
      rw [HI1.out] at hit2
      by_cases h0 : kindN (Utf8.decode s pos).1 = 0
      · have HF := Lib.hid (nameB_bad (s := s) (l := l) (x := (Utf8.decode s pos).1) (r := runesF s g (pos + (Utf8.decode s pos).2)) (by rw [← HG.out, HL.out]) (by simp [okR, h0]))
        rw [h0]
        clear h0 hnx hit2
        go_wp2
        go_ret
        exact ⟨ret_bool HF.out.symm, HB1.out.trans (hb2.mono (by omega))⟩
      · by_cases h4 : kindN (Utf8.decode s pos).1 = 4
        · have HF := Lib.hid (nameB_bad (s := s) (l := l) (x := (Utf8.decode s pos).1) (r := runesF s g (pos + (Utf8.decode s pos).2)) (by rw [← HG.out, HL.out]) (by simp [okR, h4]))
          rw [h4]
          clear h0 h4 hnx hit2
          go_wp2
          go_ret
          exact ⟨ret_bool HF.out.symm, HB1.out.trans (hb2.mono (by omega))⟩
        · have HF := Lib.hid (show okR (Utf8.decode s pos).1 = true by simp [okR, h0, h4])
          generalize hk : kindN (Utf8.decode s pos).1 = K at *
          clear hk hnx
          have e0 : ((K : Int) == 0) = false := beq_eq_false_iff_ne.2 (by omega)
          have e4 : ((K : Int) == 4) = false := beq_eq_false_iff_ne.2 (by omega)
          have HI2 := Lib.hid hit2
          clear hit2
          go_wp2
          go_roundw
          case rel =>
            exact ⟨pos + (Utf8.decode s pos).2, g, l ++ [(Utf8.decode s pos).1], by simp, by rw [List.append_assoc, List.singleton_append, ← HG.out, HL.out], by simp [HK.out, HF.out], by omega, by simp; omega, by omega, HI2.out, HB1.out.trans (hb2.mono (by omega))⟩
          case measure =>
            rw [iterPos_of HI2.out, iterPos_of hit]
            omega
    · have hnx := fun ty => Lib.run_next_end_at (P := Tryz.prog) wr w.heap.size s pos ty hit hp
      have HE := Lib.hid (nameB_all (s := s) (l := l) (by rw [← HL.out, runesF_end s f pos hp, List.append_nil]) HK.out)
      by_cases h1 : 1 ≤ l.length
      · go_wp2_with fail
        go_ret
        refine ⟨ret_bool ?_, hb⟩
        rw [HE.out, Bool.eq_iff_iff]
        simp only [decide_eq_true_eq]
        omega
      · have H1 := Lib.hid h1
        go_wp2_with fail
        go_ret
        refine ⟨ret_bool ?_, hb⟩
        rw [HE.out]
        exact (decide_eq_false fun h => H1.out h.1).symm
/-! ### The reference's own -/
set_option maxHeartbeats 400000 in
theorem between_any (r a b : Nat) (w : World) :
    Calls Tryz.prog 462 #[.int .i32 r, .int .i32 a, .int .i32 b] w fun e w' => e = .returned (.bool (btw a r b)) ∧ w = w' := by
  by_cases h1 : a ≤ r
  · by_cases h2 : r ≤ b
    · have H := Lib.hid (show btw a r b = true by simp [btw, h1, h2])
      go_enter Tryz.func462, Tryz.ntmps462
      go_wp2
      go_ret
      exact ⟨ret_bool H.out.symm, rfl⟩
    · have H := Lib.hid (show btw a r b = false by simp [btw, h2])
      go_enter Tryz.func462, Tryz.ntmps462
      go_wp2
      go_ret
      exact ⟨ret_bool H.out.symm, rfl⟩
  · have H := Lib.hid (show btw a r b = false by simp [btw, h1])
    go_enter Tryz.func462, Tryz.ntmps462
    go_wp2
    go_ret
    exact ⟨ret_bool H.out.symm, rfl⟩
set_option maxHeartbeats 400000 in
theorem rsmall_any (r : Nat) (w : World) (hr : r < 1114112) :
    Calls Tryz.prog 461 #[.int .i32 r] w fun e w' => e = .returned (.bool (smallN r)) ∧ w = w' := by
  rcases Bool.eq_false_or_eq_true (btw 97 r 122) with b0 | b0
  · have H := Lib.hid (show smallN r = true from by simp only [smallN_rows, b0]; rfl)
    go_enter Tryz.func461, Tryz.ntmps461
    go_wp2_with (go_at_call 462; refine (between_any _ _ _ _).mono ?_; rintro e w' ⟨rfl, rfl⟩)
    go_ret
    exact ⟨ret_bool H.out.symm, rfl⟩
  · rcases Bool.eq_false_or_eq_true (btw 224 r 254) with b1 | b1
    · rcases Bool.eq_false_or_eq_true (decide (r ≠ 247)) with n1 | n1
      · have m1 : ((r : Int) != (247 : Int)) = true := by have := of_decide_eq_true n1; rw [bne_iff_ne]; omega
        have H := Lib.hid (show smallN r = true from by simp only [smallN_rows, b0, b1, n1]; rfl)
        go_enter Tryz.func461, Tryz.ntmps461
        go_wp2_with (go_at_call 462; refine (between_any _ _ _ _).mono ?_; rintro e w' ⟨rfl, rfl⟩)
        go_ret
        exact ⟨ret_bool H.out.symm, rfl⟩
      · have m1 : ((r : Int) != (247 : Int)) = false := by have := of_decide_eq_false n1; simp at this; simp [this]
        have b2 : btw 945 r 969 = false := by have := of_decide_eq_false n1; simp at this; subst this; decide
        have b3 : btw 1072 r 1103 = false := by have := of_decide_eq_false n1; simp at this; subst this; decide
        have H := Lib.hid (show smallN r = false from by simp only [smallN_rows, b0, b1, n1, b2, b3]; rfl)
        go_enter Tryz.func461, Tryz.ntmps461
        go_wp2_with (go_at_call 462; refine (between_any _ _ _ _).mono ?_; rintro e w' ⟨rfl, rfl⟩)
        go_ret
        exact ⟨ret_bool H.out.symm, rfl⟩
    · rcases Bool.eq_false_or_eq_true (btw 945 r 969) with b2 | b2
      · rcases Bool.eq_false_or_eq_true (decide (r ≠ 962)) with n2 | n2
        · have m2 : ((r : Int) != (962 : Int)) = true := by have := of_decide_eq_true n2; rw [bne_iff_ne]; omega
          have H := Lib.hid (show smallN r = true from by simp only [smallN_rows, b0, b1, b2, n2]; rfl)
          go_enter Tryz.func461, Tryz.ntmps461
          go_wp2_with (go_at_call 462; refine (between_any _ _ _ _).mono ?_; rintro e w' ⟨rfl, rfl⟩)
          go_ret
          exact ⟨ret_bool H.out.symm, rfl⟩
        · have m2 : ((r : Int) != (962 : Int)) = false := by have := of_decide_eq_false n2; simp at this; simp [this]
          have b3 : btw 1072 r 1103 = false := by have := of_decide_eq_false n2; simp at this; subst this; decide
          have H := Lib.hid (show smallN r = false from by simp only [smallN_rows, b0, b1, b2, n2, b3]; rfl)
          go_enter Tryz.func461, Tryz.ntmps461
          go_wp2_with (go_at_call 462; refine (between_any _ _ _ _).mono ?_; rintro e w' ⟨rfl, rfl⟩)
          go_ret
          exact ⟨ret_bool H.out.symm, rfl⟩
      · rcases Bool.eq_false_or_eq_true (btw 1072 r 1103) with b3 | b3
        · have H := Lib.hid (show smallN r = true from by simp only [smallN_rows, b0, b1, b2, b3]; rfl)
          go_enter Tryz.func461, Tryz.ntmps461
          go_wp2_with (go_at_call 462; refine (between_any _ _ _ _).mono ?_; rintro e w' ⟨rfl, rfl⟩)
          go_ret
          exact ⟨ret_bool H.out.symm, rfl⟩
        · have H := Lib.hid (show smallN r = false from by simp only [smallN_rows, b0, b1, b2, b3]; rfl)
          go_enter Tryz.func461, Tryz.ntmps461
          go_wp2_with (go_at_call 462; refine (between_any _ _ _ _).mono ?_; rintro e w' ⟨rfl, rfl⟩)
          go_ret
          exact ⟨ret_bool H.out.symm, rfl⟩
set_option maxHeartbeats 400000 in
theorem rgreat_any (r : Nat) (w : World) (hr : r < 1114112) :
    Calls Tryz.prog 463 #[.int .i32 r] w fun e w' => e = .returned (.bool (greatN r)) ∧ w = w' := by
  rcases Bool.eq_false_or_eq_true (btw 65 r 90) with b0 | b0
  · have H := Lib.hid (show greatN r = true from by simp only [greatN_rows, b0]; rfl)
    go_enter Tryz.func463, Tryz.ntmps463
    go_wp2_with (go_at_call 462; refine (between_any _ _ _ _).mono ?_; rintro e w' ⟨rfl, rfl⟩)
    go_ret
    exact ⟨ret_bool H.out.symm, rfl⟩
  · rcases Bool.eq_false_or_eq_true (btw 192 r 222) with b1 | b1
    · rcases Bool.eq_false_or_eq_true (decide (r ≠ 215)) with n1 | n1
      · have m1 : ((r : Int) != (215 : Int)) = true := by have := of_decide_eq_true n1; rw [bne_iff_ne]; omega
        have H := Lib.hid (show greatN r = true from by simp only [greatN_rows, b0, b1, n1]; rfl)
        go_enter Tryz.func463, Tryz.ntmps463
        go_wp2_with (go_at_call 462; refine (between_any _ _ _ _).mono ?_; rintro e w' ⟨rfl, rfl⟩)
        go_ret
        exact ⟨ret_bool H.out.symm, rfl⟩
      · have m1 : ((r : Int) != (215 : Int)) = false := by have := of_decide_eq_false n1; simp at this; simp [this]
        have b2 : btw 913 r 937 = false := by have := of_decide_eq_false n1; simp at this; subst this; decide
        have b3 : btw 1040 r 1071 = false := by have := of_decide_eq_false n1; simp at this; subst this; decide
        have H := Lib.hid (show greatN r = false from by simp only [greatN_rows, b0, b1, n1, b2, b3]; rfl)
        go_enter Tryz.func463, Tryz.ntmps463
        go_wp2_with (go_at_call 462; refine (between_any _ _ _ _).mono ?_; rintro e w' ⟨rfl, rfl⟩)
        go_ret
        exact ⟨ret_bool H.out.symm, rfl⟩
    · rcases Bool.eq_false_or_eq_true (btw 913 r 937) with b2 | b2
      · rcases Bool.eq_false_or_eq_true (decide (r ≠ 930)) with n2 | n2
        · have m2 : ((r : Int) != (930 : Int)) = true := by have := of_decide_eq_true n2; rw [bne_iff_ne]; omega
          have H := Lib.hid (show greatN r = true from by simp only [greatN_rows, b0, b1, b2, n2]; rfl)
          go_enter Tryz.func463, Tryz.ntmps463
          go_wp2_with (go_at_call 462; refine (between_any _ _ _ _).mono ?_; rintro e w' ⟨rfl, rfl⟩)
          go_ret
          exact ⟨ret_bool H.out.symm, rfl⟩
        · have m2 : ((r : Int) != (930 : Int)) = false := by have := of_decide_eq_false n2; simp at this; simp [this]
          have b3 : btw 1040 r 1071 = false := by have := of_decide_eq_false n2; simp at this; subst this; decide
          have H := Lib.hid (show greatN r = false from by simp only [greatN_rows, b0, b1, b2, n2, b3]; rfl)
          go_enter Tryz.func463, Tryz.ntmps463
          go_wp2_with (go_at_call 462; refine (between_any _ _ _ _).mono ?_; rintro e w' ⟨rfl, rfl⟩)
          go_ret
          exact ⟨ret_bool H.out.symm, rfl⟩
      · rcases Bool.eq_false_or_eq_true (btw 1040 r 1071) with b3 | b3
        · have H := Lib.hid (show greatN r = true from by simp only [greatN_rows, b0, b1, b2, b3]; rfl)
          go_enter Tryz.func463, Tryz.ntmps463
          go_wp2_with (go_at_call 462; refine (between_any _ _ _ _).mono ?_; rintro e w' ⟨rfl, rfl⟩)
          go_ret
          exact ⟨ret_bool H.out.symm, rfl⟩
        · have H := Lib.hid (show greatN r = false from by simp only [greatN_rows, b0, b1, b2, b3]; rfl)
          go_enter Tryz.func463, Tryz.ntmps463
          go_wp2_with (go_at_call 462; refine (between_any _ _ _ _).mono ?_; rintro e w' ⟨rfl, rfl⟩)
          go_ret
          exact ⟨ret_bool H.out.symm, rfl⟩
end Go.Proofs.YtaaomhjgolmakaaGreatDoor
namespace Go.Proofs.YtaaomhjgolmakaaGreatDoor
open Go.RowKit
theorem info_i32 : (Tryz.prog.info? 21).map (fun i => (i.zero, i.size, i.bytes)) = some (some (.int .i32 0), 1, 4) := by kernel_rfl
set_option maxHeartbeats 400000 in
theorem rkind_any (r : Nat) (w : World) (hr : r < 1114112) :
    Calls Tryz.prog 324 #[.int .i32 r] w fun e w' => e = .returned (.int .i64 (kindN r : Nat)) ∧ w = w' := by
  rcases Bool.eq_false_or_eq_true (smallN r) with h1 | h1
  · have H := Lib.hid (show kindN r = 1 from kindN_small h1)
    go_enter Tryz.func324, Tryz.ntmps324
    go_wp2_with (go_at_call 461; refine (rsmall_any _ _ hr).mono ?_; rintro e w' ⟨rfl, rfl⟩)
    go_ret
    exact ⟨ret_int (by rw [H.out]; rfl), rfl⟩
  · rcases Bool.eq_false_or_eq_true (btw 48 r 57) with h2 | h2
    · have h2' : 48 ≤ r ∧ r ≤ 57 := by simpa [btw] using h2
      have H := Lib.hid (show kindN r = 2 from kindN_digit h1 h2')
      clear h2'
      go_enter Tryz.func324, Tryz.ntmps324
      go_wp2_with (first | (go_at_call 461; refine (rsmall_any _ _ hr).mono ?_; rintro e w' ⟨rfl, rfl⟩) | (go_at_call 462; refine (between_any _ _ _ _).mono ?_; rintro e w' ⟨rfl, rfl⟩))
      go_ret
      exact ⟨ret_int (by rw [H.out]; rfl), rfl⟩
    · have h2' : ¬ (48 ≤ r ∧ r ≤ 57) := by simpa [btw] using h2
      by_cases h3 : r = 45 ∨ r = 46
      · have H := Lib.hid (show kindN r = 3 from kindN_sign h1 h2' h3)
        clear h2'
        rcases h3 with rfl | rfl
        · go_enter Tryz.func324, Tryz.ntmps324
          go_wp2_with (first | (go_at_call 461; refine (rsmall_any 45 _ hr).mono ?_; rintro e w' ⟨rfl, rfl⟩) | (go_at_call 462; refine (between_any 45 48 57 _).mono ?_; rintro e w' ⟨rfl, rfl⟩))
          go_ret
          exact ⟨ret_int (by rw [H.out]; rfl), rfl⟩
        · go_enter Tryz.func324, Tryz.ntmps324
          go_wp2_with (first | (go_at_call 461; refine (rsmall_any 46 _ hr).mono ?_; rintro e w' ⟨rfl, rfl⟩) | (go_at_call 462; refine (between_any 46 48 57 _).mono ?_; rintro e w' ⟨rfl, rfl⟩))
          go_ret
          exact ⟨ret_int (by rw [H.out]; rfl), rfl⟩
      · have e5 : ((r : Int) == 45) = false := beq_eq_false_iff_ne.2 (by omega)
        have e6 : ((r : Int) == 46) = false := beq_eq_false_iff_ne.2 (by omega)
        rcases Bool.eq_false_or_eq_true (greatN r) with h4 | h4
        · have H := Lib.hid (show kindN r = 4 from kindN_great h1 h2' h3 h4)
          clear h2' h3
          go_enter Tryz.func324, Tryz.ntmps324
          go_wp2_with (first | (go_at_call 461; refine (rsmall_any _ _ hr).mono ?_; rintro e w' ⟨rfl, rfl⟩) | (go_at_call 462; refine (between_any _ _ _ _).mono ?_; rintro e w' ⟨rfl, rfl⟩) | (go_at_call 463; refine (rgreat_any _ _ hr).mono ?_; rintro e w' ⟨rfl, rfl⟩))
          go_ret
          exact ⟨ret_int (by rw [H.out]; rfl), rfl⟩
        · have H := Lib.hid (show kindN r = 0 from kindN_other h1 h2' h3 h4)
          clear h2' h3
          go_enter Tryz.func324, Tryz.ntmps324
          go_wp2_with (first | (go_at_call 461; refine (rsmall_any _ _ hr).mono ?_; rintro e w' ⟨rfl, rfl⟩) | (go_at_call 462; refine (between_any _ _ _ _).mono ?_; rintro e w' ⟨rfl, rfl⟩) | (go_at_call 463; refine (rgreat_any _ _ hr).mono ?_; rintro e w' ⟨rfl, rfl⟩))
          go_ret
          exact ⟨ret_int (by rw [H.out]; rfl), rfl⟩
theorem kindN_le (r : Nat) : kindN r ≤ 4 := by
  unfold kindN
  (repeat' split) <;> omega
def rv (r : Nat) : Value := .int .i32 (r : Int)
set_option maxHeartbeats 1000000 in
theorem rrunes_any (s : ByteArray) (w : World) (hs : s.size ≤ 1000) :
    Calls Tryz.prog 323 #[.string s] w fun e w' => ∃ v, e = .returned v ∧ w'.ownsRow w.heap.size 21 1 v (runes s).length ((runes s).map rv) ∧ Below w.heap.size w w' := by
  go_enter Tryz.func323, Tryz.ntmps323
  go_wp2
  go_loopw [3] (fun v wr => ∃ (pos f : Nat) (l : List Nat), l ++ runesF s f pos = runes s ∧ s.size ≤ pos + f ∧ l.length ≤ pos ∧ pos ≤ s.size + 4 ∧ wr.ownsRow w.heap.size 21 1 v l.length (l.map rv) ∧ wr.heap[w.heap.size + 1]? = some (.stringIter s pos) ∧ Below w.heap.size w wr)
    (fun _ wr => s.size - wr.iterPos (w.heap.size + 1))
  case atStart =>
    refine ⟨0, s.size, [], rfl, by omega, by simp, by omega, ?_, ?_, ((Below.refl _ _).alloc (Nat.le_refl _) _).alloc (by simp) _⟩
    · exact (World.ownsRow_made w #[] 0 (Nat.le_refl _) (by decide) rfl).alloc _
    · have := World.iter_heap (w.alloc (.cells #[] 21)) s 0
      simpa using this
  case round =>
    obtain ⟨pos, f, l, hl, hf, hlp, hp4, how, hit, hb⟩ := hrel
    have HL := Lib.hid hl; clear hl
    have HO := Lib.hid how; clear how
    by_cases hp : pos < s.size
    · have hnx := fun ty => Lib.run_next_any_at (P := Tryz.prog) wr (w.heap.size + 1) s pos ty hit hp
      obtain ⟨g, rfl, hg⟩ := runesF_more s f pos hp hf
      have HG := Lib.hid hg; clear hg
      obtain ⟨hd1, hd2, _⟩ := decode_small s pos
      have hdw : (Utf8.decode s pos).2 ≤ 4 := decode_width s pos
      have hb1 : Below w.heap.size w (wr.iterAt (w.heap.size + 1) s (pos + (Utf8.decode s pos).2)) := Lib.below_iterAt hb (by omega) _ _
      have hit1 : (wr.iterAt (w.heap.size + 1) s (pos + (Utf8.decode s pos).2)).heap[w.heap.size + 1]? = some (.stringIter s (pos + (Utf8.decode s pos).2)) := Lib.iterAt_heap _ _ _ _ _ hit
      have HB1 := Lib.hid hb1; clear hb1
      have HI1 := Lib.hid hit1; clear hit1
      have HO1 := Lib.hid (own_iterAt HO.out hit (pos + (Utf8.decode s pos).2))
      go_wp2_with (at_builtin; go_must (refine wpList_append_one rfl _ _ 494 rfl w.heap.size (.int .i32 0) 4 Tryz.underlying494 info_i32 rfl _ _ _ rfl HO1.out rfl rfl HB1.out.size (by omega) (by omega) ?_); intro v' w1 how1 hg _)
      have HO2 := Lib.hid how1; clear how1
      have HB2 := Lib.hid (HB1.out.grown hg HB1.out.size (fun k hk => (HO1.out.lt k hk).1))
      have HI2 := Lib.hid ((hg.block (w.heap.size + 1) (Array.getElem?_eq_some_iff.1 HI1.out).1 (own_ne_iter HO1.out HI1.out)).trans HI1.out)
      clear hg hnx
      go_wp2
      go_roundw
      case rel =>
        refine ⟨pos + (Utf8.decode s pos).2, g, l ++ [(Utf8.decode s pos).1], by rw [List.append_assoc, List.singleton_append, ← HG.out, HL.out], by omega, by simp; omega, by omega, ?_, HI2.out, HB2.out⟩
        have := HO2.out
        simpa [rv] using this
      case measure =>
        rw [iterPos_of HI2.out, iterPos_of hit]
        omega
    · have hnx := fun ty => Lib.run_next_end_at (P := Tryz.prog) wr (w.heap.size + 1) s pos ty hit hp
      have HE := Lib.hid (show l = runes s by rw [← HL.out, runesF_end s f pos hp, List.append_nil])
      go_wp2_with fail
      go_ret
      exact ⟨_, rfl, by rw [← HE.out]; exact HO.out, hb⟩
theorem nameB_none {s : ByteArray} {i : Nat} {r : Nat} (h : (runes s)[i]? = some r) (hr : okR r = false) : nameB s = false := by
  unfold nameB
  have : (runes s).all okR = false := by
    rw [List.all_eq_false]
    exact ⟨r, List.mem_of_getElem? h, by simp [hr]⟩
  rw [this]
  rfl
theorem nameB_whole {s : ByteArray} (h : ∀ (i r : Nat), (runes s)[i]? = some r → okR r = true) : nameB s = decide (1 ≤ (runes s).length ∧ (runes s).length ≤ 16) := by
  unfold nameB
  have : (runes s).all okR = true := by
    rw [List.all_eq_true]
    intro r hr
    obtain ⟨i, hi, rfl⟩ := List.getElem_of_mem hr
    exact h i _ (List.getElem?_eq_getElem hi)
  rw [this]
  rfl
theorem runesF_lt (s : ByteArray) : ∀ f pos, ∀ r ∈ runesF s f pos, r < 1114112
  | 0, _, r, h => by simp [runesF] at h
  | f + 1, pos, r, h => by
    unfold runesF at h
    split at h
    · rcases List.mem_cons.1 h with rfl | h
      · exact (decode_small s pos).1
      · exact runesF_lt s f _ r h
    · cases h
theorem runesF_len (s : ByteArray) : ∀ f pos, (runesF s f pos).length ≤ f
  | 0, _ => by simp [runesF]
  | f + 1, pos => by
    unfold runesF
    split
    · simp; exact runesF_len s f _
    · simp
set_option maxHeartbeats 1000000 in
theorem rname_any (s : ByteArray) (w : World) (hs : s.size ≤ 140737488351232) :
    Calls Tryz.prog 170 #[.string s] w fun e w' => e = .returned (.bool (nameB s)) ∧ Below w.heap.size w w' := by
  by_cases hl : 100 < s.size
  · have H := Lib.hid (show nameB s = false by
      rcases Bool.eq_false_or_eq_true (nameB s) with h | h
      · have := nameB_size h; omega
      · exact h)
    go_enter Tryz.func170, Tryz.ntmps170
    go_wp2
    go_ret
    exact ⟨ret_bool H.out.symm, Below.refl _ _⟩
  · have hN := runesF_len s s.size 0
    have hN2 : (runes s).length ≤ s.size := hN
    clear hN
    go_enter Tryz.func170, Tryz.ntmps170
    go_wp2_with fail
    refine (rrunes_any s _ (by omega)).mono ?_
    rintro e w1 ⟨v, rfl, how, hb⟩
    obtain ⟨a, cap, rfl, hlen, hcell⟩ := own_read how
    clear how hlen
    have HC := Lib.hid hcell; clear hcell
    go_wp2
    go_loopw [4] (fun i wr => ∃ k : Nat, k ≤ (runes s).length ∧ i = .int .i64 k ∧ (∀ j r, j < k → (runes s)[j]? = some r → okR r = true) ∧ w1 = wr) (fun i _ => (runes s).length - (intOf i).toNat)
    case atStart => exact ⟨0, by omega, rfl, fun j r hj => by omega, rfl⟩
    case round =>
      obtain ⟨k, hk, rfl, hno, rfl⟩ := hrel
      have HN := Lib.hid hno; clear hno
      by_cases hlt : k < (runes s).length
      · obtain ⟨g, rfl, hg, hcl⟩ := HC.out k (rv ((runes s)[k])) (by rw [List.getElem?_map, List.getElem?_eq_getElem hlt]; rfl)
        have hrl := runesF_lt s s.size 0 _ (List.getElem_mem hlt)
        have HR := Lib.hid (List.getElem?_eq_getElem hlt)
        have hcl' : w1.cell? ⟨g, k, none⟩ = some (.int .i32 ((runes s)[k] : Nat)) := hcl
        clear hcl
        change (runes s)[k] < 1114112 at hrl
        generalize (runes s)[k] = r at *
        go_wp2_with fail
        refine (rkind_any _ _ hrl).mono ?_
        rintro e w2 ⟨rfl, rfl⟩
        by_cases h0 : kindN r = 0
        · have HF := Lib.hid (nameB_none HR.out (by simp [okR, h0]))
          rw [h0]
          clear h0
          go_wp2
          go_ret
          exact ⟨ret_bool HF.out.symm, hb⟩
        · by_cases h4 : kindN r = 4
          · have HF := Lib.hid (nameB_none HR.out (by simp [okR, h4]))
            rw [h4]
            clear h0 h4
            go_wp2
            go_ret
            exact ⟨ret_bool HF.out.symm, hb⟩
          · have HF := Lib.hid (show okR r = true by simp [okR, h0, h4])
            have h3 : kindN r ≤ 3 := by have := kindN_le r; omega
            generalize hkk : kindN r = K at *
            clear hkk
            go_wp2
            go_roundw
            case rel =>
              refine ⟨k + 1, by omega, by go_num, fun j r' hj hr' => ?_, trivial⟩
              rcases Nat.lt_or_ge j k with h | h
              · exact HN.out j r' h hr'
              · obtain rfl : j = k := by omega
                rw [HR.out] at hr'
                obtain rfl := Option.some.inj hr'
                exact HF.out
            case measure => simp [intOf]; omega
      · have HE := Lib.hid (nameB_whole (s := s) (fun i r hr => HN.out i r (by
          rcases Nat.lt_or_ge i k with h | h
          · exact h
          · rw [List.getElem?_eq_none (by omega)] at hr; cases hr) hr))
        by_cases h1 : 1 ≤ (runes s).length
        · go_wp2_with fail
          go_ret
          refine ⟨ret_bool ?_, hb⟩
          rw [HE.out, Bool.eq_iff_iff]
          simp only [decide_eq_true_eq]
          omega
        · have H1 := Lib.hid h1
          go_wp2_with fail
          go_ret
          refine ⟨ret_bool ?_, hb⟩
          rw [HE.out]
          exact (decide_eq_false fun h => H1.out h.1).symm
end Go.Proofs.YtaaomhjgolmakaaGreatDoor
namespace Go.Proofs.YtaaomhjgolmakaaGreatDoor
open Go.RowKit Go.Maps Go.WideMaps
structure Ten where
  name : ByteArray
  weight : Int
  quota : Int
def TensAt (w : World) (v : Value) (ts : List Ten) : Prop :=
  ∃ a cap, v = .slice a ts.length cap ∧ ts.length ≤ 140737488351232 ∧ ∀ (i : Nat) t, ts[i]? = some t → t.name.size ≤ 140737488351232 ∧ ∃ b off, a = some ⟨b, off, none⟩ ∧
    w.cell? ⟨b, off + i * 3, none⟩ = some (.string t.name) ∧ w.cell? ⟨b, off + i * 3 + 1, none⟩ = some (.int .i64 t.weight) ∧ w.cell? ⟨b, off + i * 3 + 2, none⟩ = some (.int .i64 t.quota)
def IntsAt (w : World) (v : Value) (ls : List Int) : Prop :=
  ∃ a cap, v = .slice a ls.length cap ∧ ls.length ≤ 140737488351232 ∧ ∀ (i : Nat) n, ls[i]? = some n → ∃ b off, a = some ⟨b, off, none⟩ ∧ w.cell? ⟨b, off + i, none⟩ = some (.int .i64 n)
theorem TensAt.below {w w' : World} {v : Value} {ts : List Ten} (h : TensAt w v ts) (hb : Below w.heap.size w w') : TensAt w' v ts := by
  obtain ⟨a, cap, rfl, hl, hc⟩ := h
  refine ⟨a, cap, rfl, hl, fun i t ht => ?_⟩
  obtain ⟨hs, b, off, ha, h0, h1, h2⟩ := hc i t ht
  exact ⟨hs, b, off, ha, cell_below hb h0, cell_below hb h1, cell_below hb h2⟩
theorem IntsAt.below {w w' : World} {v : Value} {ls : List Int} (h : IntsAt w v ls) (hb : Below w.heap.size w w') : IntsAt w' v ls := by
  obtain ⟨a, cap, rfl, hl, hc⟩ := h
  refine ⟨a, cap, rfl, hl, fun i t ht => ?_⟩
  obtain ⟨b, off, ha, h0⟩ := hc i t ht
  exact ⟨b, off, ha, cell_below hb h0⟩
def tenBad (t : Ten) : Bool := decide (t.weight < 1) || (decide (16 < t.weight) || (decide (t.quota < 1) || decide (256 < t.quota)))
def seenB (l : List ByteArray) (n : ByteArray) : Bool := l.any fun x => x.data.toList == n.data.toList
theorem seenB_iff {l : List ByteArray} {n : ByteArray} : seenB l n = true ↔ n ∈ l := by
  simp only [seenB, List.any_eq_true, beq_iff_eq]
  constructor
  · rintro ⟨x, hx, e⟩
    rw [← ba_ext e]; exact hx
  · intro h
    exact ⟨n, h, rfl⟩
def tensF : List ByteArray → List Ten → Int
  | _, [] => 0
  | seen, t :: r => if nameB t.name = false then 5 else if tenBad t = true then 1 else if seenB seen t.name = true then 8 else tensF (seen ++ [t.name]) r
def tensE (ts : List Ten) : Int := if ts.length < 1 ∨ 6 < ts.length then 9 else tensF [] ts
def metL (l : List ByteArray) : List Lit := l.map fun n => .string n.data.toList
def metD {H : Type} (l : List ByteArray) : DataW H := setOf (.lit (.int .i64 1)) (metL l)
theorem atKey_fold {H : Type} (u : DataW H) (k : Lit) (z : DataW H) : ∀ (acc : List Lit) (m : DataW H), IsMap m → (∀ x ∈ acc, WideAt.IsKeyLit x) → (acc.foldl (fun m x => m.put x u) m).atKey k z = if acc.any (fun x => x.sameKey k) = true then u else m.atKey k z
  | [], m, _, _ => by simp
  | x :: r, m, hm, hk => by
    rw [List.foldl_cons, atKey_fold u k z r (m.put x u) (hm.put x u) (fun y hy => hk y (List.mem_cons_of_mem _ hy)), List.any_cons]
    by_cases h : r.any (fun x => x.sameKey k) = true
    · simp [h]
    · by_cases hx : x = k
      · subst hx
        simp [h, atKey_put_same hm (hk x (by simp)), WideAt.sameKey_self (hk x (by simp))]
      · simp [h, sameKey_ne hx, atKey_put_other (Ne.symm hx)]
theorem metD_at {H : Type} (l : List ByteArray) (n : ByteArray) (z : DataW H) : (metD l : DataW H).atKey (.string n.data.toList) z = if seenB l n = true then .lit (.int .i64 1) else z := by
  unfold metD setOf
  rw [atKey_fold _ _ _ _ _ isMap_empty (by intro x hx; simp [metL] at hx; obtain ⟨y, _, rfl⟩ := hx; trivial)]
  have h1 : (metL l).any (fun x => x.sameKey (.string n.data.toList)) = seenB l n := by
    unfold metL seenB
    rw [List.any_map]
    rfl
  rw [h1]
  rfl
theorem metD_snoc {H : Type} (l : List ByteArray) (n : ByteArray) : (metD l : DataW H).put (.string n.data.toList) (.lit (.int .i64 1)) = metD (l ++ [n]) := by
  unfold metD metL
  rw [List.map_append, List.map_singleton, setOf_snoc]
theorem key_string : Keyed Tryz.prog 9 := string_keyed Tryz.underlying9
theorem zero_int (w : World) : (zeroValue 3).run Tryz.prog w = .ok (.int .i64 0) w := by kernel_rfl
theorem tens_step {ts : List Ten} {k : Nat} {t : Ten} (h : ts[k]? = some t) : ts.drop k = t :: ts.drop (k + 1) ∧ (ts.take (k + 1)).map Ten.name = (ts.take k).map Ten.name ++ [t.name] := by
  obtain ⟨hk, rfl⟩ := List.getElem?_eq_some_iff.1 h
  refine ⟨List.drop_eq_getElem_cons hk, ?_⟩
  rw [List.take_succ_eq_append_getElem hk, List.map_append]
  rfl
set_option maxRecDepth 100000 in
set_option maxHeartbeats 1000000 in
theorem tenants_any (v : Value) (ts : List Ten) (w : World) (hT : TensAt w v ts) :
    Calls Tryz.prog 63 #[v] w fun e w' => e = .returned (.int .i64 (tensE ts)) ∧ Below w.heap.size w w' := by
  obtain ⟨a, cap, rfl, hlen, hcell⟩ := hT
  by_cases h1 : ts.length < 1
  · have H := Lib.hid (show tensE ts = 9 by unfold tensE; rw [if_pos (.inl h1)])
    go_enter Tryz.func63, Tryz.ntmps63
    go_wp2
    go_ret
    exact ⟨ret_int H.out.symm, Below.refl _ _⟩
  · by_cases h6 : 6 < ts.length
    · have H := Lib.hid (show tensE ts = 9 by unfold tensE; rw [if_pos (.inr h6)])
      go_enter Tryz.func63, Tryz.ntmps63
      go_wp2
      go_ret
      exact ⟨ret_int H.out.symm, Below.refl _ _⟩
    · have H := Lib.hid (show tensE ts = tensF [] ts by unfold tensE; rw [if_neg (by omega)])
      have HC := Lib.hid hcell; clear hcell
      have hmm := @run_makeMap Tryz.prog
      go_enter Tryz.func63, Tryz.ntmps63
      go_wp2
      go_loopw [17] (fun i wr => ∃ k : Nat, k ≤ ts.length ∧ i = .int .i64 k ∧ tensF ((ts.take k).map Ten.name) (ts.drop k) = tensE ts ∧ wr.ownsMap Tryz.prog 9 (plainElem Tryz.prog 3) w.heap.size k (metD (H := Unit) ((ts.take k).map Ten.name)) ∧ Below w.heap.size w wr)
        (fun i _ => ts.length - (intOf i).toNat)
      case atStart => exact ⟨0, Nat.zero_le _, rfl, by rw [H.out]; simp, World.ownsMap_made _ _ _ _, (Below.refl _ _).alloc (Nat.le_refl _) _⟩
      case round =>
        obtain ⟨k, hk, rfl, hf, hown, hb⟩ := hrel
        have HF := Lib.hid hf; clear hf
        have HO := Lib.hid hown; clear hown
        by_cases hlt : k < ts.length
        · obtain ⟨t, ht⟩ : ∃ t, ts[k]? = some t := ⟨_, List.getElem?_eq_getElem hlt⟩
          obtain ⟨hsz, b, off, rfl, c0, c1, c2⟩ := HC.out k t ht
          have HT := Lib.hid ht; clear ht
          have hblt := World.block_lt_of_cell? w _ c0
          have d0 := (hb.cell (p := ⟨b, off + k * 3, none⟩) hblt).trans c0
          have d1 := (hb.cell (p := ⟨b, off + k * 3 + 1, none⟩) hblt).trans c1
          have d2 := (hb.cell (p := ⟨b, off + k * 3 + 2, none⟩) hblt).trans c2
          clear c0 c1 c2 hblt
          go_wp2_with fail
          refine (name_any _ _ hsz).mono ?_
          rintro e w2 ⟨rfl, hb2⟩
          have hsz1 : w.heap.size < wr.heap.size := HO.out.lt
          have hcell2 : ∀ j (u : Value), (#[Value.string t.name, Value.int IntKind.i64 t.weight, Value.int IntKind.i64 t.quota] : Array Value)[j]? = some u → w2.cell? ⟨wr.heap.size, j, none⟩ = some u := fun j u hu => cell_below hb2 (cell_alloc_at hu)
          have e0 := hcell2 0 _ rfl
          have e1 := hcell2 1 _ rfl
          have e2 := hcell2 2 _ rfl
          clear hcell2
          have hb3 : Below w.heap.size w w2 := (hb.alloc (by omega) _).trans (hb2.mono (by simp; omega))
          have hstep := tens_step HT.out
          by_cases hn : nameB t.name = false
          · have HE := Lib.hid (show tensE ts = 5 by rw [← HF.out, hstep.1, tensF, if_pos hn])
            rw [hn]
            clear hn hstep
            go_wp2
            go_ret
            exact ⟨ret_int HE.out.symm, hb3⟩
          · have hn' : nameB t.name = true := by simpa using hn
            rw [hn']
            by_cases b1 : t.weight < 1
            · have HE := Lib.hid (show tensE ts = 1 by rw [← HF.out, hstep.1, tensF, if_neg hn, if_pos (by simp [tenBad, b1])])
              clear hn hn' hstep
              go_wp2
              go_ret
              exact ⟨ret_int HE.out.symm, hb3⟩
            by_cases b2 : 16 < t.weight
            · have HE := Lib.hid (show tensE ts = 1 by rw [← HF.out, hstep.1, tensF, if_neg hn, if_pos (by simp [tenBad, b2])])
              clear hn hn' hstep
              go_wp2
              go_ret
              exact ⟨ret_int HE.out.symm, hb3⟩
            by_cases b3 : t.quota < 1
            · have HE := Lib.hid (show tensE ts = 1 by rw [← HF.out, hstep.1, tensF, if_neg hn, if_pos (by simp [tenBad, b3])])
              clear hn hn' hstep
              go_wp2
              go_ret
              exact ⟨ret_int HE.out.symm, hb3⟩
            by_cases b4 : 256 < t.quota
            · have HE := Lib.hid (show tensE ts = 1 by rw [← HF.out, hstep.1, tensF, if_neg hn, if_pos (by simp [tenBad, b4])])
              clear hn hn' hstep
              go_wp2
              go_ret
              exact ⟨ret_int HE.out.symm, hb3⟩
            have hgood : ¬ tenBad t = true := by simp [tenBad]; omega
            have hown2 : w2.ownsMap Tryz.prog 9 (plainElem Tryz.prog 3) w.heap.size k (metD (H := Unit) ((ts.take k).map Ten.name)) := (HO.out.alloc _).kept (grown_of_below hb2) (by simp)
            have HO2 := Lib.hid hown2
            clear hown2
            have hkey : keyOf Tryz.prog 9 (.string t.name) = some (.string t.name.data.toList) := keyOf_string_mk Tryz.underlying9 (by unfold maxLen; omega)
            obtain ⟨c, hrun, hat, _⟩ := HO2.out.lookup_int key_string Tryz.underlying261 Tryz.underlying3 (zero_int _) hkey
            rw [metD_at] at hat
            by_cases hs : seenB ((ts.take k).map Ten.name) t.name = true
            · rw [if_pos hs] at hat
              obtain rfl : (1 : Int) = c := by simpa using hat
              have HE := Lib.hid (show tensE ts = 8 by rw [← HF.out, hstep.1, tensF, if_neg hn, if_neg hgood, if_pos hs])
              clear hn hn' hstep hgood hs hat
              go_wp2
              go_ret
              exact ⟨ret_int HE.out.symm, hb3⟩
            · rw [if_neg hs] at hat
              obtain rfl : (0 : Int) = c := by simpa using hat
              have HE := Lib.hid (show tensF ((ts.take (k + 1)).map Ten.name) (ts.drop (k + 1)) = tensE ts by rw [← HF.out, hstep.1, tensF, if_neg hn, if_neg hgood, if_neg hs, hstep.2])
              have HS := Lib.hid hstep.2
              clear hn hn' hstep hgood hs hat
              go_wp2_with (at_mapUpdate; go_must (refine wpList_mapUpdate_own _ rfl _ _ _ 261 rfl 9 3 key_string Tryz.underlying261 _ w.heap.size k _ rfl HO2.out (by unfold maxLen; omega) _ _ _ rfl rfl hkey (.lit (.int .i64 1)) [] (plainElem_int Tryz.underlying3 (by decide)) ?_); intro w3 hown3 hg3)
              have HO3 := Lib.hid (show w3.ownsMap Tryz.prog 9 (plainElem Tryz.prog 3) w.heap.size (k + 1) (metD (H := Unit) ((ts.take (k + 1)).map Ten.name)) by rw [HS.out, ← metD_snoc]; exact hown3)
              have hb4 := hb3.grown hg3 hb3.size (fun j hj => by cases hj; exact Nat.le_refl _)
              clear hown3 hg3 hrun
              go_wp2
              go_roundw
              case rel => exact ⟨k + 1, by omega, by go_num, HE.out, HO3.out, hb4⟩
              case measure => simp [intOf]; omega
        · have hk2 : k = ts.length := by omega
          subst hk2
          have HE := Lib.hid (show tensE ts = 0 by rw [← HF.out, List.drop_length]; rfl)
          go_wp2
          go_ret
          exact ⟨ret_int HE.out.symm, hb⟩
end Go.Proofs.YtaaomhjgolmakaaGreatDoor
namespace Go.Proofs.YtaaomhjgolmakaaGreatDoor
open Go.RowKit
structure Cfg where
  ts : List Ten
  ls : List Int
  q : Int
  cost : Int
  cap : Int
  invs : Int
  weight : Int
  pools : Int
  retries : Int
  preempts : Int
  base : Int
  most : Int
  lease : Int
  dead : Int
  keep : Int
  keys : Int
  percent : Int
  workers : Int
  watch : Int
def CfgAt (w : World) (tv lv : Value) (c : Cfg) : Prop := TensAt w tv c.ts ∧ IntsAt w lv c.ls
theorem CfgAt.below {w w' : World} {tv lv : Value} {c : Cfg} (h : CfgAt w tv lv c) (hb : Below w.heap.size w w') : CfgAt w' tv lv c := ⟨h.1.below hb, h.2.below hb⟩
structure CfgCells (cs : Array Value) (tv lv : Value) (c : Cfg) : Prop where
  size : cs.size = 19
  f0 : cs[0]? = some tv
  f1 : cs[1]? = some lv
  f2 : cs[2]? = some (.int .i64 c.q)
  f3 : cs[3]? = some (.int .i64 c.cost)
  f4 : cs[4]? = some (.int .i64 c.cap)
  f5 : cs[5]? = some (.int .i64 c.invs)
  f6 : cs[6]? = some (.int .i64 c.weight)
  f7 : cs[7]? = some (.int .i64 c.pools)
  f8 : cs[8]? = some (.int .i64 c.retries)
  f9 : cs[9]? = some (.int .i64 c.preempts)
  f10 : cs[10]? = some (.int .i64 c.base)
  f11 : cs[11]? = some (.int .i64 c.most)
  f12 : cs[12]? = some (.int .i64 c.lease)
  f13 : cs[13]? = some (.int .i64 c.dead)
  f14 : cs[14]? = some (.int .i64 c.keep)
  f15 : cs[15]? = some (.int .i64 c.keys)
  f16 : cs[16]? = some (.int .i64 c.percent)
  f17 : cs[17]? = some (.int .i64 c.workers)
  f18 : cs[18]? = some (.int .i64 c.watch)
theorem cfg_lit {cs : Array Value} {tv lv : Value} {c : Cfg} (h : CfgCells cs tv lv c) : cs = #[tv, lv, .int .i64 c.q, .int .i64 c.cost, .int .i64 c.cap, .int .i64 c.invs, .int .i64 c.weight, .int .i64 c.pools, .int .i64 c.retries, .int .i64 c.preempts, .int .i64 c.base, .int .i64 c.most, .int .i64 c.lease, .int .i64 c.dead, .int .i64 c.keep, .int .i64 c.keys, .int .i64 c.percent, .int .i64 c.workers, .int .i64 c.watch] := by
  obtain ⟨hs, f0, f1, f2, f3, f4, f5, f6, f7, f8, f9, f10, f11, f12, f13, f14, f15, f16, f17, f18⟩ := h
  obtain ⟨l⟩ := cs
  match l, hs with
  | [a0, a1, a2, a3, a4, a5, a6, a7, a8, a9, a10, a11, a12, a13, a14, a15, a16, a17, a18], _ =>
    simp at f0 f1 f2 f3 f4 f5 f6 f7 f8 f9 f10 f11 f12 f13 f14 f15 f16 f17 f18
    subst f0 f1 f2 f3 f4 f5 f6 f7 f8 f9 f10 f11 f12 f13 f14 f15 f16 f17 f18
    rfl
theorem cfg_info : (Tryz.prog.info? 26).map (·.size) = some 19 := by kernel_rfl
def inB (n a b : Int) : Bool := decide (a ≤ n) && decide (n ≤ b)
def limF : Int → List Int → Bool
  | _, [] => true
  | last, n :: r => if n ≤ last then false else if 1048576 < n then false else limF n r
def aOk (c : Cfg) : Bool := inB c.q 1 64 && inB c.cost 1 64 && inB c.cap 1 32 && inB c.invs 1 8 && inB c.weight 1 16 && inB c.pools 1 8
def bOk (c : Cfg) : Bool := inB c.retries 0 5 && inB c.preempts 0 5 && inB c.base 1 1048576 && inB c.most c.base 1048576 && inB c.lease 1 1048576
def dOk (c : Cfg) : Bool := inB c.dead 1 32 && inB c.keep 1 64 && inB c.keys 1 32 && inB c.percent 1 100 && inB c.workers 1 16 && inB c.watch 0 16
def checkE (c : Cfg) : Int := if tensE c.ts ≠ 0 then tensE c.ts else if 3 < c.ls.length then 9 else if limF 0 c.ls = false ∨ (aOk c && bOk c && dOk c) = false then 1 else 0
theorem ints_step {ls : List Int} {k : Nat} {n : Int} (h : ls[k]? = some n) : ls.drop k = n :: ls.drop (k + 1) := by
  obtain ⟨hk, rfl⟩ := List.getElem?_eq_some_iff.1 h
  exact List.drop_eq_getElem_cons hk
set_option maxHeartbeats 1000000 in
theorem limits_any (v : Value) (ls : List Int) (w : World) (hL : IntsAt w v ls) :
    Calls Tryz.prog 64 #[v] w fun e w' => e = .returned (.bool (limF 0 ls)) ∧ w = w' := by
  obtain ⟨a, cap, rfl, hlen, hcell⟩ := hL
  have HC := Lib.hid hcell; clear hcell
  go_enter Tryz.func64, Tryz.ntmps64
  go_wp2
  go_loop [3, 8] (fun x i => ∃ (k : Nat) (last : Int), k ≤ ls.length ∧ i = .int .i64 k ∧ x = .int .i64 last ∧ limF last (ls.drop k) = limF 0 ls) (fun _ i => ls.length - (intOf i).toNat)
  case atStart => exact ⟨0, 0, Nat.zero_le _, rfl, rfl, rfl⟩
  case round =>
    obtain ⟨k, last, hk, rfl, rfl, hf⟩ := hrel
    have HF := Lib.hid hf; clear hf
    by_cases hlt : k < ls.length
    · obtain ⟨n, hn⟩ : ∃ n, ls[k]? = some n := ⟨_, List.getElem?_eq_getElem hlt⟩
      obtain ⟨b, off, rfl, c0⟩ := HC.out k n hn
      have hst := ints_step hn
      by_cases h1 : n ≤ last
      · have HE := Lib.hid (show limF 0 ls = false by rw [← HF.out, hst, limF, if_pos h1])
        clear hst hn
        go_wp2
        go_ret
        exact ⟨ret_bool HE.out.symm, rfl⟩
      · by_cases h2 : 1048576 < n
        · have HE := Lib.hid (show limF 0 ls = false by rw [← HF.out, hst, limF, if_neg h1, if_pos h2])
          clear hst hn
          go_wp2
          go_ret
          exact ⟨ret_bool HE.out.symm, rfl⟩
        · have HE := Lib.hid (show limF n (ls.drop (k + 1)) = limF 0 ls by rw [← HF.out, hst, limF, if_neg h1, if_neg h2])
          clear hst hn
          go_wp2
          go_round
          case rel => exact ⟨k + 1, n, by omega, by go_num, rfl, HE.out⟩
          case measure => simp [intOf]; omega
    · have HE := Lib.hid (show limF 0 ls = true by rw [← HF.out, List.drop_eq_nil_of_le (by omega)]; rfl)
      go_wp2
      go_ret
      exact ⟨ret_bool HE.out.symm, rfl⟩
set_option maxHeartbeats 400000 in
theorem spanok_any (n a b : Int) (w : World) :
    Calls Tryz.prog 68 #[.agg #[.int .i64 n, .int .i64 a, .int .i64 b]] w fun e w' => e = .returned (.bool (inB n a b)) ∧ Below w.heap.size w w' := by
  by_cases h1 : a ≤ n
  · by_cases h2 : n ≤ b
    · have H := Lib.hid (show inB n a b = true by simp [inB, h1, h2])
      go_enter Tryz.func68, Tryz.ntmps68
      go_wp2
      go_ret
      exact ⟨ret_bool H.out.symm, (Below.refl _ _).alloc (Nat.le_refl _) _⟩
    · have H := Lib.hid (show inB n a b = false by simp [inB, h2])
      go_enter Tryz.func68, Tryz.ntmps68
      go_wp2
      go_ret
      exact ⟨ret_bool H.out.symm, (Below.refl _ _).alloc (Nat.le_refl _) _⟩
  · have H := Lib.hid (show inB n a b = false by simp [inB, h1])
    go_enter Tryz.func68, Tryz.ntmps68
    go_wp2
    go_ret
    exact ⟨ret_bool H.out.symm, (Below.refl _ _).alloc (Nat.le_refl _) _⟩
set_option maxHeartbeats 400000 in
theorem spanbad_any (n a b : Int) (w : World) :
    Calls Tryz.prog 67 #[.agg #[.int .i64 n, .int .i64 a, .int .i64 b]] w fun e w' => e = .returned (.bool (!inB n a b)) ∧ Below w.heap.size w w' := by
  go_enter Tryz.func67, Tryz.ntmps67
  go_wp2_with fail
  refine (spanok_any _ _ _ _).mono ?_
  rintro e w1 ⟨rfl, hb⟩
  go_wp2
  go_ret
  exact ⟨rfl, ((Below.refl _ _).alloc (Nat.le_refl _) _).trans (hb.mono (by simp))⟩
def spanL (c : Cfg) : List (Int × Int × Int) := [(c.q, 1, 64), (c.cost, 1, 64), (c.cap, 1, 32), (c.invs, 1, 8), (c.weight, 1, 16), (c.pools, 1, 8), (c.retries, 0, 5), (c.preempts, 0, 5), (c.base, 1, 1048576), (c.most, c.base, 1048576), (c.lease, 1, 1048576), (c.dead, 1, 32), (c.keep, 1, 64), (c.keys, 1, 32), (c.percent, 1, 100), (c.workers, 1, 16), (c.watch, 0, 16)]
def spanCells (c : Cfg) : Array Value := #[.int .i64 c.q, .int .i64 1, .int .i64 64, .int .i64 c.cost, .int .i64 1, .int .i64 64, .int .i64 c.cap, .int .i64 1, .int .i64 32, .int .i64 c.invs, .int .i64 1, .int .i64 8, .int .i64 c.weight, .int .i64 1, .int .i64 16, .int .i64 c.pools, .int .i64 1, .int .i64 8, .int .i64 c.retries, .int .i64 0, .int .i64 5, .int .i64 c.preempts, .int .i64 0, .int .i64 5, .int .i64 c.base, .int .i64 1, .int .i64 1048576, .int .i64 c.most, .int .i64 (c.base), .int .i64 1048576, .int .i64 c.lease, .int .i64 1, .int .i64 1048576, .int .i64 c.dead, .int .i64 1, .int .i64 32, .int .i64 c.keep, .int .i64 1, .int .i64 64, .int .i64 c.keys, .int .i64 1, .int .i64 32, .int .i64 c.percent, .int .i64 1, .int .i64 100, .int .i64 c.workers, .int .i64 1, .int .i64 16, .int .i64 c.watch, .int .i64 0, .int .i64 16]
theorem spanL_len (c : Cfg) : (spanL c).length = 17 := rfl
theorem spanCells_at (c : Cfg) : ∀ (k : Nat) (s : Int × Int × Int), (spanL c)[k]? = some s → (spanCells c)[k * 3]? = some (.int .i64 s.1) ∧ (spanCells c)[k * 3 + 1]? = some (.int .i64 s.2.1) ∧ (spanCells c)[k * 3 + 2]? = some (.int .i64 s.2.2)
  | 0, _, h => by cases h; exact ⟨rfl, rfl, rfl⟩
  | 1, _, h => by cases h; exact ⟨rfl, rfl, rfl⟩
  | 2, _, h => by cases h; exact ⟨rfl, rfl, rfl⟩
  | 3, _, h => by cases h; exact ⟨rfl, rfl, rfl⟩
  | 4, _, h => by cases h; exact ⟨rfl, rfl, rfl⟩
  | 5, _, h => by cases h; exact ⟨rfl, rfl, rfl⟩
  | 6, _, h => by cases h; exact ⟨rfl, rfl, rfl⟩
  | 7, _, h => by cases h; exact ⟨rfl, rfl, rfl⟩
  | 8, _, h => by cases h; exact ⟨rfl, rfl, rfl⟩
  | 9, _, h => by cases h; exact ⟨rfl, rfl, rfl⟩
  | 10, _, h => by cases h; exact ⟨rfl, rfl, rfl⟩
  | 11, _, h => by cases h; exact ⟨rfl, rfl, rfl⟩
  | 12, _, h => by cases h; exact ⟨rfl, rfl, rfl⟩
  | 13, _, h => by cases h; exact ⟨rfl, rfl, rfl⟩
  | 14, _, h => by cases h; exact ⟨rfl, rfl, rfl⟩
  | 15, _, h => by cases h; exact ⟨rfl, rfl, rfl⟩
  | 16, _, h => by cases h; exact ⟨rfl, rfl, rfl⟩
  | n + 17, s, h => by
    rw [List.getElem?_eq_none (by rw [spanL_len]; omega)] at h
    cases h
theorem spans_all (c : Cfg) : (spanL c).all (fun s => inB s.1 s.2.1 s.2.2) = (aOk c && bOk c && dOk c) := by
  simp [spanL, aOk, bOk, dOk, Bool.and_assoc]
set_option maxRecDepth 100000 in
set_option maxHeartbeats 1000000 in
theorem spans_any (cs : Array Value) (tv lv : Value) (c : Cfg) (w : World) (hc : CfgCells cs tv lv c) :
    Calls Tryz.prog 66 #[.agg cs] w fun e w' => e = .returned (.slice (some ⟨w.heap.size + 1, 0, none⟩) 17 17) ∧ (w.alloc (.cells cs 26)).alloc (.cells (spanCells c) 157) = w' := by
  obtain rfl := cfg_lit hc
  clear hc
  go_enter Tryz.func66, Tryz.ntmps66
  go_wp2
  go_ret
  exact ⟨rfl, rfl⟩
def firstBad (l : List (Int × Int × Int)) : Bool := l.any fun s => !inB s.1 s.2.1 s.2.2
set_option maxHeartbeats 1000000 in
theorem spanix_any (c : Cfg) (g : Nat) (w : World) (hc : ∀ (j : Nat) u, (spanCells c)[j]? = some u → w.cell? ⟨g, j, none⟩ = some u) :
    Calls Tryz.prog 140 #[.slice (some ⟨g, 0, none⟩) 17 17, .func (.func 67) #[] #[]] w fun e w' => (∃ n : Int, e = .returned (.int .i64 n) ∧ (decide (0 ≤ n) = firstBad (spanL c))) ∧ Below w.heap.size w w' := by
  go_enter Tryz.func140, Tryz.ntmps140
  go_wp2
  go_loopw [8] (fun i wr => ∃ k : Nat, k ≤ 17 ∧ i = .int .i64 k ∧ (∀ (j : Nat) s, j < k → (spanL c)[j]? = some s → inB s.1 s.2.1 s.2.2 = true) ∧ Below w.heap.size w wr) (fun i _ => 17 - (intOf i).toNat)
  case atStart => exact ⟨0, by omega, rfl, fun j s hj => by omega, Below.refl _ _⟩
  case round =>
    obtain ⟨k, hk, rfl, hno, hb⟩ := hrel
    have HN := Lib.hid hno; clear hno
    by_cases hlt : k < 17
    · obtain ⟨s, hs⟩ : ∃ s, (spanL c)[k]? = some s := ⟨_, List.getElem?_eq_getElem (by rw [spanL_len]; exact hlt)⟩
      obtain ⟨s0, s1, s2⟩ := s
      obtain ⟨c0, c1, c2⟩ := spanCells_at c k _ hs
      have d0 := cell_below hb (hc _ _ c0)
      have d1 := cell_below hb (hc _ _ c1)
      have d2 := cell_below hb (hc _ _ c2)
      simp only [] at d0 d1 d2
      have HS := Lib.hid hs
      clear c0 c1 c2 hs
      go_wp2_with fail
      refine (spanbad_any _ _ _ _).mono ?_
      rintro e w2 ⟨rfl, hb2⟩
      rcases Bool.eq_false_or_eq_true (inB s0 s1 s2) with hh | hh
      · have HH := Lib.hid hh
        rw [hh]
        clear hh
        go_wp2
        go_roundw
        case rel =>
          refine ⟨k + 1, by omega, by go_num, fun j s hj hs => ?_, hb.trans (hb2.mono hb.size)⟩
          rcases Nat.lt_or_ge j k with h | h
          · exact HN.out j s h hs
          · obtain rfl : j = k := by omega
            rw [HS.out] at hs
            cases hs
            exact HH.out
        case measure => simp [intOf]; omega
      · have HH := Lib.hid (show firstBad (spanL c) = true by
          unfold firstBad
          rw [List.any_eq_true]
          exact ⟨_, List.mem_of_getElem? HS.out, by simp [hh]⟩)
        rw [hh]
        clear hh
        go_wp2
        go_ret
        exact ⟨⟨_, rfl, by rw [HH.out]; simp⟩, hb.trans (hb2.mono hb.size)⟩
    · have HH := Lib.hid (show firstBad (spanL c) = false by
        unfold firstBad
        rw [List.any_eq_false]
        intro s hs
        obtain ⟨j, hj, rfl⟩ := List.getElem_of_mem hs
        have := HN.out j _ (by rw [spanL_len] at hj; omega) (List.getElem?_eq_getElem hj)
        simp [this])
      go_wp2
      go_ret
      exact ⟨⟨_, rfl, by rw [HH.out]; rfl⟩, hb⟩
set_option maxHeartbeats 1000000 in
theorem spanhas_any (c : Cfg) (g : Nat) (w : World) (hc : ∀ (j : Nat) u, (spanCells c)[j]? = some u → w.cell? ⟨g, j, none⟩ = some u) :
    Calls Tryz.prog 65 #[.slice (some ⟨g, 0, none⟩) 17 17, .func (.func 67) #[] #[]] w fun e w' => e = .returned (.bool (firstBad (spanL c))) ∧ Below w.heap.size w w' := by
  have HC := Lib.hid hc; clear hc
  go_enter Tryz.func65, Tryz.ntmps65
  go_wp2_with fail
  refine (spanix_any c g _ HC.out).mono ?_
  rintro e w1 ⟨⟨n, rfl, hn⟩, hb⟩
  have HN := Lib.hid hn; clear hn
  go_wp2
  go_ret
  exact ⟨ret_bool HN.out, hb⟩
theorem firstBad_eq (c : Cfg) : firstBad (spanL c) = !(aOk c && bOk c && dOk c) := by
  rw [← spans_all, firstBad, List.all_eq_not_any_not]
  simp
set_option maxHeartbeats 1000000 in
theorem check_tens (cs : Array Value) (tv lv : Value) (c : Cfg) (w : World) (hc : CfgCells cs tv lv c) (hC : CfgAt w tv lv c) (h0 : tensE c.ts ≠ 0) :
    Calls Tryz.prog 29 #[.agg cs] w fun e w' => e = .returned (.int .i64 (checkE c)) ∧ Below w.heap.size w w' := by
  obtain ⟨hT, hL⟩ := hC
  have f0 := hc.f0
  have HE := Lib.hid (show checkE c = tensE c.ts by unfold checkE; rw [if_pos h0])
  have hne : (tensE c.ts != 0) = true := by rw [bne_iff_ne]; exact h0
  clear hc h0
  go_enter Tryz.func29, Tryz.ntmps29
  go_wp2_with fail
  refine (tenants_any _ _ _ (hT.below ((Below.refl _ _).alloc (Nat.le_refl _) _))).mono ?_
  rintro e w1 ⟨rfl, hb⟩
  go_wp2
  go_ret
  exact ⟨ret_int HE.out.symm, ((Below.refl _ _).alloc (Nat.le_refl _) _).trans (hb.mono (by simp))⟩
set_option maxHeartbeats 1000000 in
theorem check_many (cs : Array Value) (tv lv : Value) (c : Cfg) (w : World) (hc : CfgCells cs tv lv c) (hC : CfgAt w tv lv c) (h0 : tensE c.ts = 0) (h3 : 3 < c.ls.length) :
    Calls Tryz.prog 29 #[.agg cs] w fun e w' => e = .returned (.int .i64 (checkE c)) ∧ Below w.heap.size w w' := by
  obtain ⟨hT, hL⟩ := hC
  have f0 := hc.f0
  have HE := Lib.hid (show checkE c = 9 by unfold checkE; rw [if_neg (by simp [h0]), if_pos h3])
  have HC := Lib.hid hc
  obtain ⟨la, lcap, rfl, hlen, _⟩ := hL
  have H0 := Lib.hid h0
  clear hc h0
  go_enter Tryz.func29, Tryz.ntmps29
  go_wp2_with fail
  refine (tenants_any _ _ _ (hT.below ((Below.refl _ _).alloc (Nat.le_refl _) _))).mono ?_
  rintro e w1 ⟨rfl, hb⟩
  rw [H0.out]
  have c1 := cell_below hb (cell_alloc_at (t := 26) HC.out.f1)
  go_wp2
  go_ret
  exact ⟨ret_int HE.out.symm, ((Below.refl _ _).alloc (Nat.le_refl _) _).trans (hb.mono (by simp))⟩
set_option maxHeartbeats 1000000 in
theorem check_lim (cs : Array Value) (tv lv : Value) (c : Cfg) (w : World) (hc : CfgCells cs tv lv c) (hC : CfgAt w tv lv c) (h0 : tensE c.ts = 0) (h3 : ¬ 3 < c.ls.length) (hl : limF 0 c.ls = false) :
    Calls Tryz.prog 29 #[.agg cs] w fun e w' => e = .returned (.int .i64 (checkE c)) ∧ Below w.heap.size w w' := by
  obtain ⟨hT, hL⟩ := hC
  have f0 := hc.f0
  have HE := Lib.hid (show checkE c = 1 by unfold checkE; rw [if_neg (by simp [h0]), if_neg h3, if_pos (.inl hl)])
  have HC := Lib.hid hc
  have HL := Lib.hid hL
  obtain ⟨la, lcap, rfl, hlen, _⟩ := hL
  have H0 := Lib.hid h0
  have HLi := Lib.hid hl
  clear hc h0 hl
  go_enter Tryz.func29, Tryz.ntmps29
  go_wp2_with fail
  refine (tenants_any _ _ _ (hT.below ((Below.refl _ _).alloc (Nat.le_refl _) _))).mono ?_
  rintro e w1 ⟨rfl, hb⟩
  rw [H0.out]
  have c1 := cell_below hb (cell_alloc_at (t := 26) HC.out.f1)
  have hb1 : Below w.heap.size w w1 := ((Below.refl _ _).alloc (Nat.le_refl _) _).trans (hb.mono (by simp))
  go_wp2_with fail
  refine (limits_any _ _ _ (HL.out.below hb1)).mono ?_
  rintro e w2 ⟨rfl, rfl⟩
  rw [HLi.out]
  go_wp2
  go_ret
  exact ⟨ret_int HE.out.symm, hb1⟩
set_option maxHeartbeats 1000000 in
theorem check_end (cs : Array Value) (tv lv : Value) (c : Cfg) (w : World) (hc : CfgCells cs tv lv c) (hC : CfgAt w tv lv c) (h0 : tensE c.ts = 0) (h3 : ¬ 3 < c.ls.length) (hl : limF 0 c.ls = true) :
    Calls Tryz.prog 29 #[.agg cs] w fun e w' => e = .returned (.int .i64 (checkE c)) ∧ Below w.heap.size w w' := by
  obtain ⟨hT, hL⟩ := hC
  have f0 := hc.f0
  have HE := Lib.hid (show checkE c = if (aOk c && bOk c && dOk c) = false then 1 else 0 by unfold checkE; rw [if_neg (by simp [h0]), if_neg h3]; simp [hl])
  have HC := Lib.hid hc
  have HL := Lib.hid hL
  obtain ⟨la, lcap, rfl, hlen, _⟩ := hL
  have H0 := Lib.hid h0
  have HLi := Lib.hid hl
  clear hc h0 hl
  go_enter Tryz.func29, Tryz.ntmps29
  go_wp2_with fail
  refine (tenants_any _ _ _ (hT.below ((Below.refl _ _).alloc (Nat.le_refl _) _))).mono ?_
  rintro e w1 ⟨rfl, hb⟩
  rw [H0.out]
  have c1 := cell_below hb (cell_alloc_at (t := 26) HC.out.f1)
  have hb1 : Below w.heap.size w w1 := ((Below.refl _ _).alloc (Nat.le_refl _) _).trans (hb.mono (by simp))
  have hgB := (hb.block w.heap.size (by simp)).trans (heap_alloc_new w _)
  have HG := Lib.hid hgB
  clear hgB
  go_wp2_with fail
  refine (limits_any _ _ _ (HL.out.below hb1)).mono ?_
  rintro e w2 ⟨rfl, rfl⟩
  rw [HLi.out]
  go_wp2_with (refine wpList_load_agg 26 HG.out Tryz.underlying26 rfl (by rw [HC.out.size]; exact cfg_info) rfl _ rfl rfl ?_)
  refine (spans_any _ _ _ c _ HC.out).mono ?_
  rintro e w3 ⟨rfl, rfl⟩
  go_wp2_with fail
  refine (spanhas_any c _ _ (fun j u hu => ?_)).mono ?_
  · have := cell_alloc_at (w := w1.alloc (.cells cs 26)) (t := 157) hu
    simpa using this
  rintro e w3 ⟨rfl, hb3⟩
  have hb4 : Below w.heap.size w w3 := ((hb1.alloc hb1.size _).alloc (by have := hb1.size; simp; omega) _).trans (hb3.mono (by have := hb1.size; simp; omega))
  rcases Bool.eq_false_or_eq_true (aOk c && bOk c && dOk c) with ha | ha
  · have HF := Lib.hid (show firstBad (spanL c) = false by rw [firstBad_eq, ha]; rfl)
    have HA := Lib.hid ha
    clear ha
    rw [HF.out]
    go_wp2
    go_ret
    exact ⟨ret_int (by rw [HE.out, if_neg (by simp [HA.out])]), hb4⟩
  · have HF := Lib.hid (show firstBad (spanL c) = true by rw [firstBad_eq, ha]; rfl)
    have HA := Lib.hid ha
    clear ha
    rw [HF.out]
    go_wp2
    go_ret
    exact ⟨ret_int (by rw [HE.out, if_pos HA.out]), hb4⟩
theorem check_any (cs : Array Value) (tv lv : Value) (c : Cfg) (w : World) (hc : CfgCells cs tv lv c) (hC : CfgAt w tv lv c) :
    Calls Tryz.prog 29 #[.agg cs] w fun e w' => e = .returned (.int .i64 (checkE c)) ∧ Below w.heap.size w w' := by
  by_cases h0 : tensE c.ts = 0
  · by_cases h3 : 3 < c.ls.length
    · exact check_many cs tv lv c w hc hC h0 h3
    · rcases Bool.eq_false_or_eq_true (limF 0 c.ls) with hl | hl
      · exact check_end cs tv lv c w hc hC h0 h3 hl
      · exact check_lim cs tv lv c w hc hC h0 h3 hl
  · exact check_tens cs tv lv c w hc hC h0
end Go.Proofs.YtaaomhjgolmakaaGreatDoor
