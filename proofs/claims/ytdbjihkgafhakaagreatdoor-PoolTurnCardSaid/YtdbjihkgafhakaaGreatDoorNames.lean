/-
  text.Name: a text is a name just if 'nameB' says so; the reference's own.
-/
import Derived.Test.YtdbjihkgafhakaaGreatDoorText
import Derived.Lib.OthersKept
namespace Go.Proofs.YtdbjihkgafhakaaGreatDoor
open Go.RowKit

theorem decode_width (s : ByteArray) (pos : Nat) : (Utf8.decode s pos).2 ≤ 4 := by
  unfold Utf8.decode
  have key : ∀ {c : Prop} [Decidable c] {a b : Nat × Nat}, a.2 ≤ 4 → b.2 ≤ 4 → (if c then a else b).2 ≤ 4 := by
    intro c _ a b ha hb
    split
    · exact ha
    · exact hb
  refine key ?_ (key (key ?_ ?_) (key (key ?_ ?_) (key (key ?_ ?_) ?_))) <;> simp only [] <;> omega
theorem all_append_bad {l r : List Nat} {x : Nat} (h : okR x = false) : (l ++ x :: r).all okR = false := by simp [h]
theorem nameB_bad {s : ByteArray} {l r : List Nat} {x : Nat} (h : l ++ x :: r = runes s) (hx : okR x = false) : nameB s = false := by
  unfold nameB
  rw [← h, all_append_bad hx]
  rfl
theorem nameB_all {s : ByteArray} {l : List Nat} (h : l = runes s) (hl : l.all okR = true) : nameB s = decide (1 ≤ l.length ∧ l.length ≤ 16) := by
  unfold nameB
  rw [← h, hl]
  rfl

set_option maxHeartbeats 1000000 in
/-- THE WALK: text.Name. -/
theorem name_any (s : ByteArray) (w : World) (hs : s.size ≤ 140737488351232) :
    Calls Tryz.prog 118 #[.string s] w fun e w' => e = .returned (.bool (nameB s)) ∧ Below w.heap.size w w' := by
  go_enter Tryz.func118, Tryz.ntmps118
  go_wp2
  go_loopw [3] (fun n wr => ∃ (pos f : Nat) (l : List Nat), n = .int .i64 (l.length : Nat) ∧ l ++ runesF s f pos = runes s ∧ l.all okR = true ∧ s.size ≤ pos + f ∧ l.length ≤ pos ∧ pos ≤ s.size + 4 ∧ wr.heap[w.heap.size]? = some (.stringIter s pos) ∧ Below w.heap.size w wr)
    (fun _ wr => s.size - wr.iterPos w.heap.size)
  case atStart =>
    exact ⟨0, s.size, [], rfl, rfl, rfl, by omega, by simp, by omega, World.iter_heap _ _ _, (Below.refl _ _).alloc (Nat.le_refl _) _⟩
  case round =>
    obtain ⟨pos, f, l, rfl, hl, hok, hf, hlp, hp4, hit, hb⟩ := hrel
    have HL := Lib.hid hl; clear hl
    have HK := Lib.hid hok; clear hok
    by_cases hp : pos < s.size
    · have hnx := fun ty => Lib.run_next_any_at (P := Tryz.prog) wr w.heap.size s pos ty hit hp
      obtain ⟨g, rfl, hg⟩ := runesF_more s f pos hp hf
      have HG := Lib.hid hg; clear hg
      obtain ⟨hd1, hd2, _⟩ := decode_small s pos
      have hb1 : Below w.heap.size w (wr.iterAt w.heap.size s (pos + (Utf8.decode s pos).2)) := Lib.below_iterAt hb (Nat.le_refl _) _ _
      have hit1 : (wr.iterAt w.heap.size s (pos + (Utf8.decode s pos).2)).heap[w.heap.size]? = some (.stringIter s (pos + (Utf8.decode s pos).2)) := Lib.iterAt_heap _ _ _ _ _ hit
      have hsz : w.heap.size < (wr.iterAt w.heap.size s (pos + (Utf8.decode s pos).2)).heap.size := by
        rw [Lib.iterAt_size]
        exact (Array.getElem?_eq_some_iff.1 hit).1
      have HB1 := Lib.hid hb1; clear hb1
      have HI1 := Lib.hid hit1; clear hit1
      have hdw : (Utf8.decode s pos).2 ≤ 4 := decode_width s pos
      go_wp2_with fail
      refine (kind_any _ _ hd1).mono ?_
      rintro e w2 ⟨rfl, hb2⟩
      have hit2 := hb2.block w.heap.size hsz
      rw [HI1.out] at hit2
      by_cases h0 : kindN (Utf8.decode s pos).1 = 0
      · have HF := Lib.hid (nameB_bad (s := s) (l := l) (x := (Utf8.decode s pos).1) (r := runesF s g (pos + (Utf8.decode s pos).2)) (by rw [← HG.out, HL.out]) (by simp [okR, h0]))
        rw [h0]
        clear h0 hnx hit2
        go_wp2
        go_ret
        exact ⟨ret_bool HF.out.symm, HB1.out.trans (hb2.mono (by omega))⟩
      · by_cases h4 : kindN (Utf8.decode s pos).1 = 4
        · have HF := Lib.hid (nameB_bad (s := s) (l := l) (x := (Utf8.decode s pos).1) (r := runesF s g (pos + (Utf8.decode s pos).2)) (by rw [← HG.out, HL.out]) (by simp [okR, h4]))
          rw [h4]
          clear h0 h4 hnx hit2
          go_wp2
          go_ret
          exact ⟨ret_bool HF.out.symm, HB1.out.trans (hb2.mono (by omega))⟩
        · have HF := Lib.hid (show okR (Utf8.decode s pos).1 = true by simp [okR, h0, h4])
          generalize hk : kindN (Utf8.decode s pos).1 = K at *
          clear hk hnx
          have e0 : ((K : Int) == 0) = false := beq_eq_false_iff_ne.2 (by omega)
          have e4 : ((K : Int) == 4) = false := beq_eq_false_iff_ne.2 (by omega)
          have HI2 := Lib.hid hit2
          clear hit2
          go_wp2
          go_roundw
          case rel =>
            exact ⟨pos + (Utf8.decode s pos).2, g, l ++ [(Utf8.decode s pos).1], by simp, by rw [List.append_assoc, List.singleton_append, ← HG.out, HL.out], by simp [HK.out, HF.out], by omega, by simp; omega, by omega, HI2.out, HB1.out.trans (hb2.mono (by omega))⟩
          case measure =>
            rw [iterPos_of HI2.out, iterPos_of hit]
            omega
    · have hnx := fun ty => Lib.run_next_end_at (P := Tryz.prog) wr w.heap.size s pos ty hit hp
      have HE := Lib.hid (nameB_all (s := s) (l := l) (by rw [← HL.out, runesF_end s f pos hp, List.append_nil]) HK.out)
      by_cases h1 : 1 ≤ l.length
      · go_wp2_with fail
        go_ret
        refine ⟨ret_bool ?_, hb⟩
        rw [HE.out, Bool.eq_iff_iff]
        simp only [decide_eq_true_eq]
        omega
      · have H1 := Lib.hid h1
        go_wp2_with fail
        go_ret
        refine ⟨ret_bool ?_, hb⟩
        rw [HE.out]
        exact (decide_eq_false fun h => H1.out h.1).symm

/-! ### The reference's own -/

set_option maxHeartbeats 400000 in
/-- THE WALK: billetref03.between. -/
theorem between_any (r a b : Nat) (w : World) :
    Calls Tryz.prog 122 #[.int .i32 r, .int .i32 a, .int .i32 b] w fun e w' => e = .returned (.bool (btw a r b)) ∧ w = w' := by
  by_cases h1 : a ≤ r
  · by_cases h2 : r ≤ b
    · have H := Lib.hid (show btw a r b = true by simp [btw, h1, h2])
      go_enter Tryz.func122, Tryz.ntmps122
      go_wp2
      go_ret
      exact ⟨ret_bool H.out.symm, rfl⟩
    · have H := Lib.hid (show btw a r b = false by simp [btw, h2])
      go_enter Tryz.func122, Tryz.ntmps122
      go_wp2
      go_ret
      exact ⟨ret_bool H.out.symm, rfl⟩
  · have H := Lib.hid (show btw a r b = false by simp [btw, h1])
    go_enter Tryz.func122, Tryz.ntmps122
    go_wp2
    go_ret
    exact ⟨ret_bool H.out.symm, rfl⟩

set_option maxHeartbeats 400000 in
/-- THE WALK: billetref03.small. -/
theorem rsmall_any (r : Nat) (w : World) (hr : r < 1114112) :
    Calls Tryz.prog 121 #[.int .i32 r] w fun e w' => e = .returned (.bool (smallN r)) ∧ w = w' := by
  rcases Bool.eq_false_or_eq_true (btw 97 r 122) with b0 | b0
  · have H := Lib.hid (show smallN r = true from by simp only [smallN_rows, b0]; rfl)
    go_enter Tryz.func121, Tryz.ntmps121
    go_wp2_with (go_at_call 122; refine (between_any _ _ _ _).mono ?_; rintro e w' ⟨rfl, rfl⟩)
    go_ret
    exact ⟨ret_bool H.out.symm, rfl⟩
  · rcases Bool.eq_false_or_eq_true (btw 224 r 254) with b1 | b1
    · rcases Bool.eq_false_or_eq_true (decide (r ≠ 247)) with n1 | n1
      · have m1 : ((r : Int) != (247 : Int)) = true := by have := of_decide_eq_true n1; rw [bne_iff_ne]; omega
        have H := Lib.hid (show smallN r = true from by simp only [smallN_rows, b0, b1, n1]; rfl)
        go_enter Tryz.func121, Tryz.ntmps121
        go_wp2_with (go_at_call 122; refine (between_any _ _ _ _).mono ?_; rintro e w' ⟨rfl, rfl⟩)
        go_ret
        exact ⟨ret_bool H.out.symm, rfl⟩
      · have m1 : ((r : Int) != (247 : Int)) = false := by have := of_decide_eq_false n1; simp at this; simp [this]
        have b2 : btw 945 r 969 = false := by have := of_decide_eq_false n1; simp at this; subst this; decide
        have b3 : btw 1072 r 1103 = false := by have := of_decide_eq_false n1; simp at this; subst this; decide
        have H := Lib.hid (show smallN r = false from by simp only [smallN_rows, b0, b1, n1, b2, b3]; rfl)
        go_enter Tryz.func121, Tryz.ntmps121
        go_wp2_with (go_at_call 122; refine (between_any _ _ _ _).mono ?_; rintro e w' ⟨rfl, rfl⟩)
        go_ret
        exact ⟨ret_bool H.out.symm, rfl⟩
    · rcases Bool.eq_false_or_eq_true (btw 945 r 969) with b2 | b2
      · rcases Bool.eq_false_or_eq_true (decide (r ≠ 962)) with n2 | n2
        · have m2 : ((r : Int) != (962 : Int)) = true := by have := of_decide_eq_true n2; rw [bne_iff_ne]; omega
          have H := Lib.hid (show smallN r = true from by simp only [smallN_rows, b0, b1, b2, n2]; rfl)
          go_enter Tryz.func121, Tryz.ntmps121
          go_wp2_with (go_at_call 122; refine (between_any _ _ _ _).mono ?_; rintro e w' ⟨rfl, rfl⟩)
          go_ret
          exact ⟨ret_bool H.out.symm, rfl⟩
        · have m2 : ((r : Int) != (962 : Int)) = false := by have := of_decide_eq_false n2; simp at this; simp [this]
          have b3 : btw 1072 r 1103 = false := by have := of_decide_eq_false n2; simp at this; subst this; decide
          have H := Lib.hid (show smallN r = false from by simp only [smallN_rows, b0, b1, b2, n2, b3]; rfl)
          go_enter Tryz.func121, Tryz.ntmps121
          go_wp2_with (go_at_call 122; refine (between_any _ _ _ _).mono ?_; rintro e w' ⟨rfl, rfl⟩)
          go_ret
          exact ⟨ret_bool H.out.symm, rfl⟩
      · rcases Bool.eq_false_or_eq_true (btw 1072 r 1103) with b3 | b3
        · have H := Lib.hid (show smallN r = true from by simp only [smallN_rows, b0, b1, b2, b3]; rfl)
          go_enter Tryz.func121, Tryz.ntmps121
          go_wp2_with (go_at_call 122; refine (between_any _ _ _ _).mono ?_; rintro e w' ⟨rfl, rfl⟩)
          go_ret
          exact ⟨ret_bool H.out.symm, rfl⟩
        · have H := Lib.hid (show smallN r = false from by simp only [smallN_rows, b0, b1, b2, b3]; rfl)
          go_enter Tryz.func121, Tryz.ntmps121
          go_wp2_with (go_at_call 122; refine (between_any _ _ _ _).mono ?_; rintro e w' ⟨rfl, rfl⟩)
          go_ret
          exact ⟨ret_bool H.out.symm, rfl⟩

set_option maxHeartbeats 400000 in
/-- THE WALK: billetref03.great. -/
theorem rgreat_any (r : Nat) (w : World) (hr : r < 1114112) :
    Calls Tryz.prog 123 #[.int .i32 r] w fun e w' => e = .returned (.bool (greatN r)) ∧ w = w' := by
  rcases Bool.eq_false_or_eq_true (btw 65 r 90) with b0 | b0
  · have H := Lib.hid (show greatN r = true from by simp only [greatN_rows, b0]; rfl)
    go_enter Tryz.func123, Tryz.ntmps123
    go_wp2_with (go_at_call 122; refine (between_any _ _ _ _).mono ?_; rintro e w' ⟨rfl, rfl⟩)
    go_ret
    exact ⟨ret_bool H.out.symm, rfl⟩
  · rcases Bool.eq_false_or_eq_true (btw 192 r 222) with b1 | b1
    · rcases Bool.eq_false_or_eq_true (decide (r ≠ 215)) with n1 | n1
      · have m1 : ((r : Int) != (215 : Int)) = true := by have := of_decide_eq_true n1; rw [bne_iff_ne]; omega
        have H := Lib.hid (show greatN r = true from by simp only [greatN_rows, b0, b1, n1]; rfl)
        go_enter Tryz.func123, Tryz.ntmps123
        go_wp2_with (go_at_call 122; refine (between_any _ _ _ _).mono ?_; rintro e w' ⟨rfl, rfl⟩)
        go_ret
        exact ⟨ret_bool H.out.symm, rfl⟩
      · have m1 : ((r : Int) != (215 : Int)) = false := by have := of_decide_eq_false n1; simp at this; simp [this]
        have b2 : btw 913 r 937 = false := by have := of_decide_eq_false n1; simp at this; subst this; decide
        have b3 : btw 1040 r 1071 = false := by have := of_decide_eq_false n1; simp at this; subst this; decide
        have H := Lib.hid (show greatN r = false from by simp only [greatN_rows, b0, b1, n1, b2, b3]; rfl)
        go_enter Tryz.func123, Tryz.ntmps123
        go_wp2_with (go_at_call 122; refine (between_any _ _ _ _).mono ?_; rintro e w' ⟨rfl, rfl⟩)
        go_ret
        exact ⟨ret_bool H.out.symm, rfl⟩
    · rcases Bool.eq_false_or_eq_true (btw 913 r 937) with b2 | b2
      · rcases Bool.eq_false_or_eq_true (decide (r ≠ 930)) with n2 | n2
        · have m2 : ((r : Int) != (930 : Int)) = true := by have := of_decide_eq_true n2; rw [bne_iff_ne]; omega
          have H := Lib.hid (show greatN r = true from by simp only [greatN_rows, b0, b1, b2, n2]; rfl)
          go_enter Tryz.func123, Tryz.ntmps123
          go_wp2_with (go_at_call 122; refine (between_any _ _ _ _).mono ?_; rintro e w' ⟨rfl, rfl⟩)
          go_ret
          exact ⟨ret_bool H.out.symm, rfl⟩
        · have m2 : ((r : Int) != (930 : Int)) = false := by have := of_decide_eq_false n2; simp at this; simp [this]
          have b3 : btw 1040 r 1071 = false := by have := of_decide_eq_false n2; simp at this; subst this; decide
          have H := Lib.hid (show greatN r = false from by simp only [greatN_rows, b0, b1, b2, n2, b3]; rfl)
          go_enter Tryz.func123, Tryz.ntmps123
          go_wp2_with (go_at_call 122; refine (between_any _ _ _ _).mono ?_; rintro e w' ⟨rfl, rfl⟩)
          go_ret
          exact ⟨ret_bool H.out.symm, rfl⟩
      · rcases Bool.eq_false_or_eq_true (btw 1040 r 1071) with b3 | b3
        · have H := Lib.hid (show greatN r = true from by simp only [greatN_rows, b0, b1, b2, b3]; rfl)
          go_enter Tryz.func123, Tryz.ntmps123
          go_wp2_with (go_at_call 122; refine (between_any _ _ _ _).mono ?_; rintro e w' ⟨rfl, rfl⟩)
          go_ret
          exact ⟨ret_bool H.out.symm, rfl⟩
        · have H := Lib.hid (show greatN r = false from by simp only [greatN_rows, b0, b1, b2, b3]; rfl)
          go_enter Tryz.func123, Tryz.ntmps123
          go_wp2_with (go_at_call 122; refine (between_any _ _ _ _).mono ?_; rintro e w' ⟨rfl, rfl⟩)
          go_ret
          exact ⟨ret_bool H.out.symm, rfl⟩

end Go.Proofs.YtdbjihkgafhakaaGreatDoor
