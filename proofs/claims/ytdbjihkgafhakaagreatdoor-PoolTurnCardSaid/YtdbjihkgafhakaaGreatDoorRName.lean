/-
  billetref03.Name: a text is a name just if 'nameB' says so.
-/
import Derived.Test.YtdbjihkgafhakaaGreatDoorNames
namespace Go.Proofs.YtdbjihkgafhakaaGreatDoor
open Go.RowKit

theorem info_i32 : (Tryz.prog.info? 21).map (fun i => (i.zero, i.size, i.bytes)) = some (some (.int .i32 0), 1, 4) := by kernel_rfl

set_option maxHeartbeats 400000 in
/-- THE WALK: billetref03.Kind. -/
theorem rkind_any (r : Nat) (w : World) (hr : r < 1114112) :
    Calls Tryz.prog 100 #[.int .i32 r] w fun e w' => e = .returned (.int .i64 (kindN r : Nat)) ∧ w = w' := by
  rcases Bool.eq_false_or_eq_true (smallN r) with h1 | h1
  · have H := Lib.hid (show kindN r = 1 from kindN_small h1)
    go_enter Tryz.func100, Tryz.ntmps100
    go_wp2_with (go_at_call 121; refine (rsmall_any _ _ hr).mono ?_; rintro e w' ⟨rfl, rfl⟩)
    go_ret
    exact ⟨ret_int (by rw [H.out]; rfl), rfl⟩
  · rcases Bool.eq_false_or_eq_true (btw 48 r 57) with h2 | h2
    · have h2' : 48 ≤ r ∧ r ≤ 57 := by simpa [btw] using h2
      have H := Lib.hid (show kindN r = 2 from kindN_digit h1 h2')
      clear h2'
      go_enter Tryz.func100, Tryz.ntmps100
      go_wp2_with (first | (go_at_call 121; refine (rsmall_any _ _ hr).mono ?_; rintro e w' ⟨rfl, rfl⟩) | (go_at_call 122; refine (between_any _ _ _ _).mono ?_; rintro e w' ⟨rfl, rfl⟩))
      go_ret
      exact ⟨ret_int (by rw [H.out]; rfl), rfl⟩
    · have h2' : ¬ (48 ≤ r ∧ r ≤ 57) := by simpa [btw] using h2
      by_cases h3 : r = 45 ∨ r = 46
      · have H := Lib.hid (show kindN r = 3 from kindN_sign h1 h2' h3)
        clear h2'
        rcases h3 with rfl | rfl
        · go_enter Tryz.func100, Tryz.ntmps100
          go_wp2_with (first | (go_at_call 121; refine (rsmall_any 45 _ hr).mono ?_; rintro e w' ⟨rfl, rfl⟩) | (go_at_call 122; refine (between_any 45 48 57 _).mono ?_; rintro e w' ⟨rfl, rfl⟩))
          go_ret
          exact ⟨ret_int (by rw [H.out]; rfl), rfl⟩
        · go_enter Tryz.func100, Tryz.ntmps100
          go_wp2_with (first | (go_at_call 121; refine (rsmall_any 46 _ hr).mono ?_; rintro e w' ⟨rfl, rfl⟩) | (go_at_call 122; refine (between_any 46 48 57 _).mono ?_; rintro e w' ⟨rfl, rfl⟩))
          go_ret
          exact ⟨ret_int (by rw [H.out]; rfl), rfl⟩
      · have e5 : ((r : Int) == 45) = false := beq_eq_false_iff_ne.2 (by omega)
        have e6 : ((r : Int) == 46) = false := beq_eq_false_iff_ne.2 (by omega)
        rcases Bool.eq_false_or_eq_true (greatN r) with h4 | h4
        · have H := Lib.hid (show kindN r = 4 from kindN_great h1 h2' h3 h4)
          clear h2' h3
          go_enter Tryz.func100, Tryz.ntmps100
          go_wp2_with (first | (go_at_call 121; refine (rsmall_any _ _ hr).mono ?_; rintro e w' ⟨rfl, rfl⟩) | (go_at_call 122; refine (between_any _ _ _ _).mono ?_; rintro e w' ⟨rfl, rfl⟩) | (go_at_call 123; refine (rgreat_any _ _ hr).mono ?_; rintro e w' ⟨rfl, rfl⟩))
          go_ret
          exact ⟨ret_int (by rw [H.out]; rfl), rfl⟩
        · have H := Lib.hid (show kindN r = 0 from kindN_other h1 h2' h3 h4)
          clear h2' h3
          go_enter Tryz.func100, Tryz.ntmps100
          go_wp2_with (first | (go_at_call 121; refine (rsmall_any _ _ hr).mono ?_; rintro e w' ⟨rfl, rfl⟩) | (go_at_call 122; refine (between_any _ _ _ _).mono ?_; rintro e w' ⟨rfl, rfl⟩) | (go_at_call 123; refine (rgreat_any _ _ hr).mono ?_; rintro e w' ⟨rfl, rfl⟩))
          go_ret
          exact ⟨ret_int (by rw [H.out]; rfl), rfl⟩

theorem kindN_le (r : Nat) : kindN r ≤ 4 := by
  unfold kindN
  (repeat' split) <;> omega

/-- A rune's cell. -/
def rv (r : Nat) : Value := .int .i32 (r : Int)

set_option maxHeartbeats 1000000 in
/-- THE WALK: billetref03.Runes. -/
theorem rrunes_any (s : ByteArray) (w : World) (hs : s.size ≤ 1000) :
    Calls Tryz.prog 99 #[.string s] w fun e w' => ∃ v, e = .returned v ∧ w'.ownsRow w.heap.size 21 1 v (runes s).length ((runes s).map rv) ∧ Below w.heap.size w w' := by
  go_enter Tryz.func99, Tryz.ntmps99
  go_wp2
  go_loopw [3] (fun v wr => ∃ (pos f : Nat) (l : List Nat), l ++ runesF s f pos = runes s ∧ s.size ≤ pos + f ∧ l.length ≤ pos ∧ pos ≤ s.size + 4 ∧ wr.ownsRow w.heap.size 21 1 v l.length (l.map rv) ∧ wr.heap[w.heap.size + 1]? = some (.stringIter s pos) ∧ Below w.heap.size w wr)
    (fun _ wr => s.size - wr.iterPos (w.heap.size + 1))
  case atStart =>
    refine ⟨0, s.size, [], rfl, by omega, by simp, by omega, ?_, ?_, ((Below.refl _ _).alloc (Nat.le_refl _) _).alloc (by simp) _⟩
    · exact (World.ownsRow_made w #[] 0 (Nat.le_refl _) (by decide) rfl).alloc _
    · have := World.iter_heap (w.alloc (.cells #[] 21)) s 0
      simpa using this
  case round =>
    obtain ⟨pos, f, l, hl, hf, hlp, hp4, how, hit, hb⟩ := hrel
    have HL := Lib.hid hl; clear hl
    have HO := Lib.hid how; clear how
    by_cases hp : pos < s.size
    · have hnx := fun ty => Lib.run_next_any_at (P := Tryz.prog) wr (w.heap.size + 1) s pos ty hit hp
      obtain ⟨g, rfl, hg⟩ := runesF_more s f pos hp hf
      have HG := Lib.hid hg; clear hg
      obtain ⟨hd1, hd2, _⟩ := decode_small s pos
      have hdw : (Utf8.decode s pos).2 ≤ 4 := decode_width s pos
      have hb1 : Below w.heap.size w (wr.iterAt (w.heap.size + 1) s (pos + (Utf8.decode s pos).2)) := Lib.below_iterAt hb (by omega) _ _
      have hit1 : (wr.iterAt (w.heap.size + 1) s (pos + (Utf8.decode s pos).2)).heap[w.heap.size + 1]? = some (.stringIter s (pos + (Utf8.decode s pos).2)) := Lib.iterAt_heap _ _ _ _ _ hit
      have HB1 := Lib.hid hb1; clear hb1
      have HI1 := Lib.hid hit1; clear hit1
      have HO1 := Lib.hid (own_iterAt HO.out hit (pos + (Utf8.decode s pos).2))
      go_wp2_with (at_builtin; go_must (refine wpList_append_one rfl _ _ 185 rfl w.heap.size (.int .i32 0) 4 Tryz.underlying185 info_i32 rfl _ _ _ rfl HO1.out rfl rfl HB1.out.size (by omega) (by omega) ?_); intro v' w1 how1 hg _)
      have HO2 := Lib.hid how1; clear how1
      have HB2 := Lib.hid (HB1.out.grown hg HB1.out.size (fun k hk => (HO1.out.lt k hk).1))
      have HI2 := Lib.hid ((hg.block (w.heap.size + 1) (Array.getElem?_eq_some_iff.1 HI1.out).1 (own_ne_iter HO1.out HI1.out)).trans HI1.out)
      clear hg hnx
      go_wp2
      go_roundw
      case rel =>
        refine ⟨pos + (Utf8.decode s pos).2, g, l ++ [(Utf8.decode s pos).1], by rw [List.append_assoc, List.singleton_append, ← HG.out, HL.out], by omega, by simp; omega, by omega, ?_, HI2.out, HB2.out⟩
        have := HO2.out
        simpa [rv] using this
      case measure =>
        rw [iterPos_of HI2.out, iterPos_of hit]
        omega
    · have hnx := fun ty => Lib.run_next_end_at (P := Tryz.prog) wr (w.heap.size + 1) s pos ty hit hp
      have HE := Lib.hid (show l = runes s by rw [← HL.out, runesF_end s f pos hp, List.append_nil])
      go_wp2_with fail
      go_ret
      exact ⟨_, rfl, by rw [← HE.out]; exact HO.out, hb⟩

theorem nameB_none {s : ByteArray} {i : Nat} {r : Nat} (h : (runes s)[i]? = some r) (hr : okR r = false) : nameB s = false := by
  unfold nameB
  have : (runes s).all okR = false := by
    rw [List.all_eq_false]
    exact ⟨r, List.mem_of_getElem? h, by simp [hr]⟩
  rw [this]
  rfl
theorem nameB_whole {s : ByteArray} (h : ∀ (i r : Nat), (runes s)[i]? = some r → okR r = true) : nameB s = decide (1 ≤ (runes s).length ∧ (runes s).length ≤ 16) := by
  unfold nameB
  have : (runes s).all okR = true := by
    rw [List.all_eq_true]
    intro r hr
    obtain ⟨i, hi, rfl⟩ := List.getElem_of_mem hr
    exact h i _ (List.getElem?_eq_getElem hi)
  rw [this]
  rfl
theorem runesF_lt (s : ByteArray) : ∀ f pos, ∀ r ∈ runesF s f pos, r < 1114112
  | 0, _, r, h => by simp [runesF] at h
  | f + 1, pos, r, h => by
    unfold runesF at h
    split at h
    · rcases List.mem_cons.1 h with rfl | h
      · exact (decode_small s pos).1
      · exact runesF_lt s f _ r h
    · cases h
theorem runesF_len (s : ByteArray) : ∀ f pos, (runesF s f pos).length ≤ f
  | 0, _ => by simp [runesF]
  | f + 1, pos => by
    unfold runesF
    split
    · simp; exact runesF_len s f _
    · simp

set_option maxHeartbeats 1000000 in
/-- THE WALK: billetref03.Name. -/
theorem rname_any (s : ByteArray) (w : World) (hs : s.size ≤ 140737488351232) :
    Calls Tryz.prog 70 #[.string s] w fun e w' => e = .returned (.bool (nameB s)) ∧ Below w.heap.size w w' := by
  by_cases hl : 100 < s.size
  · have H := Lib.hid (show nameB s = false by
      rcases Bool.eq_false_or_eq_true (nameB s) with h | h
      · have := nameB_size h; omega
      · exact h)
    go_enter Tryz.func70, Tryz.ntmps70
    go_wp2
    go_ret
    exact ⟨ret_bool H.out.symm, Below.refl _ _⟩
  · have hN := runesF_len s s.size 0
    have hN2 : (runes s).length ≤ s.size := hN
    clear hN
    go_enter Tryz.func70, Tryz.ntmps70
    go_wp2_with fail
    refine (rrunes_any s _ (by omega)).mono ?_
    rintro e w1 ⟨v, rfl, how, hb⟩
    obtain ⟨a, cap, rfl, hlen, hcell⟩ := own_read how
    clear how hlen
    have HC := Lib.hid hcell; clear hcell
    go_wp2
    go_loopw [4] (fun i wr => ∃ k : Nat, k ≤ (runes s).length ∧ i = .int .i64 k ∧ (∀ j r, j < k → (runes s)[j]? = some r → okR r = true) ∧ w1 = wr) (fun i _ => (runes s).length - (intOf i).toNat)
    case atStart => exact ⟨0, by omega, rfl, fun j r hj => by omega, rfl⟩
    case round =>
      obtain ⟨k, hk, rfl, hno, rfl⟩ := hrel
      have HN := Lib.hid hno; clear hno
      by_cases hlt : k < (runes s).length
      · obtain ⟨g, rfl, hg, hcl⟩ := HC.out k (rv ((runes s)[k])) (by rw [List.getElem?_map, List.getElem?_eq_getElem hlt]; rfl)
        have hrl := runesF_lt s s.size 0 _ (List.getElem_mem hlt)
        have HR := Lib.hid (List.getElem?_eq_getElem hlt)
        have hcl' : w1.cell? ⟨g, k, none⟩ = some (.int .i32 ((runes s)[k] : Nat)) := hcl
        clear hcl
        change (runes s)[k] < 1114112 at hrl
        generalize (runes s)[k] = r at *
        go_wp2_with fail
        refine (rkind_any _ _ hrl).mono ?_
        rintro e w2 ⟨rfl, rfl⟩
        by_cases h0 : kindN r = 0
        · have HF := Lib.hid (nameB_none HR.out (by simp [okR, h0]))
          rw [h0]
          clear h0
          go_wp2
          go_ret
          exact ⟨ret_bool HF.out.symm, hb⟩
        · by_cases h4 : kindN r = 4
          · have HF := Lib.hid (nameB_none HR.out (by simp [okR, h4]))
            rw [h4]
            clear h0 h4
            go_wp2
            go_ret
            exact ⟨ret_bool HF.out.symm, hb⟩
          · have HF := Lib.hid (show okR r = true by simp [okR, h0, h4])
            have h3 : kindN r ≤ 3 := by have := kindN_le r; omega
            generalize hkk : kindN r = K at *
            clear hkk
            go_wp2
            go_roundw
            case rel =>
              refine ⟨k + 1, by omega, by go_num, fun j r' hj hr' => ?_, trivial⟩
              rcases Nat.lt_or_ge j k with h | h
              · exact HN.out j r' h hr'
              · obtain rfl : j = k := by omega
                rw [HR.out] at hr'
                obtain rfl := Option.some.inj hr'
                exact HF.out
            case measure => simp [intOf]; omega
      · have HE := Lib.hid (nameB_whole (s := s) (fun i r hr => HN.out i r (by
          rcases Nat.lt_or_ge i k with h | h
          · exact h
          · rw [List.getElem?_eq_none (by omega)] at hr; cases hr) hr))
        by_cases h1 : 1 ≤ (runes s).length
        · go_wp2_with fail
          go_ret
          refine ⟨ret_bool ?_, hb⟩
          rw [HE.out, Bool.eq_iff_iff]
          simp only [decide_eq_true_eq]
          omega
        · have H1 := Lib.hid h1
          go_wp2_with fail
          go_ret
          refine ⟨ret_bool ?_, hb⟩
          rw [HE.out]
          exact (decide_eq_false fun h => H1.out h.1).symm

end Go.Proofs.YtdbjihkgafhakaaGreatDoor
