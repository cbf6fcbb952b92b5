/-
  billetref04.Match: the walk.
-/
import Derived.Test.YtdbjihkgafhakaaGreatDoorMatch2
namespace Go.Proofs.YtdbjihkgafhakaaGreatDoor
open Go.RowKit

theorem findV_eq {l : List Pr} {k : ByteArray} {q : Pr} (h : l.find? (keyB k) = some q) : findV l k = q.2 := (find_some h).1
set_option maxRecDepth 100000 in
set_option maxHeartbeats 1000000 in
theorem rmatch_bad1 (s t : ByteArray) (w : World) (hs : s.size ≤ 1048576) (ht : t.size ≤ 1048576) (h0 : canonE s ≠ 0) :
    Calls Tryz.prog 15 #[.string s, .string t] w fun e w' => e = .returned (.bool (matchP s t)) ∧ Below w.heap.size w w' := by
  have HV := Lib.hid (show matchP s t = false by unfold matchP; simp [h0])
  have hne : (canonE s != 0) = true := by rw [bne_iff_ne]; exact h0
  have HE1 := Lib.hid (show (parseP s).2 = canonE s from rfl)
  have HE2 := Lib.hid (show (parseP t).2 = canonE t from rfl)
  clear h0
  go_enter Tryz.func15, Tryz.ntmps15
  go_wp2_with fail
  refine (rparse_any s _ hs).mono ?_
  rintro e w1 ⟨v1, rfl, hown1, hb1⟩
  rw [HE1.out]
  have HB1 := Lib.hid hb1
  clear hb1 hown1
  go_wp2_with fail
  refine (rparse_any t _ ht).mono ?_
  rintro e w2 ⟨v2, rfl, hown2, hb2⟩
  rw [HE2.out]
  have HB2 := Lib.hid (HB1.out.trans (hb2.mono HB1.out.size))
  clear hb2 hown2
  go_wp2
  go_ret
  rw [HV.out]
  exact ⟨rfl, HB2.out⟩
set_option maxRecDepth 100000 in
set_option maxHeartbeats 1000000 in
theorem rmatch_bad2 (s t : ByteArray) (w : World) (hs : s.size ≤ 1048576) (ht : t.size ≤ 1048576) (h0 : canonE s = 0) (h1 : canonE t ≠ 0) :
    Calls Tryz.prog 15 #[.string s, .string t] w fun e w' => e = .returned (.bool (matchP s t)) ∧ Below w.heap.size w w' := by
  have HV := Lib.hid (show matchP s t = false by unfold matchP; simp [h1])
  have hne : (canonE t != 0) = true := by rw [bne_iff_ne]; exact h1
  have HE1 := Lib.hid (show (parseP s).2 = 0 from h0)
  have HE2 := Lib.hid (show (parseP t).2 = canonE t from rfl)
  clear h0 h1
  go_enter Tryz.func15, Tryz.ntmps15
  go_wp2_with fail
  refine (rparse_any s _ hs).mono ?_
  rintro e w1 ⟨v1, rfl, hown1, hb1⟩
  rw [HE1.out]
  have HB1 := Lib.hid hb1
  clear hb1 hown1
  go_wp2_with fail
  refine (rparse_any t _ ht).mono ?_
  rintro e w2 ⟨v2, rfl, hown2, hb2⟩
  rw [HE2.out]
  have HB2 := Lib.hid (HB1.out.trans (hb2.mono HB1.out.size))
  clear hb2 hown2
  go_wp2
  go_ret
  rw [HV.out]
  exact ⟨rfl, HB2.out⟩

set_option maxRecDepth 100000 in
set_option maxHeartbeats 2000000 in
/-- THE WALK: billetref04.Match, where both are platforms. -/
theorem rmatch_good (s t : ByteArray) (w : World) (hs : s.size ≤ 1048576) (ht : t.size ≤ 1048576) (h0 : canonE s = 0) (h1 : canonE t = 0) :
    Calls Tryz.prog 15 #[.string s, .string t] w fun e w' => e = .returned (.bool (matchP s t)) ∧ Below w.heap.size w w' := by
  have HM2 := Lib.hid (modest_parse ht)
  have h6 := parseP_len s
  have h7 := parseP_len t
  have HV := Lib.hid (show matchP s t = (parseP t).1.all (okNeed (parseP s).1) by unfold matchP; simp [h0, h1])
  have HE1 := Lib.hid (show (parseP s).2 = 0 from h0)
  have HE2 := Lib.hid (show (parseP t).2 = 0 from h1)
  clear h0 h1
  go_enter Tryz.func15, Tryz.ntmps15
  go_wp2_with fail
  refine (rparse_any s _ hs).mono ?_
  rintro e w1 ⟨v1, rfl, hown1, hb1⟩
  rw [HE1.out]
  have HB1 := Lib.hid hb1
  have HO1 := Lib.hid hown1
  clear hb1 hown1
  go_wp2_with fail
  refine (rparse_any t _ ht).mono ?_
  rintro e w2 ⟨v2, rfl, hown2, hb2⟩
  rw [HE2.out]
  have HB2 := Lib.hid (HB1.out.trans (hb2.mono HB1.out.size))
  have HA1 := Lib.hid ((pairsAt_own HO1.out).below hb2)
  have HA2 := Lib.hid (pairsAt_own hown2)
  clear hb2 hown2 HO1
  generalize hl1 : (parseP s).1 = l1 at *
  generalize hl2 : (parseP t).1 = l2 at *
  clear hl1 hl2
  obtain ⟨a1, cap1, rfl, hcap1, hmax1, hcell1⟩ := id HA1.out
  obtain ⟨a2, cap2, rfl, hcap2, hmax2, hcell2⟩ := id HA2.out
  have HC2 := Lib.hid hcell2
  clear hcell1 hcell2
  go_wp2_with fail
  go_loop [9] (fun i => ∃ k : Nat, i = .int .i64 k ∧ k ≤ l2.length ∧ (l2.take k).all (okNeed l1) = true) (fun i => l2.length - (intOf i).toNat)
  case atStart => exact ⟨0, rfl, Nat.zero_le _, by simp⟩
  case round =>
    obtain ⟨k, rfl, hk2, hall⟩ := hrel
    have HA := Lib.hid hall
    clear hall
    by_cases hlt : k < l2.length
    · obtain ⟨p, hp⟩ : ∃ p, l2[k]? = some p := ⟨_, List.getElem?_eq_getElem hlt⟩
      obtain ⟨g, rfl, hgl, c0⟩ := HC2.out (k * 2) (.string p.1) (by have := flatP_get 0 hp (by omega); simpa [encP] using this)
      obtain ⟨g', hg', -, c1⟩ := HC2.out (k * 2 + 1) (.string p.2) (by have := flatP_get 1 hp (by omega); simpa [encP] using this)
      cases hg'
      obtain ⟨hs0, hs1⟩ := pairsAt_sizes HM2.out hp
      have HQ := Lib.hid hp
      clear hp
      go_wp2_with fail
      refine (rfind_any _ l1 p.1 _ HA1.out).mono ?_
      rintro e w5 ⟨rfl, rfl⟩
      rcases hh : hasKey l1 p.1 with _ | _
      · have HF := Lib.hid (all_bad HQ.out (okNeed_none hh))
        go_wp2
        go_ret
        rw [HV.out, HF.out]
        exact ⟨rfl, HB2.out⟩
      · obtain ⟨q, hq, hok⟩ := okNeed_some hh
        have HK := Lib.hid (findV_eq hq)
        have e1 : (q.2.data.toList == p.2.data.toList) = (q.2.toList == p.2.toList) := by rw [ByteArray.toList_eq, ByteArray.toList_eq]
        have e2 : (q.2.data.toList == [42]) = (q.2.toList == [42]) := by rw [ByteArray.toList_eq]
        have e3 : (p.2.data.toList == [42]) = (p.2.toList == [42]) := by rw [ByteArray.toList_eq]
        rw [e1, e2, e3] at hok
        have HOK := Lib.hid hok
        rw [HK.out]
        clear e1 e2 e3 hok hq
        rcases b1 : (q.2.toList == p.2.toList) with _ | _
        · rcases b2 : (q.2.toList == [42]) with _ | _
          · rcases b3 : (p.2.toList == [42]) with _ | _
            · have HF := Lib.hid (all_bad HQ.out (show okNeed l1 p = false by rw [HOK.out, b1, b2, b3]; rfl))
              go_wp2
              go_ret
              rw [HV.out, HF.out]
              exact ⟨rfl, HB2.out⟩
            · have HF := Lib.hid (all_take_succ HA.out HQ.out (show okNeed l1 p = true by rw [HOK.out, b1, b2, b3]; simp))
              go_wp2
              go_round
              case rel => exact ⟨k + 1, by go_num, by omega, HF.out⟩
              case measure => simp [intOf]; omega
          · have HF := Lib.hid (all_take_succ HA.out HQ.out (show okNeed l1 p = true by rw [HOK.out, b1, b2]; simp))
            go_wp2
            go_round
            case rel => exact ⟨k + 1, by go_num, by omega, HF.out⟩
            case measure => simp [intOf]; omega
        · have HF := Lib.hid (all_take_succ HA.out HQ.out (show okNeed l1 p = true by rw [HOK.out, b1]; simp))
          go_wp2
          go_round
          case rel => exact ⟨k + 1, by go_num, by omega, HF.out⟩
          case measure => simp [intOf]; omega
    · have HF := Lib.hid (show l2.all (okNeed l1) = true by have h := HA.out; rwa [List.take_of_length_le (by omega)] at h)
      go_wp2
      go_ret
      rw [HV.out, HF.out]
      exact ⟨rfl, HB2.out⟩
/-- THE WALK: billetref04.Match, whatever the texts. -/
theorem rmatch_any (s t : ByteArray) (w : World) (hs : s.size ≤ 1048576) (ht : t.size ≤ 1048576) :
    Calls Tryz.prog 15 #[.string s, .string t] w fun e w' => e = .returned (.bool (matchP s t)) ∧ Below w.heap.size w w' := by
  by_cases h0 : canonE s = 0
  · by_cases h1 : canonE t = 0
    · exact rmatch_good s t w hs ht h0 h1
    · exact rmatch_bad2 s t w hs ht h0 h1
  · exact rmatch_bad1 s t w hs ht h0
end Go.Proofs.YtdbjihkgafhakaaGreatDoor
