/-
  prop.Match and billetref04.Match, whatever the texts: the walks.
-/
import Derived.Test.YtdbjihkgafhakaaGreatDoorMatch
namespace Go.Proofs.YtdbjihkgafhakaaGreatDoor
open Go.RowKit

set_option maxRecDepth 100000 in
set_option maxHeartbeats 1000000 in
theorem match_bad1 (s t : ByteArray) (w : World) (hr : Ready w) (hs : s.size ≤ 1048576) (ht : t.size ≤ 1048576) (h0 : canonE s ≠ 0) :
    Calls Tryz.prog 36 #[.string s, .string t] w fun e w' => e = .returned (.bool (matchP s t)) ∧ Below w.heap.size w w' := by
  have HR := Lib.hid hr
  have HV := Lib.hid (show matchP s t = false by unfold matchP; simp [h0])
  have hne : (canonE s != 0) = true := by rw [bne_iff_ne]; exact h0
  have HE1 := Lib.hid (show (parseP s).2 = canonE s from rfl)
  have HE2 := Lib.hid (show (parseP t).2 = canonE t from rfl)
  clear hr h0
  go_enter Tryz.func36, Tryz.ntmps36
  go_wp2_with fail
  refine (parse_any s _ HR.out hs).mono ?_
  rintro e w1 ⟨v1, rfl, hown1, hb1⟩
  rw [HE1.out]
  have HB1 := Lib.hid hb1
  clear hb1 hown1
  go_wp2_with fail
  refine (parse_any t _ (HR.out.below HB1.out) ht).mono ?_
  rintro e w2 ⟨v2, rfl, hown2, hb2⟩
  rw [HE2.out]
  have HB2 := Lib.hid (HB1.out.trans (hb2.mono HB1.out.size))
  clear hb2 hown2
  go_wp2
  go_ret
  rw [HV.out]
  exact ⟨rfl, HB2.out⟩
set_option maxRecDepth 100000 in
set_option maxHeartbeats 1000000 in
theorem match_bad2 (s t : ByteArray) (w : World) (hr : Ready w) (hs : s.size ≤ 1048576) (ht : t.size ≤ 1048576) (h0 : canonE s = 0) (h1 : canonE t ≠ 0) :
    Calls Tryz.prog 36 #[.string s, .string t] w fun e w' => e = .returned (.bool (matchP s t)) ∧ Below w.heap.size w w' := by
  have HR := Lib.hid hr
  have HV := Lib.hid (show matchP s t = false by unfold matchP; simp [h1])
  have hne : (canonE t != 0) = true := by rw [bne_iff_ne]; exact h1
  have HE1 := Lib.hid (show (parseP s).2 = 0 from h0)
  have HE2 := Lib.hid (show (parseP t).2 = canonE t from rfl)
  clear hr h0 h1
  go_enter Tryz.func36, Tryz.ntmps36
  go_wp2_with fail
  refine (parse_any s _ HR.out hs).mono ?_
  rintro e w1 ⟨v1, rfl, hown1, hb1⟩
  rw [HE1.out]
  have HB1 := Lib.hid hb1
  clear hb1 hown1
  go_wp2_with fail
  refine (parse_any t _ (HR.out.below HB1.out) ht).mono ?_
  rintro e w2 ⟨v2, rfl, hown2, hb2⟩
  rw [HE2.out]
  have HB2 := Lib.hid (HB1.out.trans (hb2.mono HB1.out.size))
  clear hb2 hown2
  go_wp2
  go_ret
  rw [HV.out]
  exact ⟨rfl, HB2.out⟩
/-- THE WALK: prop.Match, whatever the texts. -/
theorem match_any (s t : ByteArray) (w : World) (hr : Ready w) (hs : s.size ≤ 1048576) (ht : t.size ≤ 1048576) :
    Calls Tryz.prog 36 #[.string s, .string t] w fun e w' => e = .returned (.bool (matchP s t)) ∧ Below w.heap.size w w' := by
  by_cases h0 : canonE s = 0
  · by_cases h1 : canonE t = 0
    · exact match_good s t w hr hs ht h0 h1
    · exact match_bad2 s t w hr hs ht h0 h1
  · exact match_bad1 s t w hr hs ht h0
end Go.Proofs.YtdbjihkgafhakaaGreatDoor
