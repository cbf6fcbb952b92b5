/-
  PropParses and PropMatches: the walks.
-/
import Derived.Test.YtamehgbagkkofaaDoorPSame
namespace Go.Proofs.YtamehgbagkkofaaDoor
open Go.RowKit

def TrueBelow (w : World) (e : Ending) (w' : World) : Prop := e = .returned (.bool true) ∧ Below w.heap.size w w'

set_option maxRecDepth 100000 in
set_option maxHeartbeats 1000000 in
theorem propParses_long (s : ByteArray) (w : World) (hr : Ready w) (hs : 1000 < s.size) :
    Calls Tryd.prog 3 #[.string s] w (TrueBelow w) := by
  have HR := Lib.hid hr
  clear hr
  go_enter Tryd.func3, Tryd.ntmps3
  go_wp2_with fail
  refine (live_any _ HR.out).mono ?_
  rintro e w1 ⟨rfl, hb1⟩
  go_wp2
  go_ret
  exact ⟨rfl, hb1⟩
set_option maxRecDepth 100000 in
set_option maxHeartbeats 1000000 in
theorem propParses_bad (s : ByteArray) (w : World) (hr : Ready w) (hs : s.size ≤ 1000) (h0 : canonE s ≠ 0) :
    Calls Tryd.prog 3 #[.string s] w (TrueBelow w) := by
  have HR := Lib.hid hr
  have hs' : s.size ≤ 1048576 := by omega
  have hne : (canonE s != 0) = true := by rw [bne_iff_ne]; exact h0
  have HE := Lib.hid (show (parseP s).2 = canonE s from rfl)
  clear hr h0
  go_enter Tryd.func3, Tryd.ntmps3
  go_wp2_with fail
  refine (parse_any s _ HR.out hs').mono ?_
  rintro e w1 ⟨v1, rfl, hown1, hb1⟩
  rw [HE.out]
  have HB1 := Lib.hid hb1
  have HO1 := Lib.hid hown1
  clear hb1 hown1
  go_wp2_with fail
  refine (rparse_any s _ hs').mono ?_
  rintro e w2 ⟨v2, rfl, hown2, hb2⟩
  rw [HE.out]
  have HB2 := Lib.hid (HB1.out.trans (hb2.mono HB1.out.size))
  have HA1 := Lib.hid ((pairsAt_own HO1.out).below hb2)
  have HA2 := Lib.hid (pairsAt_own hown2)
  clear hb2 hown2 HO1
  go_wp2_with fail
  refine (canon_any s _ (HR.out.below HB2.out) hs').mono ?_
  rintro e w3 ⟨rfl, hb3⟩
  have HB3 := Lib.hid (HB2.out.trans (hb3.mono HB2.out.size))
  have JA1 := Lib.hid (HA1.out.below hb3)
  have JA2 := Lib.hid (HA2.out.below hb3)
  clear hb3 HA1 HA2
  go_wp2_with fail
  refine (rcanon_any s _ hs').mono ?_
  rintro e w4 ⟨rfl, hb4⟩
  have HB4 := Lib.hid (HB3.out.trans (hb4.mono HB3.out.size))
  have KA1 := Lib.hid (JA1.out.below hb4)
  have KA2 := Lib.hid (JA2.out.below hb4)
  clear hb4 JA1 JA2
  go_wp2_with fail
  refine (num_any _ _).mono ?_
  rintro e w5 ⟨rfl, rfl⟩
  go_wp2_with fail
  refine (same_refl _ _ _ _ KA1.out KA2.out).mono ?_
  rintro e w5 ⟨rfl, hb5⟩
  have HB5 := Lib.hid (HB4.out.trans (hb5.mono HB4.out.size))
  clear hb5
  go_wp2_with fail
  refine (num_any _ _).mono ?_
  rintro e w6 ⟨rfl, rfl⟩
  go_wp2_with fail
  refine (live_any _ (HR.out.below HB5.out)).mono ?_
  rintro e w7 ⟨rfl, hb7⟩
  go_wp2
  go_ret
  exact ⟨rfl, HB5.out.trans (hb7.mono HB5.out.size)⟩
set_option maxRecDepth 100000 in
set_option maxHeartbeats 1000000 in
theorem propParses_good (s : ByteArray) (w : World) (hr : Ready w) (hs : s.size ≤ 1000) (h0 : canonE s = 0) :
    Calls Tryd.prog 3 #[.string s] w (TrueBelow w) := by
  have HR := Lib.hid hr
  have hs' : s.size ≤ 1048576 := by omega
  have HE := Lib.hid (show (parseP s).2 = 0 from h0)
  have HE2 := Lib.hid h0
  have HS := Lib.hid (show ba (showP (parseP s).1) = s by rw [show_parse (s := s) (Prod.ext rfl h0), ba_of])
  have HM := Lib.hid (modest_parse hs')
  clear hr h0
  go_enter Tryd.func3, Tryd.ntmps3
  go_wp2_with fail
  refine (parse_any s _ HR.out hs').mono ?_
  rintro e w1 ⟨v1, rfl, hown1, hb1⟩
  rw [HE.out]
  have HB1 := Lib.hid hb1
  have HO1 := Lib.hid hown1
  clear hb1 hown1
  go_wp2_with fail
  refine (rparse_any s _ hs').mono ?_
  rintro e w2 ⟨v2, rfl, hown2, hb2⟩
  rw [HE.out]
  have HB2 := Lib.hid (HB1.out.trans (hb2.mono HB1.out.size))
  have HA1 := Lib.hid ((pairsAt_own HO1.out).below hb2)
  have HA2 := Lib.hid (pairsAt_own hown2)
  clear hb2 hown2 HO1
  go_wp2_with fail
  refine (canon_any s _ (HR.out.below HB2.out) hs').mono ?_
  rintro e w3 ⟨rfl, hb3⟩
  rw [HE2.out]
  have HB3 := Lib.hid (HB2.out.trans (hb3.mono HB2.out.size))
  have JA1 := Lib.hid (HA1.out.below hb3)
  have JA2 := Lib.hid (HA2.out.below hb3)
  clear hb3 HA1 HA2
  go_wp2_with fail
  refine (rcanon_any s _ hs').mono ?_
  rintro e w4 ⟨rfl, hb4⟩
  rw [HE2.out]
  have HB4 := Lib.hid (HB3.out.trans (hb4.mono HB3.out.size))
  have KA1 := Lib.hid (JA1.out.below hb4)
  have KA2 := Lib.hid (JA2.out.below hb4)
  clear hb4 JA1 JA2
  go_wp2_with fail
  refine (num_any _ _).mono ?_
  rintro e w5 ⟨rfl, rfl⟩
  go_wp2_with fail
  refine (same_refl _ _ _ _ KA1.out KA2.out).mono ?_
  rintro e w5 ⟨rfl, hb5⟩
  have HB5 := Lib.hid (HB4.out.trans (hb5.mono HB4.out.size))
  have LA1 := Lib.hid (KA1.out.below hb5)
  clear hb5 KA1 KA2
  go_wp2_with fail
  refine (num_any _ _).mono ?_
  rintro e w6 ⟨rfl, rfl⟩
  go_wp2_with fail
  refine (show_any _ _ _ LA1.out HM.out).mono ?_
  rintro e w6 ⟨rfl, hb6⟩
  rw [HS.out]
  have HB6 := Lib.hid (HB5.out.trans (hb6.mono HB5.out.size))
  clear hb6
  go_wp2_with fail
  refine (live_any _ (HR.out.below HB6.out)).mono ?_
  rintro e w7 ⟨rfl, hb7⟩
  go_wp2
  go_ret
  exact ⟨rfl, HB6.out.trans (hb7.mono HB6.out.size)⟩
/-- THE WALK: PropParses. -/
theorem propParses_any (s : ByteArray) (w : World) (hr : Ready w) :
    Calls Tryd.prog 3 #[.string s] w (TrueBelow w) := by
  by_cases hs : 1000 < s.size
  · exact propParses_long s w hr hs
  · by_cases h0 : canonE s = 0
    · exact propParses_good s w hr (by omega) h0
    · exact propParses_bad s w hr (by omega) h0

set_option maxRecDepth 100000 in
set_option maxHeartbeats 1000000 in
theorem propMatches_long1 (s t : ByteArray) (w : World) (hr : Ready w) (hs : 1000 < s.size) :
    Calls Tryd.prog 4 #[.string s, .string t] w (TrueBelow w) := by
  have HR := Lib.hid hr
  clear hr
  go_enter Tryd.func4, Tryd.ntmps4
  go_wp2_with fail
  refine (live_any _ HR.out).mono ?_
  rintro e w1 ⟨rfl, hb1⟩
  go_wp2
  go_ret
  exact ⟨rfl, hb1⟩
set_option maxRecDepth 100000 in
set_option maxHeartbeats 1000000 in
theorem propMatches_long2 (s t : ByteArray) (w : World) (hr : Ready w) (hs : s.size ≤ 1000) (ht : 1000 < t.size) :
    Calls Tryd.prog 4 #[.string s, .string t] w (TrueBelow w) := by
  have HR := Lib.hid hr
  clear hr
  go_enter Tryd.func4, Tryd.ntmps4
  go_wp2_with fail
  refine (live_any _ HR.out).mono ?_
  rintro e w1 ⟨rfl, hb1⟩
  go_wp2
  go_ret
  exact ⟨rfl, hb1⟩
set_option maxRecDepth 100000 in
set_option maxHeartbeats 1000000 in
theorem propMatches_short (s t : ByteArray) (w : World) (hr : Ready w) (hs : s.size ≤ 1000) (ht : t.size ≤ 1000) :
    Calls Tryd.prog 4 #[.string s, .string t] w (TrueBelow w) := by
  have HR := Lib.hid hr
  have hs' : s.size ≤ 1048576 := by omega
  have ht' : t.size ≤ 1048576 := by omega
  have hee : (matchP s t == matchP s t) = true := by simp
  clear hr
  go_enter Tryd.func4, Tryd.ntmps4
  go_wp2_with fail
  refine (match_any s t _ HR.out hs' ht').mono ?_
  rintro e w1 ⟨rfl, hb1⟩
  have HB1 := Lib.hid hb1
  clear hb1
  go_wp2_with fail
  refine (rmatch_any s t _ hs' ht').mono ?_
  rintro e w2 ⟨rfl, hb2⟩
  have HB2 := Lib.hid (HB1.out.trans (hb2.mono HB1.out.size))
  clear hb2
  go_wp2_with fail
  refine (live_any _ (HR.out.below HB2.out)).mono ?_
  rintro e w3 ⟨rfl, hb3⟩
  go_wp2
  go_ret
  exact ⟨rfl, HB2.out.trans (hb3.mono HB2.out.size)⟩
/-- THE WALK: PropMatches. -/
theorem propMatches_any (s t : ByteArray) (w : World) (hr : Ready w) :
    Calls Tryd.prog 4 #[.string s, .string t] w (TrueBelow w) := by
  by_cases hs : 1000 < s.size
  · exact propMatches_long1 s t w hr hs
  · by_cases ht : 1000 < t.size
    · exact propMatches_long2 s t w hr (by omega) ht
    · exact propMatches_short s t w hr (by omega) (by omega)
end Go.Proofs.YtamehgbagkkofaaDoor
