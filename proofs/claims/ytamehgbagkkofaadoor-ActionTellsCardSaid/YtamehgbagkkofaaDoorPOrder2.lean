/-
  PropOrder: the walk.
-/
import Derived.Test.YtamehgbagkkofaaDoorPOrder
import Derived.Test.YtamehgbagkkofaaDoorPLaws
namespace Go.Proofs.YtamehgbagkkofaaDoor
open Go.RowKit

set_option maxRecDepth 100000 in
set_option maxHeartbeats 1000000 in
theorem propOrder_long1 (s t : ByteArray) (w : World) (hr : Ready w) (hs : 1000 < s.size) (hs' : s.size ≤ 1048576) :
    Calls Tryd.prog 5 #[.string s, .string t] w (TrueBelow w) := by
  have HR := Lib.hid hr
  clear hr
  go_enter Tryd.func5, Tryd.ntmps5
  go_wp2_with fail
  refine (parse_any s _ HR.out hs').mono ?_
  rintro e w1 ⟨v1, rfl, -, hb1⟩
  have HB1 := Lib.hid hb1
  clear hb1
  go_wp2_with fail
  refine (live_any _ (HR.out.below HB1.out)).mono ?_
  rintro e w2 ⟨rfl, hb2⟩
  go_wp2
  go_ret
  exact ⟨rfl, HB1.out.trans (hb2.mono HB1.out.size)⟩
set_option maxRecDepth 100000 in
set_option maxHeartbeats 1000000 in
theorem propOrder_long2 (s t : ByteArray) (w : World) (hr : Ready w) (hs : s.size ≤ 1000) (ht : 1000 < t.size) :
    Calls Tryd.prog 5 #[.string s, .string t] w (TrueBelow w) := by
  have HR := Lib.hid hr
  have hs' : s.size ≤ 1048576 := by omega
  clear hr
  go_enter Tryd.func5, Tryd.ntmps5
  go_wp2_with fail
  refine (parse_any s _ HR.out hs').mono ?_
  rintro e w1 ⟨v1, rfl, -, hb1⟩
  have HB1 := Lib.hid hb1
  clear hb1
  go_wp2_with fail
  refine (live_any _ (HR.out.below HB1.out)).mono ?_
  rintro e w2 ⟨rfl, hb2⟩
  go_wp2
  go_ret
  exact ⟨rfl, HB1.out.trans (hb2.mono HB1.out.size)⟩
set_option maxRecDepth 100000 in
set_option maxHeartbeats 1000000 in
theorem propOrder_bad (s t : ByteArray) (w : World) (hr : Ready w) (hs : s.size ≤ 1000) (ht : t.size ≤ 1000) (h0 : canonE s ≠ 0) :
    Calls Tryd.prog 5 #[.string s, .string t] w (TrueBelow w) := by
  have HR := Lib.hid hr
  have hs' : s.size ≤ 1048576 := by omega
  have hne : (canonE s != 0) = true := by rw [bne_iff_ne]; exact h0
  have HE := Lib.hid (show (parseP s).2 = canonE s from rfl)
  clear hr h0
  go_enter Tryd.func5, Tryd.ntmps5
  go_wp2_with fail
  refine (parse_any s _ HR.out hs').mono ?_
  rintro e w1 ⟨v1, rfl, -, hb1⟩
  rw [HE.out]
  have HB1 := Lib.hid hb1
  clear hb1
  go_wp2_with fail
  refine (num_any _ _).mono ?_
  rintro e w2 ⟨rfl, rfl⟩
  go_wp2_with fail
  refine (live_any _ (HR.out.below HB1.out)).mono ?_
  rintro e w2 ⟨rfl, hb2⟩
  go_wp2
  go_ret
  exact ⟨rfl, HB1.out.trans (hb2.mono HB1.out.size)⟩

theorem reverse_take {l : List Pr} {j k : Nat} {p : Pr} (h : l[j]? = some p) (hk : j + k + 1 = l.length) : l.reverse.take (k + 1) = l.reverse.take k ++ [p] := by
  refine take_snoc_of ?_
  rw [List.getElem?_reverse (by omega), show l.length - 1 - k = j by omega]
  exact h
theorem shown_small {s : ByteArray} (h : canonE s = 0) {p : Pr} (hp : p ∈ (parseP s).1) : (shown p).length ≤ s.size := by
  have hne : (parseP s).1 ≠ [] := fun e => by rw [e] at hp; cases hp
  have e := splitL_show hne (parseP_good s)
  rw [show_parse (s := s) (Prod.ext rfl h)] at e
  have := splitL_mem_le 44 s.data.toList (shown p) (by rw [e]; exact List.mem_map_of_mem hp)
  simpa using this
theorem show_small {s : ByteArray} (h : canonE s = 0) (hs : s.size ≤ 1000) {m : List Pr} (hm : m.Perm (parseP s).1) : (ba (showP m)).size ≤ 1048576 := by
  rw [ba_size]
  have h1 := join_len_le 44 1000 (m.map shown) (fun x hx => by
    obtain ⟨p, hp, rfl⟩ := List.mem_map.1 hx
    have := shown_small h (hm.mem_iff.1 hp)
    omega)
  have h2 : m.length ≤ 6 := by rw [hm.length_eq]; exact parseP_len s
  rw [List.length_map] at h1
  have h3 : m.length * (1000 + 1) ≤ 6 * 1001 := Nat.mul_le_mul h2 (Nat.le_refl _)
  unfold showP
  omega

/-- Turning the list about. -/
def BRel (l : List Pr) (w : World) (bv i : Value) (wr : World) : Prop := ∃ k : Nat, (i = .int .i64 (-1) ∧ k = l.length ∨ ∃ j : Nat, i = .int .i64 j ∧ j + k + 1 = l.length) ∧ wr.ownsRow w.heap.size 39 2 bv k (flatP (l.reverse.take k)) ∧ Below w.heap.size w wr

set_option maxRecDepth 100000 in
set_option maxHeartbeats 2000000 in
theorem propOrder_good (s t : ByteArray) (w : World) (hr : Ready w) (hs : s.size ≤ 1000) (ht : t.size ≤ 1000) (h0 : canonE s = 0) :
    Calls Tryd.prog 5 #[.string s, .string t] w (TrueBelow w) := by
  have HR := Lib.hid hr
  have hs' : s.size ≤ 1048576 := by omega
  have ht' : t.size ≤ 1048576 := by omega
  have hu' := show_small h0 hs (List.reverse_perm _)
  have hx' : (ba (canonP s)).size ≤ 1048576 := by
    have : canonP s = showP (sortP (parseP s).1) := by unfold canonP; rw [if_pos h0]
    rw [this]
    exact show_small h0 hs (sortP_perm _)
  have HE := Lib.hid (show (parseP s).2 = 0 from h0)
  have HE2 := Lib.hid h0
  have HM := Lib.hid (modest_parse hs')
  have h6 := parseP_len s
  have hxx : ((ba (canonP s)).toList == (ba (canonP s)).toList) = true := beq_self_eq_true _
  have hm1 : (matchP s t == matchP s t) = true := beq_self_eq_true _
  have hm2 : (matchP t s == matchP t s) = true := beq_self_eq_true _
  clear hr h0
  go_enter Tryd.func5, Tryd.ntmps5
  go_wp2_with fail
  refine (parse_any s _ HR.out hs').mono ?_
  rintro e w1 ⟨v1, rfl, hown1, hb1⟩
  rw [HE.out]
  have HB1 := Lib.hid hb1
  have HA1 := Lib.hid (pairsAt_own hown1)
  clear hb1 hown1
  generalize hl : (parseP s).1 = l at *
  have HL := Lib.hid hl
  clear hl
  obtain ⟨a1, cap1, rfl, hcap1, hmax1, hcell1⟩ := id HA1.out
  have HC1 := Lib.hid hcell1
  clear hcell1
  go_wp2_with fail
  refine (num_any _ _).mono ?_
  rintro e w2 ⟨rfl, rfl⟩
  go_wp2_with fail
  have hmr : Modest l.reverse := ⟨by rw [List.length_reverse]; exact HM.out.1, fun p hp => HM.out.2 p (List.mem_reverse.1 hp)⟩
  have HMR := Lib.hid hmr
  clear hmr
  go_loopw [7, 8] (fun bv i wr => BRel l w1 bv i wr) (fun _ i _ => (intOf i + 1).toNat)
  case atStart =>
    refine ⟨0, ?_, own_empty (Nat.le_refl _), box_below⟩
    rcases Nat.eq_zero_or_pos l.length with hz | hz
    · exact .inl ⟨by rw [hz]; rfl, hz.symm⟩
    · exact .inr ⟨l.length - 1, by congr 1; omega, by omega⟩
  case round =>
    obtain ⟨k, hi, hown, hb⟩ := hrel
    have HO := Lib.hid hown
    have HB := Lib.hid hb
    have hszw := hb.size
    obtain ⟨ba, bcap, rfl, hbc, hbm, -, -⟩ := own_cells hown
    clear hown hb
    rcases hi with ⟨rfl, rfl⟩ | ⟨j, rfl, hj⟩
    · have HO2 := Lib.hid (show wr.ownsRow w1.heap.size 39 2 (.slice ba l.length bcap) l.reverse.length (flatP l.reverse) by have h := HO.out; rw [List.take_of_length_le (by rw [List.length_reverse]; exact Nat.le_refl _)] at h; rw [List.length_reverse]; exact h)
      clear HO
      have HBT := Lib.hid (HB1.out.trans (HB.out.mono HB1.out.size))
      have HCB := Lib.hid (canon_back (s := s) HE2.out)
      have HCT := Lib.hid (canon_twice (s := s) HE2.out)
      have HMB := Lib.hid (match_back (s := s) t HE2.out)
      have HMC := Lib.hid (match_canon (s := s) t HE2.out)
      have HMS := Lib.hid (match_self (s := s) HE2.out)
      go_wp2_with fail
      refine (show_any _ l.reverse _ (pairsAt_own HO2.out) HMR.out).mono ?_
      rintro e w3 ⟨rfl, hb3⟩
      have HB3 := Lib.hid (HBT.out.trans (hb3.mono HBT.out.size))
      clear hb3
      go_wp2_with fail
      refine (canon_any s _ (HR.out.below HB3.out) hs').mono ?_
      rintro e w4 ⟨rfl, hb4⟩
      rw [HE2.out]
      have HB4 := Lib.hid (HB3.out.trans (hb4.mono HB3.out.size))
      clear hb4
      go_wp2_with fail
      rw [← HL.out] at hu' ⊢
      refine (canon_any _ _ (HR.out.below HB4.out) hu').mono ?_
      rintro e w5 ⟨rfl, hb5⟩
      rw [HCB.out.1, HCB.out.2]
      have HB5 := Lib.hid (HB4.out.trans (hb5.mono HB4.out.size))
      clear hb5
      go_wp2_with fail
      refine (canon_any _ _ (HR.out.below HB5.out) hx').mono ?_
      rintro e w6 ⟨rfl, hb6⟩
      rw [HCT.out.1, HCT.out.2]
      have HB6 := Lib.hid (HB5.out.trans (hb6.mono HB5.out.size))
      clear hb6
      go_wp2_with fail
      refine (num_any _ _).mono ?_
      rintro e w7 ⟨rfl, rfl⟩
      go_wp2_with fail
      refine (num_any _ _).mono ?_
      rintro e w7 ⟨rfl, rfl⟩
      go_wp2_with fail
      refine (num_any _ _).mono ?_
      rintro e w7 ⟨rfl, rfl⟩
      go_wp2_with fail
      refine (match_any s t _ (HR.out.below HB6.out) hs' ht').mono ?_
      rintro e w7 ⟨rfl, hb7⟩
      have HB7 := Lib.hid (HB6.out.trans (hb7.mono HB6.out.size))
      clear hb7
      go_wp2_with fail
      refine (match_any _ t _ (HR.out.below HB7.out) hu' ht').mono ?_
      rintro e w8 ⟨rfl, hb8⟩
      rw [HMB.out]
      have HB8 := Lib.hid (HB7.out.trans (hb8.mono HB7.out.size))
      clear hb8
      go_wp2_with fail
      refine (match_any t s _ (HR.out.below HB8.out) ht' hs').mono ?_
      rintro e w9 ⟨rfl, hb9⟩
      have HB9 := Lib.hid (HB8.out.trans (hb9.mono HB8.out.size))
      clear hb9
      go_wp2_with fail
      refine (match_any t _ _ (HR.out.below HB9.out) ht' hx').mono ?_
      rintro e w10 ⟨rfl, hb10⟩
      rw [HMC.out]
      have HB10 := Lib.hid (HB9.out.trans (hb10.mono HB9.out.size))
      clear hb10
      go_wp2_with fail
      refine (match_any s s _ (HR.out.below HB10.out) hs' hs').mono ?_
      rintro e w11 ⟨rfl, hb11⟩
      rw [HMS.out]
      have HB11 := Lib.hid (HB10.out.trans (hb11.mono HB10.out.size))
      clear hb11
      go_wp2_with fail
      refine (live_any _ (HR.out.below HB11.out)).mono ?_
      rintro e w12 ⟨rfl, hb12⟩
      go_wp2
      go_ret
      exact ⟨rfl, HB11.out.trans (hb12.mono HB11.out.size)⟩
    · obtain ⟨q, hq⟩ : ∃ q, l[j]? = some q := ⟨_, List.getElem?_eq_getElem (by omega)⟩
      obtain ⟨g, rfl, hgl, c0⟩ := HC1.out (j * 2) (.string q.1) (by have := flatP_get 0 hq (by omega); simpa [encP] using this)
      obtain ⟨g', hg', -, c1⟩ := HC1.out (j * 2 + 1) (.string q.2) (by have := flatP_get 1 hq (by omega); simpa [encP] using this)
      cases hg'
      have d0 := cell_below HB.out c0
      have d1 := cell_below HB.out c1
      have HQ := Lib.hid (reverse_take hq hj)
      clear hq c0 c1
      go_wp2_with (at_builtin; refine wpList_append_at rfl _ _ 23 rfl w1.heap.size _ 2 32 Tryd.underlying23 pair_info rfl (by decide) (.slice ba k bcap) k (flatP (l.reverse.take k)) rfl HO.out rfl rfl ?c1 ?c2 ?c3 ?c4 ?_; (case c1 => exact encP_one q); (case c2 => omega); (case c3 => omega); (case c4 => omega); intro og ocap w4 hown4 hg4 hat4)
      have HO4 := Lib.hid (show w4.ownsRow w1.heap.size 39 2 (.slice (some ⟨og, 0, none⟩) (k + 1) ocap) (k + 1) (flatP (l.reverse.take (k + 1))) by rw [HQ.out, flatP_snoc]; exact hown4)
      have HB4 := Lib.hid (show Below w1.heap.size w1 w4 from HB.out.grown hg4 (by omega) (fun j hj => own_block HO.out j hj))
      clear hown4 hg4 hat4 d0 d1
      go_wp2_with fail
      go_roundw
      case rel =>
        refine ⟨k + 1, ?_, HO4.out, HB4.out⟩
        rcases Nat.eq_zero_or_pos j with hz | hz
        · exact .inl ⟨by rw [hz]; go_num, by omega⟩
        · exact .inr ⟨j - 1, by go_num, by omega⟩
      case measure => simp [intOf]
/-- THE WALK: PropOrder, up to a bound on the first text. -/
theorem propOrder_any (s t : ByteArray) (w : World) (hr : Ready w) (hs : s.size ≤ 1048576) :
    Calls Tryd.prog 5 #[.string s, .string t] w (TrueBelow w) := by
  by_cases h1 : 1000 < s.size
  · exact propOrder_long1 s t w hr h1 hs
  · by_cases h2 : 1000 < t.size
    · exact propOrder_long2 s t w hr (by omega) h2
    · by_cases h0 : canonE s = 0
      · exact propOrder_good s t w hr (by omega) (by omega) h0
      · exact propOrder_bad s t w hr (by omega) (by omega) h0
end Go.Proofs.YtamehgbagkkofaaDoor
