/-
  The layer's examples: plain, and the walk; 'num', 'same'.
-/
import Derived.Test.YtamehgbagkkofaaDoorRMatch
namespace Go.Proofs.YtamehgbagkkofaaDoor
open Go.RowKit

theorem ex_parse : parseP ⟨#[111, 115, 61, 97, 44, 97, 114, 99, 104, 61, 98]⟩ = ([(ba [111, 115], ba [97]), (ba [97, 114, 99, 104], ba [98])], 0) := by decide
theorem ex_canonE : canonE ⟨#[111, 115, 61, 97, 44, 97, 114, 99, 104, 61, 98]⟩ = 0 := by unfold canonE; rw [ex_parse]
theorem ex_sort : [(ba [97, 114, 99, 104], ba [98]), (ba [111, 115], ba [97])] = sortP [(ba [111, 115], ba [97]), (ba [97, 114, 99, 104], ba [98])] := by
  refine sortP_of ?_ (List.Perm.swap _ _ _) ?_
  · have := parseP_once ⟨#[111, 115, 61, 97, 44, 97, 114, 99, 104, 61, 98]⟩
    rw [ex_parse] at this
    exact this
  · exact .cons (by intro q hq; rw [List.mem_singleton] at hq; subst hq; decide) (List.pairwise_singleton _ _)
theorem ex_canonP : canonP ⟨#[111, 115, 61, 97, 44, 97, 114, 99, 104, 61, 98]⟩ = [97, 114, 99, 104, 61, 98, 44, 111, 115, 61, 97] := by
  unfold canonP
  rw [if_pos ex_canonE, ex_parse, ← ex_sort]
  decide
theorem ex_match : matchP ⟨#[111, 115, 61, 97, 44, 103, 112, 117, 61, 42]⟩ ⟨#[103, 112, 117, 61, 120]⟩ = true := by decide
theorem ex_match2 : matchP ⟨#[111, 115, 61, 97]⟩ ⟨#[111, 115, 61, 98]⟩ = false := by decide

theorem num_any (e : Int) (w : World) : Calls Tryd.prog 15 #[.int .i64 e] w fun r w' => r = .returned (.int .i64 e) ∧ w = w' := by
  go_enter Tryd.func15, Tryd.ntmps15
  go_wp2
  go_ret
  exact ⟨rfl, rfl⟩

set_option maxRecDepth 100000 in
set_option maxHeartbeats 1000000 in
/-- THE WALK: the examples. -/
theorem live_any (w : World) (hr : Ready w) : Calls Tryd.prog 10 #[] w fun e w' => e = .returned (.bool true) ∧ Below w.heap.size w w' := by
  have HR := Lib.hid hr
  have hl : ((ba [97, 114, 99, 104, 61, 98, 44, 111, 115, 61, 97]).toList == [97, 114, 99, 104, 61, 98, 44, 111, 115, 61, 97]) = true := by rw [ba_toList2]; rfl
  clear hr
  go_enter Tryd.func10, Tryd.ntmps10
  go_wp2_with fail
  refine (canon_any _ _ HR.out (by decide)).mono ?_
  rintro e w1 ⟨rfl, hb1⟩
  rw [ex_canonP, ex_canonE]
  have HB1 := Lib.hid hb1
  clear hb1
  go_wp2_with fail
  refine (num_any _ _).mono ?_
  rintro e w2 ⟨rfl, rfl⟩
  go_wp2_with fail
  refine (match_any _ _ _ (HR.out.below HB1.out) (by decide) (by decide)).mono ?_
  rintro e w2 ⟨rfl, hb2⟩
  rw [ex_match]
  have HB2 := Lib.hid (HB1.out.trans (hb2.mono HB1.out.size))
  clear hb2
  go_wp2_with fail
  refine (match_any _ _ _ (HR.out.below HB2.out) (by decide) (by decide)).mono ?_
  rintro e w3 ⟨rfl, hb3⟩
  rw [ex_match2]
  go_wp2
  go_ret
  exact ⟨rfl, HB2.out.trans (hb3.mono HB2.out.size)⟩
end Go.Proofs.YtamehgbagkkofaaDoor
