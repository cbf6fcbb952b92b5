/-
  billetlaw04.same, on lists that are the same: the walk.
-/
import Derived.Test.YtamehgbagkkofaaDoorPLive
import Derived.BigQuiet
namespace Go.Proofs.YtamehgbagkkofaaDoor
open Go.RowKit

def SameRel (l : List Pr) (w : World) (i : Value) (wr : World) : Prop := ∃ k : Nat, i = .int .i64 k ∧ k ≤ l.length ∧ Below w.heap.size w wr
set_option maxRecDepth 100000 in
set_option maxHeartbeats 1000000 in
theorem same_refl (v1 v2 : Value) (l : List Pr) (w : World) (h1 : PairsAt w v1 l) (h2 : PairsAt w v2 l) :
    Calls Tryd.prog 16 #[v1, v2] w fun e w' => e = .returned (.bool true) ∧ Below w.heap.size w w' := by
  obtain ⟨a1, cap1, rfl, hcap1, hmax1, hcell1⟩ := h1
  obtain ⟨a2, cap2, rfl, hcap2, hmax2, hcell2⟩ := h2
  have HC1 := Lib.hid hcell1
  have HC2 := Lib.hid hcell2
  have hmax' : l.length ≤ 9223372036854775807 := by unfold maxLen at hmax1; omega
  clear hcell1 hcell2
  go_enter Tryd.func16, Tryd.ntmps16
  go_wp2
  go_loopw [5] (fun i wr => SameRel l w i wr) (fun i _ => l.length - (intOf i).toNat)
  case atStart => exact ⟨0, rfl, Nat.zero_le _, Below.refl _ _⟩
  case round =>
    obtain ⟨k, rfl, hk, hb⟩ := hrel
    have HB := Lib.hid hb
    have hszw := hb.size
    clear hb
    by_cases hlt : k < l.length
    · obtain ⟨p, hp⟩ : ∃ p, l[k]? = some p := ⟨_, List.getElem?_eq_getElem hlt⟩
      obtain ⟨g, rfl, hgl, c0⟩ := HC1.out (k * 2) (.string p.1) (by have := flatP_get 0 hp (by omega); simpa [encP] using this)
      obtain ⟨g', hg', -, c1⟩ := HC1.out (k * 2 + 1) (.string p.2) (by have := flatP_get 1 hp (by omega); simpa [encP] using this)
      cases hg'
      obtain ⟨j, rfl, hjl, d0⟩ := HC2.out (k * 2) (.string p.1) (by have := flatP_get 0 hp (by omega); simpa [encP] using this)
      obtain ⟨j', hj', -, d1⟩ := HC2.out (k * 2 + 1) (.string p.2) (by have := flatP_get 1 hp (by omega); simpa [encP] using this)
      cases hj'
      have b0 := cell_below HB.out c0
      have b1 := cell_below HB.out c1
      have b2 := cell_below HB.out d0
      have b3 := cell_below HB.out d1
      clear hp c0 c1 d0 d1
      have e1 : (k : Int) < l.length := by omega
      have e0 : (0 : Int) ≤ k := by omega
      go_wp2_with fail
      go_quiet (fail)
      go_wp2_with fail
      go_roundw
      case rel => exact ⟨k + 1, by go_num, by omega, below_drewN HB.out _⟩
      case measure => simp [intOf]; omega
    · go_wp2
      go_ret
      exact ⟨rfl, HB.out⟩
end Go.Proofs.YtamehgbagkkofaaDoor
