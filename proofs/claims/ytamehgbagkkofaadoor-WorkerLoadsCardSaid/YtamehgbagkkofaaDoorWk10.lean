/-
  WorkerLoads: the walk.
-/
import Derived.Test.YtamehgbagkkofaaDoorWk8b
import Derived.Test.YtamehgbagkkofaaDoorWk9
namespace Go.Proofs.YtamehgbagkkofaaDoor
open Go.RowKit

theorem load_any (room last : Int) (v0 : Value) (l : List Wk) (w : World) (hr : Ready w) (hR : RowsW w v0 l) (hs : ∀ x ∈ l, SmallW x) (h3 : l.length ≤ 40) :
    Calls Tryd.prog 41 #[.int .i64 room, v0, .int .i64 last] w (LoadPost room l last w) := by
  by_cases h : room < 1
  · exact load_room room last v0 l w hR h
  · by_cases h1 : room < (l.length : Int)
    · exact load_many room last v0 l w hR (by omega) h1
    · by_cases h2 : last < 0
      · exact load_neg room last v0 l w hR (by omega) (by omega) h2
      · exact loadGo_any room last v0 l w hr hR hs (by omega) (by omega) (by omega) h3
theorem right29_any (room last : Int) (v0 : Value) (l : List Wk) (w : World) (hR : RowsW w v0 l) (hs : ∀ x ∈ l, SmallW x) (h3 : l.length ≤ 40) :
    Calls Tryd.prog 42 #[.int .i64 room, v0, .int .i64 last] w (RightPost room l last w) := by
  by_cases h : room < 1 ∨ room < (l.length : Int) ∨ last < 0
  · exact right29_bad room last v0 l w hR h
  · exact right29_go room last v0 l w hR hs (by omega) (by omega) (by omega) h3

def WLRel (l : List Wk) (w : World) (i : Value) (wr : World) : Prop :=
  ∃ k : Nat, i = .int .i64 k ∧ k ≤ l.length ∧ (∀ (j : Nat) x, j < k → l[j]? = some x → SmallW x) ∧ Below w.heap.size w wr
set_option maxRecDepth 100000 in
set_option maxHeartbeats 1000000 in
theorem workerLoads_long (room last : Int) (v0 : Value) (l : List Wk) (w : World) (hr : Ready w) (hR : RowsW w v0 l) (h : 40 < l.length) :
    Calls Tryd.prog 9 #[.int .i64 room, v0, .int .i64 last] w (TrueBelow w) := by
  obtain ⟨a, cap, rfl, hl, -⟩ := hR
  have HR := Lib.hid hr
  clear hr
  go_enter Tryd.func9, Tryd.ntmps9
  go_wp2_with fail
  refine (live29_any _ HR.out).mono ?_
  rintro e w2 ⟨rfl, hb2⟩
  go_wp2
  go_ret
  exact ⟨rfl, hb2⟩
set_option maxRecDepth 100000 in
set_option maxHeartbeats 4000000 in
theorem workerLoads_go (room last : Int) (v0 : Value) (l : List Wk) (w : World) (hr : Ready w) (hR : RowsW w v0 l) (hz : ∀ x ∈ l, x.name.size ≤ 140737488351232 ∧ x.plat.size ≤ 140737488351232) (h3 : l.length ≤ 40) :
    Calls Tryd.prog 9 #[.int .i64 room, v0, .int .i64 last] w (TrueBelow w) := by
  have HR := Lib.hid hr
  have HRW := Lib.hid hR
  obtain ⟨a, cap, rfl, hl, hcell⟩ := hR
  have HC := Lib.hid hcell
  have HZ := Lib.hid hz
  clear hr hcell hz
  go_enter Tryd.func9, Tryd.ntmps9
  go_wp2
  go_loopw [7] (fun i wr => WLRel l w i wr) (fun i _ => l.length - (intOf i).toNat)
  case atStart => exact ⟨0, rfl, Nat.zero_le _, (fun j x hj => by omega), Below.refl _ _⟩
  case round =>
    obtain ⟨k, rfl, hk, hall, hb⟩ := hrel
    have HB := Lib.hid hb
    have HALL := Lib.hid hall
    have hszw := hb.size
    clear hb hall
    by_cases hlt : k < l.length
    · obtain ⟨x, hx⟩ : ∃ x, l[k]? = some x := ⟨_, List.getElem?_eq_getElem hlt⟩
      obtain ⟨g, off, rfl, c0, c1, c2, c3, c4, c5, c6⟩ := RowsW.at HC.out hx
      obtain ⟨hs1, hs2⟩ := HZ.out x (List.mem_of_getElem? hx)
      have d0 := cell_below HB.out c0
      have d1 := cell_below HB.out c1
      have d2 := cell_below HB.out c2
      have d3 := cell_below HB.out c3
      have d4 := cell_below HB.out c4
      have d5 := cell_below HB.out c5
      have d6 := cell_below HB.out c6
      have HX := Lib.hid hx
      clear hx c0 c1 c2 c3 c4 c5 c6
      go_wp2_with fail
      refine (long_any x _ hs1 hs2).mono ?_
      rintro e w1 ⟨rfl, hb1⟩
      have HB1 := Lib.hid (HB.out.trans (hb1.mono hszw))
      clear hb1
      rcases hL : longB x with _ | _
      · have HS := Lib.hid (long_small hL)
        clear hL
        go_wp2_with fail
        go_roundw
        case rel =>
          refine ⟨k + 1, by go_num, by omega, fun j y hj hy => ?_, HB1.out⟩
          rcases Nat.lt_or_ge j k with h | h
          · exact HALL.out j y h hy
          · obtain rfl : j = k := by omega
            obtain rfl : x = y := Option.some.inj (HX.out.symm.trans hy)
            exact HS.out
        case measure => simp [intOf]; omega
      · clear hL
        go_wp2_with fail
        refine (live29_any _ (HR.out.below HB1.out)).mono ?_
        rintro e w2 ⟨rfl, hb2⟩
        go_wp2
        go_ret
        exact ⟨rfl, HB1.out.trans (hb2.mono HB1.out.size)⟩
    · have HS := Lib.hid (show ∀ x ∈ l, SmallW x from fun x hx => by
        obtain ⟨j, hj, rfl⟩ := List.getElem_of_mem hx
        exact HALL.out j _ (by omega) (List.getElem?_eq_getElem hj))
      go_wp2_with fail
      refine (load_any room last _ l _ (HR.out.below HB.out) (HRW.out.below HB.out) HS.out h3).mono ?_
      rintro e w2 (⟨hn, rfl, hb2⟩ | ⟨hn, rfl, v2, hB2, hb2⟩)
      · have HB2 := Lib.hid (HB.out.trans (hb2.mono hszw))
        have HN := Lib.hid hn
        clear hb2 hn
        go_wp2_with fail
        refine (right29_any room last _ l _ (HRW.out.below HB2.out) HS.out h3).mono ?_
        rintro e w3 ⟨r, hiff, rfl, hb3⟩
        obtain rfl : false = r := by
          rcases r with _ | _
          · rfl
          · exact absurd (hiff.1 rfl) HN.out
        have HB3 := Lib.hid (HB2.out.trans (hb3.mono HB2.out.size))
        clear hb3 hiff
        go_wp2_with fail
        refine (live29_any _ (HR.out.below HB3.out)).mono ?_
        rintro e w4 ⟨rfl, hb4⟩
        go_wp2
        go_ret
        exact ⟨rfl, HB3.out.trans (hb4.mono HB3.out.size)⟩
      · have HB2 := Lib.hid (HB.out.trans (hb2.mono hszw))
        have HA2 := Lib.hid hB2
        have HN := Lib.hid hn
        clear hb2 hn hB2
        go_wp2_with fail
        refine (right29_any room last _ l _ (HRW.out.below HB2.out) HS.out h3).mono ?_
        rintro e w3 ⟨r, hiff, rfl, hb3⟩
        obtain rfl : true = r := (hiff.2 HN.out).symm
        have HB3 := Lib.hid (HB2.out.trans (hb3.mono HB2.out.size))
        have HA3 := Lib.hid (HA2.out.below hb3)
        clear hb3 hiff
        go_wp2_with fail
        refine (all_any _ HA3.out).mono ?_
        rintro e w4 ⟨v4, rfl, hr4, hb4⟩
        have HB4 := Lib.hid (HB3.out.trans (hb4.mono HB3.out.size))
        have HA4 := Lib.hid (HA3.out.below hb4)
        have HR4 := Lib.hid hr4
        clear hb4 hr4
        go_wp2_with fail
        refine (same29_refl _ _ l _ HR4.out (HRW.out.below HB4.out)).mono ?_
        rintro e w5 ⟨rfl, hb5⟩
        have HB5 := Lib.hid (HB4.out.trans (hb5.mono HB4.out.size))
        have HA5 := Lib.hid (HA4.out.below hb5)
        clear hb5
        go_wp2_with fail
        refine (last_any _ HA5.out).mono ?_
        rintro e w6 ⟨rfl, rfl⟩
        go_wp2_with fail
        refine (live29_any _ (HR.out.below HB5.out)).mono ?_
        rintro e w7 ⟨rfl, hb7⟩
        go_wp2
        go_ret
        exact ⟨rfl, HB5.out.trans (hb7.mono HB5.out.size)⟩
/-- THE WALK: WorkerLoads. -/
theorem workerLoads_any (room last : Int) (v0 : Value) (l : List Wk) (w : World) (hr : Ready w) (hR : RowsW w v0 l) (hz : ∀ x ∈ l, x.name.size ≤ 140737488351232 ∧ x.plat.size ≤ 140737488351232) :
    Calls Tryd.prog 9 #[.int .i64 room, v0, .int .i64 last] w (TrueBelow w) := by
  by_cases h : 40 < l.length
  · exact workerLoads_long room last v0 l w hr hR h
  · exact workerLoads_go room last v0 l w hr hR hz (by omega)
end Go.Proofs.YtamehgbagkkofaaDoor
