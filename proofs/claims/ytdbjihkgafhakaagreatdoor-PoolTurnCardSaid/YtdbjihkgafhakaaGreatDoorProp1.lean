/-
  prop.one: the pair of a piece: the walks.
-/
import Derived.Test.YtdbjihkgafhakaaGreatDoorPShelf
namespace Go.Proofs.YtdbjihkgafhakaaGreatDoor
open Go.RowKit

theorem ba_size (l : List UInt8) : (ba l).size = l.length := by show (ba l).data.size = _; simp [ba]
theorem ba_toList2 (l : List UInt8) : (ba l).toList = l := by rw [ByteArray.toList_eq, ba_toList]
theorem free_below {w w' : World} (hb : Below w.heap.size w w') {a : Addr} {f : Bool} (h : w.frozen? a = f) (ha : a.block < w.heap.size) : w'.frozen? a = f := by
  rw [hb.frozen ha]; exact h
theorem free_alloc_at {w : World} {cs : Array Value} {t : TypeId} {i : Nat} : (w.alloc (.cells cs t)).frozen? ⟨w.heap.size, i, none⟩ = false := World.frozen?_alloc_new _ _ _ _
def oneR (x : List UInt8) : Pr := if oneE x = 0 then oneV x else (⟨#[]⟩, ⟨#[]⟩)
def OnePost (x : List UInt8) (w : World) (e : Ending) (w' : World) : Prop := e = .returned (.tuple #[.agg #[.string (oneR x).1, .string (oneR x).2], .int .i64 (oneE x)]) ∧ Below w.heap.size w w'

theorem oneE_none {x : List UInt8} (h : (61 : UInt8) ∉ x) : oneE x = 3 := by unfold oneE; rw [splitL_none h]
theorem oneE_more {k v : List UInt8} (h : (61 : UInt8) ∉ k) (h2 : (61 : UInt8) ∈ v) : oneE (k ++ 61 :: v) = 3 := by
  obtain ⟨a, b, rfl, ha⟩ := List.eq_append_cons_of_mem h2
  unfold oneE
  rw [splitL_app h, splitL_app ha]
  have := splitL_ne 61 b
  split
  · rename_i heq
    simp at heq
    exact absurd heq.2.2 this
  · rfl
theorem oneE_two {k v : List UInt8} (h : (61 : UInt8) ∉ k) (h2 : (61 : UInt8) ∉ v) : oneE (k ++ 61 :: v) = if pairOk k v = true then 0 else 5 := by
  unfold oneE
  rw [splitL_app h, splitL_none h2]
theorem oneV_two {k v : List UInt8} (h : (61 : UInt8) ∉ k) (h2 : (61 : UInt8) ∉ v) : oneV (k ++ 61 :: v) = (ba k, ba v) := by
  unfold oneV
  rw [splitL_app h, splitL_none h2]
theorem oneR_bad {x : List UInt8} (h : oneE x ≠ 0) : oneR x = (⟨#[]⟩, ⟨#[]⟩) := by unfold oneR; rw [if_neg h]
theorem oneR_good {x : List UInt8} (h : oneE x = 0) : oneR x = oneV x := by unfold oneR; rw [if_pos h]

set_option maxRecDepth 100000 in
set_option maxHeartbeats 1000000 in
/-- THE WALK: a piece without '='. -/
theorem one_none (x : List UInt8) (w : World) (hr : Ready w) (hs : x.length ≤ 1048576) (h : (61 : UInt8) ∉ x) :
    Calls Tryz.prog 93 #[.string (ba x)] w (OnePost x w) := by
  have HE := Lib.hid (oneE_none h)
  have HV := Lib.hid (oneR_bad (x := x) (by rw [HE.out]; decide))
  have HC := Lib.hid (cut_none h)
  have HR := Lib.hid hr
  have hsz : (ba x).size < 4294967281 := by rw [ba_size]; omega
  clear h hr
  go_enter Tryz.func93, Tryz.ntmps93
  go_wp2_with fail
  refine (cut_any 61 (ba x) _ (HR.out.below ((Below.refl _ _).alloc (Nat.le_refl _) _)) hsz).mono ?_
  rintro e w1 ⟨rfl, hb1⟩
  rw [ba_toList, HC.out]
  have c0 := cell_below hb1 (cell_alloc_at (w := w) (t := 89) (cs := #[.string ⟨#[]⟩, .string ⟨#[]⟩]) (i := 0) (v := .string ⟨#[]⟩) rfl)
  have c1 := cell_below hb1 (cell_alloc_at (w := w) (t := 89) (cs := #[.string ⟨#[]⟩, .string ⟨#[]⟩]) (i := 1) (v := .string ⟨#[]⟩) rfl)
  have z0 := free_below hb1 (free_alloc_at (w := w) (t := 89) (cs := #[.string ⟨#[]⟩, .string ⟨#[]⟩]) (i := 0)) (by simp)
  have z1 := free_below hb1 (free_alloc_at (w := w) (t := 89) (cs := #[.string ⟨#[]⟩, .string ⟨#[]⟩]) (i := 1)) (by simp)
  have HB1 := Lib.hid (box_below2 hb1)
  have hsz1 : w.heap.size < w1.heap.size := Nat.lt_of_lt_of_le (by simp) hb1.size
  clear hb1
  go_wp2
  refine bodyPost_ret (v := .tuple #[.agg #[.string ⟨#[]⟩, .string ⟨#[]⟩], .int .i64 3]) ?_ rfl ?_
  · simp [results, Tryz.results93, go_sem, c0, c1]
  · unfold OnePost
    rw [HE.out, HV.out]
    exact ⟨rfl, (HB1.out.setCell (Nat.le_refl _) _).setCell (Nat.le_refl _) _⟩

set_option maxRecDepth 100000 in
set_option maxHeartbeats 1000000 in
/-- THE WALK: a piece with two '='. -/
theorem one_more (k v : List UInt8) (w : World) (hr : Ready w) (hs : (k ++ 61 :: v).length ≤ 1048576) (h : (61 : UInt8) ∉ k) (h2 : (61 : UInt8) ∈ v) :
    Calls Tryz.prog 93 #[.string (ba (k ++ 61 :: v))] w (OnePost (k ++ 61 :: v) w) := by
  have hsk : (ba k).size ≤ 140737488351232 := by rw [ba_size]; simp at hs; omega
  have hsv : (ba v).size ≤ 140737488351232 := by rw [ba_size]; simp at hs; omega
  have hsv2 : (ba v).size < 4294967281 := by rw [ba_size]; simp at hs; omega
  have HE := Lib.hid (oneE_more h h2)
  have HV := Lib.hid (oneR_bad (x := k ++ 61 :: v) (by rw [HE.out]; decide))
  have HD := Lib.hid (contains_some h2)
  clear h2
  have HC := Lib.hid (cut_app h (b := v))
  have HR := Lib.hid hr
  have hsz : (ba (k ++ 61 :: v)).size < 4294967281 := by rw [ba_size]; omega
  clear h hr
  go_enter Tryz.func93, Tryz.ntmps93
  go_wp2_with fail
  refine (cut_any 61 (ba (k ++ 61 :: v)) _ (HR.out.below ((Below.refl _ _).alloc (Nat.le_refl _) _)) hsz).mono ?_
  rintro e w1 ⟨rfl, hb1⟩
  rw [ba_toList, HC.out]
  have c0 := cell_below hb1 (cell_alloc_at (w := w) (t := 89) (cs := #[.string ⟨#[]⟩, .string ⟨#[]⟩]) (i := 0) (v := .string ⟨#[]⟩) rfl)
  have c1 := cell_below hb1 (cell_alloc_at (w := w) (t := 89) (cs := #[.string ⟨#[]⟩, .string ⟨#[]⟩]) (i := 1) (v := .string ⟨#[]⟩) rfl)
  have z0 := free_below hb1 (free_alloc_at (w := w) (t := 89) (cs := #[.string ⟨#[]⟩, .string ⟨#[]⟩]) (i := 0)) (by simp)
  have z1 := free_below hb1 (free_alloc_at (w := w) (t := 89) (cs := #[.string ⟨#[]⟩, .string ⟨#[]⟩]) (i := 1)) (by simp)
  have HB1 := Lib.hid (box_below2 hb1)
  have hsz1 : w.heap.size < w1.heap.size := Nat.lt_of_lt_of_le (by simp) hb1.size
  clear hb1
  go_wp2_with fail
  refine (contains_any 61 (ba v) _ (HR.out.below HB1.out) hsv2).mono ?_
  rintro e w1' ⟨rfl, rfl⟩
  rw [ba_toList, HD.out]
  go_wp2
  refine bodyPost_ret (v := .tuple #[.agg #[.string ⟨#[]⟩, .string ⟨#[]⟩], .int .i64 3]) ?_ rfl ?_
  · simp [results, Tryz.results93, go_sem, c0, c1]
  · unfold OnePost
    rw [HE.out, HV.out]
    exact ⟨rfl, (HB1.out.setCell (Nat.le_refl _) _).setCell (Nat.le_refl _) _⟩

set_option maxRecDepth 100000 in
set_option maxHeartbeats 1000000 in
/-- THE WALK: a key that is no name. -/
theorem one_key (k v : List UInt8) (w : World) (hr : Ready w) (hs : (k ++ 61 :: v).length ≤ 1048576) (h : (61 : UInt8) ∉ k) (h2 : (61 : UInt8) ∉ v) (hk : nameB (ba k) = false) :
    Calls Tryz.prog 93 #[.string (ba (k ++ 61 :: v))] w (OnePost (k ++ 61 :: v) w) := by
  have hsk : (ba k).size ≤ 140737488351232 := by rw [ba_size]; simp at hs; omega
  have hsv : (ba v).size ≤ 140737488351232 := by rw [ba_size]; simp at hs; omega
  have hsv2 : (ba v).size < 4294967281 := by rw [ba_size]; simp at hs; omega
  have HE := Lib.hid (show oneE (k ++ 61 :: v) = 5 by rw [oneE_two h h2, if_neg]; unfold pairOk; simp [hk])
  have HV := Lib.hid (oneR_bad (x := k ++ 61 :: v) (by rw [HE.out]; decide))
  have HD := Lib.hid (contains_none h2)
  clear h2
  have HK := Lib.hid hk
  clear hk
  have HC := Lib.hid (cut_app h (b := v))
  have HR := Lib.hid hr
  have hsz : (ba (k ++ 61 :: v)).size < 4294967281 := by rw [ba_size]; omega
  clear h hr
  go_enter Tryz.func93, Tryz.ntmps93
  go_wp2_with fail
  refine (cut_any 61 (ba (k ++ 61 :: v)) _ (HR.out.below ((Below.refl _ _).alloc (Nat.le_refl _) _)) hsz).mono ?_
  rintro e w1 ⟨rfl, hb1⟩
  rw [ba_toList, HC.out]
  have c0 := cell_below hb1 (cell_alloc_at (w := w) (t := 89) (cs := #[.string ⟨#[]⟩, .string ⟨#[]⟩]) (i := 0) (v := .string ⟨#[]⟩) rfl)
  have c1 := cell_below hb1 (cell_alloc_at (w := w) (t := 89) (cs := #[.string ⟨#[]⟩, .string ⟨#[]⟩]) (i := 1) (v := .string ⟨#[]⟩) rfl)
  have z0 := free_below hb1 (free_alloc_at (w := w) (t := 89) (cs := #[.string ⟨#[]⟩, .string ⟨#[]⟩]) (i := 0)) (by simp)
  have z1 := free_below hb1 (free_alloc_at (w := w) (t := 89) (cs := #[.string ⟨#[]⟩, .string ⟨#[]⟩]) (i := 1)) (by simp)
  have HB1 := Lib.hid (box_below2 hb1)
  have hsz1 : w.heap.size < w1.heap.size := Nat.lt_of_lt_of_le (by simp) hb1.size
  clear hb1
  go_wp2_with fail
  refine (contains_any 61 (ba v) _ (HR.out.below HB1.out) hsv2).mono ?_
  rintro e w1' ⟨rfl, rfl⟩
  rw [ba_toList, HD.out]
  go_wp2_with fail
  refine (name_any (ba k) _ hsk).mono ?_
  rintro e w2 ⟨rfl, hb2⟩
  rw [HK.out]
  have c0' := cell_below hb2 c0
  have c1' := cell_below hb2 c1
  have z0' := free_below hb2 z0 hsz1
  have z1' := free_below hb2 z1 hsz1
  have HB2 := Lib.hid (HB1.out.trans (hb2.mono HB1.out.size))
  have hsz2 : w.heap.size < w2.heap.size := Nat.lt_of_lt_of_le hsz1 hb2.size
  clear hb2 c0 c1 z0 z1
  have c0 := c0'
  have c1 := c1'
  have z0 := z0'
  have z1 := z1'
  clear c0' c1' z0' z1'
  go_wp2
  refine bodyPost_ret (v := .tuple #[.agg #[.string ⟨#[]⟩, .string ⟨#[]⟩], .int .i64 5]) ?_ rfl ?_
  · simp [results, Tryz.results93, go_sem, c0, c1]
  · unfold OnePost
    rw [HE.out, HV.out]
    exact ⟨rfl, (HB2.out.setCell (Nat.le_refl _) _).setCell (Nat.le_refl _) _⟩

set_option maxRecDepth 100000 in
set_option maxHeartbeats 1000000 in
/-- THE WALK: '*' for a value. -/
theorem one_any (k : List UInt8) (w : World) (hr : Ready w) (hs : (k ++ 61 :: [42]).length ≤ 1048576) (h : (61 : UInt8) ∉ k) (hk : nameB (ba k) = true) :
    Calls Tryz.prog 93 #[.string (ba (k ++ 61 :: [42]))] w (OnePost (k ++ 61 :: [42]) w) := by
  have h2 : (61 : UInt8) ∉ [42] := by decide
  have hsk : (ba k).size ≤ 140737488351232 := by rw [ba_size]; simp at hs; omega
  have hsv : (ba [42]).size ≤ 140737488351232 := by rw [ba_size]; decide
  have hsv2 : (ba [42]).size < 4294967281 := by rw [ba_size]; decide
  have HE := Lib.hid (show oneE (k ++ 61 :: [42]) = 0 by rw [oneE_two h h2, if_pos]; unfold pairOk; simp [hk])
  have HV := Lib.hid (show oneR (k ++ 61 :: [42]) = (ba k, ba [42]) by rw [oneR_good HE.out, oneV_two h h2])
  have HD := Lib.hid (contains_none h2)
  clear h2
  have HK := Lib.hid hk
  clear hk
  have q0 : (ba [42]).toList = [42] := ba_toList2 _
  have HC := Lib.hid (cut_app h (b := [42]))
  have HR := Lib.hid hr
  have hsz : (ba (k ++ 61 :: [42])).size < 4294967281 := by rw [ba_size]; omega
  clear h hr
  go_enter Tryz.func93, Tryz.ntmps93
  go_wp2_with fail
  refine (cut_any 61 (ba (k ++ 61 :: [42])) _ (HR.out.below ((Below.refl _ _).alloc (Nat.le_refl _) _)) hsz).mono ?_
  rintro e w1 ⟨rfl, hb1⟩
  rw [ba_toList, HC.out]
  have c0 := cell_below hb1 (cell_alloc_at (w := w) (t := 89) (cs := #[.string ⟨#[]⟩, .string ⟨#[]⟩]) (i := 0) (v := .string ⟨#[]⟩) rfl)
  have c1 := cell_below hb1 (cell_alloc_at (w := w) (t := 89) (cs := #[.string ⟨#[]⟩, .string ⟨#[]⟩]) (i := 1) (v := .string ⟨#[]⟩) rfl)
  have z0 := free_below hb1 (free_alloc_at (w := w) (t := 89) (cs := #[.string ⟨#[]⟩, .string ⟨#[]⟩]) (i := 0)) (by simp)
  have z1 := free_below hb1 (free_alloc_at (w := w) (t := 89) (cs := #[.string ⟨#[]⟩, .string ⟨#[]⟩]) (i := 1)) (by simp)
  have HB1 := Lib.hid (box_below2 hb1)
  have hsz1 : w.heap.size < w1.heap.size := Nat.lt_of_lt_of_le (by simp) hb1.size
  clear hb1
  go_wp2_with fail
  refine (contains_any 61 (ba [42]) _ (HR.out.below HB1.out) hsv2).mono ?_
  rintro e w1' ⟨rfl, rfl⟩
  rw [ba_toList, HD.out]
  go_wp2_with fail
  refine (name_any (ba k) _ hsk).mono ?_
  rintro e w2 ⟨rfl, hb2⟩
  rw [HK.out]
  have c0' := cell_below hb2 c0
  have c1' := cell_below hb2 c1
  have z0' := free_below hb2 z0 hsz1
  have z1' := free_below hb2 z1 hsz1
  have HB2 := Lib.hid (HB1.out.trans (hb2.mono HB1.out.size))
  have hsz2 : w.heap.size < w2.heap.size := Nat.lt_of_lt_of_le hsz1 hb2.size
  clear hb2 c0 c1 z0 z1
  have c0 := c0'
  have c1 := c1'
  have z0 := z0'
  have z1 := z1'
  clear c0' c1' z0' z1'
  go_wp2
  refine bodyPost_ret (v := .tuple #[.agg #[.string (ba k), .string (ba [42])], .int .i64 0]) ?_ rfl ?_
  · simp [results, Tryz.results93, go_sem, c0, c1]
  · unfold OnePost
    rw [HE.out, HV.out]
    exact ⟨rfl, (HB2.out.setCell (Nat.le_refl _) _).setCell (Nat.le_refl _) _⟩

set_option maxRecDepth 100000 in
set_option maxHeartbeats 1000000 in
/-- THE WALK: a value that is no name. -/
theorem one_value (k v : List UInt8) (w : World) (hr : Ready w) (hs : (k ++ 61 :: v).length ≤ 1048576) (h : (61 : UInt8) ∉ k) (h2 : (61 : UInt8) ∉ v) (hk : nameB (ba k) = true) (hv : v ≠ [42]) (hn : nameB (ba v) = false) :
    Calls Tryz.prog 93 #[.string (ba (k ++ 61 :: v))] w (OnePost (k ++ 61 :: v) w) := by
  have hsk : (ba k).size ≤ 140737488351232 := by rw [ba_size]; simp at hs; omega
  have hsv : (ba v).size ≤ 140737488351232 := by rw [ba_size]; simp at hs; omega
  have hsv2 : (ba v).size < 4294967281 := by rw [ba_size]; simp at hs; omega
  have HE := Lib.hid (show oneE (k ++ 61 :: v) = 5 by rw [oneE_two h h2, if_neg]; unfold pairOk; simp [hk, hv, hn])
  have HV := Lib.hid (oneR_bad (x := k ++ 61 :: v) (by rw [HE.out]; decide))
  have HD := Lib.hid (contains_none h2)
  clear h2
  have HK := Lib.hid hk
  have HN := Lib.hid hn
  clear hk hn
  have q0 : ((ba v).toList == [42]) = false := by rw [ba_toList2]; exact beq_eq_false_iff_ne.2 hv
  clear hv
  have HC := Lib.hid (cut_app h (b := v))
  have HR := Lib.hid hr
  have hsz : (ba (k ++ 61 :: v)).size < 4294967281 := by rw [ba_size]; omega
  clear h hr
  go_enter Tryz.func93, Tryz.ntmps93
  go_wp2_with fail
  refine (cut_any 61 (ba (k ++ 61 :: v)) _ (HR.out.below ((Below.refl _ _).alloc (Nat.le_refl _) _)) hsz).mono ?_
  rintro e w1 ⟨rfl, hb1⟩
  rw [ba_toList, HC.out]
  have c0 := cell_below hb1 (cell_alloc_at (w := w) (t := 89) (cs := #[.string ⟨#[]⟩, .string ⟨#[]⟩]) (i := 0) (v := .string ⟨#[]⟩) rfl)
  have c1 := cell_below hb1 (cell_alloc_at (w := w) (t := 89) (cs := #[.string ⟨#[]⟩, .string ⟨#[]⟩]) (i := 1) (v := .string ⟨#[]⟩) rfl)
  have z0 := free_below hb1 (free_alloc_at (w := w) (t := 89) (cs := #[.string ⟨#[]⟩, .string ⟨#[]⟩]) (i := 0)) (by simp)
  have z1 := free_below hb1 (free_alloc_at (w := w) (t := 89) (cs := #[.string ⟨#[]⟩, .string ⟨#[]⟩]) (i := 1)) (by simp)
  have HB1 := Lib.hid (box_below2 hb1)
  have hsz1 : w.heap.size < w1.heap.size := Nat.lt_of_lt_of_le (by simp) hb1.size
  clear hb1
  go_wp2_with fail
  refine (contains_any 61 (ba v) _ (HR.out.below HB1.out) hsv2).mono ?_
  rintro e w1' ⟨rfl, rfl⟩
  rw [ba_toList, HD.out]
  go_wp2_with fail
  refine (name_any (ba k) _ hsk).mono ?_
  rintro e w2 ⟨rfl, hb2⟩
  rw [HK.out]
  have c0' := cell_below hb2 c0
  have c1' := cell_below hb2 c1
  have z0' := free_below hb2 z0 hsz1
  have z1' := free_below hb2 z1 hsz1
  have HB2 := Lib.hid (HB1.out.trans (hb2.mono HB1.out.size))
  have hsz2 : w.heap.size < w2.heap.size := Nat.lt_of_lt_of_le hsz1 hb2.size
  clear hb2 c0 c1 z0 z1
  have c0 := c0'
  have c1 := c1'
  have z0 := z0'
  have z1 := z1'
  clear c0' c1' z0' z1'
  go_wp2_with fail
  refine (name_any (ba v) _ hsv).mono ?_
  rintro e w3 ⟨rfl, hb3⟩
  rw [HN.out]
  have c0' := cell_below hb3 c0
  have c1' := cell_below hb3 c1
  have z0' := free_below hb3 z0 hsz2
  have z1' := free_below hb3 z1 hsz2
  have HB3 := Lib.hid (HB2.out.trans (hb3.mono HB2.out.size))
  have hsz3 : w.heap.size < w3.heap.size := Nat.lt_of_lt_of_le hsz2 hb3.size
  clear hb3 c0 c1 z0 z1
  have c0 := c0'
  have c1 := c1'
  have z0 := z0'
  have z1 := z1'
  clear c0' c1' z0' z1'
  go_wp2
  refine bodyPost_ret (v := .tuple #[.agg #[.string ⟨#[]⟩, .string ⟨#[]⟩], .int .i64 5]) ?_ rfl ?_
  · simp [results, Tryz.results93, go_sem, c0, c1]
  · unfold OnePost
    rw [HE.out, HV.out]
    exact ⟨rfl, (HB3.out.setCell (Nat.le_refl _) _).setCell (Nat.le_refl _) _⟩

set_option maxRecDepth 100000 in
set_option maxHeartbeats 1000000 in
/-- THE WALK: a pair. -/
theorem one_pair (k v : List UInt8) (w : World) (hr : Ready w) (hs : (k ++ 61 :: v).length ≤ 1048576) (h : (61 : UInt8) ∉ k) (h2 : (61 : UInt8) ∉ v) (hk : nameB (ba k) = true) (hv : v ≠ [42]) (hn : nameB (ba v) = true) :
    Calls Tryz.prog 93 #[.string (ba (k ++ 61 :: v))] w (OnePost (k ++ 61 :: v) w) := by
  have hsk : (ba k).size ≤ 140737488351232 := by rw [ba_size]; simp at hs; omega
  have hsv : (ba v).size ≤ 140737488351232 := by rw [ba_size]; simp at hs; omega
  have hsv2 : (ba v).size < 4294967281 := by rw [ba_size]; simp at hs; omega
  have HE := Lib.hid (show oneE (k ++ 61 :: v) = 0 by rw [oneE_two h h2, if_pos]; unfold pairOk; simp [hk, hn])
  have HV := Lib.hid (show oneR (k ++ 61 :: v) = (ba k, ba v) by rw [oneR_good HE.out, oneV_two h h2])
  have HD := Lib.hid (contains_none h2)
  clear h2
  have HK := Lib.hid hk
  have HN := Lib.hid hn
  clear hk hn
  have q0 : ((ba v).toList == [42]) = false := by rw [ba_toList2]; exact beq_eq_false_iff_ne.2 hv
  clear hv
  have HC := Lib.hid (cut_app h (b := v))
  have HR := Lib.hid hr
  have hsz : (ba (k ++ 61 :: v)).size < 4294967281 := by rw [ba_size]; omega
  clear h hr
  go_enter Tryz.func93, Tryz.ntmps93
  go_wp2_with fail
  refine (cut_any 61 (ba (k ++ 61 :: v)) _ (HR.out.below ((Below.refl _ _).alloc (Nat.le_refl _) _)) hsz).mono ?_
  rintro e w1 ⟨rfl, hb1⟩
  rw [ba_toList, HC.out]
  have c0 := cell_below hb1 (cell_alloc_at (w := w) (t := 89) (cs := #[.string ⟨#[]⟩, .string ⟨#[]⟩]) (i := 0) (v := .string ⟨#[]⟩) rfl)
  have c1 := cell_below hb1 (cell_alloc_at (w := w) (t := 89) (cs := #[.string ⟨#[]⟩, .string ⟨#[]⟩]) (i := 1) (v := .string ⟨#[]⟩) rfl)
  have z0 := free_below hb1 (free_alloc_at (w := w) (t := 89) (cs := #[.string ⟨#[]⟩, .string ⟨#[]⟩]) (i := 0)) (by simp)
  have z1 := free_below hb1 (free_alloc_at (w := w) (t := 89) (cs := #[.string ⟨#[]⟩, .string ⟨#[]⟩]) (i := 1)) (by simp)
  have HB1 := Lib.hid (box_below2 hb1)
  have hsz1 : w.heap.size < w1.heap.size := Nat.lt_of_lt_of_le (by simp) hb1.size
  clear hb1
  go_wp2_with fail
  refine (contains_any 61 (ba v) _ (HR.out.below HB1.out) hsv2).mono ?_
  rintro e w1' ⟨rfl, rfl⟩
  rw [ba_toList, HD.out]
  go_wp2_with fail
  refine (name_any (ba k) _ hsk).mono ?_
  rintro e w2 ⟨rfl, hb2⟩
  rw [HK.out]
  have c0' := cell_below hb2 c0
  have c1' := cell_below hb2 c1
  have z0' := free_below hb2 z0 hsz1
  have z1' := free_below hb2 z1 hsz1
  have HB2 := Lib.hid (HB1.out.trans (hb2.mono HB1.out.size))
  have hsz2 : w.heap.size < w2.heap.size := Nat.lt_of_lt_of_le hsz1 hb2.size
  clear hb2 c0 c1 z0 z1
  have c0 := c0'
  have c1 := c1'
  have z0 := z0'
  have z1 := z1'
  clear c0' c1' z0' z1'
  go_wp2_with fail
  refine (name_any (ba v) _ hsv).mono ?_
  rintro e w3 ⟨rfl, hb3⟩
  rw [HN.out]
  have c0' := cell_below hb3 c0
  have c1' := cell_below hb3 c1
  have z0' := free_below hb3 z0 hsz2
  have z1' := free_below hb3 z1 hsz2
  have HB3 := Lib.hid (HB2.out.trans (hb3.mono HB2.out.size))
  have hsz3 : w.heap.size < w3.heap.size := Nat.lt_of_lt_of_le hsz2 hb3.size
  clear hb3 c0 c1 z0 z1
  have c0 := c0'
  have c1 := c1'
  have z0 := z0'
  have z1 := z1'
  clear c0' c1' z0' z1'
  go_wp2
  refine bodyPost_ret (v := .tuple #[.agg #[.string (ba k), .string (ba v)], .int .i64 0]) ?_ rfl ?_
  · simp [results, Tryz.results93, go_sem, c0, c1]
  · unfold OnePost
    rw [HE.out, HV.out]
    exact ⟨rfl, (HB3.out.setCell (Nat.le_refl _) _).setCell (Nat.le_refl _) _⟩

/-- THE WALK, whatever the piece. -/
theorem pair_any (x : List UInt8) (w : World) (hr : Ready w) (hs : x.length ≤ 1048576) : Calls Tryz.prog 93 #[.string (ba x)] w (OnePost x w) := by
  rcases first_of (c := 61) x with h | ⟨k, v, rfl, h⟩
  · exact one_none x w hr hs h
  · by_cases h2 : (61 : UInt8) ∈ v
    · exact one_more k v w hr hs h h2
    · rcases hk : nameB (ba k) with _ | _
      · exact one_key k v w hr hs h h2 hk
      · by_cases hv : v = [42]
        · subst hv; exact one_any k w hr hs h hk
        · rcases hn : nameB (ba v) with _ | _
          · exact one_value k v w hr hs h h2 hk hv hn
          · exact one_pair k v w hr hs h h2 hk hv hn
end Go.Proofs.YtdbjihkgafhakaaGreatDoor
