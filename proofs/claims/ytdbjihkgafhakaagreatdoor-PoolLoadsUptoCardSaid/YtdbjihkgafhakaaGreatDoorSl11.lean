/-
 prop.one: the pair of a piece: the walks.
 prop.Parse: the walks.
 prop.Parse: the walk.
 prop.Show: the walk.
 prop.Canon: the walk.
 billetref04.Split: the walk.
 billetref03.Name: a text is a name just if 'nameB' says so.
-/
import Derived.Test.YtdbjihkgafhakaaGreatDoorSl01
import Derived.Test.YtdbjihkgafhakaaGreatDoorSl02
namespace Go.Proofs.YtdbjihkgafhakaaGreatDoor
open Go.RowKit
theorem ZS (l : List UInt8) : (ba l).size = l.length := by show (ba l).data.size = _; simp [ba]
theorem Zcb (l : List UInt8) : (ba l).toList = l := by rw [ByteArray.toList_eq, Zab]
theorem ZB {w w' : World} (hb : Below w.heap.size w w') {a : Addr} {f : Bool} (h : w.frozen? a = f) (ha : a.block < w.heap.size) : w'.frozen? a = f := by
 rw [hb.frozen ha]; exact h
theorem ZV {w : World} {cs : Array Value} {t : TypeId} {i : Nat} : (w.alloc (.cells cs t)).frozen? ⟨w.heap.size, i, none⟩ = false := World.frozen?_alloc_new _ _ _ _
def oneR (x : List UInt8) : Pr := if oneE x = 0 then oneV x else (⟨#[]⟩, ⟨#[]⟩)
def Za0 (x : List UInt8) (w : World) (e : Ending) (w' : World) : Prop := e = .returned (.tuple #[.agg #[.string (oneR x).1, .string (oneR x).2], .int .i64 (oneE x)]) ∧ Below w.heap.size w w'
theorem ZlE {x : List UInt8} (h : (61 : UInt8) ∉ x) : oneE x = 3 := by unfold oneE; rw [ZaV h]
theorem ZlF {k v : List UInt8} (h : (61 : UInt8) ∉ k) (h2 : (61 : UInt8) ∈ v) : oneE (k ++ 61 :: v) = 3 := by
 obtain ⟨a, b, rfl, ha⟩ := List.eq_append_cons_of_mem h2
 unfold oneE
 rw [ZaR h, ZaR ha]
 have := ZgH 61 b
 split
 ·rename_i heq
  simp at heq
  exact absurd heq.2.2 this
 ·rfl
theorem ZdN {k v : List UInt8} (h : (61 : UInt8) ∉ k) (h2 : (61 : UInt8) ∉ v) : oneE (k ++ 61 :: v) = if Zby k v = true then 0 else 5 := by
 unfold oneE
 rw [ZaR h, ZaV h2]
theorem Zib {k v : List UInt8} (h : (61 : UInt8) ∉ k) (h2 : (61 : UInt8) ∉ v) : oneV (k ++ 61 :: v) = (ba k, ba v) := by
 unfold oneV
 rw [ZaR h, ZaV h2]
theorem ZdO {x : List UInt8} (h : oneE x ≠ 0) : oneR x = (⟨#[]⟩, ⟨#[]⟩) := by unfold oneR; rw [if_neg h]
theorem Zer {x : List UInt8} (h : oneE x = 0) : oneR x = oneV x := by unfold oneR; rw [if_pos h]
set_option maxRecDepth 100000 in
set_option maxHeartbeats 1000000 in
theorem ZmZ (x : List UInt8) (w : World) (hr : Ready w) (hs : x.length ≤ 1048576) (h : (61 : UInt8) ∉ x) :
 Calls Tryz.prog 93 #[.string (ba x)] w (Za0 x w) := by
 have HE := Lib.hid (ZlE h)
 have HV := Lib.hid (ZdO (x := x) (by rw [HE.out]; decide))
 have HC := Lib.hid (ZmL h)
 have HR := Lib.hid hr
 have hsz : (ba x).size < 4294967281 := by rw [ZS]; omega
 clear h hr
 go_enter Tryz.func93, Tryz.ntmps93
 go_wp2_with fail
 refine (ZcK 61 (ba x) _ (HR.out.below ((Below.refl _ _).alloc (Nat.le_refl _) _)) hsz).mono ?_
 rintro e w1 ⟨rfl, hb1⟩
 rw [Zab, HC.out]
 have c0 := Zc hb1 (Zm (w := w) (t := 89) (cs := #[.string ⟨#[]⟩, .string ⟨#[]⟩]) (i := 0) (v := .string ⟨#[]⟩) rfl)
 have c1 := Zc hb1 (Zm (w := w) (t := 89) (cs := #[.string ⟨#[]⟩, .string ⟨#[]⟩]) (i := 1) (v := .string ⟨#[]⟩) rfl)
 have z0 := ZB hb1 (ZV (w := w) (t := 89) (cs := #[.string ⟨#[]⟩, .string ⟨#[]⟩]) (i := 0)) (by simp)
 have z1 := ZB hb1 (ZV (w := w) (t := 89) (cs := #[.string ⟨#[]⟩, .string ⟨#[]⟩]) (i := 1)) (by simp)
 have HB1 := Lib.hid (Zy hb1)
 have hsz1 : w.heap.size < w1.heap.size := Nat.lt_of_lt_of_le (by simp) hb1.size
 clear hb1
 go_wp2
 refine bodyPost_ret (v := .tuple #[.agg #[.string ⟨#[]⟩, .string ⟨#[]⟩], .int .i64 3]) ?_ rfl ?_
 ·simp [results, Tryz.results93, go_sem, c0, c1]
 ·unfold Za0
  rw [HE.out, HV.out]
  exact ⟨rfl, (HB1.out.setCell (Nat.le_refl _) _).setCell (Nat.le_refl _) _⟩
set_option maxRecDepth 100000 in
set_option maxHeartbeats 1000000 in
theorem Zm0 (k v : List UInt8) (w : World) (hr : Ready w) (hs : (k ++ 61 :: v).length ≤ 1048576) (h : (61 : UInt8) ∉ k) (h2 : (61 : UInt8) ∈ v) :
 Calls Tryz.prog 93 #[.string (ba (k ++ 61 :: v))] w (Za0 (k ++ 61 :: v) w) := by
 have hsk : (ba k).size ≤ 140737488351232 := by rw [ZS]; simp at hs; omega
 have hsv : (ba v).size ≤ 140737488351232 := by rw [ZS]; simp at hs; omega
 have hsv2 : (ba v).size < 4294967281 := by rw [ZS]; simp at hs; omega
 have HE := Lib.hid (ZlF h h2)
 have HV := Lib.hid (ZdO (x := k ++ 61 :: v) (by rw [HE.out]; decide))
 have HD := Lib.hid (Zhj h2)
 clear h2
 have HC := Lib.hid (Zdl h (b := v))
 have HR := Lib.hid hr
 have hsz : (ba (k ++ 61 :: v)).size < 4294967281 := by rw [ZS]; omega
 clear h hr
 go_enter Tryz.func93, Tryz.ntmps93
 go_wp2_with fail
 refine (ZcK 61 (ba (k ++ 61 :: v)) _ (HR.out.below ((Below.refl _ _).alloc (Nat.le_refl _) _)) hsz).mono ?_
 rintro e w1 ⟨rfl, hb1⟩
 rw [Zab, HC.out]
 have c0 := Zc hb1 (Zm (w := w) (t := 89) (cs := #[.string ⟨#[]⟩, .string ⟨#[]⟩]) (i := 0) (v := .string ⟨#[]⟩) rfl)
 have c1 := Zc hb1 (Zm (w := w) (t := 89) (cs := #[.string ⟨#[]⟩, .string ⟨#[]⟩]) (i := 1) (v := .string ⟨#[]⟩) rfl)
 have z0 := ZB hb1 (ZV (w := w) (t := 89) (cs := #[.string ⟨#[]⟩, .string ⟨#[]⟩]) (i := 0)) (by simp)
 have z1 := ZB hb1 (ZV (w := w) (t := 89) (cs := #[.string ⟨#[]⟩, .string ⟨#[]⟩]) (i := 1)) (by simp)
 have HB1 := Lib.hid (Zy hb1)
 have hsz1 : w.heap.size < w1.heap.size := Nat.lt_of_lt_of_le (by simp) hb1.size
 clear hb1
 go_wp2_with fail
 refine (Zbz 61 (ba v) _ (HR.out.below HB1.out) hsv2).mono ?_
 rintro e w1' ⟨rfl, rfl⟩
 rw [Zab, HD.out]
 go_wp2
 refine bodyPost_ret (v := .tuple #[.agg #[.string ⟨#[]⟩, .string ⟨#[]⟩], .int .i64 3]) ?_ rfl ?_
 ·simp [results, Tryz.results93, go_sem, c0, c1]
 ·unfold Za0
  rw [HE.out, HV.out]
  exact ⟨rfl, (HB1.out.setCell (Nat.le_refl _) _).setCell (Nat.le_refl _) _⟩
set_option maxRecDepth 100000 in
set_option maxHeartbeats 1000000 in
theorem ZnQ (k v : List UInt8) (w : World) (hr : Ready w) (hs : (k ++ 61 :: v).length ≤ 1048576) (h : (61 : UInt8) ∉ k) (h2 : (61 : UInt8) ∉ v) (hk : nameB (ba k) = false) :
 Calls Tryz.prog 93 #[.string (ba (k ++ 61 :: v))] w (Za0 (k ++ 61 :: v) w) := by
 have hsk : (ba k).size ≤ 140737488351232 := by rw [ZS]; simp at hs; omega
 have hsv : (ba v).size ≤ 140737488351232 := by rw [ZS]; simp at hs; omega
 have hsv2 : (ba v).size < 4294967281 := by rw [ZS]; simp at hs; omega
 have HE := Lib.hid (show oneE (k ++ 61 :: v) = 5 by rw [ZdN h h2, if_neg]; unfold Zby; simp [hk])
 have HV := Lib.hid (ZdO (x := k ++ 61 :: v) (by rw [HE.out]; decide))
 have HD := Lib.hid (ZbT h2)
 clear h2
 have HK := Lib.hid hk
 clear hk
 have HC := Lib.hid (Zdl h (b := v))
 have HR := Lib.hid hr
 have hsz : (ba (k ++ 61 :: v)).size < 4294967281 := by rw [ZS]; omega
 clear h hr
 go_enter Tryz.func93, Tryz.ntmps93
 go_wp2_with fail
 refine (ZcK 61 (ba (k ++ 61 :: v)) _ (HR.out.below ((Below.refl _ _).alloc (Nat.le_refl _) _)) hsz).mono ?_
 rintro e w1 ⟨rfl, hb1⟩
 rw [Zab, HC.out]
 have c0 := Zc hb1 (Zm (w := w) (t := 89) (cs := #[.string ⟨#[]⟩, .string ⟨#[]⟩]) (i := 0) (v := .string ⟨#[]⟩) rfl)
 have c1 := Zc hb1 (Zm (w := w) (t := 89) (cs := #[.string ⟨#[]⟩, .string ⟨#[]⟩]) (i := 1) (v := .string ⟨#[]⟩) rfl)
 have z0 := ZB hb1 (ZV (w := w) (t := 89) (cs := #[.string ⟨#[]⟩, .string ⟨#[]⟩]) (i := 0)) (by simp)
 have z1 := ZB hb1 (ZV (w := w) (t := 89) (cs := #[.string ⟨#[]⟩, .string ⟨#[]⟩]) (i := 1)) (by simp)
 have HB1 := Lib.hid (Zy hb1)
 have hsz1 : w.heap.size < w1.heap.size := Nat.lt_of_lt_of_le (by simp) hb1.size
 clear hb1
 go_wp2_with fail
 refine (Zbz 61 (ba v) _ (HR.out.below HB1.out) hsv2).mono ?_
 rintro e w1' ⟨rfl, rfl⟩
 rw [Zab, HD.out]
 go_wp2_with fail
 refine (Zcd (ba k) _ hsk).mono ?_
 rintro e w2 ⟨rfl, hb2⟩
 rw [HK.out]
 have c0' := Zc hb2 c0
 have c1' := Zc hb2 c1
 have z0' := ZB hb2 z0 hsz1
 have z1' := ZB hb2 z1 hsz1
 have HB2 := Lib.hid (HB1.out.trans (hb2.mono HB1.out.size))
 have hsz2 : w.heap.size < w2.heap.size := Nat.lt_of_lt_of_le hsz1 hb2.size
 clear hb2 c0 c1 z0 z1
 have c0 := c0'
 have c1 := c1'
 have z0 := z0'
 have z1 := z1'
 clear c0' c1' z0' z1'
 go_wp2
 refine bodyPost_ret (v := .tuple #[.agg #[.string ⟨#[]⟩, .string ⟨#[]⟩], .int .i64 5]) ?_ rfl ?_
 ·simp [results, Tryz.results93, go_sem, c0, c1]
 ·unfold Za0
  rw [HE.out, HV.out]
  exact ⟨rfl, (HB2.out.setCell (Nat.le_refl _) _).setCell (Nat.le_refl _) _⟩
set_option maxRecDepth 100000 in
set_option maxHeartbeats 1000000 in
theorem ZnR (k : List UInt8) (w : World) (hr : Ready w) (hs : (k ++ 61 :: [42]).length ≤ 1048576) (h : (61 : UInt8) ∉ k) (hk : nameB (ba k) = true) :
 Calls Tryz.prog 93 #[.string (ba (k ++ 61 :: [42]))] w (Za0 (k ++ 61 :: [42]) w) := by
 have h2 : (61 : UInt8) ∉ [42] := by decide
 have hsk : (ba k).size ≤ 140737488351232 := by rw [ZS]; simp at hs; omega
 have hsv : (ba [42]).size ≤ 140737488351232 := by rw [ZS]; decide
 have hsv2 : (ba [42]).size < 4294967281 := by rw [ZS]; decide
 have HE := Lib.hid (show oneE (k ++ 61 :: [42]) = 0 by rw [ZdN h h2, if_pos]; unfold Zby; simp [hk])
 have HV := Lib.hid (show oneR (k ++ 61 :: [42]) = (ba k, ba [42]) by rw [Zer HE.out, Zib h h2])
 have HD := Lib.hid (ZbT h2)
 clear h2
 have HK := Lib.hid hk
 clear hk
 have q0 : (ba [42]).toList = [42] := Zcb _
 have HC := Lib.hid (Zdl h (b := [42]))
 have HR := Lib.hid hr
 have hsz : (ba (k ++ 61 :: [42])).size < 4294967281 := by rw [ZS]; omega
 clear h hr
 go_enter Tryz.func93, Tryz.ntmps93
 go_wp2_with fail
 refine (ZcK 61 (ba (k ++ 61 :: [42])) _ (HR.out.below ((Below.refl _ _).alloc (Nat.le_refl _) _)) hsz).mono ?_
 rintro e w1 ⟨rfl, hb1⟩
 rw [Zab, HC.out]
 have c0 := Zc hb1 (Zm (w := w) (t := 89) (cs := #[.string ⟨#[]⟩, .string ⟨#[]⟩]) (i := 0) (v := .string ⟨#[]⟩) rfl)
 have c1 := Zc hb1 (Zm (w := w) (t := 89) (cs := #[.string ⟨#[]⟩, .string ⟨#[]⟩]) (i := 1) (v := .string ⟨#[]⟩) rfl)
 have z0 := ZB hb1 (ZV (w := w) (t := 89) (cs := #[.string ⟨#[]⟩, .string ⟨#[]⟩]) (i := 0)) (by simp)
 have z1 := ZB hb1 (ZV (w := w) (t := 89) (cs := #[.string ⟨#[]⟩, .string ⟨#[]⟩]) (i := 1)) (by simp)
 have HB1 := Lib.hid (Zy hb1)
 have hsz1 : w.heap.size < w1.heap.size := Nat.lt_of_lt_of_le (by simp) hb1.size
 clear hb1
 go_wp2_with fail
 refine (Zbz 61 (ba [42]) _ (HR.out.below HB1.out) hsv2).mono ?_
 rintro e w1' ⟨rfl, rfl⟩
 rw [Zab, HD.out]
 go_wp2_with fail
 refine (Zcd (ba k) _ hsk).mono ?_
 rintro e w2 ⟨rfl, hb2⟩
 rw [HK.out]
 have c0' := Zc hb2 c0
 have c1' := Zc hb2 c1
 have z0' := ZB hb2 z0 hsz1
 have z1' := ZB hb2 z1 hsz1
 have HB2 := Lib.hid (HB1.out.trans (hb2.mono HB1.out.size))
 have hsz2 : w.heap.size < w2.heap.size := Nat.lt_of_lt_of_le hsz1 hb2.size
 clear hb2 c0 c1 z0 z1
 have c0 := c0'
 have c1 := c1'
 have z0 := z0'
 have z1 := z1'
 clear c0' c1' z0' z1'
 go_wp2
 refine bodyPost_ret (v := .tuple #[.agg #[.string (ba k), .string (ba [42])], .int .i64 0]) ?_ rfl ?_
 ·simp [results, Tryz.results93, go_sem, c0, c1]
 ·unfold Za0
  rw [HE.out, HV.out]
  exact ⟨rfl, (HB2.out.setCell (Nat.le_refl _) _).setCell (Nat.le_refl _) _⟩
set_option maxRecDepth 100000 in
set_option maxHeartbeats 1000000 in
theorem ZlG (k v : List UInt8) (w : World) (hr : Ready w) (hs : (k ++ 61 :: v).length ≤ 1048576) (h : (61 : UInt8) ∉ k) (h2 : (61 : UInt8) ∉ v) (hk : nameB (ba k) = true) (hv : v ≠ [42]) (hn : nameB (ba v) = false) :
 Calls Tryz.prog 93 #[.string (ba (k ++ 61 :: v))] w (Za0 (k ++ 61 :: v) w) := by
 have hsk : (ba k).size ≤ 140737488351232 := by rw [ZS]; simp at hs; omega
 have hsv : (ba v).size ≤ 140737488351232 := by rw [ZS]; simp at hs; omega
 have hsv2 : (ba v).size < 4294967281 := by rw [ZS]; simp at hs; omega
 have HE := Lib.hid (show oneE (k ++ 61 :: v) = 5 by rw [ZdN h h2, if_neg]; unfold Zby; simp [hk, hv, hn])
 have HV := Lib.hid (ZdO (x := k ++ 61 :: v) (by rw [HE.out]; decide))
 have HD := Lib.hid (ZbT h2)
 clear h2
 have HK := Lib.hid hk
 have HN := Lib.hid hn
 clear hk hn
 have q0 : ((ba v).toList == [42]) = false := by rw [Zcb]; exact beq_eq_false_iff_ne.2 hv
 clear hv
 have HC := Lib.hid (Zdl h (b := v))
 have HR := Lib.hid hr
 have hsz : (ba (k ++ 61 :: v)).size < 4294967281 := by rw [ZS]; omega
 clear h hr
 go_enter Tryz.func93, Tryz.ntmps93
 go_wp2_with fail
 refine (ZcK 61 (ba (k ++ 61 :: v)) _ (HR.out.below ((Below.refl _ _).alloc (Nat.le_refl _) _)) hsz).mono ?_
 rintro e w1 ⟨rfl, hb1⟩
 rw [Zab, HC.out]
 have c0 := Zc hb1 (Zm (w := w) (t := 89) (cs := #[.string ⟨#[]⟩, .string ⟨#[]⟩]) (i := 0) (v := .string ⟨#[]⟩) rfl)
 have c1 := Zc hb1 (Zm (w := w) (t := 89) (cs := #[.string ⟨#[]⟩, .string ⟨#[]⟩]) (i := 1) (v := .string ⟨#[]⟩) rfl)
 have z0 := ZB hb1 (ZV (w := w) (t := 89) (cs := #[.string ⟨#[]⟩, .string ⟨#[]⟩]) (i := 0)) (by simp)
 have z1 := ZB hb1 (ZV (w := w) (t := 89) (cs := #[.string ⟨#[]⟩, .string ⟨#[]⟩]) (i := 1)) (by simp)
 have HB1 := Lib.hid (Zy hb1)
 have hsz1 : w.heap.size < w1.heap.size := Nat.lt_of_lt_of_le (by simp) hb1.size
 clear hb1
 go_wp2_with fail
 refine (Zbz 61 (ba v) _ (HR.out.below HB1.out) hsv2).mono ?_
 rintro e w1' ⟨rfl, rfl⟩
 rw [Zab, HD.out]
 go_wp2_with fail
 refine (Zcd (ba k) _ hsk).mono ?_
 rintro e w2 ⟨rfl, hb2⟩
 rw [HK.out]
 have c0' := Zc hb2 c0
 have c1' := Zc hb2 c1
 have z0' := ZB hb2 z0 hsz1
 have z1' := ZB hb2 z1 hsz1
 have HB2 := Lib.hid (HB1.out.trans (hb2.mono HB1.out.size))
 have hsz2 : w.heap.size < w2.heap.size := Nat.lt_of_lt_of_le hsz1 hb2.size
 clear hb2 c0 c1 z0 z1
 have c0 := c0'
 have c1 := c1'
 have z0 := z0'
 have z1 := z1'
 clear c0' c1' z0' z1'
 go_wp2_with fail
 refine (Zcd (ba v) _ hsv).mono ?_
 rintro e w3 ⟨rfl, hb3⟩
 rw [HN.out]
 have c0' := Zc hb3 c0
 have c1' := Zc hb3 c1
 have z0' := ZB hb3 z0 hsz2
 have z1' := ZB hb3 z1 hsz2
 have HB3 := Lib.hid (HB2.out.trans (hb3.mono HB2.out.size))
 have hsz3 : w.heap.size < w3.heap.size := Nat.lt_of_lt_of_le hsz2 hb3.size
 clear hb3 c0 c1 z0 z1
 have c0 := c0'
 have c1 := c1'
 have z0 := z0'
 have z1 := z1'
 clear c0' c1' z0' z1'
 go_wp2
 refine bodyPost_ret (v := .tuple #[.agg #[.string ⟨#[]⟩, .string ⟨#[]⟩], .int .i64 5]) ?_ rfl ?_
 ·simp [results, Tryz.results93, go_sem, c0, c1]
 ·unfold Za0
  rw [HE.out, HV.out]
  exact ⟨rfl, (HB3.out.setCell (Nat.le_refl _) _).setCell (Nat.le_refl _) _⟩
set_option maxRecDepth 100000 in
set_option maxHeartbeats 1000000 in
theorem Zm1 (k v : List UInt8) (w : World) (hr : Ready w) (hs : (k ++ 61 :: v).length ≤ 1048576) (h : (61 : UInt8) ∉ k) (h2 : (61 : UInt8) ∉ v) (hk : nameB (ba k) = true) (hv : v ≠ [42]) (hn : nameB (ba v) = true) :
 Calls Tryz.prog 93 #[.string (ba (k ++ 61 :: v))] w (Za0 (k ++ 61 :: v) w) := by
 have hsk : (ba k).size ≤ 140737488351232 := by rw [ZS]; simp at hs; omega
 have hsv : (ba v).size ≤ 140737488351232 := by rw [ZS]; simp at hs; omega
 have hsv2 : (ba v).size < 4294967281 := by rw [ZS]; simp at hs; omega
 have HE := Lib.hid (show oneE (k ++ 61 :: v) = 0 by rw [ZdN h h2, if_pos]; unfold Zby; simp [hk, hn])
 have HV := Lib.hid (show oneR (k ++ 61 :: v) = (ba k, ba v) by rw [Zer HE.out, Zib h h2])
 have HD := Lib.hid (ZbT h2)
 clear h2
 have HK := Lib.hid hk
 have HN := Lib.hid hn
 clear hk hn
 have q0 : ((ba v).toList == [42]) = false := by rw [Zcb]; exact beq_eq_false_iff_ne.2 hv
 clear hv
 have HC := Lib.hid (Zdl h (b := v))
 have HR := Lib.hid hr
 have hsz : (ba (k ++ 61 :: v)).size < 4294967281 := by rw [ZS]; omega
 clear h hr
 go_enter Tryz.func93, Tryz.ntmps93
 go_wp2_with fail
 refine (ZcK 61 (ba (k ++ 61 :: v)) _ (HR.out.below ((Below.refl _ _).alloc (Nat.le_refl _) _)) hsz).mono ?_
 rintro e w1 ⟨rfl, hb1⟩
 rw [Zab, HC.out]
 have c0 := Zc hb1 (Zm (w := w) (t := 89) (cs := #[.string ⟨#[]⟩, .string ⟨#[]⟩]) (i := 0) (v := .string ⟨#[]⟩) rfl)
 have c1 := Zc hb1 (Zm (w := w) (t := 89) (cs := #[.string ⟨#[]⟩, .string ⟨#[]⟩]) (i := 1) (v := .string ⟨#[]⟩) rfl)
 have z0 := ZB hb1 (ZV (w := w) (t := 89) (cs := #[.string ⟨#[]⟩, .string ⟨#[]⟩]) (i := 0)) (by simp)
 have z1 := ZB hb1 (ZV (w := w) (t := 89) (cs := #[.string ⟨#[]⟩, .string ⟨#[]⟩]) (i := 1)) (by simp)
 have HB1 := Lib.hid (Zy hb1)
 have hsz1 : w.heap.size < w1.heap.size := Nat.lt_of_lt_of_le (by simp) hb1.size
 clear hb1
 go_wp2_with fail
 refine (Zbz 61 (ba v) _ (HR.out.below HB1.out) hsv2).mono ?_
 rintro e w1' ⟨rfl, rfl⟩
 rw [Zab, HD.out]
 go_wp2_with fail
 refine (Zcd (ba k) _ hsk).mono ?_
 rintro e w2 ⟨rfl, hb2⟩
 rw [HK.out]
 have c0' := Zc hb2 c0
 have c1' := Zc hb2 c1
 have z0' := ZB hb2 z0 hsz1
 have z1' := ZB hb2 z1 hsz1
 have HB2 := Lib.hid (HB1.out.trans (hb2.mono HB1.out.size))
 have hsz2 : w.heap.size < w2.heap.size := Nat.lt_of_lt_of_le hsz1 hb2.size
 clear hb2 c0 c1 z0 z1
 have c0 := c0'
 have c1 := c1'
 have z0 := z0'
 have z1 := z1'
 clear c0' c1' z0' z1'
 go_wp2_with fail
 refine (Zcd (ba v) _ hsv).mono ?_
 rintro e w3 ⟨rfl, hb3⟩
 rw [HN.out]
 have c0' := Zc hb3 c0
 have c1' := Zc hb3 c1
 have z0' := ZB hb3 z0 hsz2
 have z1' := ZB hb3 z1 hsz2
 have HB3 := Lib.hid (HB2.out.trans (hb3.mono HB2.out.size))
 have hsz3 : w.heap.size < w3.heap.size := Nat.lt_of_lt_of_le hsz2 hb3.size
 clear hb3 c0 c1 z0 z1
 have c0 := c0'
 have c1 := c1'
 have z0 := z0'
 have z1 := z1'
 clear c0' c1' z0' z1'
 go_wp2
 refine bodyPost_ret (v := .tuple #[.agg #[.string (ba k), .string (ba v)], .int .i64 0]) ?_ rfl ?_
 ·simp [results, Tryz.results93, go_sem, c0, c1]
 ·unfold Za0
  rw [HE.out, HV.out]
  exact ⟨rfl, (HB3.out.setCell (Nat.le_refl _) _).setCell (Nat.le_refl _) _⟩
theorem Zm2 (x : List UInt8) (w : World) (hr : Ready w) (hs : x.length ≤ 1048576) : Calls Tryz.prog 93 #[.string (ba x)] w (Za0 x w) := by
 rcases Zdy (c := 61) x with h | ⟨k, v, rfl, h⟩
 ·exact ZmZ x w hr hs h
 ·by_cases h2 : (61 : UInt8) ∈ v
  ·exact Zm0 k v w hr hs h h2
  ·rcases hk : nameB (ba k) with _ | _
   ·exact ZnQ k v w hr hs h h2 hk
   ·by_cases hv : v = [42]
    ·subst hv; exact ZnR k w hr hs h hk
    ·rcases hn : nameB (ba v) with _ | _
     ·exact ZlG k v w hr hs h h2 hk hv hn
     ·exact Zm1 k v w hr hs h h2 hk hv hn
def flatP (l : List Pr) : List Value := l.flatMap encP
theorem ZdP (l : List Pr) (p : Pr) : flatP (l ++ [p]) = flatP l ++ [.string p.1, .string p.2] := by simp [flatP, encP]
theorem ZaH : ∀ {l : List Pr} {j : Nat} {p : Pr} (i : Nat), l[j]? = some p → i < 2 → (flatP l)[j * 2 + i]? = (encP p)[i]?
 | [], _, _, _, h, _ => by simp at h
 | q :: r, 0, p, i, h, hi => by
   simp at h
   subst h
   rw [flatP, List.flatMap_cons, List.getElem?_append_left (by rw [ZdB]; omega)]
   simp
 | q :: r, j + 1, p, i, h, hi => by
   have ih := ZaH (l := r) (j := j) i (by simpa using h) hi
   rw [flatP, List.flatMap_cons, List.getElem?_append_right (by rw [ZdB]; omega), ZdB, ← ih]
   unfold flatP
   congr 1
   omega
/-! ### Is a key met? -/
def keyB (k : ByteArray) (x : Pr) : Bool := x.1.data.toList == k.data.toList
theorem ZcH (l : List Pr) (k : ByteArray) : Zah l k = l.any (keyB k) := rfl
theorem Zes (k : ByteArray) (x : Pr) : (x.1.toList == k.toList) = keyB k x := by rw [ByteArray.toList_eq, ByteArray.toList_eq]; rfl
set_option maxHeartbeats 1000000 in
theorem Zjm (B : Nat) (k : ByteArray) (w : World) (hc : w.cell? ⟨B, 0, none⟩ = some (.string k)) (x : Pr) :
 Calls Tryz.prog 95 #[.agg #[.string x.1, .string x.2], .pointer (some ⟨B, 0, none⟩)] w fun e w' => e = .returned (.bool (keyB k x)) ∧ Below w.heap.size w w' := by
 have hB := World.block_lt_of_cell? w _ hc
 have hne : B ≠ w.heap.size := by simp at hB; omega
 have HQ := Lib.hid (Zes k x)
 go_enter Tryz.func95, Tryz.ntmps95
 go_wp2
 go_ret
 exact ⟨Zo HQ.out, box_below⟩
theorem Zm3 (B : Nat) (k : ByteArray) (w : World) (hc : w.cell? ⟨B, 0, none⟩ = some (.string k)) : PredBelow Tryz.prog 95 #[.pointer (some ⟨B, 0, none⟩)] (fun x : Pr => .agg (encP x).toArray) (keyB k) w :=
 fun W x hb => (Zjm B k W (Zc hb hc) x).mono fun _ _ ⟨he, hb'⟩ => ⟨he, hb.trans (hb'.mono hb.size)⟩
set_option maxHeartbeats 1000000 in
theorem ZlH (a : Option Addr) (cap : Nat) (f : Value) (w : World) :
 Calls Tryz.prog 119 #[.slice a 0 cap, f] w fun e w' => e = .returned (.int .i64 (-1)) ∧ w = w' := by
 go_enter Tryz.func119, Tryz.ntmps119
 go_wp2
 go_loop [8] (fun i => i = .int .i64 0) (fun _ => 0)
 case atStart => rfl
 case round =>
  subst hrel
  go_wp2
  go_ret
  exact ⟨rfl, rfl⟩
set_option maxHeartbeats 1000000 in
theorem ZnS (a : Option Addr) (cap : Nat) (f : Value) (w : World) :
 Calls Tryz.prog 94 #[.slice a 0 cap, f] w fun e w' => e = .returned (.bool false) ∧ w = w' := by
 go_enter Tryz.func94, Tryz.ntmps94
 go_wp2_with fail
 refine (ZlH _ _ _ _).mono ?_
 rintro e w1 ⟨rfl, rfl⟩
 go_wp2
 go_ret
 exact ⟨rfl, rfl⟩
theorem Zm4 {base : Nat} (v : Value) (l : List Pr) (B : Nat) (k : ByteArray) (w : World) (hown : w.ownsRow base 89 2 v l.length (flatP l)) (hc : w.cell? ⟨B, 0, none⟩ = some (.string k)) :
 Calls Tryz.prog 94 #[v, .func (.func 95) #[] #[.pointer (some ⟨B, 0, none⟩)]] w fun e w' => e = .returned (.bool (Zah l k)) ∧ Below w.heap.size w w' := by
 obtain ⟨a, cap, rfl, hcap, hmax, hlen, hcell⟩ := ZC hown
 rcases Nat.eq_zero_or_pos l.length with h0 | h0
 ·have hl : l = [] := List.length_eq_zero_iff.1 h0
  subst hl
  exact (ZnS a cap _ w).mono fun _ _ ⟨he, hw⟩ => ⟨he, hw ▸ Below.refl _ _⟩
 ·obtain ⟨p, hp⟩ : ∃ p, l[0]? = some p := ⟨_, List.getElem?_eq_getElem h0⟩
  obtain ⟨g, rfl, hg, hlt, _⟩ := hcell 0 (.string p.1) (by have := ZaH 0 hp (by omega); simpa [encP] using this)
  have h := AnyQ.slices_ContainsFunc Tryz.hasPair 2 Tryz.isAgg89 Tryz.sizeOf89 encP ZdB (keyB k) 95 #[.pointer (some ⟨B, 0, none⟩)] (enters_of Tryz.func95 (by kernel_rfl) rfl)
   g 0 l.length cap l w (Zm3 B k w hc) (Nat.le_refl _) (by unfold maxLen at hmax; omega) hlt (fun j hj i u hi => by
    have hlj : l[j]? = some l[j]! := by rw [List.getElem?_eq_getElem hj, getElem!_pos l j hj]
    have hi2 : i < 2 := (List.getElem?_eq_some_iff.1 hi).1
    obtain ⟨g', hg', _, _, hc', _⟩ := hcell (j * 2 + i) u (by rw [ZaH i hlj hi2]; exact hi)
    cases hg'
    rw [Nat.zero_add]
    exact hc')
  rw [List.take_length] at h
  exact h
def ZaT (r : List Pr × Int) (w : World) (e : Ending) (w' : World) : Prop :=
 ∃ v, e = .returned (.tuple #[v, .int .i64 r.2]) ∧ w'.ownsRow w.heap.size 89 2 v r.1.length (flatP r.1) ∧ Below w.heap.size w w'
theorem Zau {r : List Pr × Int} {w w' : World} {e : Int} (h : r = ([], e)) (hb : Below w.heap.size w w') : ZaT r w (.returned (.tuple #[.slice none 0 0, .int .i64 e])) w' := by
 subst h
 exact ⟨_, rfl, Za4 _ _ _ _, hb⟩
abbrev Zq (s : ByteArray) : List (List UInt8) := Zu 44 s.data.toList
def Zcc (l : List (List UInt8)) : Array Value := (l.map fun p => Value.string (ba p)).toArray
theorem Zgy {l : List (List UInt8)} {k : Nat} {x : List UInt8} (h : l[k]? = some x) : (Zcc l)[k]? = some (.string (ba x)) := by simp [Zcc, h]
theorem Zic {w : World} {g i : Nat} {cs : Array Value} {t : TypeId} {fr : Nat × Nat} {v : Value} (h : w.heap[g]? = some (.cells cs t fr)) (hi : cs[i]? = some v) : w.cell? ⟨g, i, none⟩ = some v := by
 simp [World.cell?, h, hi]
theorem Zad {acc : List Pr} {ps : List (List UInt8)} {k : Nat} {x : List UInt8} (h : ps[k]? = some x) : ZH acc (ps.drop k) = ZH acc (x :: ps.drop (k + 1)) := by
 obtain ⟨hk, rfl⟩ := List.getElem?_eq_some_iff.1 h
 rw [List.drop_eq_getElem_cons hk]
theorem Zfm {s : ByteArray} (h0 : s.size ≠ 0) (h : 6 < (Zq s).length) : Zn s = ([], 9) := by unfold Zn; rw [if_neg h0, if_pos h]
theorem Zf7 {s : ByteArray} (h0 : s.size ≠ 0) (h : ¬ 6 < (Zq s).length) : Zn s = ZH [] (Zq s) := by unfold Zn; rw [if_neg h0, if_neg h]
theorem Zf8 (s : ByteArray) (w : World) (hr : Ready w) (hs : s.size < 4294967281) :
 Calls Tryz.prog 92 #[.string s, .string ⟨#[44]⟩] w fun e w' => e = .returned (.slice (some ⟨w.heap.size, 0, none⟩) (Zq s).length (Zq s).length) ∧ w'.heap[w.heap.size]? = some (.cells (Zcc (Zq s)) 9) ∧ Below w.heap.size w w' :=
 (Zlj 44 s w hr hs).mono fun _ _ ⟨he, hw⟩ => ⟨he, hw ▸ heap_alloc_new w _, hw ▸ box_below⟩
def ZnT (s : ByteArray) (w : World) (v i : Value) (wr : World) : Prop := ∃ (k : Nat) (acc : List Pr), i = .int .i64 k ∧ k ≤ (Zq s).length ∧ acc.length = k ∧ ZH acc ((Zq s).drop k) = ZH [] (Zq s) ∧
 wr.ownsRow (w.heap.size + 1) 89 2 v k (flatP acc) ∧ wr.heap[w.heap.size]? = some (.cells (Zcc (Zq s)) 9) ∧ Below w.heap.size w wr
theorem Zet : (Tryz.prog.info? 89).map (fun i => (i.zero, i.size, i.bytes)) = some (some (.agg #[.string ⟨#[]⟩, .string ⟨#[]⟩]), 2, 32) := by kernel_rfl
set_option maxRecDepth 100000 in
set_option maxHeartbeats 1000000 in
theorem ZlI (s : ByteArray) (w : World) (hr : Ready w) (hs : s.size ≤ 1048576) (h0 : s.size ≠ 0) (h6 : ¬ 6 < (Zq s).length) :
 Calls Tryz.prog 66 #[.string s] w (ZaT (Zn s) w) := by
 have HR := Lib.hid hr
 have HP := Lib.hid (Zf7 h0 h6)
 have hsz : s.size < 4294967281 := by omega
 have hne : (s.toList == []) = false := by rw [beq_eq_false_iff_ne, ByteArray.toList_eq]; intro e; apply h0; rw [← show s.data.toList.length = s.size by simp, e]; rfl
 have HM := Lib.hid (fun x hx => ZaL 44 s.data.toList x hx)
 have hsl : s.data.toList.length = s.size := by simp
 have h6' : (Zq s).length ≤ 6 := by omega
 clear hr h0 h6
 go_enter Tryz.func66, Tryz.ntmps66
 go_wp2_with fail
 refine (Zf8 s _ HR.out hsz).mono ?_
 rintro e w1 ⟨rfl, hg0, hb1⟩
 have HG0 := Lib.hid hg0
 have HB1 := Lib.hid hb1
 clear hg0 hb1
 go_wp2_with fail
 go_loopw [5, 19] (fun v i wr => ZnT s w v i wr) (fun _ i _ => (Zq s).length - (intOf i).toNat)
 case atStart => exact ⟨0, [], rfl, Nat.zero_le _, rfl, rfl, Za4 _ _ _ _, HG0.out, HB1.out⟩
 case round =>
  obtain ⟨k, acc, rfl, hk, hacc, hpf, hown, hg0, hb⟩ := hrel
  have HA := Lib.hid hacc
  have HF := Lib.hid hpf
  have HO := Lib.hid hown
  have HG := Lib.hid hg0
  have HB := Lib.hid hb
  have hltw : w.heap.size < wr.heap.size := (Array.getElem?_eq_some_iff.1 hg0).1
  obtain ⟨a, cap, rfl, hcap, hmax, hlen, hcell⟩ := ZC hown
  clear hacc hpf hown hg0 hb hcell hlen HG0 HB1
  by_cases hlt : k < (Zq s).length
  ·obtain ⟨x, hx⟩ : ∃ x, (Zq s)[k]? = some x := ⟨_, List.getElem?_eq_getElem hlt⟩
   have hc := Zic HG.out (Zgy hx)
   have hxl : x.length ≤ 1048576 := by have := HM.out x (List.mem_of_getElem? hx); omega
   have HX := Lib.hid hx
   clear hx
   go_wp2_with fail
   refine (Zm2 x _ (HR.out.below HB.out) hxl).mono ?_
   rintro e w2 ⟨rfl, hb2⟩
   have HB2 := Lib.hid hb2
   clear hb2
   rcases Zkd x with h | h | h
   ·have HE := Lib.hid h
    have HV := Lib.hid (Zer h)
    rw [HE.out, HV.out]
    obtain ⟨q, hq⟩ : ∃ q, oneV x = q := ⟨_, rfl⟩
    have HQ := Lib.hid hq
    rw [hq]
    clear h hq
    have hsz2 : wr.heap.size ≤ w2.heap.size := HB2.out.size
    go_wp2_with fail
    refine (Zm4 (base := w.heap.size + 1) (Value.slice a k cap) acc w2.heap.size q.1 _ ?own (Zm rfl)).mono ?_
    case own => rw [HA.out]; exact (Zk HO.out HB2.out).alloc _
    rintro e w3 ⟨rfl, hb3⟩
    have c0 := Zc hb3 (Zm (w := w2) (t := 89) (cs := #[.string q.1, .string q.2]) (i := 0) (v := .string q.1) rfl)
    have c1 := Zc hb3 (Zm (w := w2) (t := 89) (cs := #[.string q.1, .string q.2]) (i := 1) (v := .string q.2) rfl)
    have HB3 := Lib.hid (HB2.out.trans ((Zy hb3).mono hsz2))
    have hsz3 : wr.heap.size ≤ w3.heap.size := HB3.out.size
    clear hb3
    rcases hh : Zah acc q.1 with _ | _
    ·have HF2 := Lib.hid (show ZH (acc ++ [q]) ((Zq s).drop (k + 1)) = ZH [] (Zq s) by
      rw [← HF.out, Zad HX.out, ZH, if_neg (by rw [HE.out]; decide), HQ.out, if_neg (by rw [hh]; decide)])
     have HO3 := Lib.hid (Zk HO.out HB3.out)
     clear hh
     go_wp2_with (at_builtin; refine ZbN rfl _ _ 83 rfl (w.heap.size + 1) _ 2 32 Tryz.underlying83 Zet rfl (by decide) (Value.slice a k cap) k (flatP acc) rfl HO3.out rfl rfl ?c1 ?c2 ?c3 ?c4 ?_; (case c1 => exact ZmM q); (case c2 => omega); (case c3 => omega); (case c4 => omega); intro v' w4 hown4 hg4 _)
     have HO4 := Lib.hid (show w4.ownsRow (w.heap.size + 1) 89 2 v' (k + 1) (flatP (acc ++ [q])) by rw [ZdP]; exact hown4)
     have HG4 := Lib.hid (show w4.heap[w.heap.size]? = some (.cells (Zcc (Zq s)) 9) by
      rw [hg4.block w.heap.size (by omega) (fun e => by have := Zl HO.out w.heap.size e.symm; omega), HB3.out.block w.heap.size hltw]; exact HG.out)
     have HB4 := Lib.hid (show Below w.heap.size w w4 from ((HB.out.trans (HB3.out.mono HB.out.size)).grown hg4 (by omega) (fun j hj => by have := Zl HO.out j hj; omega)))
     clear hown4 hg4
     go_wp2
     go_roundw
     case rel => exact ⟨k + 1, acc ++ [q], by go_num, by omega, by simp [HA.out], HF2.out, HO4.out, HG4.out, HB4.out⟩
     case measure => simp [intOf]; omega
    ·have HN := Lib.hid (show Zn s = ([], 8) by
      rw [HP.out, ← HF.out, Zad HX.out, ZH, if_neg (by rw [HE.out]; decide), if_pos (by rw [HQ.out]; exact hh)])
     clear hh c0 c1
     go_wp2
     go_ret2
     exact Zau HN.out (HB.out.trans (HB3.out.mono HB.out.size))
   ·have HN := Lib.hid (show Zn s = ([], 3) by rw [HP.out, ← HF.out, Zad HX.out, ZH, if_pos (by rw [h]; decide), h])
    have HE := Lib.hid h
    rw [HE.out]
    clear h
    go_wp2
    go_ret2
    exact Zau HN.out (HB.out.trans ((HB2.out.trans (box_below.mono HB2.out.size)).mono HB.out.size))
   ·have HN := Lib.hid (show Zn s = ([], 5) by rw [HP.out, ← HF.out, Zad HX.out, ZH, if_pos (by rw [h]; decide), h])
    have HE := Lib.hid h
    rw [HE.out]
    clear h
    go_wp2
    go_ret2
    exact Zau HN.out (HB.out.trans ((HB2.out.trans (box_below.mono HB2.out.size)).mono HB.out.size))
  ·have HN := Lib.hid (show Zn s = (acc, 0) by rw [HP.out, ← HF.out, List.drop_of_length_le (by omega)]; rfl)
   go_wp2
   go_ret2
   rw [HN.out]
   refine ⟨_, rfl, ?_, HB.out⟩
   rw [HA.out]
   exact Zap HO.out (by omega)
set_option maxHeartbeats 1000000 in
theorem Zjn (w : World) : Calls Tryz.prog 66 #[.string ⟨#[]⟩] w (ZaT (Zn ⟨#[]⟩) w) := by
 have HP := Lib.hid (show Zn ⟨#[]⟩ = ([], 0) from rfl)
 go_enter Tryz.func66, Tryz.ntmps66
 go_wp2
 go_ret2
 exact Zau HP.out (Below.refl _ _)
set_option maxHeartbeats 1000000 in
theorem Zku (s : ByteArray) (w : World) (hr : Ready w) (hs : s.size ≤ 1048576) (h0 : s.size ≠ 0) (h6 : 6 < (Zq s).length) :
 Calls Tryz.prog 66 #[.string s] w (ZaT (Zn s) w) := by
 have HR := Lib.hid hr
 have HP := Lib.hid (Zfm h0 h6)
 have hsz : s.size < 4294967281 := by omega
 have hne : (s.toList == []) = false := by rw [beq_eq_false_iff_ne, ByteArray.toList_eq]; intro e; apply h0; rw [← show s.data.toList.length = s.size by simp, e]; rfl
 clear hr h0
 go_enter Tryz.func66, Tryz.ntmps66
 go_wp2_with fail
 refine (Zf8 s _ HR.out hsz).mono ?_
 rintro e w1 ⟨rfl, hg0, hb1⟩
 go_wp2
 go_ret2
 exact Zau HP.out hb1
theorem Zb1 (s : ByteArray) (w : World) (hr : Ready w) (hs : s.size ≤ 1048576) : Calls Tryz.prog 66 #[.string s] w (ZaT (Zn s) w) := by
 by_cases h0 : s.size = 0
 ·have : s = ⟨#[]⟩ := by
   apply Zdj
   have : s.data.toList.length = 0 := by simpa using h0
   rw [List.length_eq_zero_iff.1 this]
  subst this
  exact Zjn w
 ·by_cases h6 : 6 < (Zq s).length
  ·exact Zku s w hr hs h0 h6
  ·exact ZlI s w hr hs h0 h6
def ZlJ (l : List Pr) : Prop := l.length ≤ 1000 ∧ ∀ p ∈ l, p.1.size ≤ 1048576 ∧ p.2.size ≤ 1048576
theorem Zeu {l : List Pr} {k : Nat} {p : Pr} (h : l[k]? = some p) : l.take (k + 1) = l.take k ++ [p] := by
 obtain ⟨hk, rfl⟩ := List.getElem?_eq_some_iff.1 h
 exact List.take_succ_eq_append_getElem hk
theorem Zfn : (Tryz.prog.info? 9).map (fun i => (i.zero, i.size, i.bytes)) = some (some (.string ⟨#[]⟩), 1, 16) := by kernel_rfl
theorem Zf9 (s : ByteArray) : ∀ u ∈ (#[Value.string s] : Array Value).toList, u.oneCell' = true := by
 intro u hu
 simp at hu
 subst hu
 rfl
def PairsAt (w : World) (v : Value) (l : List Pr) : Prop := ∃ a cap, v = .slice a l.length cap ∧ l.length ≤ cap ∧ cap ≤ maxLen ∧ ∀ i u, (flatP l)[i]? = some u → ∃ g, a = some ⟨g, 0, none⟩ ∧ g < w.heap.size ∧ w.cell? ⟨g, i, none⟩ = some u
theorem Zbu {w : World} {base : Nat} {v : Value} {l : List Pr} (h : w.ownsRow base 89 2 v l.length (flatP l)) : PairsAt w v l := by
 obtain ⟨a, cap, rfl, hcap, hmax, hlen, hcell⟩ := ZC h
 exact ⟨a, cap, rfl, hcap, hmax, fun i u hu => by obtain ⟨g, h1, _, h2, h3, _⟩ := hcell i u hu; exact ⟨g, h1, h2, h3⟩⟩
theorem PairsAt.below {w w' : World} {v : Value} {l : List Pr} (h : PairsAt w v l) (hb : Below w.heap.size w w') : PairsAt w' v l := by
 obtain ⟨a, cap, rfl, hcap, hmax, hcell⟩ := h
 exact ⟨a, cap, rfl, hcap, hmax, fun i u hu => by obtain ⟨g, h1, h2, h3⟩ := hcell i u hu; exact ⟨g, h1, Nat.lt_of_lt_of_le h2 hb.size, Zc hb h3⟩⟩
open Go.Sort hiding Below
theorem Zga : ∀ (ps : List (List UInt8)) (acc : List Pr) {l : List Pr} {e : Int}, ZH acc ps = (l, e) → l ≠ [] → e = 0
 | [], acc, l, e, h, _ => by simp [ZH] at h; exact h.2.symm
 | x :: r, acc, l, e, h, hne => by
   rw [ZH] at h
   split at h
   ·simp at h; exact absurd h.1 hne
   ·split at h
    ·simp at h; exact absurd h.1 hne
    ·exact Zga r _ h hne
theorem Zfo (c : UInt8) : ∀ (l : List (List UInt8)) (x : List UInt8), x ∈ l → x.length ≤ (Lib.join l [c]).length
 | [], _, h => by cases h
 | [y], x, h => by simp at h; subst h; simp [Lib.join, List.intercalate, List.intersperse]
 | y :: z :: r, x, h => by
   have e2 : Lib.join (y :: z :: r) [c] = y ++ c :: Lib.join (z :: r) [c] := by simp [Lib.join, List.intercalate, List.intersperse]
   rw [e2]
   rcases List.mem_cons.1 h with rfl | h
   ·simp
   ·have := Zfo c (z :: r) x h
    simp
    omega
theorem ZcU {s : ByteArray} (hs : s.size ≤ 1048576) : ZlJ (Zn s).1 := by
 refine ⟨by have := Zb7 s; omega, fun p hp => ?_⟩
 have hlen : s.data.toList.length = s.size := by simp
 rcases he : Zn s with ⟨l, e⟩
 rw [he] at hp
 have hne : l ≠ [] := by rintro rfl; cases hp
 have h0 : e = 0 := by
  unfold Zn at he
  split at he
  ·simp at he; exact absurd he.1 hne
  ·split at he
   ·simp at he; exact absurd he.1 hne
   ·exact Zga _ _ he hne
 subst h0
 have h1 := Zke he
 have h2 : (showP l).length = s.size := by rw [h1, hlen]
 have h3 : shown p ∈ l.map shown := List.mem_map.2 ⟨p, hp, rfl⟩
 have h4 := Zfo 44 (l.map shown) _ h3
 unfold showP at h2
 have e1 : p.1.data.toList.length = p.1.size := by simp
 have e2 : p.2.data.toList.length = p.2.size := by simp
 simp only [shown, List.length_append, List.length_cons] at h4
 omega
def Zkv (l : List (List UInt8)) (w : World) (e : Ending) (w' : World) : Prop :=
 ∃ v, e = .returned v ∧ w'.ownsRow w.heap.size 9 1 v l.length (l.map fun p => Value.string (ba p)) ∧ Below w.heap.size w w'
def Za5 (c : UInt8) (l : List UInt8) (ps : List (List UInt8)) (a i : Nat) : Prop :=
 (i ≤ l.length ∧ a ≤ i ∧ c ∉ (l.drop a).take (i - a) ∧ Zu c l = ps ++ Zu c (l.drop a)) ∨ (i = l.length + 1 ∧ Zu c l = ps)
theorem Zjo (c : UInt8) (l : List UInt8) : Za5 c l [] 0 0 := .inl ⟨Nat.zero_le _, Nat.le_refl _, by simp, rfl⟩
theorem ZlK {c : UInt8} {l : List UInt8} {ps : List (List UInt8)} {a : Nat} (h : Za5 c l ps a l.length) : Za5 c l (ps ++ [(l.drop a).take (l.length - a)]) (l.length + 1) (l.length + 1) := by
 rcases h with ⟨_, h1, h2, h3⟩ | ⟨h1, _⟩
 ·have e : (l.drop a).take (l.length - a) = l.drop a := List.take_of_length_le (by simp)
  rw [e] at h2 ⊢
  exact .inr ⟨rfl, by rw [h3, ZaV h2]⟩
 ·omega
theorem ZlL {c : UInt8} {l : List UInt8} {ps : List (List UInt8)} {a i : Nat} (h : Za5 c l ps a i) (hi : i < l.length) (hc : l[i] = c) : Za5 c l (ps ++ [(l.drop a).take (i - a)]) (i + 1) (i + 1) := by
 rcases h with ⟨_, h1, h2, h3⟩ | ⟨h1, _⟩
 ·refine .inl ⟨by omega, Nat.le_refl _, by simp, ?_⟩
  have e : l.drop a = (l.drop a).take (i - a) ++ c :: l.drop (i + 1) := by
   conv => lhs; rw [← List.take_append_drop (i - a) (l.drop a)]
   rw [List.drop_drop, show a + (i - a) = i by omega, List.drop_eq_getElem_cons hi, hc]
  rw [h3]
  conv => lhs; rw [e]
  rw [ZaR h2]
  simp
 ·omega
theorem Zkw {c : UInt8} {l : List UInt8} {ps : List (List UInt8)} {a i : Nat} (h : Za5 c l ps a i) (hi : i < l.length) (hc : l[i] ≠ c) : Za5 c l ps a (i + 1) := by
 rcases h with ⟨_, h1, h2, h3⟩ | ⟨h1, _⟩
 ·refine .inl ⟨by omega, by omega, ?_, h3⟩
  rw [show i + 1 - a = (i - a) + 1 by omega, List.take_succ_eq_append_getElem (by simp; omega)]
  simp only [List.mem_append, List.mem_singleton, not_or]
  refine ⟨h2, fun e => hc ?_⟩
  rw [e]
  simp only [List.getElem_drop]
  congr 1
  omega
 ·omega
theorem Zkx {c : UInt8} {l : List UInt8} {ps : List (List UInt8)} {a i : Nat} (h : Za5 c l ps a i) (hi : l.length < i) : Zu c l = ps := by
 rcases h with ⟨h1, _⟩ | ⟨_, h2⟩
 ·omega
 ·exact h2
theorem Zm5 {c : UInt8} {l : List UInt8} {ps : List (List UInt8)} {a i : Nat} (h : Za5 c l ps a i) : ps.length ≤ l.length + 1 := by
 have := Zlh c l
 rcases h with ⟨_, _, _, h2⟩ | ⟨_, h2⟩
 ·rw [h2] at this; simp at this; omega
 ·rw [h2] at this; exact this
theorem Zgb {c : UInt8} {l : List UInt8} {ps : List (List UInt8)} {a i : Nat} (h : Za5 c l ps a i) (hi : i ≤ l.length) : a ≤ i := by
 rcases h with ⟨_, h1, _⟩ | ⟨h1, _⟩
 ·exact h1
 ·omega
theorem Zgc (s : ByteArray) (a i : Nat) : s.extract a i = ba ((s.data.toList.drop a).take (i - a)) := by
 apply Zdj
 rw [Lib.extract_data, Zab]
def Zm6 (c : UInt8) (s : ByteArray) (w : World) (v a i : Value) (wr : World) : Prop := ∃ (ps : List (List UInt8)) (f k : Nat), a = .int .i64 f ∧ i = .int .i64 k ∧ k ≤ s.size + 1 ∧ f ≤ s.size + 1 ∧ Za5 c s.data.toList ps f k ∧
 wr.ownsRow w.heap.size 9 1 v ps.length (ps.map fun p => Value.string (ba p)) ∧ Below w.heap.size w wr
set_option maxRecDepth 100000 in
set_option maxHeartbeats 1000000 in
theorem ZdQ (s : ByteArray) (c : UInt8) (cI : Int) (hcI : cI = (c.toNat : Int)) (w : World) (hs : s.size ≤ 1048576) :
 Calls Tryz.prog 69 #[.string s, .int .u8 cI] w (Zkv (Zu c s.data.toList) w) := by
 have HC := Lib.hid hcI
 have HL := Lib.hid (show s.data.toList.length = s.size by simp)
 clear hcI
 go_enter Tryz.func69, Tryz.ntmps69
 go_wp2
 go_loopw [5, 6, 7] (fun v a i wr => Zm6 c s w v a i wr) (fun _ _ i _ => s.size + 1 - (intOf i).toNat)
 case atStart => exact ⟨[], 0, 0, rfl, rfl, Nat.zero_le _, Nat.zero_le _, Zjo _ _, Zal (Nat.le_refl _), box_below⟩
 case round =>
  obtain ⟨ps, f, k, rfl, rfl, hk, hf, hst, hown, hb⟩ := hrel
  have HS := Lib.hid hst
  have HO := Lib.hid hown
  have HB := Lib.hid hb
  have hszw := hb.size
  have hpl : ps.length ≤ 1048577 := by have := Zm5 hst; rw [HL.out] at this; omega
  clear hst hown hb
  by_cases hlt : k < s.size
  ·have hfk : f ≤ k := by have := Zgb HS.out (by rw [HL.out]; omega); omega
   have hkl : k < s.data.toList.length := by rw [HL.out]; exact hlt
   by_cases hc : s.data.toList[k] = c
   ·have HN := Lib.hid (ZlL HS.out hkl hc)
    have hb1 : (((s[k].toNat : Nat) : Int) == cI) = true := by rw [HC.out, beq_iff_eq, ← hc]; rfl
    clear hc
    have hks : k ≤ s.size := by omega
    have hkn : ((k : Int) == (s.size : Int)) = false := by rw [beq_eq_false_iff_ne]; omega
    go_wp2_with (at_builtin; refine ZbN rfl _ _ 151 rfl w.heap.size _ 1 16 Tryz.underlying151 Zfn rfl (by decide) u5 ps.length (ps.map fun p => Value.string (ba p)) rfl HO.out rfl rfl ?c1 ?c2 ?c3 ?c4 ?_; (case c1 => exact Zf9 _); (case c2 => omega); (case c3 => omega); (case c4 => omega); intro v' w4 hown4 hg4 _)
    have HO4 := Lib.hid (show w4.ownsRow w.heap.size 9 1 v' (ps ++ [(s.data.toList.drop f).take (k - f)]).length ((ps ++ [(s.data.toList.drop f).take (k - f)]).map fun p => Value.string (ba p)) by
     rw [List.map_append, List.length_append, List.map_singleton, ← Zgc]; exact hown4)
    have HB4 := Lib.hid (show Below w.heap.size w w4 from HB.out.grown hg4 hszw (fun j hj => Zl HO.out j hj))
    clear hown4 hg4
    go_wp2
    go_roundw
    case rel => exact ⟨_, k + 1, k + 1, by go_num, by go_num, by omega, by omega, HN.out, HO4.out, HB4.out⟩
    case measure => simp [intOf]; omega
   ·have HN := Lib.hid (Zkw HS.out hkl hc)
    have hb1 : (((s[k].toNat : Nat) : Int) == cI) = false := by
     rw [HC.out, beq_eq_false_iff_ne]
     intro e
     apply hc
     exact UInt8.toNat_inj.1 (Int.ofNat_inj.1 e)
    clear hc
    have hkn : ((k : Int) == (s.size : Int)) = false := by rw [beq_eq_false_iff_ne]; omega
    go_wp2
    go_roundw
    case rel => exact ⟨ps, f, k + 1, rfl, by go_num, by omega, hf, HN.out, HO.out, HB.out⟩
    case measure => simp [intOf]; omega
  ·by_cases hke : k = s.size
   ·subst hke
    have hfk : f ≤ s.size := by have := Zgb HS.out (by rw [HL.out]; omega); omega
    have HN := Lib.hid (show Za5 c s.data.toList (ps ++ [(s.data.toList.drop f).take (s.size - f)]) (s.size + 1) (s.size + 1) by
     have h := HS.out
     rw [← HL.out] at h ⊢
     exact ZlK h)
    go_wp2_with (at_builtin; refine ZbN rfl _ _ 151 rfl w.heap.size _ 1 16 Tryz.underlying151 Zfn rfl (by decide) u5 ps.length (ps.map fun p => Value.string (ba p)) rfl HO.out rfl rfl ?c1 ?c2 ?c3 ?c4 ?_; (case c1 => exact Zf9 _); (case c2 => omega); (case c3 => omega); (case c4 => omega); intro v' w4 hown4 hg4 _)
    have HO4 := Lib.hid (show w4.ownsRow w.heap.size 9 1 v' (ps ++ [(s.data.toList.drop f).take (s.size - f)]).length ((ps ++ [(s.data.toList.drop f).take (s.size - f)]).map fun p => Value.string (ba p)) by
     rw [List.map_append, List.length_append, List.map_singleton, ← Zgc]; exact hown4)
    have HB4 := Lib.hid (show Below w.heap.size w w4 from HB.out.grown hg4 hszw (fun j hj => Zl HO.out j hj))
    clear hown4 hg4
    go_wp2
    go_roundw
    case rel => exact ⟨_, s.size + 1, s.size + 1, by go_num, by go_num, by omega, by omega, HN.out, HO4.out, HB4.out⟩
    case measure => simp [intOf]
   ·have hge : s.size < k := by omega
    have HD := Lib.hid (Zkx HS.out (by rw [HL.out]; exact hge))
    go_wp2
    go_ret
    rw [HD.out]
    exact ⟨_, rfl, HO.out, HB.out⟩
theorem Zm7 : (Tryz.prog.info? 21).map (fun i => (i.zero, i.size, i.bytes)) = some (some (.int .i32 0), 1, 4) := by kernel_rfl
set_option maxHeartbeats 400000 in
theorem ZlM (r : Nat) (w : World) (hr : r < 1114112) :
 Calls Tryz.prog 100 #[.int .i32 r] w fun e w' => e = .returned (.int .i64 (kindN r : Nat)) ∧ w = w' := by
 rcases Bool.eq_false_or_eq_true (ZW r) with h1 | h1
 ·have H := Lib.hid (show kindN r = 1 from Ze3 h1)
  go_enter Tryz.func100, Tryz.ntmps100
  go_wp2_with (go_at_call 121; refine (ZbI _ _ hr).mono ?_; rintro e w' ⟨rfl, rfl⟩)
  go_ret
  exact ⟨ZM (by rw [H.out]; rfl), rfl⟩
 ·rcases Bool.eq_false_or_eq_true (btw 48 r 57) with h2 | h2
  ·have h2' : 48 ≤ r ∧ r ≤ 57 := by simpa [btw] using h2
   have H := Lib.hid (show kindN r = 2 from Ze4 h1 h2')
   clear h2'
   go_enter Tryz.func100, Tryz.ntmps100
   go_wp2_with (first | (go_at_call 121; refine (ZbI _ _ hr).mono ?_; rintro e w' ⟨rfl, rfl⟩) | (go_at_call 122; refine (ZI _ _ _ _).mono ?_; rintro e w' ⟨rfl, rfl⟩))
   go_ret
   exact ⟨ZM (by rw [H.out]; rfl), rfl⟩
  ·have h2' : ¬ (48 ≤ r ∧ r ≤ 57) := by simpa [btw] using h2
   by_cases h3 : r = 45 ∨ r = 46
   ·have H := Lib.hid (show kindN r = 3 from Zdx h1 h2' h3)
    clear h2'
    rcases h3 with rfl | rfl
    ·go_enter Tryz.func100, Tryz.ntmps100
     go_wp2_with (first | (go_at_call 121; refine (ZbI 45 _ hr).mono ?_; rintro e w' ⟨rfl, rfl⟩) | (go_at_call 122; refine (ZI 45 48 57 _).mono ?_; rintro e w' ⟨rfl, rfl⟩))
     go_ret
     exact ⟨ZM (by rw [H.out]; rfl), rfl⟩
    ·go_enter Tryz.func100, Tryz.ntmps100
     go_wp2_with (first | (go_at_call 121; refine (ZbI 46 _ hr).mono ?_; rintro e w' ⟨rfl, rfl⟩) | (go_at_call 122; refine (ZI 46 48 57 _).mono ?_; rintro e w' ⟨rfl, rfl⟩))
     go_ret
     exact ⟨ZM (by rw [H.out]; rfl), rfl⟩
   ·have e5 : ((r : Int) == 45) = false := beq_eq_false_iff_ne.2 (by omega)
    have e6 : ((r : Int) == 46) = false := beq_eq_false_iff_ne.2 (by omega)
    rcases Bool.eq_false_or_eq_true (ZaG r) with h4 | h4
    ·have H := Lib.hid (show kindN r = 4 from Ze5 h1 h2' h3 h4)
     clear h2' h3
     go_enter Tryz.func100, Tryz.ntmps100
     go_wp2_with (first | (go_at_call 121; refine (ZbI _ _ hr).mono ?_; rintro e w' ⟨rfl, rfl⟩) | (go_at_call 122; refine (ZI _ _ _ _).mono ?_; rintro e w' ⟨rfl, rfl⟩) | (go_at_call 123; refine (ZfN _ _ hr).mono ?_; rintro e w' ⟨rfl, rfl⟩))
     go_ret
     exact ⟨ZM (by rw [H.out]; rfl), rfl⟩
    ·have H := Lib.hid (show kindN r = 0 from Zck h1 h2' h3 h4)
     clear h2' h3
     go_enter Tryz.func100, Tryz.ntmps100
     go_wp2_with (first | (go_at_call 121; refine (ZbI _ _ hr).mono ?_; rintro e w' ⟨rfl, rfl⟩) | (go_at_call 122; refine (ZI _ _ _ _).mono ?_; rintro e w' ⟨rfl, rfl⟩) | (go_at_call 123; refine (ZfN _ _ hr).mono ?_; rintro e w' ⟨rfl, rfl⟩))
     go_ret
     exact ⟨ZM (by rw [H.out]; rfl), rfl⟩
theorem Zm8 (r : Nat) : kindN r ≤ 4 := by
 unfold kindN
 (repeat' split) <;> omega
def rv (r : Nat) : Value := .int .i32 (r : Int)
set_option maxHeartbeats 1000000 in
theorem Zky (s : ByteArray) (w : World) (hs : s.size ≤ 1000) :
 Calls Tryz.prog 99 #[.string s] w fun e w' => ∃ v, e = .returned v ∧ w'.ownsRow w.heap.size 21 1 v (runes s).length ((runes s).map rv) ∧ Below w.heap.size w w' := by
 go_enter Tryz.func99, Tryz.ntmps99
 go_wp2
 go_loopw [3] (fun v wr => ∃ (pos f : Nat) (l : List Nat), l ++ Zag s f pos = runes s ∧ s.size ≤ pos + f ∧ l.length ≤ pos ∧ pos ≤ s.size + 4 ∧ wr.ownsRow w.heap.size 21 1 v l.length (l.map rv) ∧ wr.heap[w.heap.size + 1]? = some (.stringIter s pos) ∧ Below w.heap.size w wr)
  (fun _ wr => s.size - wr.iterPos (w.heap.size + 1))
 case atStart =>
  refine ⟨0, s.size, [], rfl, by omega, by simp, by omega, ?_, ?_, ((Below.refl _ _).alloc (Nat.le_refl _) _).alloc (by simp) _⟩
  ·exact (World.ownsRow_made w #[] 0 (Nat.le_refl _) (by decide) rfl).alloc _
  ·have := World.iter_heap (w.alloc (.cells #[] 21)) s 0
   simpa using this
 case round =>
  obtain ⟨pos, f, l, hl, hf, hlp, hp4, how, hit, hb⟩ := hrel
  have HL := Lib.hid hl; clear hl
  have HO := Lib.hid how; clear how
  by_cases hp : pos < s.size
  ·have hnx := fun ty => Lib.run_next_any_at (P := Tryz.prog) wr (w.heap.size + 1) s pos ty hit hp
   obtain ⟨g, rfl, hg⟩ := Ze1 s f pos hp hf
   have HG := Lib.hid hg; clear hg
   obtain ⟨hd1, hd2, _⟩ := Zb5 s pos
   have hdw : (Utf8.decode s pos).2 ≤ 4 := Zec s pos
   have hb1 : Below w.heap.size w (wr.iterAt (w.heap.size + 1) s (pos + (Utf8.decode s pos).2)) := Lib.below_iterAt hb (by omega) _ _
   have hit1 : (wr.iterAt (w.heap.size + 1) s (pos + (Utf8.decode s pos).2)).heap[w.heap.size + 1]? = some (.stringIter s (pos + (Utf8.decode s pos).2)) := Lib.iterAt_heap _ _ _ _ _ hit
   have HB1 := Lib.hid hb1; clear hb1
   have HI1 := Lib.hid hit1; clear hit1
   have HO1 := Lib.hid (Zka HO.out hit (pos + (Utf8.decode s pos).2))
   go_wp2_with (at_builtin; go_must (refine ZeY rfl _ _ 185 rfl w.heap.size (.int .i32 0) 4 Tryz.underlying185 Zm7 rfl _ _ _ rfl HO1.out rfl rfl HB1.out.size (by omega) (by omega) ?_); intro v' w1 how1 hg _)
   have HO2 := Lib.hid how1; clear how1
   have HB2 := Lib.hid (HB1.out.grown hg HB1.out.size (fun k hk => (HO1.out.lt k hk).1))
   have HI2 := Lib.hid ((hg.block (w.heap.size + 1) (Array.getElem?_eq_some_iff.1 HI1.out).1 (Ze0 HO1.out HI1.out)).trans HI1.out)
   clear hg hnx
   go_wp2
   go_roundw
   case rel =>
    refine ⟨pos + (Utf8.decode s pos).2, g, l ++ [(Utf8.decode s pos).1], by rw [List.append_assoc, List.singleton_append, ← HG.out, HL.out], by omega, by simp; omega, by omega, ?_, HI2.out, HB2.out⟩
    have := HO2.out
    simpa [rv] using this
   case measure =>
    rw [iterPos_of HI2.out, iterPos_of hit]
    omega
  ·have hnx := fun ty => Lib.run_next_end_at (P := Tryz.prog) wr (w.heap.size + 1) s pos ty hit hp
   have HE := Lib.hid (show l = runes s by rw [← HL.out, ZfL s f pos hp, List.append_nil])
   go_wp2_with fail
   go_ret
   exact ⟨_, rfl, by rw [← HE.out]; exact HO.out, hb⟩
theorem Zgd {s : ByteArray} {i : Nat} {r : Nat} (h : (runes s)[i]? = some r) (hr : okR r = false) : nameB s = false := by
 unfold nameB
 have : (runes s).all okR = false := by
  rw [List.all_eq_false]
  exact ⟨r, List.mem_of_getElem? h, by simp [hr]⟩
 rw [this]
 rfl
theorem Zjp {s : ByteArray} (h : ∀ (i r : Nat), (runes s)[i]? = some r → okR r = true) : nameB s = decide (1 ≤ (runes s).length ∧ (runes s).length ≤ 16) := by
 unfold nameB
 have : (runes s).all okR = true := by
  rw [List.all_eq_true]
  intro r hr
  obtain ⟨i, hi, rfl⟩ := List.getElem_of_mem hr
  exact h i _ (List.getElem?_eq_getElem hi)
 rw [this]
 rfl
theorem Zg1 (s : ByteArray) : ∀ f pos, ∀ r ∈ Zag s f pos, r < 1114112
 | 0, _, r, h => by simp [Zag] at h
 | f + 1, pos, r, h => by
   unfold Zag at h
   split at h
   ·rcases List.mem_cons.1 h with rfl | h
    ·exact (Zb5 s pos).1
    ·exact Zg1 s f _ r h
   ·cases h
theorem Zge (s : ByteArray) : ∀ f pos, (Zag s f pos).length ≤ f
 | 0, _ => by simp [Zag]
 | f + 1, pos => by
   unfold Zag
   split
   ·simp; exact Zge s f _
   ·simp
set_option maxHeartbeats 1000000 in
theorem Zev (s : ByteArray) (w : World) (hs : s.size ≤ 140737488351232) :
 Calls Tryz.prog 70 #[.string s] w fun e w' => e = .returned (.bool (nameB s)) ∧ Below w.heap.size w w' := by
 by_cases hl : 100 < s.size
 ·have H := Lib.hid (show nameB s = false by
   rcases Bool.eq_false_or_eq_true (nameB s) with h | h
   ·have := Zkb h; omega
   ·exact h)
  go_enter Tryz.func70, Tryz.ntmps70
  go_wp2
  go_ret
  exact ⟨Zo H.out.symm, Below.refl _ _⟩
 ·have hN := Zge s s.size 0
  have hN2 : (runes s).length ≤ s.size := hN
  clear hN
  go_enter Tryz.func70, Tryz.ntmps70
  go_wp2_with fail
  refine (Zky s _ (by omega)).mono ?_
  rintro e w1 ⟨v, rfl, how, hb⟩
  obtain ⟨a, cap, rfl, hlen, hcell⟩ := ZmI how
  clear how hlen
  have HC := Lib.hid hcell; clear hcell
  go_wp2
  go_loopw [4] (fun i wr => ∃ k : Nat, k ≤ (runes s).length ∧ i = .int .i64 k ∧ (∀ j r, j < k → (runes s)[j]? = some r → okR r = true) ∧ w1 = wr) (fun i _ => (runes s).length - (intOf i).toNat)
  case atStart => exact ⟨0, by omega, rfl, fun j r hj => by omega, rfl⟩
  case round =>
   obtain ⟨k, hk, rfl, hno, rfl⟩ := hrel
   have HN := Lib.hid hno; clear hno
   by_cases hlt : k < (runes s).length
   ·obtain ⟨g, rfl, hg, hcl⟩ := HC.out k (rv ((runes s)[k])) (by rw [List.getElem?_map, List.getElem?_eq_getElem hlt]; rfl)
    have hrl := Zg1 s s.size 0 _ (List.getElem_mem hlt)
    have HR := Lib.hid (List.getElem?_eq_getElem hlt)
    have hcl' : w1.cell? ⟨g, k, none⟩ = some (.int .i32 ((runes s)[k] : Nat)) := hcl
    clear hcl
    change (runes s)[k] < 1114112 at hrl
    generalize (runes s)[k] = r at *
    go_wp2_with fail
    refine (ZlM _ _ hrl).mono ?_
    rintro e w2 ⟨rfl, rfl⟩
    by_cases h0 : kindN r = 0
    ·have HF := Lib.hid (Zgd HR.out (by simp [okR, h0]))
     rw [h0]
     clear h0
     go_wp2
     go_ret
     exact ⟨Zo HF.out.symm, hb⟩
    ·by_cases h4 : kindN r = 4
     ·have HF := Lib.hid (Zgd HR.out (by simp [okR, h4]))
      rw [h4]
      clear h0 h4
      go_wp2
      go_ret
      exact ⟨Zo HF.out.symm, hb⟩
     ·have HF := Lib.hid (show okR r = true by simp [okR, h0, h4])
      have h3 : kindN r ≤ 3 := by have := Zm8 r; omega
      generalize hkk : kindN r = K at *
      clear hkk
      go_wp2
      go_roundw
      case rel =>
       refine ⟨k + 1, by omega, by go_num, fun j r' hj hr' => ?_, trivial⟩
       rcases Nat.lt_or_ge j k with h | h
       ·exact HN.out j r' h hr'
       ·obtain rfl : j = k := by omega
        rw [HR.out] at hr'
        obtain rfl := Option.some.inj hr'
        exact HF.out
      case measure => simp [intOf]; omega
   ·have HE := Lib.hid (Zjp (s := s) (fun i r hr => HN.out i r (by
     rcases Nat.lt_or_ge i k with h | h
     ·exact h
     ·rw [List.getElem?_eq_none (by omega)] at hr; cases hr) hr))
    by_cases h1 : 1 ≤ (runes s).length
    ·go_wp2_with fail
     go_ret
     refine ⟨Zo ?_, hb⟩
     rw [HE.out, Bool.eq_iff_iff]
     simp only [decide_eq_true_eq]
     omega
    ·have H1 := Lib.hid h1
     go_wp2_with fail
     go_ret
     refine ⟨Zo ?_, hb⟩
     rw [HE.out]
     exact (decide_eq_false fun h => H1.out h.1).symm
end Go.Proofs.YtdbjihkgafhakaaGreatDoor
