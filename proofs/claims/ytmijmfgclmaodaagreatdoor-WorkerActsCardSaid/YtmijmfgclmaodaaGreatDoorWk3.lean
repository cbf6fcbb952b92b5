/-
  worker.check, May, New, Last, and the law's small functions: the walks.
-/
import Derived.Test.YtmijmfgclmaodaaGreatDoorWk2
namespace Go.Proofs.YtmijmfgclmaodaaGreatDoor
open Go.RowKit

/-- Is a class one that may be? -/
def clsB (x : Wk) : Bool := decide (0 ≤ x.cls) && decide (x.cls ≤ 3)
/-- What is wrong with a worker; 0: nothing. Its platform. -/
def chkE (x : Wk) : Int := if nameB x.name = true then if clsB x = true then canonE x.plat else 1 else 5
def chkS (x : Wk) : List UInt8 := if nameB x.name = true then if clsB x = true then canonP x.plat else [] else []
theorem chk_name {x : Wk} (h : nameB x.name = false) : chkE x = 5 ∧ chkS x = [] := by unfold chkE chkS; rw [if_neg (by rw [h]; decide), if_neg (by rw [h]; decide)]; exact ⟨rfl, rfl⟩
theorem chk_cls {x : Wk} (h : nameB x.name = true) (h2 : clsB x = false) : chkE x = 1 ∧ chkS x = [] := by unfold chkE chkS; rw [if_pos h, if_pos h, if_neg (by rw [h2]; decide), if_neg (by rw [h2]; decide)]; exact ⟨rfl, rfl⟩
theorem chk_plat {x : Wk} (h : nameB x.name = true) (h2 : clsB x = true) : chkE x = canonE x.plat ∧ chkS x = canonP x.plat := by unfold chkE chkS; rw [if_pos h, if_pos h, if_pos h2, if_pos h2]; exact ⟨rfl, rfl⟩
/-- A worker whose texts are not too long to be looked at. -/
def SmallW (x : Wk) : Prop := x.name.size ≤ 1048576 ∧ x.plat.size ≤ 1048576

set_option maxRecDepth 100000 in
set_option maxHeartbeats 1000000 in
theorem check_name (x : Wk) (w : World) (_hr : Ready w) (hs : SmallW x) (h : nameB x.name = false) :
    Calls Tryz.prog 55 #[.agg #[.int .i64 x.no, .int .i64 x.cls, .int .i64 x.op, .string x.name, .string x.plat, .bool x.paused, .int .u64 x.untl]] w fun e w' => e = .returned (.tuple #[.string ⟨#[]⟩, .int .i64 5]) ∧ Below w.heap.size w w' := by
  obtain ⟨hs1, hs2⟩ := id hs
  have HN := Lib.hid h
  clear h
  go_enter Tryz.func55, Tryz.ntmps55
  go_wp2_with fail
  refine (name_any x.name _ (by omega)).mono ?_
  rintro e w1 ⟨rfl, hb1⟩
  rw [HN.out]
  obtain ⟨hc1, -⟩ := bcell hb1
  have HB1 := Lib.hid (box_below.trans (hb1.mono (by simp)))
  have hz1 : w.heap.size < w1.heap.size := by have := hb1.size; simp at this; omega
  clear hb1
  go_wp2
  go_ret2
  exact ⟨rfl, HB1.out⟩
set_option maxRecDepth 100000 in
set_option maxHeartbeats 1000000 in
theorem check_lo (x : Wk) (w : World) (_hr : Ready w) (hs : SmallW x) (h : nameB x.name = true) (h2 : x.cls < 0) :
    Calls Tryz.prog 55 #[.agg #[.int .i64 x.no, .int .i64 x.cls, .int .i64 x.op, .string x.name, .string x.plat, .bool x.paused, .int .u64 x.untl]] w fun e w' => e = .returned (.tuple #[.string ⟨#[]⟩, .int .i64 1]) ∧ Below w.heap.size w w' := by
  obtain ⟨hs1, hs2⟩ := id hs
  have HN := Lib.hid h
  clear h
  go_enter Tryz.func55, Tryz.ntmps55
  go_wp2_with fail
  refine (name_any x.name _ (by omega)).mono ?_
  rintro e w1 ⟨rfl, hb1⟩
  rw [HN.out]
  obtain ⟨hc1, -⟩ := bcell hb1
  have HB1 := Lib.hid (box_below.trans (hb1.mono (by simp)))
  have hz1 : w.heap.size < w1.heap.size := by have := hb1.size; simp at this; omega
  clear hb1
  go_wp2
  go_ret2
  exact ⟨rfl, HB1.out⟩
set_option maxRecDepth 100000 in
set_option maxHeartbeats 1000000 in
theorem check_hi (x : Wk) (w : World) (_hr : Ready w) (hs : SmallW x) (h : nameB x.name = true) (h2 : 3 < x.cls) :
    Calls Tryz.prog 55 #[.agg #[.int .i64 x.no, .int .i64 x.cls, .int .i64 x.op, .string x.name, .string x.plat, .bool x.paused, .int .u64 x.untl]] w fun e w' => e = .returned (.tuple #[.string ⟨#[]⟩, .int .i64 1]) ∧ Below w.heap.size w w' := by
  obtain ⟨hs1, hs2⟩ := id hs
  have HN := Lib.hid h
  clear h
  go_enter Tryz.func55, Tryz.ntmps55
  go_wp2_with fail
  refine (name_any x.name _ (by omega)).mono ?_
  rintro e w1 ⟨rfl, hb1⟩
  rw [HN.out]
  obtain ⟨hc1, -⟩ := bcell hb1
  have HB1 := Lib.hid (box_below.trans (hb1.mono (by simp)))
  have hz1 : w.heap.size < w1.heap.size := by have := hb1.size; simp at this; omega
  clear hb1
  go_wp2
  go_ret2
  exact ⟨rfl, HB1.out⟩
set_option maxRecDepth 100000 in
set_option maxHeartbeats 1000000 in
theorem check_plat (x : Wk) (w : World) (hr : Ready w) (hs : SmallW x) (h : nameB x.name = true) (h2 : 0 ≤ x.cls) (h3 : x.cls ≤ 3) :
    Calls Tryz.prog 55 #[.agg #[.int .i64 x.no, .int .i64 x.cls, .int .i64 x.op, .string x.name, .string x.plat, .bool x.paused, .int .u64 x.untl]] w fun e w' => e = .returned (.tuple #[.string (ba (canonP x.plat)), .int .i64 (canonE x.plat)]) ∧ Below w.heap.size w w' := by
  obtain ⟨hs1, hs2⟩ := id hs
  have HR := Lib.hid hr
  clear hr
  have HN := Lib.hid h
  clear h
  go_enter Tryz.func55, Tryz.ntmps55
  go_wp2_with fail
  refine (name_any x.name _ (by omega)).mono ?_
  rintro e w1 ⟨rfl, hb1⟩
  rw [HN.out]
  obtain ⟨hc1, -⟩ := bcell hb1
  have HB1 := Lib.hid (box_below.trans (hb1.mono (by simp)))
  have hz1 : w.heap.size < w1.heap.size := by have := hb1.size; simp at this; omega
  clear hb1
  go_wp2_with fail
  refine (canon_any x.plat _ (HR.out.below HB1.out) hs.2).mono ?_
  rintro e w2 ⟨rfl, hb2⟩
  go_wp2
  go_ret2
  exact ⟨rfl, HB1.out.trans (hb2.mono HB1.out.size)⟩
theorem wkcheck_any (x : Wk) (w : World) (hr : Ready w) (hs : SmallW x) :
    Calls Tryz.prog 55 #[.agg #[.int .i64 x.no, .int .i64 x.cls, .int .i64 x.op, .string x.name, .string x.plat, .bool x.paused, .int .u64 x.untl]] w fun e w' => e = .returned (.tuple #[.string (ba (chkS x)), .int .i64 (chkE x)]) ∧ Below w.heap.size w w' := by
  rcases h : nameB x.name with _ | _
  · rw [(chk_name h).1, (chk_name h).2]
    exact check_name x w hr hs h
  · rcases h2 : clsB x with _ | _
    · rw [(chk_cls h h2).1, (chk_cls h h2).2]
      by_cases h3 : x.cls < 0
      · exact check_lo x w hr hs h h3
      · refine check_hi x w hr hs h ?_
        rcases Int.lt_or_le 3 x.cls with h4 | h4
        · exact h4
        · simp [clsB, h4] at h2
          omega
    · rw [(chk_plat h h2).1, (chk_plat h h2).2]
      simp [clsB] at h2
      exact check_plat x w hr hs h h2.1 h2.2
set_option maxRecDepth 100000 in
set_option maxHeartbeats 1000000 in
theorem rcheck29_name (x : Wk) (w : World) (hs : SmallW x) (h : nameB x.name = false) :
    Calls Tryz.prog 58 #[.agg #[.int .i64 x.no, .int .i64 x.cls, .int .i64 x.op, .string x.name, .string x.plat, .bool x.paused, .int .u64 x.untl]] w fun e w' => e = .returned (.tuple #[.string ⟨#[]⟩, .int .i64 5]) ∧ Below w.heap.size w w' := by
  obtain ⟨hs1, hs2⟩ := id hs
  have HN := Lib.hid h
  clear h
  go_enter Tryz.func58, Tryz.ntmps58
  go_wp2_with fail
  refine (rname_any x.name _ (by omega)).mono ?_
  rintro e w1 ⟨rfl, hb1⟩
  rw [HN.out]
  obtain ⟨hc1, -⟩ := bcell hb1
  have HB1 := Lib.hid (box_below.trans (hb1.mono (by simp)))
  have hz1 : w.heap.size < w1.heap.size := by have := hb1.size; simp at this; omega
  clear hb1
  go_wp2
  go_ret2
  exact ⟨rfl, HB1.out⟩
set_option maxRecDepth 100000 in
set_option maxHeartbeats 1000000 in
theorem rcheck29_lo (x : Wk) (w : World) (hs : SmallW x) (h : nameB x.name = true) (h2 : x.cls < 0) :
    Calls Tryz.prog 58 #[.agg #[.int .i64 x.no, .int .i64 x.cls, .int .i64 x.op, .string x.name, .string x.plat, .bool x.paused, .int .u64 x.untl]] w fun e w' => e = .returned (.tuple #[.string ⟨#[]⟩, .int .i64 1]) ∧ Below w.heap.size w w' := by
  obtain ⟨hs1, hs2⟩ := id hs
  have HN := Lib.hid h
  clear h
  go_enter Tryz.func58, Tryz.ntmps58
  go_wp2_with fail
  refine (rname_any x.name _ (by omega)).mono ?_
  rintro e w1 ⟨rfl, hb1⟩
  rw [HN.out]
  obtain ⟨hc1, -⟩ := bcell hb1
  have HB1 := Lib.hid (box_below.trans (hb1.mono (by simp)))
  have hz1 : w.heap.size < w1.heap.size := by have := hb1.size; simp at this; omega
  clear hb1
  go_wp2
  go_ret2
  exact ⟨rfl, HB1.out⟩
set_option maxRecDepth 100000 in
set_option maxHeartbeats 1000000 in
theorem rcheck29_hi (x : Wk) (w : World) (hs : SmallW x) (h : nameB x.name = true) (h2 : 3 < x.cls) :
    Calls Tryz.prog 58 #[.agg #[.int .i64 x.no, .int .i64 x.cls, .int .i64 x.op, .string x.name, .string x.plat, .bool x.paused, .int .u64 x.untl]] w fun e w' => e = .returned (.tuple #[.string ⟨#[]⟩, .int .i64 1]) ∧ Below w.heap.size w w' := by
  obtain ⟨hs1, hs2⟩ := id hs
  have HN := Lib.hid h
  clear h
  go_enter Tryz.func58, Tryz.ntmps58
  go_wp2_with fail
  refine (rname_any x.name _ (by omega)).mono ?_
  rintro e w1 ⟨rfl, hb1⟩
  rw [HN.out]
  obtain ⟨hc1, -⟩ := bcell hb1
  have HB1 := Lib.hid (box_below.trans (hb1.mono (by simp)))
  have hz1 : w.heap.size < w1.heap.size := by have := hb1.size; simp at this; omega
  clear hb1
  go_wp2
  go_ret2
  exact ⟨rfl, HB1.out⟩
set_option maxRecDepth 100000 in
set_option maxHeartbeats 1000000 in
theorem rcheck29_plat (x : Wk) (w : World) (hs : SmallW x) (h : nameB x.name = true) (h2 : 0 ≤ x.cls) (h3 : x.cls ≤ 3) :
    Calls Tryz.prog 58 #[.agg #[.int .i64 x.no, .int .i64 x.cls, .int .i64 x.op, .string x.name, .string x.plat, .bool x.paused, .int .u64 x.untl]] w fun e w' => e = .returned (.tuple #[.string (ba (canonP x.plat)), .int .i64 (canonE x.plat)]) ∧ Below w.heap.size w w' := by
  obtain ⟨hs1, hs2⟩ := id hs
  have HN := Lib.hid h
  clear h
  go_enter Tryz.func58, Tryz.ntmps58
  go_wp2_with fail
  refine (rname_any x.name _ (by omega)).mono ?_
  rintro e w1 ⟨rfl, hb1⟩
  rw [HN.out]
  obtain ⟨hc1, -⟩ := bcell hb1
  have HB1 := Lib.hid (box_below.trans (hb1.mono (by simp)))
  have hz1 : w.heap.size < w1.heap.size := by have := hb1.size; simp at this; omega
  clear hb1
  go_wp2_with fail
  refine (rcanon_any x.plat _ hs.2).mono ?_
  rintro e w2 ⟨rfl, hb2⟩
  go_wp2
  go_ret2
  exact ⟨rfl, HB1.out.trans (hb2.mono HB1.out.size)⟩
theorem rcheck29_any (x : Wk) (w : World) (hs : SmallW x) :
    Calls Tryz.prog 58 #[.agg #[.int .i64 x.no, .int .i64 x.cls, .int .i64 x.op, .string x.name, .string x.plat, .bool x.paused, .int .u64 x.untl]] w fun e w' => e = .returned (.tuple #[.string (ba (chkS x)), .int .i64 (chkE x)]) ∧ Below w.heap.size w w' := by
  rcases h : nameB x.name with _ | _
  · rw [(chk_name h).1, (chk_name h).2]
    exact rcheck29_name x w hs h
  · rcases h2 : clsB x with _ | _
    · rw [(chk_cls h h2).1, (chk_cls h h2).2]
      by_cases h3 : x.cls < 0
      · exact rcheck29_lo x w hs h h3
      · refine rcheck29_hi x w hs h ?_
        rcases Int.lt_or_le 3 x.cls with h4 | h4
        · exact h4
        · simp [clsB, h4] at h2
          omega
    · rw [(chk_plat h h2).1, (chk_plat h h2).2]
      simp [clsB] at h2
      exact rcheck29_plat x w hs h h2.1 h2.2

/-- What is wrong with a worker that is to be registered. -/
def mayE (s : Bk) (x : Wk) : Int := if chkE x ≠ 0 then chkE x else if 0 ≤ findI (nmB x.name) s.ws then 8 else if s.room ≤ s.ws.length then 9 else 0
set_option maxRecDepth 100000 in
set_option maxHeartbeats 1000000 in
theorem may_bad {base b : Nat} {v : Value} {s : Bk} (x : Wk) (w : World) (hr : Ready w) (hB : BookAt 56 base w b v s) (hs : SmallW x) (h : chkE x ≠ 0) :
    Calls Tryz.prog 19 #[.pointer (some ⟨b, 0, none⟩), .agg #[.int .i64 x.no, .int .i64 x.cls, .int .i64 x.op, .string x.name, .string x.plat, .bool x.paused, .int .u64 x.untl]] w fun e w' => e = .returned (.int .i64 (chkE x)) ∧ Below w.heap.size w w' := by
  have hne : (chkE x != 0) = true := by rw [bne_iff_ne]; exact h
  clear h
  have HR := Lib.hid hr
  have HB := Lib.hid hB
  clear hr hB
  go_enter Tryz.func19, Tryz.ntmps19
  go_wp2_with fail
  refine (wkcheck_any x _ (HR.out.below box_below) hs).mono ?_
  rintro e w1 ⟨rfl, hb1⟩
  have HB1 := Lib.hid (box_below.trans (hb1.mono (by simp)))
  have hz1 : w.heap.size < w1.heap.size := by have := hb1.size; simp at this; omega
  have c3 : w1.cell? ⟨w.heap.size, 3, none⟩ = some (.string x.name) := cell_below hb1 (by simp)
  clear hb1
  go_wp2
  go_ret
  exact ⟨rfl, HB1.out⟩
set_option maxRecDepth 100000 in
set_option maxHeartbeats 1000000 in
theorem may_there {base b : Nat} {v : Value} {s : Bk} (x : Wk) (w : World) (hr : Ready w) (hB : BookAt 56 base w b v s) (hs : SmallW x) (h : chkE x = 0) (h2 : decide (0 ≤ findI (nmB x.name) s.ws) = true) :
    Calls Tryz.prog 19 #[.pointer (some ⟨b, 0, none⟩), .agg #[.int .i64 x.no, .int .i64 x.cls, .int .i64 x.op, .string x.name, .string x.plat, .bool x.paused, .int .u64 x.untl]] w fun e w' => e = .returned (.int .i64 8) ∧ Below w.heap.size w w' := by
  have HZ := Lib.hid h
  have HF := Lib.hid h2
  clear h h2
  have HR := Lib.hid hr
  have HB := Lib.hid hB
  clear hr hB
  go_enter Tryz.func19, Tryz.ntmps19
  go_wp2_with fail
  refine (wkcheck_any x _ (HR.out.below box_below) hs).mono ?_
  rintro e w1 ⟨rfl, hb1⟩
  have HB1 := Lib.hid (box_below.trans (hb1.mono (by simp)))
  have hz1 : w.heap.size < w1.heap.size := by have := hb1.size; simp at this; omega
  have c3 : w1.cell? ⟨w.heap.size, 3, none⟩ = some (.string x.name) := cell_below hb1 (by simp)
  clear hb1
  rw [HZ.out]
  go_wp2_with fail
  refine (nmGet_any x.name _ (HB.out.below HB1.out)).mono ?_
  rintro e w2 ⟨rfl, hb2⟩
  rw [HF.out]
  have HB2 := Lib.hid (HB1.out.trans (hb2.mono HB1.out.size))
  clear hb2
  go_wp2
  go_ret
  exact ⟨rfl, HB2.out.alloc HB2.out.size _⟩
set_option maxRecDepth 100000 in
set_option maxHeartbeats 1000000 in
theorem may_many {base b : Nat} {v : Value} {s : Bk} (x : Wk) (w : World) (hr : Ready w) (hB : BookAt 56 base w b v s) (hs : SmallW x) (h : chkE x = 0) (h2 : decide (0 ≤ findI (nmB x.name) s.ws) = false) (h3 : s.room ≤ s.ws.length) :
    Calls Tryz.prog 19 #[.pointer (some ⟨b, 0, none⟩), .agg #[.int .i64 x.no, .int .i64 x.cls, .int .i64 x.op, .string x.name, .string x.plat, .bool x.paused, .int .u64 x.untl]] w fun e w' => e = .returned (.int .i64 9) ∧ Below w.heap.size w w' := by
  have HZ := Lib.hid h
  have HF := Lib.hid h2
  clear h h2
  have HR := Lib.hid hr
  have HB := Lib.hid hB
  clear hr hB
  go_enter Tryz.func19, Tryz.ntmps19
  go_wp2_with fail
  refine (wkcheck_any x _ (HR.out.below box_below) hs).mono ?_
  rintro e w1 ⟨rfl, hb1⟩
  have HB1 := Lib.hid (box_below.trans (hb1.mono (by simp)))
  have hz1 : w.heap.size < w1.heap.size := by have := hb1.size; simp at this; omega
  have c3 : w1.cell? ⟨w.heap.size, 3, none⟩ = some (.string x.name) := cell_below hb1 (by simp)
  clear hb1
  rw [HZ.out]
  go_wp2_with fail
  refine (nmGet_any x.name _ (HB.out.below HB1.out)).mono ?_
  rintro e w2 ⟨rfl, hb2⟩
  rw [HF.out]
  have HB2 := Lib.hid (HB1.out.trans (hb2.mono HB1.out.size))
  clear hb2
  have HA := Lib.hid ((HB.out.below HB2.out).below (box_below (o := .cells #[.int .i64 (atW s.ws (findI (nmB x.name) s.ws)).no, .int .i64 (atW s.ws (findI (nmB x.name) s.ws)).cls, .int .i64 (atW s.ws (findI (nmB x.name) s.ws)).op, .string (atW s.ws (findI (nmB x.name) s.ws)).name, .string (atW s.ws (findI (nmB x.name) s.ws)).plat, .bool (atW s.ws (findI (nmB x.name) s.ws)).paused, .int .u64 (atW s.ws (findI (nmB x.name) s.ws)).untl] 33)))
  have g0 := HA.out.c0
  have g2 := HA.out.c2
  obtain ⟨a, cap, hv, hl, -⟩ := HB.out.rows
  subst hv
  go_wp2_with fail
  go_quiet (fail)
  go_wp2
  go_ret
  exact ⟨rfl, below_drewN (HB2.out.alloc HB2.out.size _) _⟩
set_option maxRecDepth 100000 in
set_option maxHeartbeats 1000000 in
theorem may_ok {base b : Nat} {v : Value} {s : Bk} (x : Wk) (w : World) (hr : Ready w) (hB : BookAt 56 base w b v s) (hs : SmallW x) (h : chkE x = 0) (h2 : decide (0 ≤ findI (nmB x.name) s.ws) = false) (h3 : (s.ws.length : Int) < s.room) :
    Calls Tryz.prog 19 #[.pointer (some ⟨b, 0, none⟩), .agg #[.int .i64 x.no, .int .i64 x.cls, .int .i64 x.op, .string x.name, .string x.plat, .bool x.paused, .int .u64 x.untl]] w fun e w' => e = .returned (.int .i64 0) ∧ Below w.heap.size w w' := by
  have HZ := Lib.hid h
  have HF := Lib.hid h2
  clear h h2
  have HR := Lib.hid hr
  have HB := Lib.hid hB
  clear hr hB
  go_enter Tryz.func19, Tryz.ntmps19
  go_wp2_with fail
  refine (wkcheck_any x _ (HR.out.below box_below) hs).mono ?_
  rintro e w1 ⟨rfl, hb1⟩
  have HB1 := Lib.hid (box_below.trans (hb1.mono (by simp)))
  have hz1 : w.heap.size < w1.heap.size := by have := hb1.size; simp at this; omega
  have c3 : w1.cell? ⟨w.heap.size, 3, none⟩ = some (.string x.name) := cell_below hb1 (by simp)
  clear hb1
  rw [HZ.out]
  go_wp2_with fail
  refine (nmGet_any x.name _ (HB.out.below HB1.out)).mono ?_
  rintro e w2 ⟨rfl, hb2⟩
  rw [HF.out]
  have HB2 := Lib.hid (HB1.out.trans (hb2.mono HB1.out.size))
  clear hb2
  have HA := Lib.hid ((HB.out.below HB2.out).below (box_below (o := .cells #[.int .i64 (atW s.ws (findI (nmB x.name) s.ws)).no, .int .i64 (atW s.ws (findI (nmB x.name) s.ws)).cls, .int .i64 (atW s.ws (findI (nmB x.name) s.ws)).op, .string (atW s.ws (findI (nmB x.name) s.ws)).name, .string (atW s.ws (findI (nmB x.name) s.ws)).plat, .bool (atW s.ws (findI (nmB x.name) s.ws)).paused, .int .u64 (atW s.ws (findI (nmB x.name) s.ws)).untl] 33)))
  have g0 := HA.out.c0
  have g2 := HA.out.c2
  obtain ⟨a, cap, hv, hl, -⟩ := HB.out.rows
  subst hv
  go_wp2_with fail
  go_quiet (fail)
  go_wp2
  go_ret
  exact ⟨rfl, below_drewN (HB2.out.alloc HB2.out.size _) _⟩
theorem may_any {base b : Nat} {v : Value} {s : Bk} (x : Wk) (w : World) (hr : Ready w) (hB : BookAt 56 base w b v s) (hs : SmallW x) :
    Calls Tryz.prog 19 #[.pointer (some ⟨b, 0, none⟩), .agg #[.int .i64 x.no, .int .i64 x.cls, .int .i64 x.op, .string x.name, .string x.plat, .bool x.paused, .int .u64 x.untl]] w fun e w' => e = .returned (.int .i64 (mayE s x)) ∧ Below w.heap.size w w' := by
  by_cases h : chkE x = 0
  · rcases h2 : decide (0 ≤ findI (nmB x.name) s.ws) with _ | _
    · have h2' := of_decide_eq_false h2
      by_cases h3 : s.room ≤ s.ws.length
      · rw [show mayE s x = 9 by unfold mayE; rw [if_neg (by simp [h]), if_neg h2', if_pos h3]]
        exact may_many x w hr hB hs h h2 h3
      · rw [show mayE s x = 0 by unfold mayE; rw [if_neg (by simp [h]), if_neg h2', if_neg h3]]
        exact may_ok x w hr hB hs h h2 (by omega)
    · rw [show mayE s x = 8 by unfold mayE; rw [if_neg (by simp [h]), if_pos (of_decide_eq_true h2)]]
      exact may_there x w hr hB hs h h2
  · rw [show mayE s x = chkE x by unfold mayE; rw [if_pos h]]
    exact may_bad x w hr hB hs h
set_option maxRecDepth 100000 in
set_option maxHeartbeats 1000000 in
theorem new_none (room : Int) (w : World) (h : room < 1) :
    Calls Tryz.prog 5 #[.int .i64 room] w fun e w' => e = .returned (.pointer none) ∧ w = w' := by
  go_enter Tryz.func5, Tryz.ntmps5
  go_wp2
  go_ret
  exact ⟨rfl, rfl⟩
set_option maxRecDepth 100000 in
set_option maxHeartbeats 1000000 in
theorem new_some (room : Int) (w : World) (h : 1 ≤ room) :
    Calls Tryz.prog 5 #[.int .i64 room] w fun e w' => e = .returned (.pointer (some ⟨w.heap.size, 0, none⟩)) ∧ w' = w.alloc (.cells #[.int .i64 room, .int .i64 0, .slice none 0 0] 56) := by
  go_enter Tryz.func5, Tryz.ntmps5
  go_wp2
  go_ret
  exact ⟨rfl, rfl⟩
theorem new_book (room : Int) (w : World) : BookAt 56 w.heap.size (w.alloc (.cells #[.int .i64 room, .int .i64 0, .slice none 0 0] 56)) w.heap.size (.slice none 0 0) ⟨room, 0, []⟩ :=
  ⟨Nat.le_refl _, fr_alloc_at, own_nil _ _ _ _, Nat.zero_le _⟩
set_option maxRecDepth 100000 in
set_option maxHeartbeats 1000000 in
theorem last_any {T : TypeId} {base b : Nat} {v : Value} {s : Bk} (w : World) (hB : BookAt T base w b v s) :
    Calls Tryz.prog 36 #[.pointer (some ⟨b, 0, none⟩)] w fun e w' => e = .returned (.int .i64 s.last) ∧ w = w' := by
  have c1 := hB.c1
  clear hB
  go_enter Tryz.func36, Tryz.ntmps36
  go_wp2
  go_ret
  exact ⟨rfl, rfl⟩
theorem num29_any (e : Int) (w : World) : Calls Tryz.prog 18 #[.int .i64 e] w fun r w' => r = .returned (.int .i64 e) ∧ w = w' := by
  go_enter Tryz.func18, Tryz.ntmps18
  go_wp2
  go_ret
  exact ⟨rfl, rfl⟩
/-- Has a call texts that are too long? -/
def longB (x : Wk) : Bool := decide (300 < x.name.size) || decide (300 < x.plat.size)
set_option maxRecDepth 100000 in
set_option maxHeartbeats 1000000 in
theorem long_any (x : Wk) (w : World) (h1 : x.name.size ≤ 140737488351232) (h2 : x.plat.size ≤ 140737488351232) :
    Calls Tryz.prog 7 #[.agg #[.int .i64 x.no, .int .i64 x.cls, .int .i64 x.op, .string x.name, .string x.plat, .bool x.paused, .int .u64 x.untl]] w fun e w' => e = .returned (.bool (longB x)) ∧ Below w.heap.size w w' := by
  by_cases h : 300 < x.name.size
  · have H := Lib.hid (show longB x = true by simp [longB, h])
    go_enter Tryz.func7, Tryz.ntmps7
    go_wp2
    go_ret
    exact ⟨ret_bool (by rw [H.out]), box_below⟩
  · by_cases h' : 300 < x.plat.size
    · have H := Lib.hid (show longB x = true by simp [longB, h'])
      go_enter Tryz.func7, Tryz.ntmps7
      go_wp2
      go_ret
      exact ⟨ret_bool (by rw [H.out]; simp; omega), box_below⟩
    · have H := Lib.hid (show longB x = false by simp [longB, h, h'])
      go_enter Tryz.func7, Tryz.ntmps7
      go_wp2
      go_ret
      exact ⟨ret_bool (by rw [H.out]; simp; omega), box_below⟩
theorem long_small {x : Wk} (h : longB x = false) : SmallW x := by
  simp [longB] at h
  unfold SmallW
  omega
end Go.Proofs.YtmijmfgclmaodaaGreatDoor
