/-
  worker.Book: find, at, get, Get, Find, check: the walks.
-/
import Derived.Test.YtmijmfgclmaodaaGreatDoorWk
import Derived.BigQuiet
namespace Go.Proofs.YtmijmfgclmaodaaGreatDoor
open Go.RowKit

def IRel (p : Wk → Bool) (l : List Wk) (w : World) (i : Value) (wr : World) : Prop := ∃ k : Nat, i = .int .i64 k ∧ k ≤ l.length ∧ (∀ j y, j < k → l[j]? = some y → p y = false) ∧ Below w.heap.size w wr
set_option maxRecDepth 100000 in
set_option maxHeartbeats 1000000 in
/-- THE WALK: the closure of no. -/
theorem no1_any (B : Nat) (no : Int) (w : World) (hc : w.cell? ⟨B, 0, none⟩ = some (.int .i64 no)) (x : Wk) :
    Calls Tryz.prog 81 #[.agg #[.int .i64 x.no, .int .i64 x.cls, .int .i64 x.op, .string x.name, .string x.plat, .bool x.paused, .int .u64 x.untl], .pointer (some ⟨B, 0, none⟩)] w fun e w' => e = .returned (.bool (noB no x)) ∧ Below w.heap.size w w' := by
  have hB := World.block_lt_of_cell? w _ hc
  have hne : B ≠ w.heap.size := by simp at hB; omega
  go_enter Tryz.func81, Tryz.ntmps81
  go_wp2
  go_ret
  exact ⟨ret_bool (by simp [noB]), box_below⟩
set_option maxRecDepth 100000 in
set_option maxHeartbeats 1000000 in
/-- THE WALK: the closure of nm. -/
theorem nm1_any (B : Nat) (n : ByteArray) (w : World) (hc : w.cell? ⟨B, 0, none⟩ = some (.string n)) (x : Wk) :
    Calls Tryz.prog 67 #[.agg #[.int .i64 x.no, .int .i64 x.cls, .int .i64 x.op, .string x.name, .string x.plat, .bool x.paused, .int .u64 x.untl], .pointer (some ⟨B, 0, none⟩)] w fun e w' => e = .returned (.bool (nmB n x)) ∧ Below w.heap.size w w' := by
  have hB := World.block_lt_of_cell? w _ hc
  have hne : B ≠ w.heap.size := by simp at hB; omega
  go_enter Tryz.func67, Tryz.ntmps67
  go_wp2
  go_ret
  exact ⟨ret_bool (by simp [nmB]), box_below⟩
set_option maxRecDepth 100000 in
set_option maxHeartbeats 1000000 in
/-- THE WALK: slices.IndexFunc, by no. -/
theorem noIx_any (v : Value) (l : List Wk) (B : Nat) (no : Int) (w : World) (hr : RowsW w v l) (hc : w.cell? ⟨B, 0, none⟩ = some (.int .i64 no)) :
    Calls Tryz.prog 82 #[v, .func (.func 81) #[] #[.pointer (some ⟨B, 0, none⟩)]] w fun e w' => e = .returned (.int .i64 (findI (noB no) l)) ∧ Below w.heap.size w w' := by
  obtain ⟨a, cap, rfl, hl, hcell⟩ := hr
  have HC := Lib.hid hcell
  have HK := Lib.hid hc
  clear hcell hc
  go_enter Tryz.func82, Tryz.ntmps82
  go_wp2
  go_loopw [8] (fun i wr => IRel (noB no) l w i wr) (fun i _ => l.length - (intOf i).toNat)
  case atStart => exact ⟨0, rfl, Nat.zero_le _, (fun j y hj => by omega), Below.refl _ _⟩
  case round =>
    obtain ⟨k, rfl, hk, hn, hb⟩ := hrel
    have HB := Lib.hid hb
    have HN := Lib.hid hn
    clear hb hn
    by_cases hlt : k < l.length
    · obtain ⟨x, hx⟩ : ∃ x, l[k]? = some x := ⟨_, List.getElem?_eq_getElem hlt⟩
      obtain ⟨g, off, rfl, c0, c1, c2, c3, c4, c5, c6⟩ := RowsW.at HC.out hx
      have d0 := cell_below HB.out c0
      have d1 := cell_below HB.out c1
      have d2 := cell_below HB.out c2
      have d3 := cell_below HB.out c3
      have d4 := cell_below HB.out c4
      have d5 := cell_below HB.out c5
      have d6 := cell_below HB.out c6
      have HX := Lib.hid hx
      clear hx c0 c1 c2 c3 c4 c5 c6
      go_wp2_with fail
      refine (no1_any B no _ (cell_below HB.out HK.out) x).mono ?_
      rintro e w1 ⟨rfl, hb1⟩
      have HB1 := Lib.hid (HB.out.trans (hb1.mono HB.out.size))
      clear hb1 d0 d1 d2 d3 d4 d5 d6
      rcases hp : noB no x with _ | _
      · have HP := Lib.hid hp
        clear hp
        go_wp2_with fail
        go_roundw
        case rel =>
          refine ⟨k + 1, by go_num, by omega, fun j y hj hy => ?_, HB1.out⟩
          rcases Nat.lt_or_ge j k with h | h
          · exact HN.out j y h hy
          · obtain rfl : j = k := by omega
            obtain rfl : x = y := Option.some.inj (HX.out.symm.trans hy)
            exact HP.out
        case measure => simp [intOf]; omega
      · have HP := Lib.hid (findI_of HX.out hp HN.out)
        clear hp
        go_wp2_with fail
        go_ret
        exact ⟨ret_int HP.out.symm, HB1.out⟩
    · have HP := Lib.hid (findI_none (p := noB no) (l := l) (fun j y hj hy => HN.out j y (by omega) hy))
      go_wp2
      go_ret
      exact ⟨ret_int HP.out.symm, HB.out⟩
set_option maxRecDepth 100000 in
set_option maxHeartbeats 1000000 in
/-- THE WALK: slices.IndexFunc, by nm. -/
theorem nmIx_any (v : Value) (l : List Wk) (B : Nat) (n : ByteArray) (w : World) (hr : RowsW w v l) (hc : w.cell? ⟨B, 0, none⟩ = some (.string n)) :
    Calls Tryz.prog 82 #[v, .func (.func 67) #[] #[.pointer (some ⟨B, 0, none⟩)]] w fun e w' => e = .returned (.int .i64 (findI (nmB n) l)) ∧ Below w.heap.size w w' := by
  obtain ⟨a, cap, rfl, hl, hcell⟩ := hr
  have HC := Lib.hid hcell
  have HK := Lib.hid hc
  clear hcell hc
  go_enter Tryz.func82, Tryz.ntmps82
  go_wp2
  go_loopw [8] (fun i wr => IRel (nmB n) l w i wr) (fun i _ => l.length - (intOf i).toNat)
  case atStart => exact ⟨0, rfl, Nat.zero_le _, (fun j y hj => by omega), Below.refl _ _⟩
  case round =>
    obtain ⟨k, rfl, hk, hn, hb⟩ := hrel
    have HB := Lib.hid hb
    have HN := Lib.hid hn
    clear hb hn
    by_cases hlt : k < l.length
    · obtain ⟨x, hx⟩ : ∃ x, l[k]? = some x := ⟨_, List.getElem?_eq_getElem hlt⟩
      obtain ⟨g, off, rfl, c0, c1, c2, c3, c4, c5, c6⟩ := RowsW.at HC.out hx
      have d0 := cell_below HB.out c0
      have d1 := cell_below HB.out c1
      have d2 := cell_below HB.out c2
      have d3 := cell_below HB.out c3
      have d4 := cell_below HB.out c4
      have d5 := cell_below HB.out c5
      have d6 := cell_below HB.out c6
      have HX := Lib.hid hx
      clear hx c0 c1 c2 c3 c4 c5 c6
      go_wp2_with fail
      refine (nm1_any B n _ (cell_below HB.out HK.out) x).mono ?_
      rintro e w1 ⟨rfl, hb1⟩
      have HB1 := Lib.hid (HB.out.trans (hb1.mono HB.out.size))
      clear hb1 d0 d1 d2 d3 d4 d5 d6
      rcases hp : nmB n x with _ | _
      · have HP := Lib.hid hp
        clear hp
        go_wp2_with fail
        go_roundw
        case rel =>
          refine ⟨k + 1, by go_num, by omega, fun j y hj hy => ?_, HB1.out⟩
          rcases Nat.lt_or_ge j k with h | h
          · exact HN.out j y h hy
          · obtain rfl : j = k := by omega
            obtain rfl : x = y := Option.some.inj (HX.out.symm.trans hy)
            exact HP.out
        case measure => simp [intOf]; omega
      · have HP := Lib.hid (findI_of HX.out hp HN.out)
        clear hp
        go_wp2_with fail
        go_ret
        exact ⟨ret_int HP.out.symm, HB1.out⟩
    · have HP := Lib.hid (findI_none (p := nmB n) (l := l) (fun j y hj hy => HN.out j y (by omega) hy))
      go_wp2
      go_ret
      exact ⟨ret_int HP.out.symm, HB.out⟩
set_option maxRecDepth 100000 in
set_option maxHeartbeats 1000000 in
/-- THE WALK: find, by no. -/
theorem noFind_any {T : TypeId} {base b : Nat} {v : Value} {s : Bk} (B : Nat) (no : Int) (w : World) (hB : BookAt T base w b v s) (hc : w.cell? ⟨B, 0, none⟩ = some (.int .i64 no)) :
    Calls Tryz.prog 66 #[.pointer (some ⟨b, 0, none⟩), .func (.func 81) #[] #[.pointer (some ⟨B, 0, none⟩)]] w fun e w' => e = .returned (.int .i64 (findI (noB no) s.ws)) ∧ Below w.heap.size w w' := by
  have HB := Lib.hid hB
  have c2 := hB.c2
  have HK := Lib.hid hc
  clear hB hc
  go_enter Tryz.func66, Tryz.ntmps66
  go_wp2_with fail
  refine (noIx_any v s.ws B no _ HB.out.rows HK.out).mono ?_
  rintro e w1 ⟨rfl, hb1⟩
  go_wp2
  go_ret
  exact ⟨rfl, hb1⟩
set_option maxRecDepth 100000 in
set_option maxHeartbeats 1000000 in
/-- THE WALK: find, by nm. -/
theorem nmFind_any {T : TypeId} {base b : Nat} {v : Value} {s : Bk} (B : Nat) (n : ByteArray) (w : World) (hB : BookAt T base w b v s) (hc : w.cell? ⟨B, 0, none⟩ = some (.string n)) :
    Calls Tryz.prog 66 #[.pointer (some ⟨b, 0, none⟩), .func (.func 67) #[] #[.pointer (some ⟨B, 0, none⟩)]] w fun e w' => e = .returned (.int .i64 (findI (nmB n) s.ws)) ∧ Below w.heap.size w w' := by
  have HB := Lib.hid hB
  have c2 := hB.c2
  have HK := Lib.hid hc
  clear hB hc
  go_enter Tryz.func66, Tryz.ntmps66
  go_wp2_with fail
  refine (nmIx_any v s.ws B n _ HB.out.rows HK.out).mono ?_
  rintro e w1 ⟨rfl, hb1⟩
  go_wp2
  go_ret
  exact ⟨rfl, hb1⟩
set_option maxRecDepth 100000 in
set_option maxHeartbeats 1000000 in
/-- THE WALK: at. -/
theorem at_any {T : TypeId} {base b : Nat} {v : Value} {s : Bk} (no : Int) (w : World) (hB : BookAt T base w b v s) :
    Calls Tryz.prog 56 #[.pointer (some ⟨b, 0, none⟩), .int .i64 no] w fun e w' => e = .returned (.int .i64 (findI (noB no) s.ws)) ∧ Below w.heap.size w w' := by
  have HB := Lib.hid hB
  clear hB
  go_enter Tryz.func56, Tryz.ntmps56
  go_wp2_with fail
  refine (noFind_any _ no _ (HB.out.below box_below) (by simp)).mono ?_
  rintro e w1 ⟨rfl, hb1⟩
  go_wp2
  go_ret
  exact ⟨rfl, box_below.trans (hb1.mono (by simp))⟩
set_option maxRecDepth 100000 in
set_option maxHeartbeats 1000000 in
theorem get_none {b : Nat} (i : Int) (hi : i < 0) (w : World) :
    Calls Tryz.prog 65 #[.pointer (some ⟨b, 0, none⟩), .int .i64 i] w fun e w' => e = .returned (.tuple #[.agg #[.int .i64 0, .int .i64 0, .int .i64 0, .string ⟨#[]⟩, .string ⟨#[]⟩, .bool false, .int .u64 0], .bool false]) ∧ Below w.heap.size w w' := by
  go_enter Tryz.func65, Tryz.ntmps65
  go_wp2
  refine bodyPost_ret (v := .tuple #[.agg #[.int .i64 0, .int .i64 0, .int .i64 0, .string ⟨#[]⟩, .string ⟨#[]⟩, .bool false, .int .u64 0], .bool false]) (by simp [results, Tryz.results65, go_sem]) rfl ⟨rfl, ?_⟩
  exact box_below
set_option maxRecDepth 100000 in
set_option maxHeartbeats 1000000 in
theorem get_some {T : TypeId} {base b : Nat} {v : Value} {s : Bk} (k : Nat) (x : Wk) (w : World) (hB : BookAt T base w b v s) (hx : s.ws[k]? = some x) :
    Calls Tryz.prog 65 #[.pointer (some ⟨b, 0, none⟩), .int .i64 k] w fun e w' => e = .returned (.tuple #[.agg #[.int .i64 x.no, .int .i64 x.cls, .int .i64 x.op, .string x.name, .string x.plat, .bool x.paused, .int .u64 x.untl], .bool true]) ∧ Below w.heap.size w w' := by
  have c2 := hB.c2
  have hb := hB.lt
  have hlt : k < s.ws.length := (List.getElem?_eq_some_iff.1 hx).1
  obtain ⟨a, cap, rfl, hl, hcell⟩ := hB.rows
  obtain ⟨g, off, rfl, c0, c1, e2, c3, c4, c5, c6⟩ := RowsW.at hcell hx
  have hg : g < w.heap.size := World.block_lt_of_cell? w _ c0
  have hne : b ≠ w.heap.size := by omega
  have hne2 : g ≠ w.heap.size := by omega
  clear hcell hx hB
  go_enter Tryz.func65, Tryz.ntmps65
  go_wp2
  refine bodyPost_ret (v := .tuple #[.agg #[.int .i64 x.no, .int .i64 x.cls, .int .i64 x.op, .string x.name, .string x.plat, .bool x.paused, .int .u64 x.untl], .bool true]) (by simp [results, Tryz.results65, go_sem]) rfl ⟨rfl, ?_⟩
  exact box_below
theorem get_any {T : TypeId} {base b : Nat} {v : Value} {s : Bk} (p : Wk → Bool) (w : World) (hB : BookAt T base w b v s) :
    Calls Tryz.prog 65 #[.pointer (some ⟨b, 0, none⟩), .int .i64 (findI p s.ws)] w fun e w' => e = .returned (.tuple #[.agg #[.int .i64 (atW s.ws (findI p s.ws)).no, .int .i64 (atW s.ws (findI p s.ws)).cls, .int .i64 (atW s.ws (findI p s.ws)).op, .string (atW s.ws (findI p s.ws)).name, .string (atW s.ws (findI p s.ws)).plat, .bool (atW s.ws (findI p s.ws)).paused, .int .u64 (atW s.ws (findI p s.ws)).untl], .bool (decide (0 ≤ findI p s.ws))]) ∧ Below w.heap.size w w' := by
  rcases findI_cases p s.ws with ⟨h, _⟩ | ⟨k, x, h, hx, _⟩
  · rw [h, atW_neg (by omega)]
    exact get_none (-1) (by omega) w
  · rw [h, atW_of hx, show decide ((0 : Int) ≤ (k : Int)) = true from decide_eq_true (by omega)]
    exact get_some k x w hB hx
set_option maxRecDepth 100000 in
set_option maxHeartbeats 1000000 in
/-- THE WALK: (*billet/worker.Book).Get. -/
theorem noGet_any {T : TypeId} {base b : Nat} {v : Value} {s : Bk} (no : Int) (w : World) (hB : BookAt T base w b v s) :
    Calls Tryz.prog 31 #[.pointer (some ⟨b, 0, none⟩), .int .i64 no] w fun e w' => e = .returned (.tuple #[.agg #[.int .i64 (atW s.ws (findI (noB no) s.ws)).no, .int .i64 (atW s.ws (findI (noB no) s.ws)).cls, .int .i64 (atW s.ws (findI (noB no) s.ws)).op, .string (atW s.ws (findI (noB no) s.ws)).name, .string (atW s.ws (findI (noB no) s.ws)).plat, .bool (atW s.ws (findI (noB no) s.ws)).paused, .int .u64 (atW s.ws (findI (noB no) s.ws)).untl], .bool (decide (0 ≤ findI (noB no) s.ws))]) ∧ Below w.heap.size w w' := by
  have HB := Lib.hid hB
  have hG := fun W (h : Below w.heap.size w W) => get_any (noB no) W (hB.below h)
  have HG := Lib.hid hG
  clear hB hG
  generalize hi : findI (noB no) s.ws = i at *
  generalize hx : atW s.ws i = x at *
  have HI := Lib.hid hi
  clear hi hx
  go_enter Tryz.func31, Tryz.ntmps31
  go_wp2_with fail
  refine (at_any no _ (HB.out.below box_below)).mono ?_
  rintro e w1 ⟨rfl, hb1⟩
  rw [HI.out]
  have HB1 := Lib.hid (box_below.trans (hb1.mono (by simp)))
  have hz1 : w.heap.size < w1.heap.size := by have := hb1.size; simp at this; omega
  have HC1 := Lib.hid hb1
  clear hb1
  go_wp2_with fail
  refine (HG.out _ HB1.out).mono ?_
  rintro e w2 ⟨rfl, hb2⟩
  have HB2 := Lib.hid (HB1.out.trans (hb2.mono HB1.out.size))
  have hz2 : w.heap.size < w2.heap.size := by have := hb2.size; omega
  obtain ⟨hc2, hf2⟩ := bcell (HC1.out.trans (hb2.mono HC1.out.size))
  clear hb2
  go_wp2
  refine bodyPost_ret (v := .tuple #[.agg #[.int .i64 x.no, .int .i64 x.cls, .int .i64 x.op, .string x.name, .string x.plat, .bool x.paused, .int .u64 x.untl], .bool (decide (0 ≤ i))]) (by simp [results, Tryz.results31, go_sem, hc2]) rfl ⟨rfl, ?_⟩
  exact (((((((HB2.out.setCell (by simp) _).setCell (by simp) _).setCell (by simp) _).setCell (by simp) _).setCell (by simp) _).setCell (by simp) _).setCell (by simp) _)
set_option maxRecDepth 100000 in
set_option maxHeartbeats 1000000 in
/-- THE WALK: (*billet/worker.Book).Find. -/
theorem nmGet_any {T : TypeId} {base b : Nat} {v : Value} {s : Bk} (n : ByteArray) (w : World) (hB : BookAt T base w b v s) :
    Calls Tryz.prog 30 #[.pointer (some ⟨b, 0, none⟩), .string n] w fun e w' => e = .returned (.tuple #[.agg #[.int .i64 (atW s.ws (findI (nmB n) s.ws)).no, .int .i64 (atW s.ws (findI (nmB n) s.ws)).cls, .int .i64 (atW s.ws (findI (nmB n) s.ws)).op, .string (atW s.ws (findI (nmB n) s.ws)).name, .string (atW s.ws (findI (nmB n) s.ws)).plat, .bool (atW s.ws (findI (nmB n) s.ws)).paused, .int .u64 (atW s.ws (findI (nmB n) s.ws)).untl], .bool (decide (0 ≤ findI (nmB n) s.ws))]) ∧ Below w.heap.size w w' := by
  have HB := Lib.hid hB
  have hG := fun W (h : Below w.heap.size w W) => get_any (nmB n) W (hB.below h)
  have HG := Lib.hid hG
  clear hB hG
  generalize hi : findI (nmB n) s.ws = i at *
  generalize hx : atW s.ws i = x at *
  have HI := Lib.hid hi
  clear hi hx
  go_enter Tryz.func30, Tryz.ntmps30
  go_wp2_with fail
  refine (nmFind_any _ n _ ((HB.out.below box_below).below box_below) (by simp)).mono ?_
  rintro e w1 ⟨rfl, hb1⟩
  rw [HI.out]
  have HB1 := Lib.hid ((box_below.alloc (by simp) _).trans (hb1.mono (by simp; omega)))
  have hz1 : w.heap.size + 1 < w1.heap.size := by have := hb1.size; simp at this; omega
  have HC1 := Lib.hid hb1
  clear hb1
  go_wp2_with fail
  refine (HG.out _ HB1.out).mono ?_
  rintro e w2 ⟨rfl, hb2⟩
  have HB2 := Lib.hid (HB1.out.trans (hb2.mono HB1.out.size))
  have hz2 : w.heap.size + 1 < w2.heap.size := by have := hb2.size; omega
  obtain ⟨hc2, hf2⟩ := bcell (HC1.out.trans (hb2.mono HC1.out.size))
  clear hb2
  go_wp2
  refine bodyPost_ret (v := .tuple #[.agg #[.int .i64 x.no, .int .i64 x.cls, .int .i64 x.op, .string x.name, .string x.plat, .bool x.paused, .int .u64 x.untl], .bool (decide (0 ≤ i))]) (by simp [results, Tryz.results30, go_sem, hc2]) rfl ⟨rfl, ?_⟩
  exact (((((((HB2.out.setCell (by simp) _).setCell (by simp) _).setCell (by simp) _).setCell (by simp) _).setCell (by simp) _).setCell (by simp) _).setCell (by simp) _)
end Go.Proofs.YtmijmfgclmaodaaGreatDoor
