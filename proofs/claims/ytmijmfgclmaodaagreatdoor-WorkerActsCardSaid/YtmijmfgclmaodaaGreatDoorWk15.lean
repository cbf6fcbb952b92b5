/-
  billetlaw29.does: the walk.
-/
import Derived.Test.YtmijmfgclmaodaaGreatDoorWk14
import Derived.Deep.RegionHeld3
import Derived.Deep.DeepCutAuto
namespace Go.Proofs.YtmijmfgclmaodaaGreatDoor
open Go.RowKit

section
variable {w0 wL w : World} {b b' : Nat} {L : List Nat} {s s' : Bk}
theorem Two.quiet (h : Two w0 b b' L wL s s' w) {f : FuncId} {args : Array Value} {r : Value} (hc : ∀ v, BookAt 56 w0.heap.size w b v s → Calls Tryz.prog f args w fun e w' => e = .returned r ∧ Below w.heap.size w w') :
    Calls Tryz.prog f args w fun e w' => e = .returned r ∧ Two w0 b b' L wL s s' w' := by
  obtain ⟨v, v', h1, _⟩ := h.ex
  exact (hc v h1).mono fun _ _ ⟨he, hb⟩ => ⟨he, h.below' hb⟩
theorem heard_two (no : Int) (u : Int) (h : Two w0 b b' L wL s s' w) : Calls Tryz.prog 21 #[.pointer (some ⟨b, 0, none⟩), .int .i64 no, .int .u64 u] w fun e w' => e = .returned (.bool (hasNo s no)) ∧ Two w0 b b' L wL (updS s no (fun y => { y with untl := u })) s' w' := h.prog (fun _ hv => heard_u no u w hv)
theorem rbheard_two (no : Int) (u : Int) (h : Two w0 b b' L wL s s' w) : Calls Tryz.prog 22 #[.pointer (some ⟨b', 0, none⟩), .int .i64 no, .int .u64 u] w fun e w' => e = .returned (.bool (hasNo s' no)) ∧ Two w0 b b' L wL s (updS s' no (fun y => { y with untl := u })) w' := h.ref (fun _ hv => rbheard_u no u w hv h.below.size)
theorem pause_two (no : Int) (on : Bool) (h : Two w0 b b' L wL s s' w) : Calls Tryz.prog 23 #[.pointer (some ⟨b, 0, none⟩), .int .i64 no, .bool on] w fun e w' => e = .returned (.bool (hasNo s no)) ∧ Two w0 b b' L wL (updS s no (fun y => { y with paused := on })) s' w' := h.prog (fun _ hv => pause_u no on w hv)
theorem rbpause_two (no : Int) (on : Bool) (h : Two w0 b b' L wL s s' w) : Calls Tryz.prog 24 #[.pointer (some ⟨b', 0, none⟩), .int .i64 no, .bool on] w fun e w' => e = .returned (.bool (hasNo s' no)) ∧ Two w0 b b' L wL s (updS s' no (fun y => { y with paused := on })) w' := h.ref (fun _ hv => rbpause_u no on w hv h.below.size)
theorem give_two (no : Int) (op : Int) (h : Two w0 b b' L wL s s' w) : Calls Tryz.prog 25 #[.pointer (some ⟨b, 0, none⟩), .int .i64 no, .int .i64 op] w fun e w' => e = .returned (.bool (canGive s no op)) ∧ Two w0 b b' L wL (giveS s no op) s' w' := h.prog (fun _ hv => give_u no op w hv)
theorem rbgive_two (no : Int) (op : Int) (h : Two w0 b b' L wL s s' w) : Calls Tryz.prog 26 #[.pointer (some ⟨b', 0, none⟩), .int .i64 no, .int .i64 op] w fun e w' => e = .returned (.bool (canGive s' no op)) ∧ Two w0 b b' L wL s (giveS s' no op) w' := h.ref (fun _ hv => rbgive_u no op w hv h.below.size)
theorem free_two (no : Int)  (h : Two w0 b b' L wL s s' w) : Calls Tryz.prog 27 #[.pointer (some ⟨b, 0, none⟩), .int .i64 no] w fun e w' => e = .returned (.bool (canFree s no)) ∧ Two w0 b b' L wL (freeS s no) s' w' := h.prog (fun _ hv => free_u no w hv)
theorem rbfree_two (no : Int)  (h : Two w0 b b' L wL s s' w) : Calls Tryz.prog 28 #[.pointer (some ⟨b', 0, none⟩), .int .i64 no] w fun e w' => e = .returned (.bool (canFree s' no)) ∧ Two w0 b b' L wL s (freeS s' no) w' := h.ref (fun _ hv => rbfree_u no w hv h.below.size)
theorem remove_two (no : Int)  (h : Two w0 b b' L wL s s' w) : Calls Tryz.prog 17 #[.pointer (some ⟨b, 0, none⟩), .int .i64 no] w fun e w' => e = .returned (.bool (hasNo s no)) ∧ Two w0 b b' L wL (remS s no) s' w' := h.prog (fun _ hv => remove_u no w hv)
theorem rbremove_two (no : Int)  (h : Two w0 b b' L wL s s' w) : Calls Tryz.prog 29 #[.pointer (some ⟨b', 0, none⟩), .int .i64 no] w fun e w' => e = .returned (.bool (hasNo s' no)) ∧ Two w0 b b' L wL s (remS s' no) w' := h.ref (fun _ hv => rbremove_u no w hv h.below.size)
end
def stepS (s : Bk) (y : Ac) : Bk :=
  if y.kind = 0 then addU s y.x else if y.kind = 1 then updS s y.x.no (fun z => { z with untl := y.x.untl }) else if y.kind = 2 then updS s y.x.no (fun z => { z with paused := y.x.paused })
  else if y.kind = 3 then giveS s y.x.no y.x.op else if y.kind = 4 then freeS s y.x.no else remS s y.x.no
def DoesPost (w0 : World) (b b' : Nat) (s1 : Bk) (w : World) (e : Ending) (w' : World) : Prop := e = .returned (.bool true) ∧ Two w0 b b' [] w s1 s1 w'
set_option maxRecDepth 100000 in
set_option maxHeartbeats 4000000 in
theorem does_add {w0 : World} {b b' : Nat} {s : Bk} (x : Wk) (w : World) (hr : Ready w0) (hT : Two w0 b b' [] w s s w) (hs : SmallW x) (hl0 : 0 ≤ s.last) (hl1 : s.last ≤ 1000000) (hw : s.ws.length < 1000) :
    Calls Tryz.prog 8 #[.pointer (some ⟨b, 0, none⟩), .pointer (some ⟨b', 0, none⟩), .agg #[.int .i64 0, .int .i64 x.no, .int .i64 x.cls, .int .i64 x.op, .string x.name, .string x.plat, .bool x.paused, .int .u64 x.untl]] w (DoesPost w0 b b' (addU s x) w) := by
  have HR := Lib.hid hr
  have HT := Lib.hid hT
  have HS := Lib.hid hs
  clear hr hT hs
  go_enter Tryz.func8, Tryz.ntmps8
  go_upto_region 2 with fail
  obtain ⟨w2, hw2⟩ : ∃ w2 : World, w2 = (w.alloc (.cells #[.int .i64 0, .int .i64 x.no, .int .i64 x.cls, .int .i64 x.op, .string x.name, .string x.plat, .bool x.paused, .int .u64 x.untl] 35)).alloc (.cells #[.int .i64 x.no, .int .i64 x.cls, .int .i64 x.op, .string x.name, .string x.plat, .bool x.paused, .int .u64 x.untl] 33) := ⟨_, rfl⟩
  rw [← hw2]
  have hx2 : w2.heap[w.heap.size + 1]? = some (.cells #[.int .i64 x.no, .int .i64 x.cls, .int .i64 x.op, .string x.name, .string x.plat, .bool x.paused, .int .u64 x.untl] 33 (0, 0)) := by rw [hw2]; exact heap_alloc_two w _ _
  have hk2 : w2.heap[w.heap.size]? = some (.cells #[.int .i64 0, .int .i64 x.no, .int .i64 x.cls, .int .i64 x.op, .string x.name, .string x.plat, .bool x.paused, .int .u64 x.untl] 35 (0, 0)) := by rw [hw2]; exact fr_alloc_old fr_alloc_at
  have HX := Lib.hid hx2
  have HT2 := Lib.hid (HT.out.protect (m := w.heap.size + 1) (w' := w2) (by rw [hw2]; exact box_below.alloc (by simp) _) (by omega) (by rw [hw2]; simp))
  have HTD := Lib.hid (HT2.out.below' (w' := w2.drew) ⟨rfl, rfl, rfl, Nat.le_refl _, fun _ _ => rfl⟩)
  have kk : w2.cell? ⟨w.heap.size, 0, none⟩ = some (.int .i64 0) := fr_cell_of_heap hk2 rfl
  clear hw2 hx2 hk2
  have m0 := HT2.out.cell (i := 0) (by simp) HX.out rfl
  have m1 := HT2.out.cell (i := 1) (by simp) HX.out rfl
  have m2 := HT2.out.cell (i := 2) (by simp) HX.out rfl
  have m3 := HT2.out.cell (i := 3) (by simp) HX.out rfl
  have m4 := HT2.out.cell (i := 4) (by simp) HX.out rfl
  have m5 := HT2.out.cell (i := 5) (by simp) HX.out rfl
  have m6 := HT2.out.cell (i := 6) (by simp) HX.out rfl
  go_wp2_with fail
  refine (HT2.out.quiet (fun v hv => may_any x _ (HR.out.below HT2.out.below) hv HS.out)).mono ?_
  rintro e w3 ⟨rfl, hT3⟩
  have HT3 := Lib.hid hT3
  clear hT3
  clear m0 m1 m2 m3 m4 m5 m6
  have m0 := HT3.out.cell (i := 0) (by simp) HX.out rfl
  have m1 := HT3.out.cell (i := 1) (by simp) HX.out rfl
  have m2 := HT3.out.cell (i := 2) (by simp) HX.out rfl
  have m3 := HT3.out.cell (i := 3) (by simp) HX.out rfl
  have m4 := HT3.out.cell (i := 4) (by simp) HX.out rfl
  have m5 := HT3.out.cell (i := 5) (by simp) HX.out rfl
  have m6 := HT3.out.cell (i := 6) (by simp) HX.out rfl
  go_wp2_with fail
  refine (num29_any _ _).mono ?_
  rintro e w4 ⟨rfl, rfl⟩
  go_wp2_with fail
  refine (HT3.out.prog (fun v hv => add_u x _ (HR.out.below HT3.out.below) hv HS.out hl0 hl1 hw HT3.out.below.size)).mono ?_
  rintro e w4 ⟨rfl, hT4⟩
  have HT4 := Lib.hid hT4
  clear hT4
  clear m0 m1 m2 m3 m4 m5 m6
  have m0 := HT4.out.cell (i := 0) (by simp) HX.out rfl
  have m1 := HT4.out.cell (i := 1) (by simp) HX.out rfl
  have m2 := HT4.out.cell (i := 2) (by simp) HX.out rfl
  have m3 := HT4.out.cell (i := 3) (by simp) HX.out rfl
  have m4 := HT4.out.cell (i := 4) (by simp) HX.out rfl
  have m5 := HT4.out.cell (i := 5) (by simp) HX.out rfl
  have m6 := HT4.out.cell (i := 6) (by simp) HX.out rfl
  go_wp2_with fail
  refine (HT4.out.ref (fun v hv => rbadd_u x _ hv HS.out hl0 hl1 hw)).mono ?_
  rintro e w5 ⟨rfl, hT5⟩
  have HT5 := Lib.hid hT5
  clear hT5
  clear m0 m1 m2 m3 m4 m5 m6
  go_wp2_with fail
  refine (num29_any _ _).mono ?_
  rintro e w6 ⟨rfl, rfl⟩
  go_wp2_with fail
  go_ret
  exact ⟨rfl, HT5.out.bare _⟩
set_option maxRecDepth 100000 in
set_option maxHeartbeats 4000000 in
theorem does_heard {w0 : World} {b b' : Nat} {s : Bk} (x : Wk) (w : World) (hr : Ready w0) (hT : Two w0 b b' [] w s s w) (hs : SmallW x) :
    Calls Tryz.prog 8 #[.pointer (some ⟨b, 0, none⟩), .pointer (some ⟨b', 0, none⟩), .agg #[.int .i64 1, .int .i64 x.no, .int .i64 x.cls, .int .i64 x.op, .string x.name, .string x.plat, .bool x.paused, .int .u64 x.untl]] w (DoesPost w0 b b' (updS s x.no (fun z => { z with untl := x.untl })) w) := by
  have HR := Lib.hid hr
  have HT := Lib.hid hT
  have HS := Lib.hid hs
  clear hr hT hs
  go_enter Tryz.func8, Tryz.ntmps8
  go_upto_region 2 with fail
  obtain ⟨w2, hw2⟩ : ∃ w2 : World, w2 = (w.alloc (.cells #[.int .i64 1, .int .i64 x.no, .int .i64 x.cls, .int .i64 x.op, .string x.name, .string x.plat, .bool x.paused, .int .u64 x.untl] 35)).alloc (.cells #[.int .i64 x.no, .int .i64 x.cls, .int .i64 x.op, .string x.name, .string x.plat, .bool x.paused, .int .u64 x.untl] 33) := ⟨_, rfl⟩
  rw [← hw2]
  have hx2 : w2.heap[w.heap.size + 1]? = some (.cells #[.int .i64 x.no, .int .i64 x.cls, .int .i64 x.op, .string x.name, .string x.plat, .bool x.paused, .int .u64 x.untl] 33 (0, 0)) := by rw [hw2]; exact heap_alloc_two w _ _
  have hk2 : w2.heap[w.heap.size]? = some (.cells #[.int .i64 1, .int .i64 x.no, .int .i64 x.cls, .int .i64 x.op, .string x.name, .string x.plat, .bool x.paused, .int .u64 x.untl] 35 (0, 0)) := by rw [hw2]; exact fr_alloc_old fr_alloc_at
  have HX := Lib.hid hx2
  have HT2 := Lib.hid (HT.out.protect (m := w.heap.size + 1) (w' := w2) (by rw [hw2]; exact box_below.alloc (by simp) _) (by omega) (by rw [hw2]; simp))
  have HTD := Lib.hid (HT2.out.below' (w' := w2.drew) ⟨rfl, rfl, rfl, Nat.le_refl _, fun _ _ => rfl⟩)
  have kk : w2.cell? ⟨w.heap.size, 0, none⟩ = some (.int .i64 1) := fr_cell_of_heap hk2 rfl
  clear hw2 hx2 hk2
  go_wp2_with fail
  have hTd := HTD.out
  go_region_held3 (fun w' => w'.cell? ⟨w.heap.size + 1, 0, none⟩ = some (.int .i64 x.no) ∧ w'.cell? ⟨w.heap.size + 1, 6, none⟩ = some (.int .u64 x.untl)) (first | assumption | exact ⟨Two.cell HTD.out (by simp) HX.out rfl, Two.cell HTD.out (by simp) HX.out rfl⟩ | exact ⟨Two.cell (by assumption) (by simp) HX.out rfl, Two.cell (by assumption) (by simp) HX.out rfl⟩)
    (first
      | (go_at_call 21; refine (heard_two _ _ (by assumption)).mono ?_; rintro e w9 ⟨rfl, h9⟩)
      | (go_at_call 22; refine (rbheard_two _ _ (by assumption)).mono ?_; rintro e w9 ⟨rfl, h9⟩))
  all_goals
    have HT9 := Lib.hid (show Two w0 b b' [w.heap.size + 1] w2 (updS s x.no (fun z => { z with untl := x.untl })) (updS s x.no (fun z => { z with untl := x.untl })) w9 by assumption)
    go_wp2_with fail
    go_ret
    exact ⟨rfl, HT9.out.bare _⟩
set_option maxRecDepth 100000 in
set_option maxHeartbeats 4000000 in
theorem does_pause {w0 : World} {b b' : Nat} {s : Bk} (x : Wk) (w : World) (hr : Ready w0) (hT : Two w0 b b' [] w s s w) (hs : SmallW x) :
    Calls Tryz.prog 8 #[.pointer (some ⟨b, 0, none⟩), .pointer (some ⟨b', 0, none⟩), .agg #[.int .i64 2, .int .i64 x.no, .int .i64 x.cls, .int .i64 x.op, .string x.name, .string x.plat, .bool x.paused, .int .u64 x.untl]] w (DoesPost w0 b b' (updS s x.no (fun z => { z with paused := x.paused })) w) := by
  have HR := Lib.hid hr
  have HT := Lib.hid hT
  have HS := Lib.hid hs
  clear hr hT hs
  go_enter Tryz.func8, Tryz.ntmps8
  go_upto_region 2 with fail
  obtain ⟨w2, hw2⟩ : ∃ w2 : World, w2 = (w.alloc (.cells #[.int .i64 2, .int .i64 x.no, .int .i64 x.cls, .int .i64 x.op, .string x.name, .string x.plat, .bool x.paused, .int .u64 x.untl] 35)).alloc (.cells #[.int .i64 x.no, .int .i64 x.cls, .int .i64 x.op, .string x.name, .string x.plat, .bool x.paused, .int .u64 x.untl] 33) := ⟨_, rfl⟩
  rw [← hw2]
  have hx2 : w2.heap[w.heap.size + 1]? = some (.cells #[.int .i64 x.no, .int .i64 x.cls, .int .i64 x.op, .string x.name, .string x.plat, .bool x.paused, .int .u64 x.untl] 33 (0, 0)) := by rw [hw2]; exact heap_alloc_two w _ _
  have hk2 : w2.heap[w.heap.size]? = some (.cells #[.int .i64 2, .int .i64 x.no, .int .i64 x.cls, .int .i64 x.op, .string x.name, .string x.plat, .bool x.paused, .int .u64 x.untl] 35 (0, 0)) := by rw [hw2]; exact fr_alloc_old fr_alloc_at
  have HX := Lib.hid hx2
  have HT2 := Lib.hid (HT.out.protect (m := w.heap.size + 1) (w' := w2) (by rw [hw2]; exact box_below.alloc (by simp) _) (by omega) (by rw [hw2]; simp))
  have HTD := Lib.hid (HT2.out.below' (w' := w2.drew) ⟨rfl, rfl, rfl, Nat.le_refl _, fun _ _ => rfl⟩)
  have kk : w2.cell? ⟨w.heap.size, 0, none⟩ = some (.int .i64 2) := fr_cell_of_heap hk2 rfl
  clear hw2 hx2 hk2
  go_wp2_with fail
  have hTd := HTD.out
  go_region_held3 (fun w' => w'.cell? ⟨w.heap.size + 1, 0, none⟩ = some (.int .i64 x.no) ∧ w'.cell? ⟨w.heap.size + 1, 5, none⟩ = some (.bool x.paused)) (first | assumption | exact ⟨Two.cell HTD.out (by simp) HX.out rfl, Two.cell HTD.out (by simp) HX.out rfl⟩ | exact ⟨Two.cell (by assumption) (by simp) HX.out rfl, Two.cell (by assumption) (by simp) HX.out rfl⟩)
    (first
      | (go_at_call 23; refine (pause_two _ _ (by assumption)).mono ?_; rintro e w9 ⟨rfl, h9⟩)
      | (go_at_call 24; refine (rbpause_two _ _ (by assumption)).mono ?_; rintro e w9 ⟨rfl, h9⟩))
  all_goals
    have HT9 := Lib.hid (show Two w0 b b' [w.heap.size + 1] w2 (updS s x.no (fun z => { z with paused := x.paused })) (updS s x.no (fun z => { z with paused := x.paused })) w9 by assumption)
    go_wp2_with fail
    go_ret
    exact ⟨rfl, HT9.out.bare _⟩
set_option maxRecDepth 100000 in
set_option maxHeartbeats 4000000 in
theorem does_give {w0 : World} {b b' : Nat} {s : Bk} (x : Wk) (w : World) (hr : Ready w0) (hT : Two w0 b b' [] w s s w) (hs : SmallW x) :
    Calls Tryz.prog 8 #[.pointer (some ⟨b, 0, none⟩), .pointer (some ⟨b', 0, none⟩), .agg #[.int .i64 3, .int .i64 x.no, .int .i64 x.cls, .int .i64 x.op, .string x.name, .string x.plat, .bool x.paused, .int .u64 x.untl]] w (DoesPost w0 b b' (giveS s x.no x.op) w) := by
  have HR := Lib.hid hr
  have HT := Lib.hid hT
  have HS := Lib.hid hs
  clear hr hT hs
  go_enter Tryz.func8, Tryz.ntmps8
  go_upto_region 2 with fail
  obtain ⟨w2, hw2⟩ : ∃ w2 : World, w2 = (w.alloc (.cells #[.int .i64 3, .int .i64 x.no, .int .i64 x.cls, .int .i64 x.op, .string x.name, .string x.plat, .bool x.paused, .int .u64 x.untl] 35)).alloc (.cells #[.int .i64 x.no, .int .i64 x.cls, .int .i64 x.op, .string x.name, .string x.plat, .bool x.paused, .int .u64 x.untl] 33) := ⟨_, rfl⟩
  rw [← hw2]
  have hx2 : w2.heap[w.heap.size + 1]? = some (.cells #[.int .i64 x.no, .int .i64 x.cls, .int .i64 x.op, .string x.name, .string x.plat, .bool x.paused, .int .u64 x.untl] 33 (0, 0)) := by rw [hw2]; exact heap_alloc_two w _ _
  have hk2 : w2.heap[w.heap.size]? = some (.cells #[.int .i64 3, .int .i64 x.no, .int .i64 x.cls, .int .i64 x.op, .string x.name, .string x.plat, .bool x.paused, .int .u64 x.untl] 35 (0, 0)) := by rw [hw2]; exact fr_alloc_old fr_alloc_at
  have HX := Lib.hid hx2
  have HT2 := Lib.hid (HT.out.protect (m := w.heap.size + 1) (w' := w2) (by rw [hw2]; exact box_below.alloc (by simp) _) (by omega) (by rw [hw2]; simp))
  have HTD := Lib.hid (HT2.out.below' (w' := w2.drew) ⟨rfl, rfl, rfl, Nat.le_refl _, fun _ _ => rfl⟩)
  have kk : w2.cell? ⟨w.heap.size, 0, none⟩ = some (.int .i64 3) := fr_cell_of_heap hk2 rfl
  clear hw2 hx2 hk2
  go_wp2_with fail
  have hTd := HTD.out
  go_region_held3 (fun w' => w'.cell? ⟨w.heap.size + 1, 0, none⟩ = some (.int .i64 x.no) ∧ w'.cell? ⟨w.heap.size + 1, 2, none⟩ = some (.int .i64 x.op)) (first | assumption | exact ⟨Two.cell HTD.out (by simp) HX.out rfl, Two.cell HTD.out (by simp) HX.out rfl⟩ | exact ⟨Two.cell (by assumption) (by simp) HX.out rfl, Two.cell (by assumption) (by simp) HX.out rfl⟩)
    (first
      | (go_at_call 25; refine (give_two _ _ (by assumption)).mono ?_; rintro e w9 ⟨rfl, h9⟩)
      | (go_at_call 26; refine (rbgive_two _ _ (by assumption)).mono ?_; rintro e w9 ⟨rfl, h9⟩))
  all_goals
    have HT9 := Lib.hid (show Two w0 b b' [w.heap.size + 1] w2 (giveS s x.no x.op) (giveS s x.no x.op) w9 by assumption)
    go_wp2_with fail
    go_ret
    exact ⟨rfl, HT9.out.bare _⟩
set_option maxRecDepth 100000 in
set_option maxHeartbeats 4000000 in
theorem does_free {w0 : World} {b b' : Nat} {s : Bk} (x : Wk) (w : World) (hr : Ready w0) (hT : Two w0 b b' [] w s s w) (hs : SmallW x) :
    Calls Tryz.prog 8 #[.pointer (some ⟨b, 0, none⟩), .pointer (some ⟨b', 0, none⟩), .agg #[.int .i64 4, .int .i64 x.no, .int .i64 x.cls, .int .i64 x.op, .string x.name, .string x.plat, .bool x.paused, .int .u64 x.untl]] w (DoesPost w0 b b' (freeS s x.no) w) := by
  have HR := Lib.hid hr
  have HT := Lib.hid hT
  have HS := Lib.hid hs
  clear hr hT hs
  go_enter Tryz.func8, Tryz.ntmps8
  go_upto_region 2 with fail
  obtain ⟨w2, hw2⟩ : ∃ w2 : World, w2 = (w.alloc (.cells #[.int .i64 4, .int .i64 x.no, .int .i64 x.cls, .int .i64 x.op, .string x.name, .string x.plat, .bool x.paused, .int .u64 x.untl] 35)).alloc (.cells #[.int .i64 x.no, .int .i64 x.cls, .int .i64 x.op, .string x.name, .string x.plat, .bool x.paused, .int .u64 x.untl] 33) := ⟨_, rfl⟩
  rw [← hw2]
  have hx2 : w2.heap[w.heap.size + 1]? = some (.cells #[.int .i64 x.no, .int .i64 x.cls, .int .i64 x.op, .string x.name, .string x.plat, .bool x.paused, .int .u64 x.untl] 33 (0, 0)) := by rw [hw2]; exact heap_alloc_two w _ _
  have hk2 : w2.heap[w.heap.size]? = some (.cells #[.int .i64 4, .int .i64 x.no, .int .i64 x.cls, .int .i64 x.op, .string x.name, .string x.plat, .bool x.paused, .int .u64 x.untl] 35 (0, 0)) := by rw [hw2]; exact fr_alloc_old fr_alloc_at
  have HX := Lib.hid hx2
  have HT2 := Lib.hid (HT.out.protect (m := w.heap.size + 1) (w' := w2) (by rw [hw2]; exact box_below.alloc (by simp) _) (by omega) (by rw [hw2]; simp))
  have HTD := Lib.hid (HT2.out.below' (w' := w2.drew) ⟨rfl, rfl, rfl, Nat.le_refl _, fun _ _ => rfl⟩)
  have kk : w2.cell? ⟨w.heap.size, 0, none⟩ = some (.int .i64 4) := fr_cell_of_heap hk2 rfl
  clear hw2 hx2 hk2
  go_wp2_with fail
  have hTd := HTD.out
  go_region_held3 (fun w' => w'.cell? ⟨w.heap.size + 1, 0, none⟩ = some (.int .i64 x.no)) (first | assumption | exact Two.cell HTD.out (by simp) HX.out rfl | exact Two.cell (by assumption) (by simp) HX.out rfl)
    (first
      | (go_at_call 27; refine (free_two _ (by assumption)).mono ?_; rintro e w9 ⟨rfl, h9⟩)
      | (go_at_call 28; refine (rbfree_two _ (by assumption)).mono ?_; rintro e w9 ⟨rfl, h9⟩))
  all_goals
    have HT9 := Lib.hid (show Two w0 b b' [w.heap.size + 1] w2 (freeS s x.no) (freeS s x.no) w9 by assumption)
    go_wp2_with fail
    go_ret
    exact ⟨rfl, HT9.out.bare _⟩
set_option maxRecDepth 100000 in
set_option maxHeartbeats 4000000 in
theorem does_remove {w0 : World} {b b' : Nat} {s : Bk} (kind : Int) (x : Wk) (w : World) (hr : Ready w0) (hT : Two w0 b b' [] w s s w) (hs : SmallW x) (k0 : (kind == 0) = false) (k1 : (kind == 1) = false) (k2 : (kind == 2) = false) (k3 : (kind == 3) = false) (k4 : (kind == 4) = false) :
    Calls Tryz.prog 8 #[.pointer (some ⟨b, 0, none⟩), .pointer (some ⟨b', 0, none⟩), .agg #[.int .i64 kind, .int .i64 x.no, .int .i64 x.cls, .int .i64 x.op, .string x.name, .string x.plat, .bool x.paused, .int .u64 x.untl]] w (DoesPost w0 b b' (remS s x.no) w) := by
  have HR := Lib.hid hr
  have HT := Lib.hid hT
  have HS := Lib.hid hs
  clear hr hT hs
  go_enter Tryz.func8, Tryz.ntmps8
  go_upto_region 2 with fail
  obtain ⟨w2, hw2⟩ : ∃ w2 : World, w2 = (w.alloc (.cells #[.int .i64 kind, .int .i64 x.no, .int .i64 x.cls, .int .i64 x.op, .string x.name, .string x.plat, .bool x.paused, .int .u64 x.untl] 35)).alloc (.cells #[.int .i64 x.no, .int .i64 x.cls, .int .i64 x.op, .string x.name, .string x.plat, .bool x.paused, .int .u64 x.untl] 33) := ⟨_, rfl⟩
  rw [← hw2]
  have hx2 : w2.heap[w.heap.size + 1]? = some (.cells #[.int .i64 x.no, .int .i64 x.cls, .int .i64 x.op, .string x.name, .string x.plat, .bool x.paused, .int .u64 x.untl] 33 (0, 0)) := by rw [hw2]; exact heap_alloc_two w _ _
  have hk2 : w2.heap[w.heap.size]? = some (.cells #[.int .i64 kind, .int .i64 x.no, .int .i64 x.cls, .int .i64 x.op, .string x.name, .string x.plat, .bool x.paused, .int .u64 x.untl] 35 (0, 0)) := by rw [hw2]; exact fr_alloc_old fr_alloc_at
  have HX := Lib.hid hx2
  have HT2 := Lib.hid (HT.out.protect (m := w.heap.size + 1) (w' := w2) (by rw [hw2]; exact box_below.alloc (by simp) _) (by omega) (by rw [hw2]; simp))
  have HTD := Lib.hid (HT2.out.below' (w' := w2.drew) ⟨rfl, rfl, rfl, Nat.le_refl _, fun _ _ => rfl⟩)
  have kk : w2.cell? ⟨w.heap.size, 0, none⟩ = some (.int .i64 kind) := fr_cell_of_heap hk2 rfl
  clear hw2 hx2 hk2
  go_wp2_with fail
  have hTd := HTD.out
  go_region_held3 (fun w' => w'.cell? ⟨w.heap.size + 1, 0, none⟩ = some (.int .i64 x.no)) (first | assumption | exact Two.cell HTD.out (by simp) HX.out rfl | exact Two.cell (by assumption) (by simp) HX.out rfl)
    (first
      | (go_at_call 17; refine (remove_two _ (by assumption)).mono ?_; rintro e w9 ⟨rfl, h9⟩)
      | (go_at_call 29; refine (rbremove_two _ (by assumption)).mono ?_; rintro e w9 ⟨rfl, h9⟩))
  all_goals
    have HT9 := Lib.hid (show Two w0 b b' [w.heap.size + 1] w2 (remS s x.no) (remS s x.no) w9 by assumption)
    go_wp2_with fail
    go_ret
    exact ⟨rfl, HT9.out.bare _⟩
set_option maxRecDepth 100000 in
set_option maxHeartbeats 4000000 in
theorem does_any {w0 : World} {b b' : Nat} {s : Bk} (y : Ac) (w : World) (hr : Ready w0) (hT : Two w0 b b' [] w s s w) (hs : SmallW y.x) (hl0 : 0 ≤ s.last) (hl1 : s.last ≤ 1000000) (hw : s.ws.length < 1000) :
    Calls Tryz.prog 8 #[.pointer (some ⟨b, 0, none⟩), .pointer (some ⟨b', 0, none⟩), .agg #[.int .i64 y.kind, .int .i64 y.x.no, .int .i64 y.x.cls, .int .i64 y.x.op, .string y.x.name, .string y.x.plat, .bool y.x.paused, .int .u64 y.x.untl]] w (DoesPost w0 b b' (stepS s y) w) := by
  obtain ⟨kind, x⟩ := y
  unfold stepS
  simp only at hs ⊢
  by_cases h0 : kind = 0
  · subst h0; rw [if_pos rfl]; exact does_add x w hr hT hs hl0 hl1 hw
  rw [if_neg h0]
  by_cases h1 : kind = 1
  · subst h1; rw [if_pos rfl]; exact does_heard x w hr hT hs
  rw [if_neg h1]
  by_cases h2 : kind = 2
  · subst h2; rw [if_pos rfl]; exact does_pause x w hr hT hs
  rw [if_neg h2]
  by_cases h3 : kind = 3
  · subst h3; rw [if_pos rfl]; exact does_give x w hr hT hs
  rw [if_neg h3]
  by_cases h4 : kind = 4
  · subst h4; rw [if_pos rfl]; exact does_free x w hr hT hs
  rw [if_neg h4]
  exact does_remove kind x w hr hT hs (beq_eq_false_iff_ne.2 h0) (beq_eq_false_iff_ne.2 h1) (beq_eq_false_iff_ne.2 h2) (beq_eq_false_iff_ne.2 h3) (beq_eq_false_iff_ne.2 h4)
end Go.Proofs.YtmijmfgclmaodaaGreatDoor
