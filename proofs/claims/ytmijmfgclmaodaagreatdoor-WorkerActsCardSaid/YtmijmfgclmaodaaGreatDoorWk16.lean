/-
  billetlaw29.at, same: the walks.
-/
import Derived.Test.YtmijmfgclmaodaaGreatDoorWk15
import Derived.Lib.QuietBelow
namespace Go.Proofs.YtmijmfgclmaodaaGreatDoor
open Go.RowKit

set_option maxRecDepth 100000 in
set_option maxHeartbeats 4000000 in
theorem at29_none (room last : Int) (v : Value) (w : World) : Calls Tryz.prog 37 #[.agg #[.int .i64 room, .int .i64 last, v], .int .i64 (-1)] w fun e w' => e = .returned (.agg #[.int .i64 0, .int .i64 0, .int .i64 0, .string ⟨#[]⟩, .string ⟨#[]⟩, .bool false, .int .u64 0]) ∧ Below w.heap.size w w' := by
  go_enter Tryz.func37, Tryz.ntmps37
  go_wp2
  refine bodyPost_ret (v := .agg #[.int .i64 0, .int .i64 0, .int .i64 0, .string ⟨#[]⟩, .string ⟨#[]⟩, .bool false, .int .u64 0]) (by simp [results, Tryz.results37, go_sem]) rfl ⟨rfl, ?_⟩
  exact box_below.alloc (by simp) _
set_option maxRecDepth 100000 in
set_option maxHeartbeats 4000000 in
theorem at29_some (room last : Int) (v : Value) (l : List Wk) (k : Nat) (x : Wk) (w : World) (hr : RowsW w v l) (hx : l[k]? = some x) :
    Calls Tryz.prog 37 #[.agg #[.int .i64 room, .int .i64 last, v], .int .i64 k] w fun e w' => e = .returned (.agg #[.int .i64 x.no, .int .i64 x.cls, .int .i64 x.op, .string x.name, .string x.plat, .bool x.paused, .int .u64 x.untl]) ∧ Below w.heap.size w w' := by
  have hlt : k < l.length := (List.getElem?_eq_some_iff.1 hx).1
  obtain ⟨a, cap, rfl, hl, hcell⟩ := hr
  obtain ⟨g, off, rfl, c0, c1, e2, c3, c4, c5, c6⟩ := RowsW.at hcell hx
  have hg : g < w.heap.size := World.block_lt_of_cell? w _ c0
  have hne2 : g ≠ w.heap.size := by omega
  have hne3 : g ≠ w.heap.size + 1 := by omega
  clear hcell hx
  go_enter Tryz.func37, Tryz.ntmps37
  go_wp2
  refine bodyPost_ret (v := .agg #[.int .i64 x.no, .int .i64 x.cls, .int .i64 x.op, .string x.name, .string x.plat, .bool x.paused, .int .u64 x.untl]) (by simp [results, Tryz.results37, go_sem]) rfl ⟨rfl, ?_⟩
  exact box_below.alloc (by simp) _
theorem at29_q (room last : Int) (v : Value) (l : List Wk) (p : Wk → Bool) (i : Int) (y : Wk) (hi : findI p l = i) (hy : atW l i = y) (w : World) (hr : RowsW w v l) :
    Calls Tryz.prog 37 #[.agg #[.int .i64 room, .int .i64 last, v], .int .i64 i] w fun e w' => e = .returned (.agg #[.int .i64 y.no, .int .i64 y.cls, .int .i64 y.op, .string y.name, .string y.plat, .bool y.paused, .int .u64 y.untl]) ∧ Below w.heap.size w w' := by
  subst hi hy
  rcases findI_cases p l with ⟨h, _⟩ | ⟨k, x, h, hx, _⟩
  · rw [h, atW_neg (by omega)]
    exact at29_none room last v w
  · rw [h, atW_of hx]
    exact at29_some room last v l k x w hr hx
theorem at29_r (room last : Int) (v : Value) (l : List Wk) (i : Int) (y : Wk) (hi : ∃ p, findI p l = i) (hy : atW l i = y) (w : World) (hr : RowsW w v l) :
    Calls Tryz.prog 37 #[.agg #[.int .i64 room, .int .i64 last, v], .int .i64 i] w fun e w' => e = .returned (.agg #[.int .i64 y.no, .int .i64 y.cls, .int .i64 y.op, .string y.name, .string y.plat, .bool y.paused, .int .u64 y.untl]) ∧ Below w.heap.size w w' := by
  obtain ⟨p, hp⟩ := hi
  exact at29_q room last v l p i y hp hy w hr
theorem nmGet_q {T : TypeId} {base b : Nat} {v : Value} {s : Bk} (n : ByteArray) (i : Int) (y : Wk) (q : Bool) (hi : findI (nmB n) s.ws = i) (hy : atW s.ws i = y) (hq : decide (0 ≤ i) = q) (w : World) (hB : BookAt T base w b v s) :
    Calls Tryz.prog 30 #[.pointer (some ⟨b, 0, none⟩), .string n] w fun e w' => e = .returned (.tuple #[.agg #[.int .i64 y.no, .int .i64 y.cls, .int .i64 y.op, .string y.name, .string y.plat, .bool y.paused, .int .u64 y.untl], .bool q]) ∧ Below w.heap.size w w' := by
  subst hi hy hq
  exact nmGet_any n w hB
theorem noGet_q {T : TypeId} {base b : Nat} {v : Value} {s : Bk} (n : Int) (i : Int) (y : Wk) (q : Bool) (hi : findI (noB n) s.ws = i) (hy : atW s.ws i = y) (hq : decide (0 ≤ i) = q) (w : World) (hB : BookAt T base w b v s) :
    Calls Tryz.prog 31 #[.pointer (some ⟨b, 0, none⟩), .int .i64 n] w fun e w' => e = .returned (.tuple #[.agg #[.int .i64 y.no, .int .i64 y.cls, .int .i64 y.op, .string y.name, .string y.plat, .bool y.paused, .int .u64 y.untl], .bool q]) ∧ Below w.heap.size w w' := by
  subst hi hy hq
  exact noGet_any n w hB
theorem rbnm_q (room last : Int) (v : Value) (l : List Wk) (n : ByteArray) (i : Int) (hi : findI (nmB n) l = i) (w : World) (hr : RowsW w v l) :
    Calls Tryz.prog 32 #[.agg #[.int .i64 room, .int .i64 last, v], .string n] w fun e w' => e = .returned (.int .i64 i) ∧ Below w.heap.size w w' := by
  subst hi
  exact rbnm_any room last v l n w hr
theorem rbno_q (room last : Int) (v : Value) (l : List Wk) (n : Int) (i : Int) (hi : findI (noB n) l = i) (w : World) (hr : RowsW w v l) :
    Calls Tryz.prog 33 #[.agg #[.int .i64 room, .int .i64 last, v], .int .i64 n] w fun e w' => e = .returned (.int .i64 i) ∧ Below w.heap.size w w' := by
  subst hi
  exact rbno_any room last v l n w hr
set_option maxRecDepth 100000 in
set_option maxHeartbeats 16000000 in
theorem same29_any {base b b' : Nat} {v v' : Value} {s : Bk} (x : Wk) (w : World) (hA : BookAt 56 base w b v s) (hB : BookAt 29 base w b' v' s) :
    Calls Tryz.prog 9 #[.pointer (some ⟨b, 0, none⟩), .agg #[.int .i64 s.room, .int .i64 s.last, v'], .agg #[.int .i64 x.no, .int .i64 x.cls, .int .i64 x.op, .string x.name, .string x.plat, .bool x.paused, .int .u64 x.untl]] w fun e w' => e = .returned (.bool true) ∧ Below w.heap.size w w' := by
  have HA := Lib.hid hA
  have HB := Lib.hid hB
  obtain ⟨i, hi⟩ : ∃ i, findI (nmB x.name) s.ws = i := ⟨_, rfl⟩
  obtain ⟨k, hk⟩ : ∃ k, findI (noB x.no) s.ws = k := ⟨_, rfl⟩
  obtain ⟨pw, hpw⟩ : ∃ pw, atW s.ws i = pw := ⟨_, rfl⟩
  obtain ⟨qw, hqw⟩ : ∃ qw, atW s.ws k = qw := ⟨_, rfl⟩
  have HI := Lib.hid hi
  have HK := Lib.hid hk
  have HP := Lib.hid hpw
  have HQ := Lib.hid hqw
  clear hA hB hi hk hpw hqw
  go_enter Tryz.func9, Tryz.ntmps9
  go_upto_region 1 with fail
  obtain ⟨w1, hw1⟩ : ∃ w1 : World, w1 = (w.alloc (.cells #[.int .i64 s.room, .int .i64 s.last, v'] 29)).alloc (.cells #[.int .i64 x.no, .int .i64 x.cls, .int .i64 x.op, .string x.name, .string x.plat, .bool x.paused, .int .u64 x.untl] 33) := ⟨_, rfl⟩
  rw [← hw1]
  have HB1 := Lib.hid (show Below w.heap.size w w1 by rw [hw1]; exact box_below.alloc (by simp) _)
  have hb1 : w1.heap[w.heap.size]? = some (.cells #[.int .i64 s.room, .int .i64 s.last, v'] 29 (0, 0)) := by rw [hw1]; exact fr_alloc_old fr_alloc_at
  have hx1 : w1.heap[w.heap.size + 1]? = some (.cells #[.int .i64 x.no, .int .i64 x.cls, .int .i64 x.op, .string x.name, .string x.plat, .bool x.paused, .int .u64 x.untl] 33 (0, 0)) := by rw [hw1]; exact heap_alloc_two w _ _
  have HBB := Lib.hid hb1
  have HXX := Lib.hid hx1
  have c3 : w1.cell? ⟨w.heap.size + 1, 3, none⟩ = some (.string x.name) := fr_cell_of_heap hx1 rfl
  clear hw1 hb1 hx1
  go_wp2_with fail
  refine (nmGet_q x.name i pw _ HI.out HP.out rfl _ (HA.out.below HB1.out)).mono ?_
  rintro e w2 ⟨rfl, hb2⟩
  go_upto_region 2 with fail
  obtain ⟨mp, hmp⟩ : ∃ mp, mp = w2.heap.size := ⟨_, rfl⟩
  obtain ⟨w2a, hw2a⟩ : ∃ w2a : World, w2a = w2.alloc (.cells #[.int .i64 pw.no, .int .i64 pw.cls, .int .i64 pw.op, .string pw.name, .string pw.plat, .bool pw.paused, .int .u64 pw.untl] 33) := ⟨_, rfl⟩
  rw [← hw2a, ← hmp]
  have hb2a : Below w1.heap.size w1 w2a := by rw [hw2a]; exact hb2.alloc hb2.size _
  have hp2 : w2a.heap[mp]? = some (.cells #[.int .i64 pw.no, .int .i64 pw.cls, .int .i64 pw.op, .string pw.name, .string pw.plat, .bool pw.paused, .int .u64 pw.untl] 33 (0, 0)) := by rw [hw2a, hmp]; exact fr_alloc_at
  have HB2 := Lib.hid hb2a
  have HP2 := Lib.hid hp2
  have HW2 := Lib.hid (HB1.out.trans (hb2a.mono HB1.out.size))
  have c0 : w2a.cell? ⟨w.heap.size + 1, 0, none⟩ = some (.int .i64 x.no) := cell_below hb2a (fr_cell_of_heap HXX.out rfl)
  clear hw2a hb2 hb2a hp2 hmp c3
  go_wp2_with fail
  refine (noGet_q x.no k qw _ HK.out HQ.out rfl _ (HA.out.below HW2.out)).mono ?_
  rintro e w3a ⟨rfl, hb3⟩
  go_upto_region 3 with fail
  obtain ⟨mq, hmq⟩ : ∃ mq, mq = w3a.heap.size := ⟨_, rfl⟩
  obtain ⟨w3b, hw3b⟩ : ∃ w3b : World, w3b = w3a.alloc (.cells #[.int .i64 qw.no, .int .i64 qw.cls, .int .i64 qw.op, .string qw.name, .string qw.plat, .bool qw.paused, .int .u64 qw.untl] 33) := ⟨_, rfl⟩
  rw [← hw3b, ← hmq]
  have hb3a : Below w2a.heap.size w2a w3b := by rw [hw3b]; exact hb3.alloc hb3.size _
  have hq3 : w3b.heap[mq]? = some (.cells #[.int .i64 qw.no, .int .i64 qw.cls, .int .i64 qw.op, .string qw.name, .string qw.plat, .bool qw.paused, .int .u64 qw.untl] 33 (0, 0)) := by rw [hw3b, hmq]; exact fr_alloc_at
  have HQ3 := Lib.hid hq3
  have HB3 := Lib.hid hb3a
  have HW3 := Lib.hid (HW2.out.trans (hb3a.mono HW2.out.size))
  have HP3 := Lib.hid ((hb3a.block mp (Array.getElem?_eq_some_iff.1 HP2.out).1).trans HP2.out)
  have HBB3 := Lib.hid (((HB2.out.trans (hb3a.mono HB2.out.size)).block _ (Array.getElem?_eq_some_iff.1 HBB.out).1).trans HBB.out)
  have HXX3 := Lib.hid (((HB2.out.trans (hb3a.mono HB2.out.size)).block _ (Array.getElem?_eq_some_iff.1 HXX.out).1).trans HXX.out)
  clear hw3b hb3 hb3a hq3 hmq c0
  have k0 := cell_regrown (fr_cell_of_heap HBB3.out (i := 0) rfl)
  have k1 := cell_regrown (fr_cell_of_heap HBB3.out (i := 1) rfl)
  have k2 := cell_regrown (fr_cell_of_heap HBB3.out (i := 2) rfl)
  have k3 := cell_regrown (fr_cell_of_heap HXX3.out (i := 0) rfl)
  have k4 := cell_regrown (fr_cell_of_heap HXX3.out (i := 3) rfl)
  refine wp_region_quiet_below (by kernel_rfl) (by kernel_rfl) ?_
  repeat go_big_quiet_step ((first | (go_at_call 32; exact Calls.regrown_of (rbnm_q _ _ _ _ _ i HI.out _ ((HB.out.below (HW3.out.trans ((below_regrown w3b _ _).mono HW3.out.size))).rows))) | (go_at_call 33; exact Calls.regrown_of (rbno_q _ _ _ _ _ k HK.out _ ((HB.out.below (HW3.out.trans ((below_regrown w3b _ _).mono HW3.out.size))).rows)))))
  refine wpQuiet_nil ?_
  rintro _ ⟨⟨dq, osq⟩, rfl⟩
  obtain ⟨w3, hw3⟩ : ∃ w3 : World, w3 = Go.Sort.grow (redrawn w3b dq) osq := ⟨_, rfl⟩
  rw [← hw3]
  have hb3c : Below w3b.heap.size w3b w3 := by rw [hw3]; exact below_regrown w3b dq osq
  have HW4 := Lib.hid (HW3.out.trans (hb3c.mono HW3.out.size))
  have HA4 := Lib.hid (HA.out.below HW4.out)
  have HB4 := Lib.hid (HB.out.below HW4.out)
  have hB4 := (hb3c.block _ (Array.getElem?_eq_some_iff.1 HBB3.out).1).trans HBB3.out
  have hP4 := (hb3c.block _ (Array.getElem?_eq_some_iff.1 HP3.out).1).trans HP3.out
  have hQ4 := (hb3c.block _ (Array.getElem?_eq_some_iff.1 HQ3.out).1).trans HQ3.out
  have hkeep : ∀ w' : World, Below w3.heap.size w3 w' → (Below w3.heap.size w3 w' ∧ w'.cell? ⟨w.heap.size, 1, none⟩ = some (.int .i64 s.last) ∧ w'.cell? ⟨w.heap.size, 0, none⟩ = some (.int .i64 s.room) ∧ w'.cell? ⟨w.heap.size, 2, none⟩ = some (v') ∧ w'.cell? ⟨mp, 0, none⟩ = some (.int .i64 pw.no) ∧ w'.cell? ⟨mp, 1, none⟩ = some (.int .i64 pw.cls) ∧ w'.cell? ⟨mp, 2, none⟩ = some (.int .i64 pw.op) ∧ w'.cell? ⟨mp, 3, none⟩ = some (.string pw.name) ∧ w'.cell? ⟨mp, 4, none⟩ = some (.string pw.plat) ∧ w'.cell? ⟨mp, 5, none⟩ = some (.bool pw.paused) ∧ w'.cell? ⟨mp, 6, none⟩ = some (.int .u64 pw.untl) ∧ w'.cell? ⟨mq, 0, none⟩ = some (.int .i64 qw.no) ∧ w'.cell? ⟨mq, 1, none⟩ = some (.int .i64 qw.cls) ∧ w'.cell? ⟨mq, 2, none⟩ = some (.int .i64 qw.op) ∧ w'.cell? ⟨mq, 3, none⟩ = some (.string qw.name) ∧ w'.cell? ⟨mq, 4, none⟩ = some (.string qw.plat) ∧ w'.cell? ⟨mq, 5, none⟩ = some (.bool qw.paused) ∧ w'.cell? ⟨mq, 6, none⟩ = some (.int .u64 qw.untl)) := fun w' h =>
    ⟨h, cell_below h (fr_cell_of_heap hB4 rfl), cell_below h (fr_cell_of_heap hB4 rfl), cell_below h (fr_cell_of_heap hB4 rfl), cell_below h (fr_cell_of_heap hP4 rfl), cell_below h (fr_cell_of_heap hP4 rfl), cell_below h (fr_cell_of_heap hP4 rfl), cell_below h (fr_cell_of_heap hP4 rfl), cell_below h (fr_cell_of_heap hP4 rfl), cell_below h (fr_cell_of_heap hP4 rfl), cell_below h (fr_cell_of_heap hP4 rfl), cell_below h (fr_cell_of_heap hQ4 rfl), cell_below h (fr_cell_of_heap hQ4 rfl), cell_below h (fr_cell_of_heap hQ4 rfl), cell_below h (fr_cell_of_heap hQ4 rfl), cell_below h (fr_cell_of_heap hQ4 rfl), cell_below h (fr_cell_of_heap hQ4 rfl), cell_below h (fr_cell_of_heap hQ4 rfl)⟩
  have HKP := Lib.hid hkeep
  have r1 := ba_list_self pw.name
  have r2 := ba_list_self pw.plat
  have r3 := ba_list_self qw.name
  have r4 := ba_list_self qw.plat
  clear hw3 hb3c hB4 hP4 hQ4 hkeep k0 k1 k2 k3 k4
  go_upto_region 4 with fail
  go_region_held3 (fun w' => Below w3.heap.size w3 w' ∧ w'.cell? ⟨w.heap.size, 1, none⟩ = some (.int .i64 s.last) ∧ w'.cell? ⟨w.heap.size, 0, none⟩ = some (.int .i64 s.room) ∧ w'.cell? ⟨w.heap.size, 2, none⟩ = some (v') ∧ w'.cell? ⟨mp, 0, none⟩ = some (.int .i64 pw.no) ∧ w'.cell? ⟨mp, 1, none⟩ = some (.int .i64 pw.cls) ∧ w'.cell? ⟨mp, 2, none⟩ = some (.int .i64 pw.op) ∧ w'.cell? ⟨mp, 3, none⟩ = some (.string pw.name) ∧ w'.cell? ⟨mp, 4, none⟩ = some (.string pw.plat) ∧ w'.cell? ⟨mp, 5, none⟩ = some (.bool pw.paused) ∧ w'.cell? ⟨mp, 6, none⟩ = some (.int .u64 pw.untl) ∧ w'.cell? ⟨mq, 0, none⟩ = some (.int .i64 qw.no) ∧ w'.cell? ⟨mq, 1, none⟩ = some (.int .i64 qw.cls) ∧ w'.cell? ⟨mq, 2, none⟩ = some (.int .i64 qw.op) ∧ w'.cell? ⟨mq, 3, none⟩ = some (.string qw.name) ∧ w'.cell? ⟨mq, 4, none⟩ = some (.string qw.plat) ∧ w'.cell? ⟨mq, 5, none⟩ = some (.bool qw.paused) ∧ w'.cell? ⟨mq, 6, none⟩ = some (.int .u64 qw.untl))
    (first | assumption | exact HKP.out _ (Below.refl _ _) | exact HKP.out _ ⟨rfl, rfl, rfl, Nat.le_refl _, fun _ _ => rfl⟩ | exact HKP.out _ (Below.trans (And.left (by assumption)) (Below.mono hb9 (Below.size (And.left (by assumption))))))
    (first
      | (go_at_call 35; refine (all_any _ (HA4.out.below (And.left (by assumption)))).mono ?_; rintro e w9 ⟨v9, rfl, hr9, hb9⟩)
      | (go_at_call 34; refine (same29_refl _ _ s.ws _ hr9 (HB4.out.below (And.left (by assumption))).rows).mono ?_; rintro e w9 ⟨rfl, hb9⟩)
      | (go_at_call 36; refine (below_of_same (last_any _ (HA4.out.below (And.left (by assumption))))).mono ?_; rintro e w9 ⟨rfl, hb9⟩)
      | (go_at_call 37; refine (at29_r _ _ _ s.ws _ _ (by with_reducible (first | exact ⟨_, HI.out⟩ | exact ⟨_, HK.out⟩)) (by with_reducible (first | exact HP.out | exact HQ.out)) _ (HB4.out.below (And.left (by assumption))).rows).mono ?_; rintro e w9 ⟨rfl, hb9⟩))
  have HFIN := Lib.hid (show Below w3.heap.size w3 w9 from And.left (by assumption))
  go_wp2_with fail
  go_ret
  exact ⟨rfl, HW4.out.trans (HFIN.out.mono HW4.out.size)⟩
end Go.Proofs.YtmijmfgclmaodaaGreatDoor
