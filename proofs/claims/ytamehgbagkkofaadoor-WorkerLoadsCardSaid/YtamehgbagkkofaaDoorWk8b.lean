/-
  worker.Load: the walk.
-/
import Derived.Test.YtamehgbagkkofaaDoorWk8
namespace Go.Proofs.YtamehgbagkkofaaDoor
open Go.RowKit

set_option maxRecDepth 100000 in
set_option maxHeartbeats 1000000 in
theorem load_room (room last : Int) (v0 : Value) (l : List Wk) (w : World) (hR : RowsW w v0 l) (h : room < 1) :
    Calls Tryd.prog 41 #[.int .i64 room, v0, .int .i64 last] w (LoadPost room l last w) := by
  obtain ⟨a, cap, rfl, hl, -⟩ := hR
  have HN := Lib.hid (show ¬ LoadsW room l last from fun h2 => by have := h2.1; omega)
  go_enter Tryd.func41, Tryd.ntmps41
  go_wp2_with fail
  refine (new_none room _ h).mono ?_
  rintro e w1 ⟨rfl, rfl⟩
  go_wp2
  go_ret2
  exact .inl ⟨HN.out, rfl, Below.refl _ _⟩
set_option maxRecDepth 100000 in
set_option maxHeartbeats 1000000 in
theorem load_many (room last : Int) (v0 : Value) (l : List Wk) (w : World) (hR : RowsW w v0 l) (h : 1 ≤ room) (h2 : room < (l.length : Int)) :
    Calls Tryd.prog 41 #[.int .i64 room, v0, .int .i64 last] w (LoadPost room l last w) := by
  obtain ⟨a, cap, rfl, hl, -⟩ := hR
  have HN := Lib.hid (show ¬ LoadsW room l last from fun h3 => by have := h3.2.1; have := h3.2.2.1; omega)
  go_enter Tryd.func41, Tryd.ntmps41
  go_wp2_with fail
  refine (new_some room _ h).mono ?_
  rintro e w1 ⟨rfl, rfl⟩
  go_wp2
  go_ret2
  exact .inl ⟨HN.out, rfl, box_below⟩
set_option maxRecDepth 100000 in
set_option maxHeartbeats 1000000 in
theorem load_neg (room last : Int) (v0 : Value) (l : List Wk) (w : World) (hR : RowsW w v0 l) (h : 1 ≤ room) (h1 : (l.length : Int) ≤ room) (h2 : last < 0) :
    Calls Tryd.prog 41 #[.int .i64 room, v0, .int .i64 last] w (LoadPost room l last w) := by
  obtain ⟨a, cap, rfl, hl, -⟩ := hR
  have HN := Lib.hid (show ¬ LoadsW room l last from fun h3 => by have := h3.2.1; have := h3.2.2.1; omega)
  go_enter Tryd.func41, Tryd.ntmps41
  go_wp2_with fail
  refine (new_some room _ h).mono ?_
  rintro e w1 ⟨rfl, rfl⟩
  go_wp2
  go_ret2
  exact .inl ⟨HN.out, rfl, box_below⟩
set_option maxRecDepth 100000 in
set_option maxHeartbeats 8000000 in
theorem loadGo_any (room last : Int) (v0 : Value) (l : List Wk) (w : World) (hr : Ready w) (hR : RowsW w v0 l) (hs : ∀ x ∈ l, SmallW x) (h : 1 ≤ room) (h1 : (l.length : Int) ≤ room) (h2 : 0 ≤ last) (h3 : l.length ≤ 40) :
    Calls Tryd.prog 41 #[.int .i64 room, v0, .int .i64 last] w (LoadPost room l last w) := by
  have HR := Lib.hid hr
  obtain ⟨a, cap, rfl, hl, hcell⟩ := hR
  have HC := Lib.hid hcell
  have HS := Lib.hid hs
  clear hr hcell hs
  go_enter Tryd.func41, Tryd.ntmps41
  go_wp2_with fail
  refine (new_some room _ h).mono ?_
  rintro e w1 ⟨rfl, rfl⟩
  go_wp2_with fail
  go_loopw [31] (fun i wr => LRel room last l w i wr) (fun i _ => l.length - (intOf i).toNat)
  case atStart => exact ⟨0, _, rfl, Nat.zero_le _, (fun j x hj => by omega), new_book room w, box_below⟩
  case round =>
    obtain ⟨k, v, rfl, hk, hall, hB, hb⟩ := hrel
    have HA := Lib.hid hB
    have HB := Lib.hid hb
    have HALL := Lib.hid hall
    have hszw := hb.size
    have hgt : w.heap.size < wr.heap.size := hB.lt
    clear hB hb hall
    by_cases hlt : k < l.length
    · obtain ⟨x, hx⟩ : ∃ x, l[k]? = some x := ⟨_, List.getElem?_eq_getElem hlt⟩
      obtain ⟨g, off, rfl, c0, c1, c2, c3, c4, c5, c6⟩ := RowsW.at HC.out hx
      have HSX := Lib.hid (HS.out x (List.mem_of_getElem? hx))
      have d0 := cell_below HB.out c0
      have d1 := cell_below HB.out c1
      have d2 := cell_below HB.out c2
      have d3 := cell_below HB.out c3
      have d4 := cell_below HB.out c4
      have d5 := cell_below HB.out c5
      have d6 := cell_below HB.out c6
      have HX := Lib.hid hx
      clear hx c0 c1 c2 c3 c4 c5 c6
      go_wp2_with fail
      refine (check_any x _ (HR.out.below (HB.out.trans (box_below.mono hszw))) HSX.out).mono ?_
      rintro e w1 ⟨rfl, hb1⟩
      have HB1 := Lib.hid (box_below.trans (hb1.mono (by simp)))
      have hz1 : wr.heap.size < w1.heap.size := by have := hb1.size; simp at this; omega
      have m0 : w1.cell? ⟨wr.heap.size, 0, none⟩ = some (.int .i64 x.no) := cell_below hb1 (by simp)
      have m1 : w1.cell? ⟨wr.heap.size, 1, none⟩ = some (.int .i64 x.cls) := cell_below hb1 (by simp)
      have m2 : w1.cell? ⟨wr.heap.size, 2, none⟩ = some (.int .i64 x.op) := cell_below hb1 (by simp)
      have m3 : w1.cell? ⟨wr.heap.size, 3, none⟩ = some (.string x.name) := cell_below hb1 (by simp)
      have m4 : w1.cell? ⟨wr.heap.size, 4, none⟩ = some (.string x.plat) := cell_below hb1 (by simp)
      have m5 : w1.cell? ⟨wr.heap.size, 5, none⟩ = some (.bool x.paused) := cell_below hb1 (by simp)
      have m6 : w1.cell? ⟨wr.heap.size, 6, none⟩ = some (.int .u64 x.untl) := cell_below hb1 (by simp)
      clear hb1 d0 d1 d2 d3 d4 d5 d6
      go_wp2_with fail
      refine (nmGet_any x.name _ (HA.out.below HB1.out)).mono ?_
      rintro e w2 ⟨rfl, hb2⟩
      have HB2 := Lib.hid (HB1.out.trans (hb2.mono HB1.out.size))
      have hz2 : wr.heap.size < w2.heap.size := by have := hb2.size; omega
      have n0 := cell_below hb2 m0
      have n1 := cell_below hb2 m1
      have n2 := cell_below hb2 m2
      have n3 := cell_below hb2 m3
      have n4 := cell_below hb2 m4
      have n5 := cell_below hb2 m5
      have n6 := cell_below hb2 m6
      clear hb2 m0 m1 m2 m3 m4 m5 m6
      generalize hG : atW ({ room := room, last := pL l k, ws := l.take k } : Bk).ws (findI (nmB x.name) ({ room := room, last := pL l k, ws := l.take k } : Bk).ws) = gw at *
      generalize hO : decide (0 ≤ findI (nmB x.name) ({ room := room, last := pL l k, ws := l.take k } : Bk).ws) = ok at *
      have HO := Lib.hid (show decide (0 ≤ findI (nmB x.name) (l.take k)) = ok from hO)
      clear hG hO
      obtain ⟨w3, hw3⟩ : ∃ w3 : World, w3 = w2.alloc (.cells #[.int .i64 gw.no, .int .i64 gw.cls, .int .i64 gw.op, .string gw.name, .string gw.plat, .bool gw.paused, .int .u64 gw.untl] 57) := ⟨_, rfl⟩
      have HB2' := Lib.hid (show Below wr.heap.size wr w3 by rw [hw3]; exact HB2.out.alloc HB2.out.size _)
      have HA3 := Lib.hid (HA.out.below HB2'.out)
      have HB3 := Lib.hid (HB.out.trans (HB2'.out.mono hszw))
      have hz3 : wr.heap.size < w3.heap.size := by rw [hw3]; simp; omega
      have q0 : w3.cell? ⟨wr.heap.size, 0, none⟩ = some (.int .i64 x.no) := by rw [hw3]; exact cell_below box_below n0
      have q1 : w3.cell? ⟨wr.heap.size, 1, none⟩ = some (.int .i64 x.cls) := by rw [hw3]; exact cell_below box_below n1
      have q2 : w3.cell? ⟨wr.heap.size, 2, none⟩ = some (.int .i64 x.op) := by rw [hw3]; exact cell_below box_below n2
      have q3 : w3.cell? ⟨wr.heap.size, 3, none⟩ = some (.string x.name) := by rw [hw3]; exact cell_below box_below n3
      have q4 : w3.cell? ⟨wr.heap.size, 4, none⟩ = some (.string x.plat) := by rw [hw3]; exact cell_below box_below n4
      have q5 : w3.cell? ⟨wr.heap.size, 5, none⟩ = some (.bool x.paused) := by rw [hw3]; exact cell_below box_below n5
      have q6 : w3.cell? ⟨wr.heap.size, 6, none⟩ = some (.int .u64 x.untl) := by rw [hw3]; exact cell_below box_below n6
      have g1 : w3.cell? ⟨w.heap.size, 1, none⟩ = some (.int .i64 (pL l k)) := HA3.out.c1
      have HW3 := Lib.hid hw3
      clear hw3 n0 n1 n2 n3 n4 n5 n6
      go_wp2_with fail
      rw [← HW3.out]
      clear HW3
      by_cases k0 : chkE x = 0
      · have k0b : (chkE x != 0) = false := by rw [k0]; rfl
        rcases k1 : ((ba (chkS x)).toList == x.plat.toList) with _ | _
        · have k1b : ((ba (chkS x)).toList != x.plat.toList) = true := by rw [bne, k1]; rfl
          have HN := Lib.hid (not_all (room := room) (last := last) HX.out (fun ho => by have := ho.plat; rw [k1] at this; cases this))
          clear k0
          go_quiet (fail)
          go_wp2_with fail
          go_ret2
          exact .inl ⟨HN.out, rfl, below_drewN HB3.out _⟩
        · have k1b : ((ba (chkS x)).toList != x.plat.toList) = false := by rw [bne, k1]; rfl
          by_cases k2 : ∀ y ∈ l.take k, nmB x.name y = false
          · obtain rfl : false = ok := by rw [← HO.out, findI_new k2]; rfl
            have HK2 := Lib.hid k2
            have HK0 := Lib.hid k0
            have HK1 := Lib.hid k1
            clear k0 k2
            by_cases k3 : pL l k < x.no
            · by_cases k4 : x.no ≤ last
              · by_cases k5 : 0 ≤ x.op
                · have HOK := Lib.hid (show OkW last l k x from ⟨HK0.out, HK1.out, HK2.out, k3, k4, k5⟩)
                  go_quiet (fail)
                  go_wp2_with fail
                  generalize hw4 : w3.drewN _ = w4 at *
                  have HB34 := Lib.hid (show Below w3.heap.size w3 w4 by rw [← hw4]; exact below_drewN (Below.refl _ _) _)
                  have HA4 := Lib.hid (HA3.out.below HB34.out)
                  have HB4 := Lib.hid (HB3.out.trans (HB34.out.mono HB3.out.size))
                  have hz4 : wr.heap.size < w4.heap.size := by have := HB34.out.size; omega
                  have r0 := cell_below HB34.out q0
                  have r1 := cell_below HB34.out q1
                  have r2 := cell_below HB34.out q2
                  have r3 := cell_below HB34.out q3
                  have r4 := cell_below HB34.out q4
                  have r5 := cell_below HB34.out q5
                  have r6 := cell_below HB34.out q6
                  have g2 : w4.cell? ⟨w.heap.size, 2, none⟩ = some v := HA4.out.c2
                  have hbw4 : w.heap.size < w4.heap.size := by omega
                  have HNB := Lib.hid (show v.ownBlock ≠ some w.heap.size from fun e => HA4.out.not_blk (by decide) (mem_blk.2 e))
                  have HO4 := Lib.hid (show w4.ownsRow w.heap.size 57 7 v (l.take k).length (flatW (l.take k)) from HA4.out.own)
                  have hlk : (l.take k).length = k := by rw [List.length_take]; omega
                  rw [hlk] at HO4
                  obtain ⟨i0, hi0, hz0, hz1', hz2'⟩ := info_parts worker_info
                  have h1x : ∀ u ∈ encW x, u.oneCell' = true := encW_one _
                  obtain ⟨gg, gcap, w9, hrun, hown9, hgrow, hat, hlt9⟩ := run_append_lies (P := Tryd.prog) (w := (w4.alloc (.cells (encW x).toArray 57)).drew) 67 67 w.heap.size 57 i0 _ 7 72 Tryd.underlying67 hi0 hz0 hz1' hz2' rfl (by omega) v k (flatW (l.take k)) ((HO4.out.alloc _).drew)
                    ⟨w4.heap.size, 0, none⟩ 1 1 (encW x) rfl (World.news_of_block (cs := (encW x).toArray) (t := 57) (fr := (0, 0)) (heap_alloc_new w4 _)) h1x (by omega) (by unfold maxLen; omega) (by omega) (by show w.heap.size ≤ (w4.alloc _).heap.size; simp; omega) (w4.heap.size + 1) (by show (w4.alloc _).heap.size = _; simp)
                  have HO9 := Lib.hid (show w9.ownsRow w.heap.size 57 7 (.slice (some ⟨gg, 0, none⟩) (k + 1) gcap) (k + 1) (flatW (l.take (k + 1))) by rw [take_one HX.out, flatW_snoc]; exact hown9)
                  have HF9 := Lib.hid (show Fr (w.heap.size :: blk v) w4 w9 from ((Fr.refl _ w4).alloc _).drew.grown hgrow (fun j hj => .inl (List.mem_cons_of_mem _ (mem_blk.2 hj))))
                  have HAT := Lib.hid hat
                  have HGE := Lib.hid (book_ge HA4.out)
                  have hnx : wr.heap.size ∉ w.heap.size :: blk v := was_far (m := wr.heap.size) HA4.out HA.out hgt (Nat.le_refl _)
                  have s0 := HF9.out.cell r0 hnx
                  have hh9 : w9.heap[w.heap.size]? = some (.cells #[.int .i64 room, .int .i64 (pL l k), v] 105 (0, 0)) := (hgrow.block w.heap.size (by show w.heap.size < (w4.alloc _).heap.size; simp; omega) (Ne.symm HNB.out)).trans (fr_alloc_old HA4.out.heap)
                  have k2' : w9.cell? ⟨w.heap.size, 2, none⟩ = some v := fr_cell_of_heap hh9 rfl
                  have k1' : w9.cell? ⟨w.heap.size, 1, none⟩ = some (.int .i64 (pL l k)) := fr_cell_of_heap hh9 rfl
                  have f9 : w9.frozen? ⟨w.heap.size, 2, none⟩ = false := fr_free_of_heap hh9
                  have f91 : w9.frozen? ⟨w.heap.size, 1, none⟩ = false := fr_free_of_heap hh9
                  have HH9 := Lib.hid hh9
                  have hngg : w.heap.size ≠ gg := by
                    rcases hat with h | h
                    · intro e; rw [← e] at h; exact HNB.out h
                    · omega
                  have HNGG := Lib.hid hngg
                  have hne9 : wr.heap.size ≠ w.heap.size := by omega
                  have HLK := Lib.hid hlk
                  have HW4 := Lib.hid hw4
                  simp only [encW] at hrun
                  simp [go_sem] at hrun
                  clear hown9 hgrow hat hh9 h1x hi0 hz0 hz1' hz2' hlk hnx hngg q0 q1 q2 q3 q4 q5 q6 g1 hw4
                  go_region
                  clear hrun
                  go_wp2_with fail
                  have HFIN := Lib.hid ((book_put (s := ⟨room, pL l k, l.take k⟩) (T := 105) (Nat.le_refl _) HH9.out (v' := .slice (some ⟨gg, 0, none⟩) (k + 1) gcap) (l := l.take (k + 1)) (by rw [show (l.take (k + 1)).length = k + 1 by rw [List.length_take]; omega]; exact HO9.out) (by rw [blk_slice]; simp; exact HNGG.out) (by rw [List.length_take]; omega)).setLast (by decide) x.no)
                  go_roundw
                  case rel =>
                    refine ⟨k + 1, .slice (some ⟨gg, 0, none⟩) (k + 1) gcap, by go_num, by omega, all_succ HALL.out HX.out HOK.out, ?_, ?_⟩
                    · rw [pL_succ HX.out]
                      exact HFIN.out
                    · exact ((HB4.out.trans (HF9.out.below (by omega) HGE.out)).setCell (by simp) _).setCell (by simp) _
                  case measure => simp [intOf]; omega
                · have HN := Lib.hid (not_all (room := room) (last := last) HX.out (fun ho => k5 ho.op))
                  go_quiet (fail)
                  go_wp2_with fail
                  go_ret2
                  exact .inl ⟨HN.out, rfl, below_drewN HB3.out _⟩
              · have HN := Lib.hid (not_all (room := room) (last := last) HX.out (fun ho => k4 ho.most))
                go_quiet (fail)
                go_wp2_with fail
                go_ret2
                exact .inl ⟨HN.out, rfl, below_drewN HB3.out _⟩
            · have HN := Lib.hid (not_all (room := room) (last := last) HX.out (fun ho => k3 ho.rise))
              have k3' : x.no ≤ pL l k := by omega
              clear k3
              go_quiet (fail)
              go_wp2_with fail
              go_ret2
              exact .inl ⟨HN.out, rfl, below_drewN HB3.out _⟩
          · obtain rfl : true = ok := by rw [← HO.out, findI_old k2]
            have HN := Lib.hid (not_all (room := room) (last := last) HX.out (fun ho => k2 ho.new))
            clear k0 k2
            go_quiet (fail)
            go_wp2_with fail
            go_ret2
            exact .inl ⟨HN.out, rfl, below_drewN HB3.out _⟩
      · have k0b : (chkE x != 0) = true := by rw [bne_iff_ne]; exact k0
        have HN := Lib.hid (not_all (room := room) (last := last) HX.out (fun ho => k0 ho.chk))
        clear k0
        go_quiet (fail)
        go_wp2_with fail
        go_ret2
        exact .inl ⟨HN.out, rfl, below_drewN HB3.out _⟩
    · obtain rfl : k = l.length := by omega
      have c1 := HA.out.c1
      have f1 := HA.out.free 1
      have HFIN := Lib.hid (HA.out.setLast (by decide) last)
      have HBF := Lib.hid (HB.out.setCell (p := ⟨w.heap.size, 1, none⟩) (Nat.le_refl _) (.int .i64 last))
      go_wp2_with fail
      go_ret2
      refine .inr ⟨⟨h, h1, h2, HALL.out⟩, rfl, v, ?_, HBF.out⟩
      have h4 := HFIN.out
      rw [List.take_length] at h4
      exact h4
end Go.Proofs.YtamehgbagkkofaaDoor
