/-
  billetref29.B: Remove, Add: the walks.
-/
import Derived.Test.YtmijmfgclmaodaaGreatDoorWk12
import Derived.Test.YtmijmfgclmaodaaGreatDoorCopy
import Derived.BigRegion
import Derived.Deep.RegionHeld3
namespace Go.Proofs.YtmijmfgclmaodaaGreatDoor
open Go.RowKit

def uptoG {α : Type} (a i : Nat) (l : List α) : List α := (l.take i).eraseIdx a
theorem uptoG_zero {α : Type} (a : Nat) (l : List α) : uptoG a 0 l = [] := by simp [uptoG]
theorem takeG_snoc {α : Type} {l : List α} {a : Nat} {q : α} (h : l[a]? = some q) : l.take (a + 1) = l.take a ++ [q] := by
  obtain ⟨hk, rfl⟩ := List.getElem?_eq_some_iff.1 h
  rw [List.take_succ_eq_append_getElem hk]
theorem uptoG_at {α : Type} {a : Nat} {l : List α} {q : α} (h : l[a]? = some q) : uptoG a (a + 1) l = uptoG a a l := by
  have ha : a < l.length := (List.getElem?_eq_some_iff.1 h).1
  have e1 : (l.take a).length = a := by rw [List.length_take]; omega
  unfold uptoG
  rw [takeG_snoc h, List.eraseIdx_append_of_length_le (by omega), e1, Nat.sub_self]
  rw [show [q].eraseIdx 0 = [] from rfl, List.append_nil, List.eraseIdx_of_length_le (by omega)]
theorem uptoG_other {α : Type} {a i : Nat} {l : List α} {p : α} (h : l[i]? = some p) (hne : i ≠ a) : uptoG a (i + 1) l = uptoG a i l ++ [p] := by
  have hi : i < l.length := (List.getElem?_eq_some_iff.1 h).1
  unfold uptoG
  rw [takeG_snoc h]
  rcases Nat.lt_or_ge a i with hlt | hge
  · rw [List.eraseIdx_append_of_lt_length (by rw [List.length_take]; omega)]
  · rw [List.eraseIdx_of_length_le (by simp [List.length_take]; omega), List.eraseIdx_of_length_le (by rw [List.length_take]; omega)]
theorem uptoG_all {α : Type} (a : Nat) (l : List α) : uptoG a l.length l = l.eraseIdx a := by unfold uptoG; rw [List.take_length]
theorem uptoG_len {α : Type} (a i : Nat) (l : List α) : (uptoG a i l).length ≤ i := by
  unfold uptoG
  refine Nat.le_trans (List.length_eraseIdx_le _ _) ?_
  rw [List.length_take]
  omega
def DRel (l : List Wk) (k : Nat) (w1 : World) (lv i : Value) (wr : World) : Prop :=
  ∃ m : Nat, i = .int .i64 m ∧ m ≤ l.length ∧ wr.ownsRow w1.heap.size 33 7 lv (uptoG k m l).length (flatW (uptoG k m l)) ∧ Below w1.heap.size w1 wr
set_option maxRecDepth 100000 in
set_option maxHeartbeats 2000000 in
theorem rbremove_none {base b : Nat} {v : Value} {s : Bk} (no : Int) (w : World) (hB : BookAt 29 base w b v s) (h : findI (noB no) s.ws = -1) :
    Calls Tryz.prog 29 #[.pointer (some ⟨b, 0, none⟩), .int .i64 no] w (BookPost 29 base w b v s (.bool false)) := by
  have HB := Lib.hid hB
  have HI := Lib.hid h
  have a0 := hB.c0
  have a1 := hB.c1
  have a2 := hB.c2
  clear hB h
  go_enter Tryz.func29, Tryz.ntmps29
  go_wp2_with fail
  refine (rbno_any s.room s.last _ s.ws no _ HB.out.rows).mono ?_
  rintro e w1 ⟨rfl, hb1⟩
  rw [HI.out]
  go_wp2
  go_ret
  exact post_same HB.out hb1
set_option maxRecDepth 100000 in
set_option maxHeartbeats 2000000 in
theorem rbremove_some {base b : Nat} {v : Value} {s : Bk} (no : Int) (k : Nat) (x : Wk) (w : World) (hB : BookAt 29 base w b v s) (h : findI (noB no) s.ws = k) (hx : s.ws[k]? = some x) (hbase : base ≤ w.heap.size) :
    Calls Tryz.prog 29 #[.pointer (some ⟨b, 0, none⟩), .int .i64 no] w (BookPost 29 base w b v (delS s k) (.bool true)) := by
  have HB := Lib.hid hB
  have HI := Lib.hid h
  have HX := Lib.hid hx
  have hk : k < s.ws.length := (List.getElem?_eq_some_iff.1 hx).1
  have hfew := hB.few
  obtain ⟨g, cap, rfl⟩ : ∃ g cap, v = .slice (some ⟨g, 0, none⟩) s.ws.length cap := by
    obtain ⟨_, ⟨_, h0⟩ | ⟨g, cap, cur, hv, _⟩⟩ := hB.own
    · omega
    · exact ⟨g, cap, hv⟩
  have hcc : ∀ (j : Nat) u, (flatW s.ws)[j]? = some u → ∃ g' off, (some ⟨g, 0, none⟩ : Option Addr) = some ⟨g', off, none⟩ ∧ w.cell? ⟨g', off + j, none⟩ = some u := by
    obtain ⟨a', cap', hv', _, hc⟩ := hB.rows
    cases hv'
    exact hc
  have HCC := Lib.hid hcc
  have a0 := hB.c0
  have a1 := hB.c1
  have a2 := hB.c2
  have k0 : (0 : Int) ≤ (k : Int) := by omega
  have HW := Lib.hid hbase
  clear hB h hx hcc
  go_enter Tryz.func29, Tryz.ntmps29
  go_wp2_with fail
  refine (rbno_any s.room s.last _ s.ws no _ HB.out.rows).mono ?_
  rintro e w1 ⟨rfl, hb1⟩
  rw [HI.out]
  have HB1 := Lib.hid hb1
  have HA1 := Lib.hid (HB.out.below hb1)
  clear hb1 a0 a1 a2
  go_wp2_with fail
  go_loopw [6, 7] (fun lv i wr => DRel s.ws k w1 lv i wr) (fun _ i _ => s.ws.length - (intOf i).toNat)
  case atStart => exact ⟨0, rfl, Nat.zero_le _, by rw [uptoG_zero]; exact ⟨by simp [flatW], .inr ⟨w1.heap.size, 0, #[], rfl, Nat.le_refl _, fr_alloc_at, by decide, by decide, by simp, by simp [flatW]⟩⟩, box_below⟩
  case round =>
    obtain ⟨m, rfl, hm, hown, hb⟩ := hrel
    have HBR := Lib.hid hb
    have HO := Lib.hid hown
    have HAR := Lib.hid (HA1.out.below hb)
    have e2 := HAR.out.c2
    have f2 := HAR.out.free 2
    have m0 : (0 : Int) ≤ (m : Int) := by omega
    have hszr := hb.size
    clear hb hown
    by_cases hlt : m < s.ws.length
    · obtain ⟨y, hy⟩ : ∃ y, s.ws[m]? = some y := ⟨_, List.getElem?_eq_getElem hlt⟩
      obtain ⟨g', off, hg', c0, c1, c2, c3, c4, c5, c6⟩ := RowsW.at HCC.out hy
      cases hg'
      rw [Nat.zero_add] at c0 c1 c2 c3 c4 c5 c6
      have HWR := Lib.hid (HB1.out.trans (HBR.out.mono HB1.out.size))
      have m1 : (m : Int) < s.ws.length := by omega
      by_cases hmk : m = k
      · subst hmk
        have HU := Lib.hid (uptoG_at hy)
        clear hy c0 c1 c2 c3 c4 c5 c6
        have hne : ((m : Int) != (m : Int)) = false := by simp
        go_wp2_with fail
        go_roundw
        case rel => exact ⟨m + 1, by go_num, by omega, by rw [HU.out]; exact HO.out, HBR.out⟩
        case measure => simp [intOf]; omega
      · have HU := Lib.hid (uptoG_other hy hmk)
        have hul := uptoG_len k m s.ws
        have HY := Lib.hid hy
        have hne : ((m : Int) != (k : Int)) = true := by rw [bne_iff_ne]; omega
        have d0 := cell_below HWR.out c0
        have d1 := cell_below HWR.out c1
        have d2 := cell_below HWR.out c2
        have d3 := cell_below HWR.out c3
        have d4 := cell_below HWR.out c4
        have d5 := cell_below HWR.out c5
        have d6 := cell_below HWR.out c6
        clear hy c0 c1 c2 c3 c4 c5 c6 hmk
        go_wp2_with (at_builtin; refine wpList_append_at (us := #[.int .i64 y.no, .int .i64 y.cls, .int .i64 y.op, .string y.name, .string y.plat, .bool y.paused, .int .u64 y.untl]) rfl _ _ 27 rfl w1.heap.size _ 7 72 Tryz.underlying27 worker_info rfl (by decide) _ (uptoG k m s.ws).length (flatW (uptoG k m s.ws)) rfl HO.out rfl rfl (by simp [Value.oneCell']) ?c1 ?c2 ?c3 ?_; (case c1 => omega); (case c2 => omega); (case c3 => omega); intro gg cap2 w5 hown5 hg5 hat5)
        have HO5 := Lib.hid (show w5.ownsRow w1.heap.size 33 7 (.slice (some ⟨gg, 0, none⟩) (uptoG k (m + 1) s.ws).length cap2) (uptoG k (m + 1) s.ws).length (flatW (uptoG k (m + 1) s.ws)) by
          rw [HU.out, List.length_append, flatW_snoc]
          exact hown5)
        have HB5 := Lib.hid (show Below w1.heap.size w1 w5 from HBR.out.trans ⟨hg5.os, hg5.tape, hg5.output, hg5.size, fun j hj => hg5.block j (by omega) (fun e => by have := own_block HO.out j e.symm; omega)⟩)
        have hlen : (uptoG k m s.ws).length + 1 = (uptoG k (m + 1) s.ws).length := by rw [HU.out, List.length_append]; rfl
        rw [hlen]
        clear hown5 hg5 hat5 hlen
        go_wp2_with fail
        go_roundw
        case rel => exact ⟨m + 1, by go_num, by omega, HO5.out, HB5.out⟩
        case measure => simp [intOf]; omega
    · obtain rfl : m = s.ws.length := by omega
      obtain ⟨a6, cap6, hv6, -⟩ := own_cells HO.out
      subst hv6
      have HWR := Lib.hid (HB1.out.trans (HBR.out.mono HB1.out.size))
      have HOD := Lib.hid (show wr.ownsRow base 33 7 (.slice a6 (uptoG k s.ws.length s.ws).length cap6) (delS s k).ws.length (flatW (delS s k).ws) by
        have h := HO.out
        rw [uptoG_all] at h
        have h2 := own_base (b := base) h (by have := HW.out; have := HB1.out.size; omega)
        rw [uptoG_all]
        exact h2)
      have HBL := Lib.hid (show ∀ j ∈ blk (.slice a6 (uptoG k s.ws.length s.ws).length cap6), w1.heap.size ≤ j from own_blk HO.out)
      clear hszr
      go_wp2_with fail
      go_ret
      refine ⟨rfl, .slice a6 (uptoG k s.ws.length s.ws).length cap6, ?_, ?_, fun j hj => .inr (Nat.le_trans HB1.out.size (HBL.out j hj))⟩
      · exact book_put (s := s) HB.out.le HAR.out.heap HOD.out (fun hm => by have := HBL.out b hm; have := HB.out.lt; have := HB1.out.size; omega) (by have := hfew; simp; have := List.length_eraseIdx_le s.ws k; omega)
      · exact (Fr.of_below HWR.out).setCell (.inl (by simp)) _
theorem add_close {base b g cap : Nat} {v : Value} {s : Bk} {x : Wk} {w w4 wa : World} (hbw : b < w.heap.size) (hle : base ≤ b) (hF : Fr (b :: blk v) w w4) (hh : wa.heap[b]? = some (.cells #[.int .i64 s.room, .int .i64 (s.last + 1), v] 29 (0, 0)))
    (hL : Laid2 33 7 w4 (.slice (some ⟨g, 0, none⟩) (s.ws.length + 1) cap) (s.ws.length + 1) (flatW s.ws ++ encW (newW s x)) wa) (hz : w.heap.size ≤ w4.heap.size) (hw : s.ws.length < 1000) :
    BookPost 29 base w b v (addS s x) (.tuple #[.int .i64 (s.last + 1), .int .i64 0]) (.returned (.tuple #[.int .i64 (s.last + 1), .int .i64 0])) (wa.setCell ⟨b, 2, none⟩ (.slice (some ⟨g, 0, none⟩) (s.ws.length + 1) cap)) := by
  have hg : w4.heap.size ≤ g := own_block hL.own g rfl
  refine ⟨rfl, .slice (some ⟨g, 0, none⟩) (s.ws.length + 1) cap, ?_, ?_, fun j hj => ?_⟩
  · have h := book_put (s := ⟨s.room, s.last + 1, s.ws⟩) (T := 29) hle hh (v' := .slice (some ⟨g, 0, none⟩) (s.ws.length + 1) cap) (l := s.ws ++ [newW s x]) (by
      have h2 := own_base (b := base) hL.own (by omega)
      rw [List.length_append, flatW_snoc]
      exact h2) (by rw [blk_slice]; simp; omega) (by rw [List.length_append]; simp; omega)
    exact h
  · exact (hF.then_below hL.below).setCell (.inl (by simp)) _
  · rw [blk_slice, List.mem_singleton] at hj
    subst hj
    exact .inr (by omega)
set_option maxRecDepth 100000 in
set_option maxHeartbeats 2000000 in
theorem rbadd_bad {base b : Nat} {v : Value} {s : Bk} (x : Wk) (w : World) (hB : BookAt 29 base w b v s) (hs : SmallW x) (h : chkE x ≠ 0) :
    Calls Tryz.prog 20 #[.pointer (some ⟨b, 0, none⟩), .agg #[.int .i64 x.no, .int .i64 x.cls, .int .i64 x.op, .string x.name, .string x.plat, .bool x.paused, .int .u64 x.untl]] w (BookPost 29 base w b v s (.tuple #[.int .i64 0, .int .i64 (chkE x)])) := by
  have hne : (chkE x != 0) = true := by rw [bne_iff_ne]; exact h
  clear h
  have HB := Lib.hid hB
  clear hB
  go_enter Tryz.func20, Tryz.ntmps20
  go_wp2_with fail
  refine (rcheck29_any x _ hs).mono ?_
  rintro e w1 ⟨rfl, hb1⟩
  have HB1 := Lib.hid (box_below.trans (hb1.mono (by simp)))
  have hz1 : w.heap.size < w1.heap.size := by have := hb1.size; simp at this; omega
  have hx1 : w1.heap[w.heap.size]? = some (.cells #[.int .i64 x.no, .int .i64 x.cls, .int .i64 x.op, .string x.name, .string x.plat, .bool x.paused, .int .u64 x.untl] 33 (0, 0)) := (hb1.block _ (by simp)).trans fr_alloc_at
  have HX1 := Lib.hid hx1
  clear hb1 hx1
  go_wp2
  go_ret2
  exact post_same HB.out HB1.out
set_option maxRecDepth 100000 in
set_option maxHeartbeats 2000000 in
theorem rbadd_there {base b : Nat} {v : Value} {s : Bk} (x : Wk) (w : World) (hB : BookAt 29 base w b v s) (hs : SmallW x) (h : chkE x = 0) (h2 : decide (0 ≤ findI (nmB x.name) s.ws) = true) :
    Calls Tryz.prog 20 #[.pointer (some ⟨b, 0, none⟩), .agg #[.int .i64 x.no, .int .i64 x.cls, .int .i64 x.op, .string x.name, .string x.plat, .bool x.paused, .int .u64 x.untl]] w (BookPost 29 base w b v s (.tuple #[.int .i64 0, .int .i64 8])) := by
  have HZ := Lib.hid h
  clear h
  have HB := Lib.hid hB
  clear hB
  go_enter Tryz.func20, Tryz.ntmps20
  go_wp2_with fail
  refine (rcheck29_any x _ hs).mono ?_
  rintro e w1 ⟨rfl, hb1⟩
  have HB1 := Lib.hid (box_below.trans (hb1.mono (by simp)))
  have hz1 : w.heap.size < w1.heap.size := by have := hb1.size; simp at this; omega
  have hx1 : w1.heap[w.heap.size]? = some (.cells #[.int .i64 x.no, .int .i64 x.cls, .int .i64 x.op, .string x.name, .string x.plat, .bool x.paused, .int .u64 x.untl] 33 (0, 0)) := (hb1.block _ (by simp)).trans fr_alloc_at
  have HX1 := Lib.hid hx1
  clear hb1 hx1
  rw [HZ.out]
  have HA1 := Lib.hid (HB.out.below HB1.out)
  have a0 := HA1.out.c0
  have a1 := HA1.out.c1
  have a2 := HA1.out.c2
  have p3 : w1.cell? ⟨w.heap.size, 3, none⟩ = some (.string x.name) := fr_cell_of_heap HX1.out rfl
  go_upto_region 4 with fail
  have k0 := cell_regrown a0
  have k1 := cell_regrown a1
  have k2 := cell_regrown a2
  have k3 := cell_regrown p3
  refine wp_region_quiet_below (by kernel_rfl) (by kernel_rfl) ?_
  repeat go_big_quiet_step ((exact Calls.regrown_of (rbnm_any _ _ _ _ _ _ (HA1.out.rows.below (below_regrown w1 _ _)))))
  refine wpQuiet_nil ?_
  rintro _ ⟨⟨dq, osq⟩, rfl⟩
  have hb2 : Below w1.heap.size w1 (Go.Sort.grow (redrawn w1 dq) osq) := below_regrown w1 dq osq
  obtain ⟨w2, hw2⟩ : ∃ w2 : World, w2 = Go.Sort.grow (redrawn w1 dq) osq := ⟨_, rfl⟩
  rw [← hw2] at hb2 ⊢
  clear hw2 k0 k1 k2 k3 a0 a1 a2 p3
  have HA2 := Lib.hid (HA1.out.below hb2)
  have HB2 := Lib.hid (HB1.out.trans (hb2.mono HB1.out.size))
  have hz2 : w.heap.size < w2.heap.size := by have := hb2.size; omega
  have HX2 := Lib.hid (show w2.heap[w.heap.size]? = some (.cells #[.int .i64 x.no, .int .i64 x.cls, .int .i64 x.op, .string x.name, .string x.plat, .bool x.paused, .int .u64 x.untl] 33 (0, 0)) from (hb2.block _ hz1).trans HX1.out)
  clear hb2
  go_wp2
  go_ret2
  exact post_same HB.out HB2.out
set_option maxRecDepth 100000 in
set_option maxHeartbeats 2000000 in
theorem rbadd_many {base b : Nat} {v : Value} {s : Bk} (x : Wk) (w : World) (hB : BookAt 29 base w b v s) (hs : SmallW x) (h : chkE x = 0) (h2 : decide (0 ≤ findI (nmB x.name) s.ws) = false) (h3 : s.room ≤ s.ws.length) :
    Calls Tryz.prog 20 #[.pointer (some ⟨b, 0, none⟩), .agg #[.int .i64 x.no, .int .i64 x.cls, .int .i64 x.op, .string x.name, .string x.plat, .bool x.paused, .int .u64 x.untl]] w (BookPost 29 base w b v s (.tuple #[.int .i64 0, .int .i64 9])) := by
  have HZ := Lib.hid h
  clear h
  have HB := Lib.hid hB
  clear hB
  go_enter Tryz.func20, Tryz.ntmps20
  go_wp2_with fail
  refine (rcheck29_any x _ hs).mono ?_
  rintro e w1 ⟨rfl, hb1⟩
  have HB1 := Lib.hid (box_below.trans (hb1.mono (by simp)))
  have hz1 : w.heap.size < w1.heap.size := by have := hb1.size; simp at this; omega
  have hx1 : w1.heap[w.heap.size]? = some (.cells #[.int .i64 x.no, .int .i64 x.cls, .int .i64 x.op, .string x.name, .string x.plat, .bool x.paused, .int .u64 x.untl] 33 (0, 0)) := (hb1.block _ (by simp)).trans fr_alloc_at
  have HX1 := Lib.hid hx1
  clear hb1 hx1
  rw [HZ.out]
  have HA1 := Lib.hid (HB.out.below HB1.out)
  have a0 := HA1.out.c0
  have a1 := HA1.out.c1
  have a2 := HA1.out.c2
  have p3 : w1.cell? ⟨w.heap.size, 3, none⟩ = some (.string x.name) := fr_cell_of_heap HX1.out rfl
  go_upto_region 4 with fail
  have k0 := cell_regrown a0
  have k1 := cell_regrown a1
  have k2 := cell_regrown a2
  have k3 := cell_regrown p3
  refine wp_region_quiet_below (by kernel_rfl) (by kernel_rfl) ?_
  repeat go_big_quiet_step ((exact Calls.regrown_of (rbnm_any _ _ _ _ _ _ (HA1.out.rows.below (below_regrown w1 _ _)))))
  refine wpQuiet_nil ?_
  rintro _ ⟨⟨dq, osq⟩, rfl⟩
  have hb2 : Below w1.heap.size w1 (Go.Sort.grow (redrawn w1 dq) osq) := below_regrown w1 dq osq
  obtain ⟨w2, hw2⟩ : ∃ w2 : World, w2 = Go.Sort.grow (redrawn w1 dq) osq := ⟨_, rfl⟩
  rw [← hw2] at hb2 ⊢
  clear hw2 k0 k1 k2 k3 a0 a1 a2 p3
  have HA2 := Lib.hid (HA1.out.below hb2)
  have HB2 := Lib.hid (HB1.out.trans (hb2.mono HB1.out.size))
  have hz2 : w.heap.size < w2.heap.size := by have := hb2.size; omega
  have HX2 := Lib.hid (show w2.heap[w.heap.size]? = some (.cells #[.int .i64 x.no, .int .i64 x.cls, .int .i64 x.op, .string x.name, .string x.plat, .bool x.paused, .int .u64 x.untl] 33 (0, 0)) from (hb2.block _ hz1).trans HX1.out)
  clear hb2
  obtain ⟨a', cap', hv', hl', -⟩ := HA2.out.rows
  have b0 := HA2.out.c0
  have b1 := HA2.out.c1
  have b2 := HA2.out.c2
  rw [hv'] at b2
  go_wp2_with fail
  go_quiet (fail)
  go_wp2
  go_ret2
  exact post_same HB.out (below_drewN HB2.out _)
set_option maxRecDepth 100000 in
set_option maxHeartbeats 8000000 in
theorem rbadd_ok {base b : Nat} {v : Value} {s : Bk} (x : Wk) (w : World) (hB : BookAt 29 base w b v s) (hs : SmallW x) (h : chkE x = 0) (h2 : decide (0 ≤ findI (nmB x.name) s.ws) = false) (h3 : (s.ws.length : Int) < s.room) (hl0 : 0 ≤ s.last) (hl1 : s.last ≤ 1000000) (hw : s.ws.length < 1000) :
    Calls Tryz.prog 20 #[.pointer (some ⟨b, 0, none⟩), .agg #[.int .i64 x.no, .int .i64 x.cls, .int .i64 x.op, .string x.name, .string x.plat, .bool x.paused, .int .u64 x.untl]] w (BookPost 29 base w b v (addS s x) (.tuple #[.int .i64 (s.last + 1), .int .i64 0])) := by
  have HZ := Lib.hid h
  clear h
  have HB := Lib.hid hB
  clear hB
  go_enter Tryz.func20, Tryz.ntmps20
  go_wp2_with fail
  refine (rcheck29_any x _ hs).mono ?_
  rintro e w1 ⟨rfl, hb1⟩
  have HB1 := Lib.hid (box_below.trans (hb1.mono (by simp)))
  have hz1 : w.heap.size < w1.heap.size := by have := hb1.size; simp at this; omega
  have hx1 : w1.heap[w.heap.size]? = some (.cells #[.int .i64 x.no, .int .i64 x.cls, .int .i64 x.op, .string x.name, .string x.plat, .bool x.paused, .int .u64 x.untl] 33 (0, 0)) := (hb1.block _ (by simp)).trans fr_alloc_at
  have HX1 := Lib.hid hx1
  clear hb1 hx1
  rw [HZ.out]
  have HA1 := Lib.hid (HB.out.below HB1.out)
  have a0 := HA1.out.c0
  have a1 := HA1.out.c1
  have a2 := HA1.out.c2
  have p3 : w1.cell? ⟨w.heap.size, 3, none⟩ = some (.string x.name) := fr_cell_of_heap HX1.out rfl
  go_upto_region 4 with fail
  have k0 := cell_regrown a0
  have k1 := cell_regrown a1
  have k2 := cell_regrown a2
  have k3 := cell_regrown p3
  refine wp_region_quiet_below (by kernel_rfl) (by kernel_rfl) ?_
  repeat go_big_quiet_step ((exact Calls.regrown_of (rbnm_any _ _ _ _ _ _ (HA1.out.rows.below (below_regrown w1 _ _)))))
  refine wpQuiet_nil ?_
  rintro _ ⟨⟨dq, osq⟩, rfl⟩
  have hb2 : Below w1.heap.size w1 (Go.Sort.grow (redrawn w1 dq) osq) := below_regrown w1 dq osq
  obtain ⟨w2, hw2⟩ : ∃ w2 : World, w2 = Go.Sort.grow (redrawn w1 dq) osq := ⟨_, rfl⟩
  rw [← hw2] at hb2 ⊢
  clear hw2 k0 k1 k2 k3 a0 a1 a2 p3
  have HA2 := Lib.hid (HA1.out.below hb2)
  have HB2 := Lib.hid (HB1.out.trans (hb2.mono HB1.out.size))
  have hz2 : w.heap.size < w2.heap.size := by have := hb2.size; omega
  have HX2 := Lib.hid (show w2.heap[w.heap.size]? = some (.cells #[.int .i64 x.no, .int .i64 x.cls, .int .i64 x.op, .string x.name, .string x.plat, .bool x.paused, .int .u64 x.untl] 33 (0, 0)) from (hb2.block _ hz1).trans HX1.out)
  clear hb2
  obtain ⟨a', cap', hv', hl', -⟩ := HA2.out.rows
  have b0 := HA2.out.c0
  have b1 := HA2.out.c1
  have b2 := HA2.out.c2
  rw [hv'] at b2
  go_wp2_with fail
  go_quiet (fail)
  rename_i nq
  go_upto_region 8 with fail
  obtain ⟨w3, hw3⟩ : ∃ w3 : World, w3 = w2.drewN nq := ⟨_, rfl⟩
  rw [← hw3]
  have HB3 := Lib.hid (show Below w.heap.size w w3 by rw [hw3]; exact below_drewN HB2.out _)
  have hb23 : Below w2.heap.size w2 w3 := by rw [hw3]; exact below_drewN (Below.refl _ _) _
  have HA3 := Lib.hid (HA2.out.below hb23)
  have HX3 := Lib.hid ((hb23.block _ hz2).trans HX2.out)
  have hz3 : w3.heap.size = w2.heap.size := by rw [hw3]; simp
  clear hw3 hb23 b0 b1 b2
  have g1 := HA3.out.c1
  have f1 := HA3.out.free 1
  have hbw : b < w.heap.size := HB.out.lt
  go_upto_region 9 with fail
  obtain ⟨w4, hw4⟩ : ∃ w4 : World, w4 = w3.setCell ⟨b, 1, none⟩ (.int .i64 (s.last + 1)) := ⟨_, rfl⟩
  rw [← hw4]
  have HA4 := Lib.hid (show BookAt 29 base w4 b v ⟨s.room, s.last + 1, s.ws⟩ by rw [hw4]; exact HA3.out.setLast (by decide) _)
  have HF4 := Lib.hid (show Fr (b :: blk v) w w4 by rw [hw4]; exact (Fr.of_below HB3.out).setCell (.inl (by simp)) _)
  have hx4 : w4.heap[w.heap.size]? = some (.cells #[.int .i64 x.no, .int .i64 x.cls, .int .i64 x.op, .string x.name, .string x.plat, .bool x.paused, .int .u64 x.untl] 33 (0, 0)) := by rw [hw4, fr_setCell_other (by omega)]; exact HX3.out
  have hz4 : w4.heap.size = w2.heap.size := by rw [hw4, ← hz3]; simp [World.setCell]
  clear hw4 g1 f1
  have q1 : w4.cell? ⟨w.heap.size, 1, none⟩ = some (.int .i64 x.cls) := fr_cell_of_heap hx4 rfl
  have q3 : w4.cell? ⟨w.heap.size, 3, none⟩ = some (.string x.name) := fr_cell_of_heap hx4 rfl
  have q6 : w4.cell? ⟨w.heap.size, 6, none⟩ = some (.int .u64 x.untl) := fr_cell_of_heap hx4 rfl
  have g1 : w4.cell? ⟨b, 1, none⟩ = some (.int .i64 (s.last + 1)) := HA4.out.c1
  have g2 := HA4.out.c2
  have f2 := HA4.out.free 2
  have hbw4 : b < w4.heap.size := HA4.out.lt
  have hww4 : w.heap.size < w4.heap.size := by omega
  obtain ⟨i0, hi0, hz0, hz1', hz2'⟩ := info_parts worker_info
  obtain ⟨⟨v1, w5, ga, ca, wa, r1, r2, hLa, hba⟩, ⟨v2, w6, gb, cb, wb, r3, r4, hLb, hbb⟩, ⟨v3, w7, gc, cc, wc, r5, r6, hLc, hbc⟩⟩ :=
    copy_snoc_runs (P := Tryz.prog) w4 27 27 27 33 i0 _ 7 72 Tryz.underlying27 hi0 hz0 hz1' hz2' rfl (by omega) (v := v) (n := s.ws.length) (xs := flatW s.ws) (us := encW (newW s x)) (by obtain ⟨a, cap, h1, _, h2⟩ := HA4.out.rows; exact ⟨a, cap, h1, flatW_len _, h2⟩) (flatW_one _) rfl (encW_one _) (by omega) (by omega)
  have HLA := Lib.hid hLa
  have HLB := Lib.hid hLb
  have HLC := Lib.hid hLc
  have HH4 := Lib.hid HA4.out.heap
  have HZ4 := Lib.hid hz4
  have HX4 := Lib.hid hx4
  have HV := Lib.hid hv'
  have HHA := Lib.hid ((hLa.below.block b hbw4).trans HH4.out)
  have HHB := Lib.hid ((hLb.below.block b hbw4).trans HH4.out)
  have HHC := Lib.hid ((hLc.below.block b hbw4).trans HH4.out)
  have ka1 := fr_cell_of_heap HHA.out (i := 1) rfl
  have ka2 := fr_cell_of_heap HHA.out (i := 2) rfl
  have fa2 := fr_free_of_heap (i := 2) HHA.out
  have kb1 := fr_cell_of_heap HHB.out (i := 1) rfl
  have kb2 := fr_cell_of_heap HHB.out (i := 2) rfl
  have fb2 := fr_free_of_heap (i := 2) HHB.out
  have kc1 := fr_cell_of_heap HHC.out (i := 1) rfl
  have kc2 := fr_cell_of_heap HHC.out (i := 2) rfl
  have fc2 := fr_free_of_heap (i := 2) HHC.out
  have g1a := cell_below hba g1
  have q1a := cell_below hba q1
  have q3a := cell_below hba q3
  have q6a := cell_below hba q6
  have g1b := cell_below hbb g1
  have q1b := cell_below hbb q1
  have q3b := cell_below hbb q3
  have q6b := cell_below hbb q6
  have g1c := cell_below hbc g1
  have q1c := cell_below hbc q1
  have q3c := cell_below hbc q3
  have q6c := cell_below hbc q6
  clear hba hbb hbc hLa hLb hLc hi0 hz0 hz1' hz2' hz4 hx4 hz3 hv'
  simp only [encW, newW] at r1 r2 r3 r4 r5 r6
  simp [go_sem] at r1 r2 r3 r4 r5 r6
  go_region
  all_goals
    clear r1 r2 r3 r4 r5 r6
    go_wp2_with fail
    go_ret2
    first
    | exact add_close HB.out.lt HB.out.le HF4.out HHA.out HLA.out (by have := HZ4.out; have := HB2.out.size; omega) (by omega)
    | exact add_close HB.out.lt HB.out.le HF4.out HHB.out HLB.out (by have := HZ4.out; have := HB2.out.size; omega) (by omega)
    | exact add_close HB.out.lt HB.out.le HF4.out HHC.out HLC.out (by have := HZ4.out; have := HB2.out.size; omega) (by omega)
end Go.Proofs.YtmijmfgclmaodaaGreatDoor
