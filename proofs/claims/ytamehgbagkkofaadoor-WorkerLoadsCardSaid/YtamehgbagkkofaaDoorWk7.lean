/-
  billetlaw29: the example; WorkerOnce: the walks.
-/
import Derived.Test.YtamehgbagkkofaaDoorWk6
namespace Go.Proofs.YtamehgbagkkofaaDoor
open Go.RowKit

theorem book_ge {T : TypeId} {base b : Nat} {w : World} {v : Value} {s : Bk} (h : BookAt T base w b v s) : ∀ k ∈ b :: blk v, base ≤ k := by
  intro k hk
  rcases List.mem_cons.1 hk with rfl | h1
  · exact h.le
  · exact own_blk h.own k h1
def xa : Wk := ⟨0, 0, 0, ⟨#[97]⟩, ⟨#[]⟩, false, 0⟩
def xb : Wk := ⟨0, 0, 0, ⟨#[98]⟩, ⟨#[]⟩, false, 0⟩
def s0 : Bk := ⟨2, 0, []⟩
theorem ex_m0 : mayE s0 xa = 0 := by decide +kernel
theorem ex_m1 : mayE (addS s0 xa) xb = 0 := by decide +kernel
theorem ex_f2 : findI (noB 1) (addS (addS s0 xa) xb).ws = (0 : Nat) := by decide +kernel
theorem ex_m3 : mayE (delS (addS (addS s0 xa) xb) 0) xa = 0 := by decide +kernel
theorem ex_small : SmallW xa ∧ SmallW xb := by unfold SmallW; decide
set_option maxRecDepth 100000 in
set_option maxHeartbeats 2000000 in
/-- THE WALK: the law's example. -/
theorem live29_any (w : World) (hr : Ready w) : Calls Tryd.prog 33 #[] w fun e w' => e = .returned (.bool true) ∧ Below w.heap.size w w' := by
  have HR := Lib.hid hr
  clear hr
  go_enter Tryd.func33, Tryd.ntmps33
  go_wp2_with fail
  refine (new_some 2 _ (by omega)).mono ?_
  rintro e w1 ⟨rfl, hw1⟩
  have HA1 := Lib.hid (show BookAt 105 w.heap.size w1 w.heap.size (.slice none 0 0) s0 by rw [hw1]; exact new_book 2 w)
  have HB1 := Lib.hid (show Below w.heap.size w w1 by rw [hw1]; exact box_below)
  clear hw1
  go_wp2_with fail
  refine (add_ok xa _ (HR.out.below HB1.out) HA1.out ex_small.1 ex_m0 (by decide) (by decide) (by decide) HB1.out.size).mono ?_
  rintro e w2 ⟨rfl, v2, hA2, hF2, -⟩
  have HA2 := Lib.hid hA2
  have HB2 := Lib.hid (HB1.out.trans (hF2.below HB1.out.size (book_ge HA1.out)))
  clear hA2 hF2
  go_wp2_with fail
  refine (add_ok xb _ (HR.out.below HB2.out) HA2.out ex_small.2 ex_m1 (by decide) (by decide) (by decide) HB2.out.size).mono ?_
  rintro e w3 ⟨rfl, v3, hA3, hF3, -⟩
  have HA3 := Lib.hid hA3
  have HB3 := Lib.hid (HB2.out.trans (hF3.below HB2.out.size (book_ge HA2.out)))
  clear hA3 hF3
  go_wp2_with fail
  refine (remove_some 1 0 _ _ HA3.out ex_f2 rfl).mono ?_
  rintro e w4 ⟨rfl, v4, hA4, hF4, -⟩
  have HA4 := Lib.hid hA4
  have HB4 := Lib.hid (HB3.out.trans (hF4.below HB3.out.size (book_ge HA3.out)))
  clear hA4 hF4
  go_wp2_with fail
  refine (add_ok xa _ (HR.out.below HB4.out) HA4.out ex_small.1 ex_m3 (by decide) (by decide) (by decide) HB4.out.size).mono ?_
  rintro e w5 ⟨rfl, v5, hA5, hF5, -⟩
  have HB5 := Lib.hid (HB4.out.trans (hF5.below HB4.out.size (book_ge HA4.out)))
  clear hA5 hF5
  have ex1 : s0.last + 1 = 1 := rfl
  have ex2 : (addS s0 xa).last + 1 = 2 := rfl
  have ex3 : (delS (addS (addS s0 xa) xb) 0).last + 1 = 3 := rfl
  rw [ex1, ex2, ex3]
  clear ex1 ex2 ex3
  go_wp2_with fail
  refine (num29_any _ _).mono ?_
  rintro e w6 ⟨rfl, rfl⟩
  go_wp2
  go_ret
  exact ⟨rfl, HB5.out⟩

structure Ac where
  kind : Int
  x : Wk
def encA (a : Ac) : List Value := .int .i64 a.kind :: encW a.x
theorem encA_len (a : Ac) : (encA a).length = 8 := rfl
/-- A slice of calls. -/
def ActsAt (w : World) (v : Value) (l : List Ac) : Prop :=
  (∃ a cap, v = .slice a l.length cap ∧ l.length ≤ 140737488351232 ∧ ∀ (j : Nat) u, (l.flatMap encA)[j]? = some u → ∃ g off, a = some ⟨g, off, none⟩ ∧ w.cell? ⟨g, off + j, none⟩ = some u) ∧
  ∀ a ∈ l, a.x.name.size ≤ 140737488351232 ∧ a.x.plat.size ≤ 140737488351232
theorem ActsAt.at {w : World} {a : Option Addr} {l : List Ac} (hc : ∀ (j : Nat) u, (l.flatMap encA)[j]? = some u → ∃ g off, a = some ⟨g, off, none⟩ ∧ w.cell? ⟨g, off + j, none⟩ = some u) {k : Nat} {y : Ac} (hx : l[k]? = some y) :
    ∃ g off, a = some ⟨g, off, none⟩ ∧ w.cell? ⟨g, off + k * 8, none⟩ = some (.int .i64 y.kind) ∧ w.cell? ⟨g, off + k * 8 + 1, none⟩ = some (.int .i64 y.x.no) ∧ w.cell? ⟨g, off + k * 8 + 2, none⟩ = some (.int .i64 y.x.cls) ∧ w.cell? ⟨g, off + k * 8 + 3, none⟩ = some (.int .i64 y.x.op) ∧
      w.cell? ⟨g, off + k * 8 + 4, none⟩ = some (.string y.x.name) ∧ w.cell? ⟨g, off + k * 8 + 5, none⟩ = some (.string y.x.plat) ∧ w.cell? ⟨g, off + k * 8 + 6, none⟩ = some (.bool y.x.paused) ∧ w.cell? ⟨g, off + k * 8 + 7, none⟩ = some (.int .u64 y.x.untl) := by
  have e (i : Nat) (hi : i < 8) {u : Value} (hu : (encA y)[i]? = some u) : (l.flatMap encA)[k * 8 + i]? = some u := by rw [flat_at encA 8 encA_len i hx hi]; exact hu
  obtain ⟨g, off, rfl, h0⟩ := hc _ _ (e 0 (by omega) rfl)
  obtain ⟨g1, o1, e1, h1⟩ := hc _ _ (e 1 (by omega) rfl); cases e1
  obtain ⟨g2, o2, e2, h2⟩ := hc _ _ (e 2 (by omega) rfl); cases e2
  obtain ⟨g3, o3, e3, h3⟩ := hc _ _ (e 3 (by omega) rfl); cases e3
  obtain ⟨g4, o4, e4, h4⟩ := hc _ _ (e 4 (by omega) rfl); cases e4
  obtain ⟨g5, o5, e5, h5⟩ := hc _ _ (e 5 (by omega) rfl); cases e5
  obtain ⟨g6, o6, e6, h6⟩ := hc _ _ (e 6 (by omega) rfl); cases e6
  obtain ⟨g7, o7, e7, h7⟩ := hc _ _ (e 7 (by omega) rfl); cases e7
  exact ⟨g, off, rfl, h0, h1, h2, h3, h4, h5, h6, h7⟩

theorem was_far {T : TypeId} {base b m : Nat} {w w' : World} {v : Value} {s : Bk} (_ : BookAt T base w b v s) (h : BookAt T base w' b v s) (hb : b < m) (hm : w'.heap.size ≤ m) : m ∉ b :: blk v := by
  intro hk
  rcases List.mem_cons.1 hk with h1 | h1
  · omega
  · have := own_lt h.own m h1
    omega
theorem may_room {s : Bk} {x : Wk} (h : mayE s x = 0) : (s.ws.length : Int) < s.room := by
  unfold mayE at h
  split at h
  · rename_i h1; exact absurd h h1
  · split at h
    · cases h
    · split at h
      · cases h
      · omega
def WORel (room : Int) (n b : Nat) (w : World) (last i : Value) (wr : World) : Prop :=
  ∃ (k : Nat) (v : Value) (s : Bk), i = .int .i64 k ∧ k ≤ n ∧ s.room = room ∧ 0 ≤ s.last ∧ s.last ≤ k ∧ last = .int .i64 s.last ∧ s.ws.length ≤ k ∧ (s.ws.length : Int) ≤ room ∧ BookAt 105 b wr b v s ∧ Below b w wr
set_option maxRecDepth 100000 in
set_option maxHeartbeats 1000000 in
theorem workerOnce_long (room : Int) (a : Option Addr) (n cap : Nat) (w : World) (hr : Ready w) (h : 150 < n) (hn : n ≤ 140737488351232) :
    Calls Tryd.prog 8 #[.int .i64 room, .slice a n cap] w (TrueBelow w) := by
  have HR := Lib.hid hr
  clear hr
  by_cases h1 : room < 1
  all_goals
    go_enter Tryd.func8, Tryd.ntmps8
    go_wp2_with fail
  · refine (new_none room _ h1).mono ?_
    rintro e w1 ⟨rfl, rfl⟩
    go_wp2_with fail
    refine (live29_any _ HR.out).mono ?_
    rintro e w2 ⟨rfl, hb2⟩
    go_wp2
    go_ret
    exact ⟨rfl, hb2⟩
  · refine (new_some room _ (by omega)).mono ?_
    rintro e w1 ⟨rfl, rfl⟩
    go_wp2_with fail
    refine (live29_any _ (HR.out.below box_below)).mono ?_
    rintro e w2 ⟨rfl, hb2⟩
    go_wp2
    go_ret
    exact ⟨rfl, box_below.trans (hb2.mono (by simp))⟩
theorem workerOnce_nil (room : Int) (a : Option Addr) (n cap : Nat) (w : World) (hr : Ready w) (h : n ≤ 150) (h1 : room < 1) :
    Calls Tryd.prog 8 #[.int .i64 room, .slice a n cap] w (TrueBelow w) := by
  have HR := Lib.hid hr
  clear hr
  go_enter Tryd.func8, Tryd.ntmps8
  go_wp2_with fail
  refine (new_none room _ h1).mono ?_
  rintro e w1 ⟨rfl, rfl⟩
  go_wp2_with fail
  refine (live29_any _ HR.out).mono ?_
  rintro e w2 ⟨rfl, hb2⟩
  go_wp2
  go_ret
  exact ⟨rfl, hb2⟩
set_option maxRecDepth 100000 in
set_option maxHeartbeats 8000000 in
theorem workerOnce_go (room : Int) (v0 : Value) (l : List Ac) (w : World) (hr : Ready w) (hA : ActsAt w v0 l) (h : l.length ≤ 150) (h1 : 1 ≤ room) :
    Calls Tryd.prog 8 #[.int .i64 room, v0] w (TrueBelow w) := by
  have HR := Lib.hid hr
  obtain ⟨⟨a, cap, rfl, hl, hcell⟩, hsz⟩ := hA
  have HC := Lib.hid hcell
  have HSZ := Lib.hid hsz
  clear hr hcell hsz
  go_enter Tryd.func8, Tryd.ntmps8
  go_wp2_with fail
  refine (new_some room _ h1).mono ?_
  rintro e w1 ⟨rfl, rfl⟩
  go_wp2_with fail
  go_loopw [6, 7] (fun last i wr => WORel room l.length w.heap.size w last i wr) (fun _ i _ => l.length - (intOf i).toNat)
  case atStart => exact ⟨0, _, ⟨room, 0, []⟩, rfl, Nat.zero_le _, rfl, Int.le_refl _, Int.le_refl _, rfl, Nat.le_refl _, by simp; omega, new_book room w, box_below⟩
  case round =>
    obtain ⟨k, v, s, rfl, hk, hroom, hl0, hl1, rfl, hwk, hwr, hB, hb⟩ := hrel
    have HA := Lib.hid hB
    have HB := Lib.hid hb
    have HRM := Lib.hid hroom
    have hszw := hb.size
    have hgt : w.heap.size < wr.heap.size := hB.lt
    clear hB hb hroom
    by_cases hlt : k < l.length
    · obtain ⟨y, hy⟩ : ∃ y, l[k]? = some y := ⟨_, List.getElem?_eq_getElem hlt⟩
      obtain ⟨g, off, rfl, c0, c1, c2, c3, c4, c5, c6, c7⟩ := ActsAt.at HC.out hy
      obtain ⟨hs1, hs2⟩ := HSZ.out y (List.mem_of_getElem? hy)
      have d0 := cell_below HB.out c0
      have d1 := cell_below HB.out c1
      have d2 := cell_below HB.out c2
      have d3 := cell_below HB.out c3
      have d4 := cell_below HB.out c4
      have d5 := cell_below HB.out c5
      have d6 := cell_below HB.out c6
      have d7 := cell_below HB.out c7
      clear hy c0 c1 c2 c3 c4 c5 c6 c7
      obtain ⟨kind, x⟩ := y
      simp only at d0 d1 d2 d3 d4 d5 d6 d7 hs1 hs2
      go_wp2_with fail
      refine (long_any x _ hs1 hs2).mono ?_
      rintro e w1 ⟨rfl, hb1⟩
      have HB1 := Lib.hid (box_below.trans (hb1.mono (by simp)))
      have hz1 : wr.heap.size < w1.heap.size := by have := hb1.size; simp at this; omega
      have m0 : w1.cell? ⟨wr.heap.size, 0, none⟩ = some (.int .i64 x.no) := cell_below hb1 (by simp)
      have m1 : w1.cell? ⟨wr.heap.size, 1, none⟩ = some (.int .i64 x.cls) := cell_below hb1 (by simp)
      have m2 : w1.cell? ⟨wr.heap.size, 2, none⟩ = some (.int .i64 x.op) := cell_below hb1 (by simp)
      have m3 : w1.cell? ⟨wr.heap.size, 3, none⟩ = some (.string x.name) := cell_below hb1 (by simp)
      have m4 : w1.cell? ⟨wr.heap.size, 4, none⟩ = some (.string x.plat) := cell_below hb1 (by simp)
      have m5 : w1.cell? ⟨wr.heap.size, 5, none⟩ = some (.bool x.paused) := cell_below hb1 (by simp)
      have m6 : w1.cell? ⟨wr.heap.size, 6, none⟩ = some (.int .u64 x.untl) := cell_below hb1 (by simp)
      clear hb1
      rcases hL : longB x with _ | _
      · have HS := Lib.hid (long_small hL)
        have HLB := Lib.hid hL
        clear hL
        go_wp2_with fail
        refine (noGet_any x.no _ (HA.out.below HB1.out)).mono ?_
        rintro e w2 ⟨rfl, hb2⟩
        have HB2 := Lib.hid (HB1.out.trans (hb2.mono HB1.out.size))
        have hz2 : wr.heap.size < w2.heap.size := by have := hb2.size; omega
        have n0 := cell_below hb2 m0
        have n1 := cell_below hb2 m1
        have n2 := cell_below hb2 m2
        have n3 := cell_below hb2 m3
        have n4 := cell_below hb2 m4
        have n5 := cell_below hb2 m5
        have n6 := cell_below hb2 m6
        have e0 := cell_below HB2.out d0
        clear hb2 m0 m1 m2 m3 m4 m5 m6 d0 d1 d2 d3 d4 d5 d6 d7
        have hgw : g < w2.heap.size := World.block_lt_of_cell? w2 _ e0
        generalize hG : atW s.ws (findI (noB x.no) s.ws) = gw at *
        generalize hO : decide (0 ≤ findI (noB x.no) s.ws) = ok at *
        have HO := Lib.hid hO
        clear hO
        have HG := Lib.hid hG
        clear hG
        have HB3 := Lib.hid (HB2.out.alloc HB2.out.size (.cells #[.int .i64 gw.no, .int .i64 gw.cls, .int .i64 gw.op, .string gw.name, .string gw.plat, .bool gw.paused, .int .u64 gw.untl] 57))
        have HA3 := Lib.hid (HA.out.below HB3.out)
        have HBB := Lib.hid (HB.out.trans (HB3.out.mono hszw))
        have hbs : w.heap.size ≤ w2.heap.size + 1 := by have := HB2.out.size; omega
        by_cases hk0 : kind = 0
        · subst hk0
          by_cases hm : mayE s x = 0
          · have HM := Lib.hid hm
            have hroom2 : (s.ws.length : Int) < s.room := may_room hm
            rw [HRM.out] at hroom2
            have hlen2 : (((addS s x).ws.length : Nat) : Int) ≤ room := by simp [addS]; omega
            have hlen3 : ((s.ws.length : Int) + 1) ≤ room := by omega
            clear hm
            go_wp2_with fail
            refine (add_ok x _ (HR.out.below HBB.out) HA3.out HS.out HM.out hl0 (by omega) (by omega) (by simp; omega)).mono ?_
            rintro e w4 ⟨rfl, v4, hA4, hF4, -⟩
            have HA4 := Lib.hid hA4
            have HB4 := Lib.hid (HBB.out.trans (hF4.below (by simp; omega) (book_ge HA3.out)))
            clear hA4 hF4
            go_wp2_with fail
            refine (num29_any _ _).mono ?_
            rintro e w5 ⟨rfl, rfl⟩
            go_wp2_with fail
            refine (all_any _ HA4.out).mono ?_
            rintro e w8 ⟨v8, rfl, hr8, hb8⟩
            have HB8 := Lib.hid ((HB4.out).trans (hb8.mono (HB4.out).size))
            have HA8 := Lib.hid ((HA4.out).below hb8)
            obtain ⟨a8, cap8, rfl, hl8, -⟩ := hr8
            clear hb8
            go_wp2_with fail
            go_roundw
            case rel => exact ⟨k + 1, v4, addS s x, by go_num, by omega, HRM.out, by simp [addS]; omega, by simp [addS]; omega, by rw [show max s.last (s.last + 1) = s.last + 1 by omega]; rfl, by simp [addS]; omega, hlen2, HA8.out, HB8.out⟩
            case measure => simp [intOf]; omega
          · have hne : (mayE s x == 0) = false := beq_eq_false_iff_ne.2 hm
            have HM := Lib.hid hm
            clear hm
            go_wp2_with fail
            refine (add_bad x _ (HR.out.below HBB.out) HA3.out HS.out HM.out).mono ?_
            rintro e w4 ⟨rfl, hb4⟩
            have HA4 := Lib.hid (HA3.out.below hb4)
            have HB4 := Lib.hid (HBB.out.trans (hb4.mono HBB.out.size))
            clear hb4
            go_wp2_with fail
            refine (num29_any _ _).mono ?_
            rintro e w5 ⟨rfl, rfl⟩
            go_wp2_with fail
            refine (all_any _ HA4.out).mono ?_
            rintro e w8 ⟨v8, rfl, hr8, hb8⟩
            have HB8 := Lib.hid ((HB4.out).trans (hb8.mono (HB4.out).size))
            have HA8 := Lib.hid ((HA4.out).below hb8)
            obtain ⟨a8, cap8, rfl, hl8, -⟩ := hr8
            clear hb8
            go_wp2_with fail
            go_roundw
            case rel => exact ⟨k + 1, v, s, by go_num, by omega, HRM.out, hl0, by omega, by rw [show max s.last 0 = s.last by omega], by omega, hwr, HA8.out, HB8.out⟩
            case measure => simp [intOf]; omega
        · have hk0' : (kind == 0) = false := beq_eq_false_iff_ne.2 hk0
          by_cases hk3 : kind = 3
          · subst hk3
            clear hk0 hk0'
            rcases findI_cases (noB x.no) s.ws with ⟨hf, -⟩ | ⟨j, xj, hf, hxj, -⟩
            · have HF := Lib.hid hf
              obtain rfl : false = ok := by rw [← HO.out, hf]; rfl
              clear hf
              go_wp2_with fail
              refine (give_none x.no x.op _ HA3.out HF.out).mono ?_
              rintro e w4 ⟨rfl, hb4⟩
              have HA4 := Lib.hid (HA3.out.below hb4)
              have HB4 := Lib.hid (HBB.out.trans (hb4.mono HBB.out.size))
              clear hb4
              go_wp2_with fail
              refine (all_any _ HA4.out).mono ?_
              rintro e w8 ⟨v8, rfl, hr8, hb8⟩
              have HB8 := Lib.hid ((HB4.out).trans (hb8.mono (HB4.out).size))
              have HA8 := Lib.hid ((HA4.out).below hb8)
              obtain ⟨a8, cap8, rfl, hl8, -⟩ := hr8
              clear hb8
              go_wp2_with fail
              go_roundw
              case rel => exact ⟨k + 1, v, s, by go_num, by omega, HRM.out, hl0, by omega, rfl, by omega, hwr, HA8.out, HB8.out⟩
              case measure => simp [intOf]; omega
            · have HF := Lib.hid hf
              have HX := Lib.hid hxj
              obtain rfl : true = ok := by rw [← HO.out, hf]; exact (decide_eq_true (by omega)).symm
              obtain rfl : xj = gw := by rw [← HG.out, hf, atW_of hxj]
              clear hf hxj
              by_cases hop : xj.op ≠ 0 ∨ x.op < 1
              · have HOP := Lib.hid hop
                clear hop
                go_wp2_with fail
                refine (give_no x.no x.op j xj _ HA3.out HF.out HX.out HOP.out).mono ?_
                rintro e w4 ⟨rfl, hb4⟩
                have HA4 := Lib.hid (HA3.out.below hb4)
                have HB4 := Lib.hid (HBB.out.trans (hb4.mono HBB.out.size))
                clear hb4
                go_wp2_with fail
                refine (all_any _ HA4.out).mono ?_
                rintro e w8 ⟨v8, rfl, hr8, hb8⟩
                have HB8 := Lib.hid ((HB4.out).trans (hb8.mono (HB4.out).size))
                have HA8 := Lib.hid ((HA4.out).below hb8)
                obtain ⟨a8, cap8, rfl, hl8, -⟩ := hr8
                clear hb8
                go_wp2_with fail
                go_roundw
                case rel => exact ⟨k + 1, v, s, by go_num, by omega, HRM.out, hl0, by omega, rfl, by omega, hwr, HA8.out, HB8.out⟩
                case measure => simp [intOf]; omega
              · have hop0 : xj.op = 0 := by omega
                have hop1 : 1 ≤ x.op := by omega
                have HOP := Lib.hid hop0
                clear hop hop0
                go_wp2_with fail
                refine (give_yes x.no x.op j xj _ HA3.out HF.out HX.out HOP.out hop1).mono ?_
                rintro e w4 ⟨rfl, v4, hA4, hF4, -⟩
                have q2 : w4.cell? ⟨w2.heap.size, 2, none⟩ = some (.int .i64 0) := by rw [← HOP.out]; exact hF4.cell (by simp) (was_far (m := w2.heap.size) HA3.out HA.out (by omega) (by omega))
                have HA4 := Lib.hid hA4
                have HB4 := Lib.hid (HBB.out.trans (hF4.below (by simp; omega) (book_ge HA3.out)))
                have hwr4 : (((setS s j { xj with op := x.op }).ws.length : Nat) : Int) ≤ room := by simp [setS]; exact hwr
                have hwr5 : (((s.ws.set j { xj with op := x.op }).length : Nat) : Int) ≤ room := by simp; exact hwr
                clear hA4 hF4
                go_wp2_with fail
                refine (all_any _ HA4.out).mono ?_
                rintro e w8 ⟨v8, rfl, hr8, hb8⟩
                have HB8 := Lib.hid ((HB4.out).trans (hb8.mono (HB4.out).size))
                have HA8 := Lib.hid ((HA4.out).below hb8)
                obtain ⟨a8, cap8, rfl, hl8, -⟩ := hr8
                clear hb8
                go_wp2_with fail
                go_roundw
                case rel => exact ⟨k + 1, v4, (setS s j { xj with op := x.op }), by go_num, by omega, HRM.out, hl0, by simp [setS]; omega, rfl, by simp [setS]; omega, hwr4, HA8.out, HB8.out⟩
                case measure => simp [intOf]; omega
          · have hk3' : (kind == 3) = false := beq_eq_false_iff_ne.2 hk3
            by_cases hk4 : kind = 4
            · subst hk4
              clear hk0 hk0' hk3 hk3'
              rcases findI_cases (noB x.no) s.ws with ⟨hf, -⟩ | ⟨j, xj, hf, hxj, -⟩
              · have HF := Lib.hid hf
                obtain rfl : false = ok := by rw [← HO.out, hf]; rfl
                clear hf
                go_wp2_with fail
                refine (free_none x.no _ HA3.out HF.out).mono ?_
                rintro e w4 ⟨rfl, hb4⟩
                have HA4 := Lib.hid (HA3.out.below hb4)
                have HB4 := Lib.hid (HBB.out.trans (hb4.mono HBB.out.size))
                clear hb4
                go_wp2_with fail
                refine (all_any _ HA4.out).mono ?_
                rintro e w8 ⟨v8, rfl, hr8, hb8⟩
                have HB8 := Lib.hid ((HB4.out).trans (hb8.mono (HB4.out).size))
                have HA8 := Lib.hid ((HA4.out).below hb8)
                obtain ⟨a8, cap8, rfl, hl8, -⟩ := hr8
                clear hb8
                go_wp2_with fail
                go_roundw
                case rel => exact ⟨k + 1, v, s, by go_num, by omega, HRM.out, hl0, by omega, rfl, by omega, hwr, HA8.out, HB8.out⟩
                case measure => simp [intOf]; omega
              · have HF := Lib.hid hf
                have HX := Lib.hid hxj
                obtain rfl : true = ok := by rw [← HO.out, hf]; exact (decide_eq_true (by omega)).symm
                obtain rfl : xj = gw := by rw [← HG.out, hf, atW_of hxj]
                clear hf hxj
                go_wp2_with fail
                refine (free_some x.no j xj HF.out HX.out _ HA3.out).mono ?_
                rintro e w4 ⟨rfl, v4, hA4, hF4, -⟩
                have q2 : w4.cell? ⟨w2.heap.size, 2, none⟩ = some (.int .i64 xj.op) := hF4.cell (by simp) (was_far (m := w2.heap.size) HA3.out HA.out (by omega) (by omega))
                have HA4 := Lib.hid hA4
                have HB4 := Lib.hid (HBB.out.trans (hF4.below (by simp; omega) (book_ge HA3.out)))
                have hwr4 : (((setS s j { xj with op := 0 }).ws.length : Nat) : Int) ≤ room := by simp [setS]; exact hwr
                have hwr5 : (((s.ws.set j { xj with op := 0 }).length : Nat) : Int) ≤ room := by simp; exact hwr
                clear hA4 hF4
                go_wp2_with fail
                refine (all_any _ HA4.out).mono ?_
                rintro e w8 ⟨v8, rfl, hr8, hb8⟩
                have HB8 := Lib.hid ((HB4.out).trans (hb8.mono (HB4.out).size))
                have HA8 := Lib.hid ((HA4.out).below hb8)
                obtain ⟨a8, cap8, rfl, hl8, -⟩ := hr8
                clear hb8
                go_wp2_with fail
                go_roundw
                case rel => exact ⟨k + 1, v4, (setS s j { xj with op := 0 }), by go_num, by omega, HRM.out, hl0, by simp [setS]; omega, rfl, by simp [setS]; omega, hwr4, HA8.out, HB8.out⟩
                case measure => simp [intOf]; omega
            · have hk4' : (kind == 4) = false := beq_eq_false_iff_ne.2 hk4
              clear hk0 hk3 hk4
              go_wp2_with fail
              refine (all_any _ HA3.out).mono ?_
              rintro e w8 ⟨v8, rfl, hr8, hb8⟩
              have HB8 := Lib.hid ((HBB.out).trans (hb8.mono (HBB.out).size))
              have HA8 := Lib.hid ((HA3.out).below hb8)
              obtain ⟨a8, cap8, rfl, hl8, -⟩ := hr8
              clear hb8
              go_wp2_with fail
              go_roundw
              case rel => exact ⟨k + 1, v, s, by go_num, by omega, HRM.out, hl0, by omega, rfl, by omega, hwr, HA8.out, HB8.out⟩
              case measure => simp [intOf]; omega

      · have HLB := Lib.hid hL
        clear hL
        go_wp2_with fail
        refine (live29_any _ (HR.out.below (HB.out.trans (HB1.out.mono hszw)))).mono ?_
        rintro e w3 ⟨rfl, hb3⟩
        go_wp2
        go_ret
        exact ⟨rfl, (HB.out.trans (HB1.out.mono hszw)).trans (hb3.mono (by have := HB1.out.size; omega))⟩
    · go_wp2_with fail
      refine (live29_any _ (HR.out.below HB.out)).mono ?_
      rintro e w3 ⟨rfl, hb3⟩
      go_wp2
      go_ret
      exact ⟨rfl, HB.out.trans (hb3.mono hszw)⟩
end Go.Proofs.YtamehgbagkkofaaDoor
