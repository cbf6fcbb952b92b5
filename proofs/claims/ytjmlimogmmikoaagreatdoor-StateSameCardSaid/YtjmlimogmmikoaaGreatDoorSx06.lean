/-
  billetref29.Same, worker.Load: the walks.
  worker.Load: the walk.
  billetref29.Right: the walk.
  WorkerLoads: the walk.
  action.Of and the document's.
  action.Right and the document's.
  Operations: how one lies in memory; tried, of, New: the walks.
  What becomes of an operation: to, Grant, Wake: the walks.
  Two operations that are the same: what '==' tells.
  state: rule 4, of nobody, and of one worker that has an operation that is not live: the walks.
  state: the entry of an operation of an invocation, by the program and by the document; a wide configuration: the walks.
  '==' and '!=' of structs of integers, texts and truths: which Bool they tell.
  A slice's cells, wherever they lie.
-/
import Derived.Test.YtjmlimogmmikoaaGreatDoorSx05
import Derived.BigRegion
import Derived.Test.YtjmlimogmmikoaaGreatDoorSx03
import Derived.Test.YtjmlimogmmikoaaGreatDoorSx02
import Derived.Deep.DeepCutAuto
import Derived.Test.YtjmlimogmmikoaaGreatDoorSx04
import Derived.ChangeKeysEq
namespace Go.Proofs.YtjmlimogmmikoaaGreatDoor
open Go.RowKit
theorem take_one {α : Type} {l : List α} {k : Nat} {x : α} (h : l[k]? = some x) : l.take (k + 1) = l.take k ++ [x] := by
  rw [List.take_add_one, h]
  rfl
/-! ### Which workers are a book -/
def pL (l : List Wk) (k : Nat) : Int := if k = 0 then 0 else ((l[k - 1]?).map Wk.no).getD 0
theorem pL_succ {l : List Wk} {k : Nat} {x : Wk} (h : l[k]? = some x) : pL l (k + 1) = x.no := by simp [pL, h]
structure OkW (last : Int) (l : List Wk) (k : Nat) (x : Wk) : Prop where
  chk : chkE x = 0
  plat : ((ba (chkS x)).toList == x.plat.toList) = true
  new : ∀ y ∈ l.take k, nmB x.name y = false
  rise : pL l k < x.no
  most : x.no ≤ last
  op : 0 ≤ x.op
def AllW (last : Int) (l : List Wk) (k : Nat) : Prop := ∀ (j : Nat) x, j < k → l[j]? = some x → OkW last l j x
def LoadsW (room : Int) (l : List Wk) (last : Int) : Prop := 1 ≤ room ∧ (l.length : Int) ≤ room ∧ 0 ≤ last ∧ AllW last l l.length
theorem all_succ {last : Int} {l : List Wk} {k : Nat} {x : Wk} (h : AllW last l k) (hx : l[k]? = some x) (ho : OkW last l k x) : AllW last l (k + 1) := by
  intro j y hj hy
  rcases Nat.lt_or_ge j k with h1 | h1
  · exact h j y h1 hy
  · obtain rfl : j = k := by omega
    obtain rfl : x = y := Option.some.inj (hx.symm.trans hy)
    exact ho
theorem not_all {room last : Int} {l : List Wk} {k : Nat} {x : Wk} (hx : l[k]? = some x) (h : ¬ OkW last l k x) : ¬ LoadsW room l last := fun hl => h (hl.2.2.2 k x (List.getElem?_eq_some_iff.1 hx).1 hx)
theorem findI_new {p : Wk → Bool} {l : List Wk} (h : ∀ y ∈ l, p y = false) : findI p l = -1 := findI_none (fun _ y _ hy => h y (List.mem_of_getElem? hy))
theorem findI_old {p : Wk → Bool} {l : List Wk} (h : ¬ ∀ y ∈ l, p y = false) : decide (0 ≤ findI p l) = true := by
  rcases findI_cases p l with ⟨_, h1⟩ | ⟨k, x, h1, _, _⟩
  · exact absurd h1 h
  · rw [h1]; exact decide_eq_true (by omega)
def LoadPost (room : Int) (l : List Wk) (last : Int) (w : World) (e : Ending) (w' : World) : Prop :=
  (¬ LoadsW room l last ∧ e = .returned (.tuple #[.pointer none, .bool false]) ∧ Below w.heap.size w w') ∨
  (LoadsW room l last ∧ e = .returned (.tuple #[.pointer (some ⟨w.heap.size, 0, none⟩), .bool true]) ∧ ∃ v, BookAt 227 w.heap.size w' w.heap.size v ⟨room, last, l⟩ ∧ Below w.heap.size w w')
def LRel (room last : Int) (l : List Wk) (w : World) (i : Value) (wr : World) : Prop :=
  ∃ (k : Nat) (v : Value), i = .int .i64 k ∧ k ≤ l.length ∧ AllW last l k ∧ BookAt 227 w.heap.size wr w.heap.size v ⟨room, pL l k, l.take k⟩ ∧ Below w.heap.size w wr
end Go.Proofs.YtjmlimogmmikoaaGreatDoor
namespace Go.Proofs.YtjmlimogmmikoaaGreatDoor
open Go.RowKit
set_option maxRecDepth 100000 in
set_option maxHeartbeats 1000000 in
theorem load_room (room last : Int) (v0 : Value) (l : List Wk) (w : World) (hR : RowsW w v0 l) (h : room < 1) :
    Calls Tryz.prog 76 #[.int .i64 room, v0, .int .i64 last] w (LoadPost room l last w) := by
  obtain ⟨a, cap, rfl, hl, -⟩ := hR
  have HN := Lib.hid (show ¬ LoadsW room l last from fun h2 => by have := h2.1; omega)
  go_enter Tryz.func76, Tryz.ntmps76
  go_wp2_with fail
  refine (new_none room _ h).mono ?_
  rintro e w1 ⟨rfl, rfl⟩
  go_wp2
  go_ret2
  exact .inl ⟨HN.out, rfl, Below.refl _ _⟩
set_option maxRecDepth 100000 in
set_option maxHeartbeats 1000000 in
theorem load_many (room last : Int) (v0 : Value) (l : List Wk) (w : World) (hR : RowsW w v0 l) (h : 1 ≤ room) (h2 : room < (l.length : Int)) :
    Calls Tryz.prog 76 #[.int .i64 room, v0, .int .i64 last] w (LoadPost room l last w) := by
  obtain ⟨a, cap, rfl, hl, -⟩ := hR
  have HN := Lib.hid (show ¬ LoadsW room l last from fun h3 => by have := h3.2.1; have := h3.2.2.1; omega)
  go_enter Tryz.func76, Tryz.ntmps76
  go_wp2_with fail
  refine (new_some room _ h).mono ?_
  rintro e w1 ⟨rfl, rfl⟩
  go_wp2
  go_ret2
  exact .inl ⟨HN.out, rfl, box_below⟩
set_option maxRecDepth 100000 in
set_option maxHeartbeats 1000000 in
theorem load_neg (room last : Int) (v0 : Value) (l : List Wk) (w : World) (hR : RowsW w v0 l) (h : 1 ≤ room) (h1 : (l.length : Int) ≤ room) (h2 : last < 0) :
    Calls Tryz.prog 76 #[.int .i64 room, v0, .int .i64 last] w (LoadPost room l last w) := by
  obtain ⟨a, cap, rfl, hl, -⟩ := hR
  have HN := Lib.hid (show ¬ LoadsW room l last from fun h3 => by have := h3.2.1; have := h3.2.2.1; omega)
  go_enter Tryz.func76, Tryz.ntmps76
  go_wp2_with fail
  refine (new_some room _ h).mono ?_
  rintro e w1 ⟨rfl, rfl⟩
  go_wp2
  go_ret2
  exact .inl ⟨HN.out, rfl, box_below⟩
set_option maxRecDepth 100000 in
set_option maxHeartbeats 8000000 in
theorem loadGo_any (room last : Int) (v0 : Value) (l : List Wk) (w : World) (hr : Ready w) (hR : RowsW w v0 l) (hs : ∀ x ∈ l, SmallW x) (h : 1 ≤ room) (h1 : (l.length : Int) ≤ room) (h2 : 0 ≤ last) (h3 : l.length ≤ 40) :
    Calls Tryz.prog 76 #[.int .i64 room, v0, .int .i64 last] w (LoadPost room l last w) := by
  have HR := Lib.hid hr
  obtain ⟨a, cap, rfl, hl, hcell⟩ := hR
  have HC := Lib.hid hcell
  have HS := Lib.hid hs
  clear hr hcell hs
  go_enter Tryz.func76, Tryz.ntmps76
  go_wp2_with fail
  refine (new_some room _ h).mono ?_
  rintro e w1 ⟨rfl, rfl⟩
  go_wp2_with fail
  go_loopw [31] (fun i wr => LRel room last l w i wr) (fun i _ => l.length - (intOf i).toNat)
  case atStart => exact ⟨0, _, rfl, Nat.zero_le _, (fun j x hj => by omega), new_book room w, box_below⟩
  case round =>
    obtain ⟨k, v, rfl, hk, hall, hB, hb⟩ := hrel
    have HA := Lib.hid hB
    have HB := Lib.hid hb
    have HALL := Lib.hid hall
    have hszw := hb.size
    have hgt : w.heap.size < wr.heap.size := hB.lt
    clear hB hb hall
    by_cases hlt : k < l.length
    · obtain ⟨x, hx⟩ : ∃ x, l[k]? = some x := ⟨_, List.getElem?_eq_getElem hlt⟩
      obtain ⟨g, off, rfl, c0, c1, c2, c3, c4, c5, c6⟩ := RowsW.at HC.out hx
      have HSX := Lib.hid (HS.out x (List.mem_of_getElem? hx))
      have d0 := cell_below HB.out c0
      have d1 := cell_below HB.out c1
      have d2 := cell_below HB.out c2
      have d3 := cell_below HB.out c3
      have d4 := cell_below HB.out c4
      have d5 := cell_below HB.out c5
      have d6 := cell_below HB.out c6
      have HX := Lib.hid hx
      clear hx c0 c1 c2 c3 c4 c5 c6
      go_wp2_with fail
      refine (wkcheck_any x _ (HR.out.below (HB.out.trans (box_below.mono hszw))) HSX.out).mono ?_
      rintro e w1 ⟨rfl, hb1⟩
      have HB1 := Lib.hid (box_below.trans (hb1.mono (by simp)))
      have hz1 : wr.heap.size < w1.heap.size := by have := hb1.size; simp at this; omega
      have m0 : w1.cell? ⟨wr.heap.size, 0, none⟩ = some (.int .i64 x.no) := cell_below hb1 (by simp)
      have m1 : w1.cell? ⟨wr.heap.size, 1, none⟩ = some (.int .i64 x.cls) := cell_below hb1 (by simp)
      have m2 : w1.cell? ⟨wr.heap.size, 2, none⟩ = some (.int .i64 x.op) := cell_below hb1 (by simp)
      have m3 : w1.cell? ⟨wr.heap.size, 3, none⟩ = some (.string x.name) := cell_below hb1 (by simp)
      have m4 : w1.cell? ⟨wr.heap.size, 4, none⟩ = some (.string x.plat) := cell_below hb1 (by simp)
      have m5 : w1.cell? ⟨wr.heap.size, 5, none⟩ = some (.bool x.paused) := cell_below hb1 (by simp)
      have m6 : w1.cell? ⟨wr.heap.size, 6, none⟩ = some (.int .u64 x.untl) := cell_below hb1 (by simp)
      clear hb1 d0 d1 d2 d3 d4 d5 d6
      go_wp2_with fail
      refine (nmGet_any x.name _ (HA.out.below HB1.out)).mono ?_
      rintro e w2 ⟨rfl, hb2⟩
      have HB2 := Lib.hid (HB1.out.trans (hb2.mono HB1.out.size))
      have hz2 : wr.heap.size < w2.heap.size := by have := hb2.size; omega
      have n0 := cell_below hb2 m0
      have n1 := cell_below hb2 m1
      have n2 := cell_below hb2 m2
      have n3 := cell_below hb2 m3
      have n4 := cell_below hb2 m4
      have n5 := cell_below hb2 m5
      have n6 := cell_below hb2 m6
      clear hb2 m0 m1 m2 m3 m4 m5 m6
      generalize hG : atW ({ room := room, last := pL l k, ws := l.take k } : Bk).ws (findI (nmB x.name) ({ room := room, last := pL l k, ws := l.take k } : Bk).ws) = gw at *
      generalize hO : decide (0 ≤ findI (nmB x.name) ({ room := room, last := pL l k, ws := l.take k } : Bk).ws) = ok at *
      have HO := Lib.hid (show decide (0 ≤ findI (nmB x.name) (l.take k)) = ok from hO)
      clear hG hO
      obtain ⟨w3, hw3⟩ : ∃ w3 : World, w3 = w2.alloc (.cells #[.int .i64 gw.no, .int .i64 gw.cls, .int .i64 gw.op, .string gw.name, .string gw.plat, .bool gw.paused, .int .u64 gw.untl] 67) := ⟨_, rfl⟩
      have HB2' := Lib.hid (show Below wr.heap.size wr w3 by rw [hw3]; exact HB2.out.alloc HB2.out.size _)
      have HA3 := Lib.hid (HA.out.below HB2'.out)
      have HB3 := Lib.hid (HB.out.trans (HB2'.out.mono hszw))
      have hz3 : wr.heap.size < w3.heap.size := by rw [hw3]; simp; omega
      have q0 : w3.cell? ⟨wr.heap.size, 0, none⟩ = some (.int .i64 x.no) := by rw [hw3]; exact cell_below box_below n0
      have q1 : w3.cell? ⟨wr.heap.size, 1, none⟩ = some (.int .i64 x.cls) := by rw [hw3]; exact cell_below box_below n1
      have q2 : w3.cell? ⟨wr.heap.size, 2, none⟩ = some (.int .i64 x.op) := by rw [hw3]; exact cell_below box_below n2
      have q3 : w3.cell? ⟨wr.heap.size, 3, none⟩ = some (.string x.name) := by rw [hw3]; exact cell_below box_below n3
      have q4 : w3.cell? ⟨wr.heap.size, 4, none⟩ = some (.string x.plat) := by rw [hw3]; exact cell_below box_below n4
      have q5 : w3.cell? ⟨wr.heap.size, 5, none⟩ = some (.bool x.paused) := by rw [hw3]; exact cell_below box_below n5
      have q6 : w3.cell? ⟨wr.heap.size, 6, none⟩ = some (.int .u64 x.untl) := by rw [hw3]; exact cell_below box_below n6
      have g1 : w3.cell? ⟨w.heap.size, 1, none⟩ = some (.int .i64 (pL l k)) := HA3.out.c1
      have HW3 := Lib.hid hw3
      clear hw3 n0 n1 n2 n3 n4 n5 n6
      go_wp2_with fail
      rw [← HW3.out]
      clear HW3
      by_cases k0 : chkE x = 0
      · have k0b : (chkE x != 0) = false := by rw [k0]; rfl
        rcases k1 : ((ba (chkS x)).toList == x.plat.toList) with _ | _
        · have k1b : ((ba (chkS x)).toList != x.plat.toList) = true := by rw [bne, k1]; rfl
          have HN := Lib.hid (not_all (room := room) (last := last) HX.out (fun ho => by have := ho.plat; rw [k1] at this; cases this))
          clear k0
          go_quiet (fail)
          go_wp2_with fail
          go_ret2
          exact .inl ⟨HN.out, rfl, below_drewN HB3.out _⟩
        · have k1b : ((ba (chkS x)).toList != x.plat.toList) = false := by rw [bne, k1]; rfl
          by_cases k2 : ∀ y ∈ l.take k, nmB x.name y = false
          · obtain rfl : false = ok := by rw [← HO.out, findI_new k2]; rfl
            have HK2 := Lib.hid k2
            have HK0 := Lib.hid k0
            have HK1 := Lib.hid k1
            clear k0 k2
            by_cases k3 : pL l k < x.no
            · by_cases k4 : x.no ≤ last
              · by_cases k5 : 0 ≤ x.op
                · have HOK := Lib.hid (show OkW last l k x from ⟨HK0.out, HK1.out, HK2.out, k3, k4, k5⟩)
                  go_quiet (fail)
                  go_wp2_with fail
                  generalize hw4 : w3.drewN _ = w4 at *
                  have HB34 := Lib.hid (show Below w3.heap.size w3 w4 by rw [← hw4]; exact below_drewN (Below.refl _ _) _)
                  have HA4 := Lib.hid (HA3.out.below HB34.out)
                  have HB4 := Lib.hid (HB3.out.trans (HB34.out.mono HB3.out.size))
                  have hz4 : wr.heap.size < w4.heap.size := by have := HB34.out.size; omega
                  have r0 := cell_below HB34.out q0
                  have r1 := cell_below HB34.out q1
                  have r2 := cell_below HB34.out q2
                  have r3 := cell_below HB34.out q3
                  have r4 := cell_below HB34.out q4
                  have r5 := cell_below HB34.out q5
                  have r6 := cell_below HB34.out q6
                  have g2 : w4.cell? ⟨w.heap.size, 2, none⟩ = some v := HA4.out.c2
                  have hbw4 : w.heap.size < w4.heap.size := by omega
                  have HNB := Lib.hid (show v.ownBlock ≠ some w.heap.size from fun e => HA4.out.not_blk (by decide) (mem_blk.2 e))
                  have HO4 := Lib.hid (show w4.ownsRow w.heap.size 67 7 v (l.take k).length (flatW (l.take k)) from HA4.out.own)
                  have hlk : (l.take k).length = k := by rw [List.length_take]; omega
                  rw [hlk] at HO4
                  obtain ⟨i0, hi0, hz0, hz1', hz2'⟩ := info_parts worker_info
                  have h1x : ∀ u ∈ encW x, u.oneCell' = true := encW_one _
                  obtain ⟨gg, gcap, w9, hrun, hown9, hgrow, hat, hlt9⟩ := run_append_lies (P := Tryz.prog) (w := (w4.alloc (.cells (encW x).toArray 67)).drew) 28 28 w.heap.size 67 i0 _ 7 72 Tryz.underlying28 hi0 hz0 hz1' hz2' rfl (by omega) v k (flatW (l.take k)) ((HO4.out.alloc _).drew)
                    ⟨w4.heap.size, 0, none⟩ 1 1 (encW x) rfl (World.news_of_block (cs := (encW x).toArray) (t := 67) (fr := (0, 0)) (heap_alloc_new w4 _)) h1x (by omega) (by unfold maxLen; omega) (by omega) (by show w.heap.size ≤ (w4.alloc _).heap.size; simp; omega) (w4.heap.size + 1) (by show (w4.alloc _).heap.size = _; simp)
                  have HO9 := Lib.hid (show w9.ownsRow w.heap.size 67 7 (.slice (some ⟨gg, 0, none⟩) (k + 1) gcap) (k + 1) (flatW (l.take (k + 1))) by rw [take_one HX.out, flatW_snoc]; exact hown9)
                  have HF9 := Lib.hid (show Fr (w.heap.size :: blk v) w4 w9 from ((Fr.refl _ w4).alloc _).drew.grown hgrow (fun j hj => .inl (List.mem_cons_of_mem _ (mem_blk.2 hj))))
                  have HAT := Lib.hid hat
                  have HGE := Lib.hid (book_ge HA4.out)
                  have hnx : wr.heap.size ∉ w.heap.size :: blk v := was_far (m := wr.heap.size) HA4.out HA.out hgt (Nat.le_refl _)
                  have s0 := HF9.out.cell r0 hnx
                  have hh9 : w9.heap[w.heap.size]? = some (.cells #[.int .i64 room, .int .i64 (pL l k), v] 227 (0, 0)) := (hgrow.block w.heap.size (by show w.heap.size < (w4.alloc _).heap.size; simp; omega) (Ne.symm HNB.out)).trans (fr_alloc_old HA4.out.heap)
                  have k2' : w9.cell? ⟨w.heap.size, 2, none⟩ = some v := fr_cell_of_heap hh9 rfl
                  have k1' : w9.cell? ⟨w.heap.size, 1, none⟩ = some (.int .i64 (pL l k)) := fr_cell_of_heap hh9 rfl
                  have f9 : w9.frozen? ⟨w.heap.size, 2, none⟩ = false := fr_free_of_heap hh9
                  have f91 : w9.frozen? ⟨w.heap.size, 1, none⟩ = false := fr_free_of_heap hh9
                  have HH9 := Lib.hid hh9
                  have hngg : w.heap.size ≠ gg := by
                    rcases hat with h | h
                    · intro e; rw [← e] at h; exact HNB.out h
                    · omega
                  have HNGG := Lib.hid hngg
                  have hne9 : wr.heap.size ≠ w.heap.size := by omega
                  have HLK := Lib.hid hlk
                  have HW4 := Lib.hid hw4
                  simp only [encW] at hrun
                  simp [go_sem] at hrun
                  clear hown9 hgrow hat hh9 h1x hi0 hz0 hz1' hz2' hlk hnx hngg q0 q1 q2 q3 q4 q5 q6 g1 hw4
                  go_region
                  clear hrun
                  go_wp2_with fail
                  have HFIN := Lib.hid ((book_put (s := ⟨room, pL l k, l.take k⟩) (T := 227) (Nat.le_refl _) HH9.out (v' := .slice (some ⟨gg, 0, none⟩) (k + 1) gcap) (l := l.take (k + 1)) (by rw [show (l.take (k + 1)).length = k + 1 by rw [List.length_take]; omega]; exact HO9.out) (by rw [blk_slice]; simp; exact HNGG.out) (by rw [List.length_take]; omega)).setLast (by decide) x.no)
                  go_roundw
                  case rel =>
                    refine ⟨k + 1, .slice (some ⟨gg, 0, none⟩) (k + 1) gcap, by go_num, by omega, all_succ HALL.out HX.out HOK.out, ?_, ?_⟩
                    · rw [pL_succ HX.out]
                      exact HFIN.out
                    · exact ((HB4.out.trans (HF9.out.below (by omega) HGE.out)).setCell (by simp) _).setCell (by simp) _
                  case measure => simp [intOf]; omega
                · have HN := Lib.hid (not_all (room := room) (last := last) HX.out (fun ho => k5 ho.op))
                  go_quiet (fail)
                  go_wp2_with fail
                  go_ret2
                  exact .inl ⟨HN.out, rfl, below_drewN HB3.out _⟩
              · have HN := Lib.hid (not_all (room := room) (last := last) HX.out (fun ho => k4 ho.most))
                go_quiet (fail)
                go_wp2_with fail
                go_ret2
                exact .inl ⟨HN.out, rfl, below_drewN HB3.out _⟩
            · have HN := Lib.hid (not_all (room := room) (last := last) HX.out (fun ho => k3 ho.rise))
              have k3' : x.no ≤ pL l k := by omega
              clear k3
              go_quiet (fail)
              go_wp2_with fail
              go_ret2
              exact .inl ⟨HN.out, rfl, below_drewN HB3.out _⟩
          · obtain rfl : true = ok := by rw [← HO.out, findI_old k2]
            have HN := Lib.hid (not_all (room := room) (last := last) HX.out (fun ho => k2 ho.new))
            clear k0 k2
            go_quiet (fail)
            go_wp2_with fail
            go_ret2
            exact .inl ⟨HN.out, rfl, below_drewN HB3.out _⟩
      · have k0b : (chkE x != 0) = true := by rw [bne_iff_ne]; exact k0
        have HN := Lib.hid (not_all (room := room) (last := last) HX.out (fun ho => k0 ho.chk))
        clear k0
        go_quiet (fail)
        go_wp2_with fail
        go_ret2
        exact .inl ⟨HN.out, rfl, below_drewN HB3.out _⟩
    · obtain rfl : k = l.length := by omega
      have c1 := HA.out.c1
      have f1 := HA.out.free 1
      have HFIN := Lib.hid (HA.out.setLast (by decide) last)
      have HBF := Lib.hid (HB.out.setCell (p := ⟨w.heap.size, 1, none⟩) (Nat.le_refl _) (.int .i64 last))
      go_wp2_with fail
      go_ret2
      refine .inr ⟨⟨h, h1, h2, HALL.out⟩, rfl, v, ?_, HBF.out⟩
      have h4 := HFIN.out
      rw [List.take_length] at h4
      exact h4
end Go.Proofs.YtjmlimogmmikoaaGreatDoor
namespace Go.Proofs.YtjmlimogmmikoaaGreatDoor
open Go.RowKit
end Go.Proofs.YtjmlimogmmikoaaGreatDoor
namespace Go.Proofs.YtjmlimogmmikoaaGreatDoor
open Go.RowKit
theorem load_any (room last : Int) (v0 : Value) (l : List Wk) (w : World) (hr : Ready w) (hR : RowsW w v0 l) (hs : ∀ x ∈ l, SmallW x) (h3 : l.length ≤ 40) :
    Calls Tryz.prog 76 #[.int .i64 room, v0, .int .i64 last] w (LoadPost room l last w) := by
  by_cases h : room < 1
  · exact load_room room last v0 l w hR h
  · by_cases h1 : room < (l.length : Int)
    · exact load_many room last v0 l w hR (by omega) h1
    · by_cases h2 : last < 0
      · exact load_neg room last v0 l w hR (by omega) (by omega) h2
      · exact loadGo_any room last v0 l w hr hR hs (by omega) (by omega) (by omega) h3
end Go.Proofs.YtjmlimogmmikoaaGreatDoor
namespace Go.Proofs.YtjmlimogmmikoaaGreatDoor
open Go.RowKit
end Go.Proofs.YtjmlimogmmikoaaGreatDoor
namespace Go.Proofs.YtjmlimogmmikoaaGreatDoor
open Go.RowKit
end Go.Proofs.YtjmlimogmmikoaaGreatDoor
namespace Go.Proofs.YtjmlimogmmikoaaGreatDoor
open Go.RowKit
structure Opr where
  id : Int
  tenant : Int
  inv : Int
  key : ByteArray
  cmd : ByteArray
  need : ByteArray
  cost : Int
  cls : Int
  state : Int
  att : Int
  ret : Int
  pre : Int
  code : Int
  ep : Int
  wk : Int
  dl : Int
  wake : Int
  st : Int
theorem op_info : (Tryz.prog.info? 53).map (·.size) = some 18 := by kernel_rfl
end Go.Proofs.YtjmlimogmmikoaaGreatDoor
namespace Go.Proofs.YtjmlimogmmikoaaGreatDoor
open Go.RowKit
def opA (o : Opr) : Array Value := #[.int .i64 o.id, .int .i64 o.tenant, .int .i64 o.inv, .string o.key, .string o.cmd, .string o.need, .int .i64 o.cost, .int .i64 o.cls, .int .i64 o.state, .int .i64 o.att, .int .i64 o.ret, .int .i64 o.pre, .int .i64 o.code, .int .i64 o.ep, .int .i64 o.wk, .int .u64 o.dl, .int .u64 o.wake, .int .u64 o.st]
theorem opA_one (o : Opr) : (opA o).all (·.oneCell') = true := by simp [opA, Value.oneCell']
theorem opA_size (o : Opr) : (opA o).size = 18 := rfl
theorem opA_info (o : Opr) : (Tryz.prog.info? 53).map (·.size) = some (opA o).size := by rw [opA_size]; exact op_info
structure OpB (w w' : World) (g r : Nat) (os zs : Array Value) : Prop where
  below : Below w.heap.size w w'
  gl : w.heap.size ≤ g
  rl : w.heap.size ≤ r
  gr : g ≠ r
  op : w'.heap[g]? = some (.cells os 53 (0, 0))
  res : w'.heap[r]? = some (.cells zs 53 (0, 0))
theorem setRow_at {w : World} {g : Nat} {cs ds : Array Value} {t : TypeId} {fr : Nat × Nat} (h : w.heap[g]? = some (.cells cs t fr)) : (w.setRow g ds).heap[g]? = some (.cells ds t fr) := by
  simp only [World.setRow, Array.getElem?_modify, h]
  simp
theorem setRow_not {w : World} {g k : Nat} {ds : Array Value} (h : k ≠ g) : (w.setRow g ds).heap[k]? = w.heap[k]? := by
  simp only [World.setRow, Array.getElem?_modify]
  simp [Ne.symm h]
theorem below_setRow {B : Nat} {w w' : World} (h : Below B w w') {g : Nat} (hg : B ≤ g) (ds : Array Value) : Below B w (w'.setRow g ds) :=
  ⟨h.os, h.tape, h.output, by simpa [World.setRow] using h.size, fun k hk => (setRow_not (by omega)).trans (h.block k hk)⟩
theorem OpB.row {w w1 : World} {g r : Nat} {os zs : Array Value} (h : OpB w w1 g r os zs) (ds : Array Value) : OpB w (w1.setRow g ds) g r ds zs :=
  ⟨below_setRow h.below h.gl ds, h.gl, h.rl, h.gr, setRow_at h.op, (setRow_not (Ne.symm h.gr)).trans h.res⟩
theorem OpB.out {w w1 : World} {g r : Nat} {os zs : Array Value} (h : OpB w w1 g r os zs) (ds : Array Value) : OpB w (w1.setRow r ds) g r os ds :=
  ⟨below_setRow h.below h.rl ds, h.gl, h.rl, h.gr, (setRow_not h.gr).trans h.op, setRow_at h.res⟩
end Go.Proofs.YtjmlimogmmikoaaGreatDoor
namespace Go.Proofs.YtjmlimogmmikoaaGreatDoor
open Go.RowKit
theorem op_guard : Tryz.prog.eqGuardType Tryz.prog.depth 53 = false := by kernel_rfl
end Go.Proofs.YtjmlimogmmikoaaGreatDoor
namespace Go.Proofs.YtjmlimogmmikoaaGreatDoor
open Go.RowKit
def opZ : Opr := ⟨0, 0, 0, ⟨#[]⟩, ⟨#[]⟩, ⟨#[]⟩, 0, 0, 0, 0, 0, 0, 0, 0, 0, 0, 0, 0⟩
theorem wpList_build0 {P : Program} {ops : Array Oper} {rest : List Oper} {o : Oper} {a : Act} {w : World} {Q : Exit → Act → World → Prop} (hg : o.guard = none) (t : TypeId) (ho : o.op = .build t #[]) {cells : Array Value} (hb : P.built t [] = some cells) (h : wpList P ops Q rest (a.put o.dst (.agg cells)) w) : wpList P ops Q (o :: rest) a w :=
  wpList_build hg t #[] ho (by simp [hb]) (by simpa [hb] using h)
theorem built_op0 : Tryz.prog.built 53 [] = some (opA opZ) := by kernel_rfl
set_option maxRecDepth 100000 in
set_option maxHeartbeats 2000000 in
theorem rfind_nil (lw id : Int) (ws tv lv : Value) (c : Cfg) (w : World) : Calls Tryz.prog 78 #[.agg (ckA lw ws tv lv c), .int .i64 id] w fun e w' => e = .returned (.tuple #[.agg (opA opZ), .bool false]) ∧ Below w.heap.size w w' := by
  have k7 : (ckA lw ws tv lv c)[7]? = some (.slice none 0 0) := rfl
  go_enter Tryz.func78, Tryz.ntmps78
  go_wp2_with fail
  refine (ixNilOp _ _).mono ?_
  rintro e w2 ⟨rfl, rfl⟩
  go_wp2_with (first
    | refine wpList_build0 rfl 53 rfl built_op0 ?_
    | (refine wpList_store_new rfl 53 _ _ rfl (w.heap.size + 1 + 1) ?a1 _ rfl rfl ?a2 ?a3 ?a4 ?_; (case a1 => simp); (case a2 => exact opA_info opZ); (case a3 => rfl); (case a4 => exact opA_one opZ)))
  refine bodyPost_ret (v := .tuple #[.agg (opA opZ), .bool false]) (results_row2 Tryz.results78 rfl rfl (heap_alloc_three _ _ _ _) Tryz.underlying53 rfl (opA_info opZ)) rfl ⟨rfl, ?_⟩
  exact (box_below.alloc (by simp) _).alloc (by simp; omega) _
theorem wkld_info : (Tryz.prog.info? 67).map (·.size) = some 7 := by kernel_rfl
theorem load_nothing (n : Int) (h : 1 ≤ n) : LoadsW n [] 0 := ⟨h, by simpa using (by omega : (0 : Int) ≤ n), Int.le_refl _, fun j x hj => absurd hj (by simp)⟩
theorem rows_nothing (w : World) : RowsW w (.slice none 0 0) [] := ⟨none, 0, rfl, Nat.zero_le _, fun j u hu => by simp [flatW] at hu⟩
set_option maxRecDepth 100000 in
set_option maxHeartbeats 2000000 in
theorem rworkers_nil (tv lv : Value) (c : Cfg) (w : World) (hr : Ready w) (h : 1 ≤ c.workers) : Calls Tryz.prog 24 #[.agg (ckA 0 (.slice none 0 0) tv lv c)] w (BoolPost true w) := by
  have HR := Lib.hid (hr.below (box_below (o := .cells (ckA 0 (.slice none 0 0) tv lv c) 72)))
  have k4 : (ckA 0 (.slice none 0 0) tv lv c)[4]? = some (.int .i64 0) := rfl
  have k7 : (ckA 0 (.slice none 0 0) tv lv c)[7]? = some (.slice none 0 0) := rfl
  have k9 : (ckA 0 (.slice none 0 0) tv lv c)[9]? = some (.slice none 0 0) := rfl
  have k32 : (ckA 0 (.slice none 0 0) tv lv c)[32]? = some (.int .i64 c.workers) := rfl
  have HL := Lib.hid (load_nothing c.workers h)
  clear hr h
  go_enter Tryz.func24, Tryz.ntmps24
  go_wp2_with fail
  refine (load_any c.workers 0 (.slice none 0 0) [] _ HR.out (rows_nothing _) (by simp) (by simp)).mono ?_
  rintro e w1 (⟨hn, -, -⟩ | ⟨-, rfl, v2, -, hb1⟩)
  · exact absurd HL.out hn
  have HB := Lib.hid ((box_below2 hb1).alloc (by have := hb1.size; simp at this; omega) (.cells #[.pointer (some ⟨w.heap.size + 1, 0, none⟩)] 131))
  have m7 := cell_below (hb1.alloc hb1.size (.cells #[.pointer (some ⟨w.heap.size + 1, 0, none⟩)] 131)) (cell_alloc_at (w := w) (t := 72) k7)
  have m9 := cell_below (hb1.alloc hb1.size (.cells #[.pointer (some ⟨w.heap.size + 1, 0, none⟩)] 131)) (cell_alloc_at (w := w) (t := 72) k9)
  clear hb1 k4 k7 k9 k32 HL HR
  go_wp2
  go_loopw [28] (fun i wr => i = .int .i64 0 ∧ wr = w1.alloc (.cells #[.pointer (some ⟨w.heap.size + 1, 0, none⟩)] 131)) (fun i _ => 1)
  case atStart => exact ⟨rfl, rfl⟩
  case round =>
    obtain ⟨rfl, rfl⟩ := hrel
    go_wp2_with fail
    refine (hasNilOp _ _).mono ?_
    rintro e w2 ⟨rfl, rfl⟩
    go_wp2_with fail
    go_ret
    exact ⟨rfl, HB.out⟩
set_option maxRecDepth 100000 in
set_option maxHeartbeats 2000000 in
theorem rworkers_one (lw : Int) (g off cap : Nat) (tv lv : Value) (c : Cfg) (x : Wk) (w : World) (hr : Ready w) (hC0 : CfgAt w tv lv c) (hR0 : RowsW w (.slice (some ⟨g, off, none⟩) 1 cap) [x]) (hs : SmallW x) (hL : LoadsW c.workers [x] lw) (hcl : x.cls < classesV c) (hop : x.op ≠ 0) : Calls Tryz.prog 24 #[.agg (ckA lw (.slice (some ⟨g, off, none⟩) 1 cap) tv lv c)] w (BoolPost false w) := by
  have HR := Lib.hid (hr.below (box_below (o := .cells (ckA lw (.slice (some ⟨g, off, none⟩) 1 cap) tv lv c) 72)))
  have HRW := Lib.hid (hR0.below (box_below (o := .cells (ckA lw (.slice (some ⟨g, off, none⟩) 1 cap) tv lv c) 72)))
  have HC := Lib.hid (hC0.below (box_below (o := .cells (ckA lw (.slice (some ⟨g, off, none⟩) 1 cap) tv lv c) 72)))
  have k4 : (ckA lw (.slice (some ⟨g, off, none⟩) 1 cap) tv lv c)[4]? = some (.int .i64 lw) := rfl
  have k9 : (ckA lw (.slice (some ⟨g, off, none⟩) 1 cap) tv lv c)[9]? = some (.slice (some ⟨g, off, none⟩) 1 cap) := rfl
  have k32 : (ckA lw (.slice (some ⟨g, off, none⟩) 1 cap) tv lv c)[32]? = some (.int .i64 c.workers) := rfl
  have HL := Lib.hid hL
  have HS := Lib.hid hs
  clear hr hL hs
  go_enter Tryz.func24, Tryz.ntmps24
  go_wp2_with fail
  refine (load_any c.workers lw (.slice (some ⟨g, off, none⟩) 1 cap) [x] _ HR.out HRW.out (by simpa using HS.out) (by simp)).mono ?_
  rintro e w1 (⟨hn, -, -⟩ | ⟨-, rfl, v2, -, hb1⟩)
  · exact absurd HL.out hn
  have hbd : Below (w.alloc (.cells (ckA lw (.slice (some ⟨g, off, none⟩) 1 cap) tv lv c) 72)).heap.size (w.alloc (.cells (ckA lw (.slice (some ⟨g, off, none⟩) 1 cap) tv lv c) 72)) (w1.alloc (.cells #[.pointer (some ⟨w.heap.size + 1, 0, none⟩)] 131)) := hb1.alloc hb1.size _
  have HB := Lib.hid (show Below w.heap.size w (w1.alloc (.cells #[.pointer (some ⟨w.heap.size + 1, 0, none⟩)] 131)) from (box_below2 hb1).alloc (by have := hb1.size; simp at this; omega) _)
  have hHG : (w1.alloc (.cells #[.pointer (some ⟨w.heap.size + 1, 0, none⟩)] 131)).heap[w.heap.size]? = some (.cells (ckA lw (.slice (some ⟨g, off, none⟩) 1 cap) tv lv c) 72) := (hbd.block _ (by simp)).trans (heap_alloc_new w _)
  have hHG2 : ((w1.alloc (.cells #[.pointer (some ⟨w.heap.size + 1, 0, none⟩)] 131)).alloc (.cells (encW x).toArray 67)).heap[w.heap.size]? = some (.cells (ckA lw (.slice (some ⟨g, off, none⟩) 1 cap) tv lv c) 72) := fr_alloc_old hHG
  have HG2 := Lib.hid hHG2
  have m9 : (w1.alloc (.cells #[.pointer (some ⟨w.heap.size + 1, 0, none⟩)] 131)).cell? ⟨w.heap.size, 9, none⟩ = some (.slice (some ⟨g, off, none⟩) 1 cap) := fr_cell_of_heap hHG rfl
  have HRG := Lib.hid (show ((w1.alloc (.cells #[.pointer (some ⟨w.heap.size + 1, 0, none⟩)] 131)).alloc (.cells (encW x).toArray 67)).drew.rangeAt w.heap.size 15 (cfA tv lv c).toList from ck_cfg hHG2)
  have n5 : w.heap.size + 1 ≤ w1.heap.size := by have := hb1.size; simp at this; omega
  have HX1 := Lib.hid (show ((w1.alloc (.cells #[.pointer (some ⟨w.heap.size + 1, 0, none⟩)] 131)).alloc (.cells (encW x).toArray 67)).drew.cell? ⟨w1.heap.size + 1, 1, none⟩ = some (.int .i64 x.cls) from fr_cell_of_heap (w := (w1.alloc (.cells #[.pointer (some ⟨w.heap.size + 1, 0, none⟩)] 131)).alloc (.cells (encW x).toArray 67)) (heap_alloc_two w1 _ _) rfl)
  have HWB := Lib.hid (heap_alloc_two w1 (.cells #[.pointer (some ⟨w.heap.size + 1, 0, none⟩)] 131) (.cells (encW x).toArray 67))
  have hb2 : Below w.heap.size w ((w1.alloc (.cells #[.pointer (some ⟨w.heap.size + 1, 0, none⟩)] 131)).alloc (.cells (encW x).toArray 67)).drew := (HB.out.alloc HB.out.size _).drew
  have HB2 := Lib.hid hb2
  have HCF := Lib.hid (hC0.below hb2)
  have HRA := Lib.hid (show (w1.alloc (.cells #[.pointer (some ⟨w.heap.size + 1, 0, none⟩)] 131)).rangeAt g off (encW x) from fun j v hj => by
    obtain ⟨a, c2, hv, -, hcl⟩ := hR0
    cases hv
    obtain ⟨g', off', ha, h0⟩ := hcl j v (by simpa [flatW] using hj)
    cases ha
    exact cell_below HB.out h0)
  clear hb1 hbd hHG hHG2 k4 k9 k32 HL HR HC hb2 HRW
  go_wp2
  go_loopw [28] (fun i wr => i = .int .i64 0 ∧ wr = w1.alloc (.cells #[.pointer (some ⟨w.heap.size + 1, 0, none⟩)] 131)) (fun i _ => 1)
  case atStart => exact ⟨rfl, rfl⟩
  case round =>
    obtain ⟨rfl, rfl⟩ := hrel
    go_upto_region 7 with (first
      | (refine wpList_load_mid rfl 67 _ rfl g off rfl (encW x) _ HRA.out Tryz.underlying67 rfl wkld_info ?_)
      | (refine wpList_store_new rfl 67 _ _ rfl (w1.heap.size + 1) ?a1 _ rfl rfl ?a2 ?a3 ?a4 ?_; (case a1 => simp); (case a2 => exact wkld_info); (case a3 => rfl); (case a4 => simp [encW, Value.oneCell'])))
    refine wp_region_noPanic ?_
    refine wp_region_any (by kernel_rfl) ?_
    change wpAny _ _ _ _ _ _ _ (World.drew _)
    refine wpAny_of_held (S := (fun w2 => w2.rangeAt w.heap.size 15 (cfA tv lv c).toList ∧ w2.cell? ⟨w1.heap.size + 1, 1, none⟩ = some (.int .i64 x.cls))) _ _ _ _ ?_
    have hHeld : (fun w2 => w2.rangeAt w.heap.size 15 (cfA tv lv c).toList ∧ w2.cell? ⟨w1.heap.size + 1, 1, none⟩ = some (.int .i64 x.cls)) ((w1.alloc (.cells #[.pointer (some ⟨w.heap.size + 1, 0, none⟩)] 131)).alloc (.cells (encW x).toArray 67)).drew := ⟨HRG.out, HX1.out⟩
    refine wpAnyH_take (i := 0) (oi := ⟨some 32, _, _, _, _, _⟩) (v := ?_) rfl (by kernel_rfl) (by kernel_rfl) (by kernel_rfl) (fun _ _ _ h => h) (Or.inl ⟨by rfl, ?_⟩) (by assumption) ?_
    rotate_left 1
    · intro w hSw
      try dsimp only at hSw
      go_simp
      try with_reducible rfl
    try simp only [Act.put, List.setIfInBounds_toArray, List.set_cons_zero, List.set_cons_succ]
    refine wpAnyH_take (i := 1) (oi := ⟨some 33, _, _, _, _, _⟩) (v := ?_) rfl (by kernel_rfl) (by kernel_rfl) (by kernel_rfl) (fun _ _ _ h => h) (Or.inl ⟨by rfl, ?_⟩) (by assumption) ?_
    rotate_left 1
    · intro w hSw
      try dsimp only at hSw
      go_simp
      try with_reducible rfl
    try simp only [Act.put, List.setIfInBounds_toArray, List.set_cons_zero, List.set_cons_succ]
    refine wpAnyH_take (i := 2) (oi := ⟨some 34, _, _, _, _, _⟩) (v := ?_) rfl (by kernel_rfl) (by kernel_rfl) (by kernel_rfl) (fun _ _ _ h => h) (Or.inl ⟨by rfl, ?_⟩) (by assumption) ?_
    rotate_left 1
    · intro w hSw
      try dsimp only at hSw
      go_simp
      try with_reducible rfl
    try simp only [Act.put, List.setIfInBounds_toArray, List.set_cons_zero, List.set_cons_succ]
    refine wpAnyH_take (i := 3) (oi := ⟨some 35, _, _, _, _, _⟩) (v := _) rfl (by kernel_rfl) (by kernel_rfl) (by kernel_rfl) (fun _ _ _ h => h) (yieldsIf_load_mid (by rfl) 25 _ rfl w.heap.size 15 rfl (cfA tv lv c).toList _ (fun w hw => hw.1) Tryz.underlying25 rfl cfg_info) (by assumption) ?_
    try simp only [Act.put, List.setIfInBounds_toArray, List.set_cons_zero, List.set_cons_succ]
    refine wpAnyH_ready (rs := [4]) (by kernel_rfl) (by simp) ?_
    refine AllReadyH.cons (o := ⟨some 36, _, _, _, _, _⟩) rfl (fun K hK => ?_) AllReadyH.nil
    go_simp
    refine (classes_any _ tv lv c _ (cfA_cells tv lv c) HCF.out).mono ?_
    rintro e w6 ⟨rfl, hb6'⟩
    have hHeld6 : (fun w2 => w2.rangeAt w.heap.size 15 (cfA tv lv c).toList ∧ w2.cell? ⟨w1.heap.size + 1, 1, none⟩ = some (.int .i64 x.cls)) w6 := ⟨fun j v hj => cell_below hb6' (hHeld.1 j v hj), cell_below hb6' hHeld.2⟩
    refine hK.out _ _ hHeld6 (fun hHeld => ?_)
    clear hK K
    try simp only [Act.put, List.setIfInBounds_toArray, List.set_cons_zero, List.set_cons_succ]
    clear hHeld6
    refine wpAnyH_take (i := 5) (oi := ⟨some 37, _, _, _, _, _⟩) (v := ?_) rfl (by kernel_rfl) (by kernel_rfl) (by kernel_rfl) (fun _ _ _ h => h) (Or.inl ⟨by rfl, ?_⟩) (by assumption) ?_
    rotate_left 1
    · intro w hSw
      try dsimp only at hSw
      go_simp
      try with_reducible rfl
    try simp only [Act.put, List.setIfInBounds_toArray, List.set_cons_zero, List.set_cons_succ]
    refine wpAnyH_done (by kernel_rfl) ?_ _
    refine NoPanic.normal ?_
    clear hHeld
    have hG6 := (hb6'.block _ (by simp; omega)).trans HG2.out
    have HG6 := Lib.hid hG6
    have hW6 := (hb6'.block _ (by simp)).trans HWB.out
    have x2 : w6.cell? ⟨w1.heap.size + 1, 2, none⟩ = some (.int .i64 x.op) := fr_cell_of_heap hW6 rfl
    have HB6 := Lib.hid (HB2.out.trans (hb6'.mono HB2.out.size))
    have hlt : ¬ (classesV c ≤ x.cls) := by omega
    have hopb : (x.op != 0) = true := bne_iff_ne.2 hop
    clear hG6 hW6 hb6' HRA HCF HB2 HWB HX1 HRG m9 HG2 HB HS
    go_wp2_with (refine wpList_load_agg 72 HG6.out Tryz.underlying72 rfl ck_info rfl _ rfl rfl ?_)
    refine (rfind_nil lw x.op _ tv lv c _).mono ?_
    rintro e w7 ⟨rfl, hb7⟩
    have HB7 := Lib.hid (HB6.out.trans (hb7.mono HB6.out.size))
    have y2 := cell_below (hb7.alloc hb7.size (.cells (opA opZ) 53)) x2
    have y6 : (w7.alloc (.cells (opA opZ) 53)).cell? ⟨w7.heap.size, 8, none⟩ = some (.int .i64 0) := cell_alloc_at rfl
    have z6 : (opA opZ)[6]? = some (.int .i64 0) := rfl
    clear hb7 x2
    go_upto_region 10 with (refine wpList_store_new rfl 53 _ _ rfl w7.heap.size ?a1 _ rfl rfl ?a2 ?a3 ?a4 ?_; (case a1 => rfl); (case a2 => exact opA_info opZ); (case a3 => rfl); (case a4 => exact opA_one opZ))
    have HB8 := Lib.hid (HB7.out.alloc HB7.out.size (.cells (opA opZ) 53))
    clear z6
    generalize w7.alloc (.cells (opA opZ) 53) = w8 at y2 y6 HB8 ⊢
    go_wp2_with fail
    go_ret
    exact ⟨rfl, HB8.out⟩
end Go.Proofs.YtjmlimogmmikoaaGreatDoor
namespace Go.Proofs.YtjmlimogmmikoaaGreatDoor
open Go.RowKit
structure Ivn where
  no : Int
  ten : Int
  name : ByteArray
  wt : Int
  ld : Int
def ivC (v : Ivn) : Array Value := #[.int .i64 v.no, .int .i64 v.ten, .string v.name, .int .i64 v.wt, .int .i64 v.ld]
theorem iv_info : (Tryz.prog.info? 49).map (·.size) = some 5 := by kernel_rfl
end Go.Proofs.YtjmlimogmmikoaaGreatDoor
namespace Go.Proofs.YtjmlimogmmikoaaGreatDoor
open Go.RowKit
def EqPart (P : Program) (d : Nat) (xs ys : Array Value) (w : World) (f : Field) (b : Bool) : Prop :=
  f.name ≠ "_" ∧ ∃ u v, (part f.type xs f.offset).run P w = .ok u w ∧ (part f.type ys f.offset).run P w = .ok v w ∧ (Op.equalIn d f.type u v).run P w = .ok b w
def EqParts (P : Program) (d : Nat) (xs ys : Array Value) (w : World) : List Field → List Bool → Prop
  | [], [] => True
  | f :: fs, b :: bs => EqPart P d xs ys w f b ∧ EqParts P d xs ys w fs bs
  | _, _ => False
theorem eqFields_flat {P : Program} (d : Nat) (xs ys : Array Value) (w : World) : ∀ (fs : List Field) (bs : List Bool), EqParts P d xs ys w fs bs → (Op.eqFields d xs ys fs).run P w = .ok (bs.all id) w
  | [], [], _ => by simp [Op.eqFields]
  | f :: fs, b :: bs, ⟨⟨hn, u, v, h1, h2, h3⟩, h⟩ => by
    have ih := eqFields_flat d xs ys w fs bs h
    rw [Op.eqFields]
    split
    · simp only [Sem.run_bind, h1, h2, Result.andThen_ok, h3]
      cases b
      · simp
      · simp only [Bool.not_true, Bool.false_eq_true, if_false]
        rw [ih]
        simp
    · rename_i hc
      exact absurd hn (by simpa using hc)
theorem ba_list_inj {a b : ByteArray} (h : a.toList = b.toList) : a = b := by
  by_cases e : a = b
  · exact e
  · have := ba_list_ne e
    rw [h] at this
    simp at this
def wkA (x : Wk) : Array Value := #[.int .i64 x.no, .int .i64 x.cls, .int .i64 x.op, .string x.name, .string x.plat, .bool x.paused, .int .u64 x.untl]
def eqWk (x y : Wk) : Bool := ([(x.no == y.no), (x.cls == y.cls), (x.op == y.op), (x.name.toList == y.name.toList), (x.plat.toList == y.plat.toList), (x.paused == y.paused), (x.untl == y.untl)] : List Bool).all id
theorem eqWk_iff {x y : Wk} : eqWk x y = true ↔ x = y := by
  constructor
  · intro h
    obtain ⟨x0, x1, x2, x3, x4, x5, x6⟩ := x
    obtain ⟨y0, y1, y2, y3, y4, y5, y6⟩ := y
    simp only [eqWk, List.all_cons, List.all_nil, id, Bool.and_eq_true, Bool.and_true, beq_iff_eq] at h
    obtain ⟨h0, h1, h2, h3, h4, h5, h6⟩ := h
    have h3 := ba_list_inj h3
    have h4 := ba_list_inj h4
    subst h0 h1 h2 h3 h4 h5 h6
    rfl
  · rintro rfl
    simp [eqWk]
theorem run_eqWk (d : Nat) (x y : Wk) (w : World) : (Op.equalIn (d + 2) 67 (.agg (wkA x)) (.agg (wkA y))).run Tryz.prog w = .ok (eqWk x y) w := by
  rw [run_equalIn_agg w (d + 1) 67 _ _ (by kernel_rfl) (by kernel_rfl)]
  refine eqFields_flat _ _ _ _ _ _ ?_
  simp only [Program.fieldsOf, Tryz.underlying67]
  exact ⟨⟨by decide, (.int .i64 x.no), (.int .i64 y.no), by (simp only [wkA]; go_simp), by (simp only [wkA]; go_simp), by (go_simp; try simp)⟩, ⟨⟨by decide, (.int .i64 x.cls), (.int .i64 y.cls), by (simp only [wkA]; go_simp), by (simp only [wkA]; go_simp), by (go_simp; try simp)⟩, ⟨⟨by decide, (.int .i64 x.op), (.int .i64 y.op), by (simp only [wkA]; go_simp), by (simp only [wkA]; go_simp), by (go_simp; try simp)⟩, ⟨⟨by decide, (.string x.name), (.string y.name), by (simp only [wkA]; go_simp), by (simp only [wkA]; go_simp), by (go_simp; try simp)⟩, ⟨⟨by decide, (.string x.plat), (.string y.plat), by (simp only [wkA]; go_simp), by (simp only [wkA]; go_simp), by (go_simp; try simp)⟩, ⟨⟨by decide, (.bool x.paused), (.bool y.paused), by (simp only [wkA]; go_simp), by (simp only [wkA]; go_simp), by (go_simp; try simp)⟩, ⟨⟨by decide, (.int .u64 x.untl), (.int .u64 y.untl), by (simp only [wkA]; go_simp), by (simp only [wkA]; go_simp), by (go_simp; try simp)⟩, trivial⟩⟩⟩⟩⟩⟩⟩
theorem guardWk : Tryz.prog.eqGuardType Tryz.prog.depth 67 = false := by kernel_rfl
theorem exec_neWk {a : Act} {op : Oper} {x y : Wk} {tr : TypeId} (s t : Operand) (ho : op.op = .binOp .neq 67 s t tr) (hx : a.eval s = .agg (wkA x)) (hy : a.eval t = .agg (wkA y)) (w : World) : (execOp a.eval op).run Tryz.prog w = .ok (.value (.bool (!eqWk x y))) w := by
  simp only [execOp, ho, hx, hy, Sem.run_bind, run_eqGuard_agg _ _ _ _ _ _ _ guardWk, Result.andThen_ok, run_neq_struct, show (10000 : Nat) = 9998 + 2 from rfl, run_eqWk]
  rfl
def eqIv (x y : Ivn) : Bool := ([(x.no == y.no), (x.ten == y.ten), (x.name.toList == y.name.toList), (x.wt == y.wt), (x.ld == y.ld)] : List Bool).all id
theorem eqIv_iff {x y : Ivn} : eqIv x y = true ↔ x = y := by
  constructor
  · intro h
    obtain ⟨x0, x1, x2, x3, x4⟩ := x
    obtain ⟨y0, y1, y2, y3, y4⟩ := y
    simp only [eqIv, List.all_cons, List.all_nil, id, Bool.and_eq_true, Bool.and_true, beq_iff_eq] at h
    obtain ⟨h0, h1, h2, h3, h4⟩ := h
    have h2 := ba_list_inj h2
    subst h0 h1 h2 h3 h4
    rfl
  · rintro rfl
    simp [eqIv]
theorem run_eqIv (d : Nat) (x y : Ivn) (w : World) : (Op.equalIn (d + 2) 49 (.agg (ivC x)) (.agg (ivC y))).run Tryz.prog w = .ok (eqIv x y) w := by
  rw [run_equalIn_agg w (d + 1) 49 _ _ (by kernel_rfl) (by kernel_rfl)]
  refine eqFields_flat _ _ _ _ _ _ ?_
  simp only [Program.fieldsOf, Tryz.underlying49]
  exact ⟨⟨by decide, (.int .i64 x.no), (.int .i64 y.no), by (simp only [ivC]; go_simp), by (simp only [ivC]; go_simp), by (go_simp; try simp)⟩, ⟨⟨by decide, (.int .i64 x.ten), (.int .i64 y.ten), by (simp only [ivC]; go_simp), by (simp only [ivC]; go_simp), by (go_simp; try simp)⟩, ⟨⟨by decide, (.string x.name), (.string y.name), by (simp only [ivC]; go_simp), by (simp only [ivC]; go_simp), by (go_simp; try simp)⟩, ⟨⟨by decide, (.int .i64 x.wt), (.int .i64 y.wt), by (simp only [ivC]; go_simp), by (simp only [ivC]; go_simp), by (go_simp; try simp)⟩, ⟨⟨by decide, (.int .i64 x.ld), (.int .i64 y.ld), by (simp only [ivC]; go_simp), by (simp only [ivC]; go_simp), by (go_simp; try simp)⟩, trivial⟩⟩⟩⟩⟩
theorem guardIv : Tryz.prog.eqGuardType Tryz.prog.depth 49 = false := by kernel_rfl
theorem exec_neIv {a : Act} {op : Oper} {x y : Ivn} {tr : TypeId} (s t : Operand) (ho : op.op = .binOp .neq 49 s t tr) (hx : a.eval s = .agg (ivC x)) (hy : a.eval t = .agg (ivC y)) (w : World) : (execOp a.eval op).run Tryz.prog w = .ok (.value (.bool (!eqIv x y))) w := by
  simp only [execOp, ho, hx, hy, Sem.run_bind, run_eqGuard_agg _ _ _ _ _ _ _ guardIv, Result.andThen_ok, run_neq_struct, show (10000 : Nat) = 9998 + 2 from rfl, run_eqIv]
  rfl
structure Lt where
  id : Int
  ten : Int
  att : Int
  code : Int
  key : ByteArray
  at' : Int
def ltA (x : Lt) : Array Value := #[.int .i64 x.id, .int .i64 x.ten, .int .i64 x.att, .int .i64 x.code, .string x.key, .int .u64 x.at']
structure Wtc where
  name : ByteArray
  op : Int
def wtA (x : Wtc) : Array Value := #[.string x.name, .int .i64 x.op]
def eqLt (x y : Lt) : Bool := ([(x.id == y.id), (x.ten == y.ten), (x.att == y.att), (x.code == y.code), (x.key.toList == y.key.toList), (x.at' == y.at')] : List Bool).all id
theorem eqLt_iff {x y : Lt} : eqLt x y = true ↔ x = y := by
  constructor
  · intro h
    obtain ⟨x0, x1, x2, x3, x4, x5⟩ := x
    obtain ⟨y0, y1, y2, y3, y4, y5⟩ := y
    simp only [eqLt, List.all_cons, List.all_nil, id, Bool.and_eq_true, Bool.and_true, beq_iff_eq] at h
    obtain ⟨h0, h1, h2, h3, h4, h5⟩ := h
    have h4 := ba_list_inj h4
    subst h0 h1 h2 h3 h4 h5
    rfl
  · rintro rfl
    simp [eqLt]
theorem run_eqLt (d : Nat) (x y : Lt) (w : World) : (Op.equalIn (d + 2) 90 (.agg (ltA x)) (.agg (ltA y))).run Tryz.prog w = .ok (eqLt x y) w := by
  rw [run_equalIn_agg w (d + 1) 90 _ _ (by kernel_rfl) (by kernel_rfl)]
  refine eqFields_flat _ _ _ _ _ _ ?_
  simp only [Program.fieldsOf, Tryz.underlying90]
  exact ⟨⟨by decide, (.int .i64 x.id), (.int .i64 y.id), by (simp only [ltA]; go_simp), by (simp only [ltA]; go_simp), by (go_simp; try simp)⟩, ⟨⟨by decide, (.int .i64 x.ten), (.int .i64 y.ten), by (simp only [ltA]; go_simp), by (simp only [ltA]; go_simp), by (go_simp; try simp)⟩, ⟨⟨by decide, (.int .i64 x.att), (.int .i64 y.att), by (simp only [ltA]; go_simp), by (simp only [ltA]; go_simp), by (go_simp; try simp)⟩, ⟨⟨by decide, (.int .i64 x.code), (.int .i64 y.code), by (simp only [ltA]; go_simp), by (simp only [ltA]; go_simp), by (go_simp; try simp)⟩, ⟨⟨by decide, (.string x.key), (.string y.key), by (simp only [ltA]; go_simp), by (simp only [ltA]; go_simp), by (go_simp; try simp)⟩, ⟨⟨by decide, (.int .u64 x.at'), (.int .u64 y.at'), by (simp only [ltA]; go_simp), by (simp only [ltA]; go_simp), by (go_simp; try simp)⟩, trivial⟩⟩⟩⟩⟩⟩
theorem guardLt : Tryz.prog.eqGuardType Tryz.prog.depth 90 = false := by kernel_rfl
theorem exec_neLt {a : Act} {op : Oper} {x y : Lt} {tr : TypeId} (s t : Operand) (ho : op.op = .binOp .neq 90 s t tr) (hx : a.eval s = .agg (ltA x)) (hy : a.eval t = .agg (ltA y)) (w : World) : (execOp a.eval op).run Tryz.prog w = .ok (.value (.bool (!eqLt x y))) w := by
  simp only [execOp, ho, hx, hy, Sem.run_bind, run_eqGuard_agg _ _ _ _ _ _ _ guardLt, Result.andThen_ok, run_neq_struct, show (10000 : Nat) = 9998 + 2 from rfl, run_eqLt]
  rfl
def eqWt (x y : Wtc) : Bool := ([(x.name.toList == y.name.toList), (x.op == y.op)] : List Bool).all id
theorem eqWt_iff {x y : Wtc} : eqWt x y = true ↔ x = y := by
  constructor
  · intro h
    obtain ⟨x0, x1⟩ := x
    obtain ⟨y0, y1⟩ := y
    simp only [eqWt, List.all_cons, List.all_nil, id, Bool.and_eq_true, Bool.and_true, beq_iff_eq] at h
    obtain ⟨h0, h1⟩ := h
    have h0 := ba_list_inj h0
    subst h0 h1
    rfl
  · rintro rfl
    simp [eqWt]
theorem run_eqWt (d : Nat) (x y : Wtc) (w : World) : (Op.equalIn (d + 2) 93 (.agg (wtA x)) (.agg (wtA y))).run Tryz.prog w = .ok (eqWt x y) w := by
  rw [run_equalIn_agg w (d + 1) 93 _ _ (by kernel_rfl) (by kernel_rfl)]
  refine eqFields_flat _ _ _ _ _ _ ?_
  simp only [Program.fieldsOf, Tryz.underlying93]
  exact ⟨⟨by decide, (.string x.name), (.string y.name), by (simp only [wtA]; go_simp), by (simp only [wtA]; go_simp), by (go_simp; try simp)⟩, ⟨⟨by decide, (.int .i64 x.op), (.int .i64 y.op), by (simp only [wtA]; go_simp), by (simp only [wtA]; go_simp), by (go_simp; try simp)⟩, trivial⟩⟩
theorem guardWt : Tryz.prog.eqGuardType Tryz.prog.depth 93 = false := by kernel_rfl
theorem exec_neWt {a : Act} {op : Oper} {x y : Wtc} {tr : TypeId} (s t : Operand) (ho : op.op = .binOp .neq 93 s t tr) (hx : a.eval s = .agg (wtA x)) (hy : a.eval t = .agg (wtA y)) (w : World) : (execOp a.eval op).run Tryz.prog w = .ok (.value (.bool (!eqWt x y))) w := by
  simp only [execOp, ho, hx, hy, Sem.run_bind, run_eqGuard_agg _ _ _ _ _ _ _ guardWt, Result.andThen_ok, run_neq_struct, show (10000 : Nat) = 9998 + 2 from rfl, run_eqWt]
  rfl
def eqAct (x y : Opr) : Bool := ([(x.key.toList == y.key.toList), (x.cmd.toList == y.cmd.toList), (x.need.toList == y.need.toList)] : List Bool).all id
theorem run_eqAct (d : Nat) (x y : Opr) (w : World) : (Op.equalIn (d + 2) 51 (.agg #[.string x.key, .string x.cmd, .string x.need]) (.agg #[.string y.key, .string y.cmd, .string y.need])).run Tryz.prog w = .ok (eqAct x y) w := by
  rw [run_equalIn_agg w (d + 1) 51 _ _ (by kernel_rfl) (by kernel_rfl)]
  refine eqFields_flat _ _ _ _ _ _ ?_
  simp only [Program.fieldsOf, Tryz.underlying51]
  exact ⟨⟨by decide, (.string x.key), (.string y.key), by go_simp, by go_simp, by (go_simp; try simp)⟩, ⟨by decide, (.string x.cmd), (.string y.cmd), by go_simp, by go_simp, by (go_simp; try simp)⟩, ⟨by decide, (.string x.need), (.string y.need), by go_simp, by go_simp, by (go_simp; try simp)⟩, trivial⟩
def eqOp (x y : Opr) : Bool := ([(x.id == y.id), (x.tenant == y.tenant), (x.inv == y.inv), eqAct x y, (x.cost == y.cost), (x.cls == y.cls), (x.state == y.state), (x.att == y.att), (x.ret == y.ret), (x.pre == y.pre), (x.code == y.code), (x.ep == y.ep), (x.wk == y.wk), (x.dl == y.dl), (x.wake == y.wake), (x.st == y.st)] : List Bool).all id
theorem eqOp_iff {x y : Opr} : eqOp x y = true ↔ x = y := by
  constructor
  · intro h
    obtain ⟨x0, x1, x2, x3, x4, x5, x6, x7, x8, x9, x10, x11, x12, x13, x14, x15, x16, x17⟩ := x
    obtain ⟨y0, y1, y2, y3, y4, y5, y6, y7, y8, y9, y10, y11, y12, y13, y14, y15, y16, y17⟩ := y
    simp only [eqOp, eqAct, List.all_cons, List.all_nil, id, Bool.and_eq_true, Bool.and_true, beq_iff_eq] at h
    obtain ⟨h0, h1, h2, ⟨h3, h4, h5⟩, h6, h7, h8, h9, h10, h11, h12, h13, h14, h15, h16, h17⟩ := h
    have h3 := ba_list_inj h3
    have h4 := ba_list_inj h4
    have h5 := ba_list_inj h5
    subst h0 h1 h2 h3 h4 h5 h6 h7 h8 h9 h10 h11 h12 h13 h14 h15 h16 h17
    rfl
  · rintro rfl
    simp [eqOp, eqAct]
set_option maxHeartbeats 1000000 in
theorem run_eqOp (d : Nat) (x y : Opr) (w : World) : (Op.equalIn (d + 3) 53 (.agg (opA x)) (.agg (opA y))).run Tryz.prog w = .ok (eqOp x y) w := by
  rw [run_equalIn_agg w (d + 2) 53 _ _ (by kernel_rfl) (by kernel_rfl)]
  refine eqFields_flat _ _ _ _ _ _ ?_
  simp only [Program.fieldsOf, Tryz.underlying53]
  exact ⟨⟨by decide, (.int .i64 x.id), (.int .i64 y.id), by (simp only [opA]; go_simp), by (simp only [opA]; go_simp), by (go_simp; try simp)⟩, ⟨by decide, (.int .i64 x.tenant), (.int .i64 y.tenant), by (simp only [opA]; go_simp), by (simp only [opA]; go_simp), by (go_simp; try simp)⟩, ⟨by decide, (.int .i64 x.inv), (.int .i64 y.inv), by (simp only [opA]; go_simp), by (simp only [opA]; go_simp), by (go_simp; try simp)⟩, ⟨by decide, (.agg #[.string x.key, .string x.cmd, .string x.need]), (.agg #[.string y.key, .string y.cmd, .string y.need]), by (simp only [opA]; go_simp; try simp), by (simp only [opA]; go_simp; try simp), run_eqAct d x y w⟩, ⟨by decide, (.int .i64 x.cost), (.int .i64 y.cost), by (simp only [opA]; go_simp), by (simp only [opA]; go_simp), by (go_simp; try simp)⟩, ⟨by decide, (.int .i64 x.cls), (.int .i64 y.cls), by (simp only [opA]; go_simp), by (simp only [opA]; go_simp), by (go_simp; try simp)⟩, ⟨by decide, (.int .i64 x.state), (.int .i64 y.state), by (simp only [opA]; go_simp), by (simp only [opA]; go_simp), by (go_simp; try simp)⟩, ⟨by decide, (.int .i64 x.att), (.int .i64 y.att), by (simp only [opA]; go_simp), by (simp only [opA]; go_simp), by (go_simp; try simp)⟩, ⟨by decide, (.int .i64 x.ret), (.int .i64 y.ret), by (simp only [opA]; go_simp), by (simp only [opA]; go_simp), by (go_simp; try simp)⟩, ⟨by decide, (.int .i64 x.pre), (.int .i64 y.pre), by (simp only [opA]; go_simp), by (simp only [opA]; go_simp), by (go_simp; try simp)⟩, ⟨by decide, (.int .i64 x.code), (.int .i64 y.code), by (simp only [opA]; go_simp), by (simp only [opA]; go_simp), by (go_simp; try simp)⟩, ⟨by decide, (.int .i64 x.ep), (.int .i64 y.ep), by (simp only [opA]; go_simp), by (simp only [opA]; go_simp), by (go_simp; try simp)⟩, ⟨by decide, (.int .i64 x.wk), (.int .i64 y.wk), by (simp only [opA]; go_simp), by (simp only [opA]; go_simp), by (go_simp; try simp)⟩, ⟨by decide, (.int .u64 x.dl), (.int .u64 y.dl), by (simp only [opA]; go_simp), by (simp only [opA]; go_simp), by (go_simp; try simp)⟩, ⟨by decide, (.int .u64 x.wake), (.int .u64 y.wake), by (simp only [opA]; go_simp), by (simp only [opA]; go_simp), by (go_simp; try simp)⟩, ⟨by decide, (.int .u64 x.st), (.int .u64 y.st), by (simp only [opA]; go_simp), by (simp only [opA]; go_simp), by (go_simp; try simp)⟩, trivial⟩
theorem exec_neOp {a : Act} {op : Oper} {x y : Opr} {tr : TypeId} (s t : Operand) (ho : op.op = .binOp .neq 53 s t tr) (hx : a.eval s = .agg (opA x)) (hy : a.eval t = .agg (opA y)) (w : World) : (execOp a.eval op).run Tryz.prog w = .ok (.value (.bool (!eqOp x y))) w := by
  simp only [execOp, ho, hx, hy, Sem.run_bind, run_eqGuard_agg _ _ _ _ _ _ _ op_guard, Result.andThen_ok, run_neq_struct, show (10000 : Nat) = 9997 + 3 from rfl, run_eqOp]
  rfl
structure Rwh where
  key : ByteArray
  h : Nat → Int
def histA (x : Rwh) : Array Value := #[.int .i64 (x.h 0), .int .i64 (x.h 1), .int .i64 (x.h 2), .int .i64 (x.h 3), .int .i64 (x.h 4), .int .i64 (x.h 5), .int .i64 (x.h 6), .int .i64 (x.h 7), .int .i64 (x.h 8), .int .i64 (x.h 9), .int .i64 (x.h 10), .int .i64 (x.h 11), .int .i64 (x.h 12), .int .i64 (x.h 13), .int .i64 (x.h 14), .int .i64 (x.h 15)]
def rwA (x : Rwh) : Array Value := #[.string x.key, .int .i64 (x.h 0), .int .i64 (x.h 1), .int .i64 (x.h 2), .int .i64 (x.h 3), .int .i64 (x.h 4), .int .i64 (x.h 5), .int .i64 (x.h 6), .int .i64 (x.h 7), .int .i64 (x.h 8), .int .i64 (x.h 9), .int .i64 (x.h 10), .int .i64 (x.h 11), .int .i64 (x.h 12), .int .i64 (x.h 13), .int .i64 (x.h 14), .int .i64 (x.h 15)]
def eqHist (x y : Rwh) : Bool := (List.range 16).all fun i => x.h i == y.h i
def eqRw (x y : Rwh) : Bool := ([(x.key.toList == y.key.toList), eqHist x y] : List Bool).all id
theorem eqRw_self (x : Rwh) : eqRw x x = true := by simp [eqRw, eqHist]
theorem eqItems_flat {P : Program} (d : Nat) (e : TypeId) (c : Nat) (xs ys : Array Value) (w : World) (g : Nat → Bool) : ∀ (is : List Nat), (∀ i ∈ is, ∃ u v, (part e xs (i * c)).run P w = .ok u w ∧ (part e ys (i * c)).run P w = .ok v w ∧ (Op.equalIn d e u v).run P w = .ok (g i) w) → (Op.eqItems d e c xs ys is).run P w = .ok (is.all g) w
  | [], _ => by simp [Op.eqItems]
  | i :: is, h => by
    obtain ⟨u, v, h1, h2, h3⟩ := h i (by simp)
    have ih := eqItems_flat d e c xs ys w g is (fun j hj => h j (by simp [hj]))
    rw [Op.eqItems]
    simp only [Sem.run_bind, h1, h2, Result.andThen_ok, h3]
    cases hg : g i
    · simp [hg]
    · simp only [Bool.not_true, Bool.false_eq_true, if_false]
      rw [ih]
      simp [hg]
theorem histA_at (x : Rwh) {i : Nat} (h : i < 16) : (histA x)[i]? = some (.int .i64 (x.h i)) := by
  have : i = 0 ∨ i = 1 ∨ i = 2 ∨ i = 3 ∨ i = 4 ∨ i = 5 ∨ i = 6 ∨ i = 7 ∨ i = 8 ∨ i = 9 ∨ i = 10 ∨ i = 11 ∨ i = 12 ∨ i = 13 ∨ i = 14 ∨ i = 15 := by omega
  rcases this with rfl | rfl | rfl | rfl | rfl | rfl | rfl | rfl | rfl | rfl | rfl | rfl | rfl | rfl | rfl | rfl <;> rfl
theorem int_plain : Tryz.prog.plainKey 3 = true := by kernel_rfl
theorem int_one : Tryz.prog.cellsOf 3 = 1 := by kernel_rfl
theorem int_infoE : ∃ i, Tryz.prog.info? 3 = some i := Option.isSome_iff_exists.1 (by kernel_rfl)
theorem run_eqHist (d : Nat) (x y : Rwh) (w : World) : (Op.equalIn (d + 2) 85 (.agg (histA x)) (.agg (histA y))).run Tryz.prog w = .ok (eqHist x y) w := by
  obtain ⟨i, hi⟩ := int_infoE
  rw [run_equalIn_array w (d + 1) (histA x) (histA y) Tryz.underlying85 hi, int_one]
  refine eqItems_flat _ _ _ _ _ _ (fun i => x.h i == y.h i) _ (fun j hj => ?_)
  have hj' : j < 16 := List.mem_range.1 hj
  refine ⟨_, _, run_part_plain w int_plain (by rw [Nat.mul_one]; exact histA_at x hj'), run_part_plain w int_plain (by rw [Nat.mul_one]; exact histA_at y hj'), ?_⟩
  exact run_equalIn_int w d 3 .i64 .i64 _ _ Tryz.underlying3
theorem run_eqRw (d : Nat) (x y : Rwh) (w : World) : (Op.equalIn (d + 3) 87 (.agg (rwA x)) (.agg (rwA y))).run Tryz.prog w = .ok (eqRw x y) w := by
  rw [run_equalIn_agg w (d + 2) 87 _ _ (by kernel_rfl) (by kernel_rfl)]
  refine eqFields_flat _ _ _ _ _ _ ?_
  simp only [Program.fieldsOf, Tryz.underlying87]
  exact ⟨⟨by decide, (.string x.key), (.string y.key), by (simp only [rwA]; go_simp), by (simp only [rwA]; go_simp), by (go_simp; try simp)⟩, ⟨by decide, (.agg (histA x)), (.agg (histA y)), by (simp only [rwA, histA]; go_simp; try simp), by (simp only [rwA, histA]; go_simp; try simp), run_eqHist d x y w⟩, trivial⟩
theorem guardRw : Tryz.prog.eqGuardType Tryz.prog.depth 87 = false := by kernel_rfl
theorem exec_neRw {a : Act} {op : Oper} {x y : Rwh} {tr : TypeId} (s t : Operand) (ho : op.op = .binOp .neq 87 s t tr) (hx : a.eval s = .agg (rwA x)) (hy : a.eval t = .agg (rwA y)) (w : World) : (execOp a.eval op).run Tryz.prog w = .ok (.value (.bool (!eqRw x y))) w := by
  simp only [execOp, ho, hx, hy, Sem.run_bind, run_eqGuard_agg _ _ _ _ _ _ _ guardRw, Result.andThen_ok, run_neq_struct, show (10000 : Nat) = 9997 + 3 from rfl, run_eqRw]
  rfl
end Go.Proofs.YtjmlimogmmikoaaGreatDoor
namespace Go.Proofs.YtjmlimogmmikoaaGreatDoor
open Go.RowKit
def SlAt (w : World) (v : Value) (n : Nat) (us : List Value) : Prop := ∃ a cap, v = .slice a n cap ∧ n ≤ cap ∧ ∀ (j : Nat) u, us[j]? = some u → ∃ g off, a = some ⟨g, off, none⟩ ∧ w.cell? ⟨g, off + j, none⟩ = some u
theorem SlAt.form {w : World} {v : Value} {n : Nat} {us : List Value} (h : SlAt w v n us) : ∃ a cap, v = .slice a n cap ∧ n ≤ cap := by
  obtain ⟨a, cap, hv, hle, _⟩ := h
  exact ⟨a, cap, hv, hle⟩
theorem SlAt.below {w w' : World} {v : Value} {n : Nat} {us : List Value} (h : SlAt w v n us) (hb : Below w.heap.size w w') : SlAt w' v n us := by
  obtain ⟨a, cap, rfl, hle, hc⟩ := h
  exact ⟨a, cap, rfl, hle, fun j u hu => by obtain ⟨g, off, ha, h0⟩ := hc j u hu; exact ⟨g, off, ha, cell_below hb h0⟩⟩
theorem sl_own {T : TypeId} {w : World} {base K : Nat} {v : Value} {n : Nat} {us : List Value} (h : w.ownsRow base T K v n us) : SlAt w v n us := by
  obtain ⟨a, cap, rfl, hle, _, _, hc⟩ := own_cells h
  exact ⟨a, cap, rfl, hle, fun j u hu => by obtain ⟨g, ha, _, _, h0, _⟩ := hc j u hu; exact ⟨g, 0, ha, by rw [Nat.zero_add]; exact h0⟩⟩
theorem SlAt.at {α : Type} {enc : α → List Value} {K : Nat} {w : World} {v : Value} {l : List α} (h : SlAt w v l.length (l.flatMap enc)) (hK : ∀ x, (enc x).length = K) (h0 : 0 < K) {k : Nat} {x : α} (hx : l[k]? = some x) : ∃ g off cap, v = .slice (some ⟨g, off, none⟩) l.length cap ∧ l.length ≤ cap ∧ ∀ i u, (enc x)[i]? = some u → w.cell? ⟨g, off + k * K + i, none⟩ = some u := by
  obtain ⟨a, cap, rfl, hle, hc⟩ := h
  have key : ∀ i u, (enc x)[i]? = some u → (l.flatMap enc)[k * K + i]? = some u := fun i u hu => by
    have hi : i < K := by rw [← hK x]; exact (List.getElem?_eq_some_iff.1 hu).1
    rw [flat_at enc K hK i hx hi]
    exact hu
  obtain ⟨g, off, rfl, _⟩ := hc _ _ (key 0 _ (List.getElem?_eq_getElem (by rw [hK]; exact h0)))
  refine ⟨g, off, cap, rfl, hle, fun i u hu => ?_⟩
  obtain ⟨g', off', he, h1⟩ := hc _ _ (key i u hu)
  cases he
  rw [Nat.add_assoc]
  exact h1
end Go.Proofs.YtjmlimogmmikoaaGreatDoor
