/-
  billetref29.Same, worker.Load: the walks.
  worker.Load: the walk.
  billetref29.Right: the walk.
  WorkerLoads: the walk.
  action.Of and the document's.
  action.Right and the document's.
  Operations: how one lies in memory; tried, of, New: the walks.
  What becomes of an operation: to, Grant, Wake: the walks.
  Two operations that are the same: what '==' tells.
  state: rule 4, of nobody, and of one worker that has an operation that is not live: the walks.
  state: the first rule that does not hold: IndexFunc over the rules; Wrong of a state that has nothing, and of one whose worker has an operation that is not live: the walks.
-/
import Derived.Test.YtjmlimogmmikoaaGreatDoorSe06
import Derived.BigRegion
import Derived.Test.YtjmlimogmmikoaaGreatDoorSe04
import Derived.Test.YtjmlimogmmikoaaGreatDoorSe03
import Derived.Deep.DeepCutAuto
import Derived.Test.YtjmlimogmmikoaaGreatDoorSe05
namespace Go.Proofs.YtjmlimogmmikoaaGreatDoor
open Go.RowKit
theorem take_one {α : Type} {l : List α} {k : Nat} {x : α} (h : l[k]? = some x) : l.take (k + 1) = l.take k ++ [x] := by
  rw [List.take_add_one, h]
  rfl
/-! ### Which workers are a book -/
def pL (l : List Wk) (k : Nat) : Int := if k = 0 then 0 else ((l[k - 1]?).map Wk.no).getD 0
theorem pL_succ {l : List Wk} {k : Nat} {x : Wk} (h : l[k]? = some x) : pL l (k + 1) = x.no := by simp [pL, h]
structure OkW (last : Int) (l : List Wk) (k : Nat) (x : Wk) : Prop where
  chk : chkE x = 0
  plat : ((ba (chkS x)).toList == x.plat.toList) = true
  new : ∀ y ∈ l.take k, nmB x.name y = false
  rise : pL l k < x.no
  most : x.no ≤ last
  op : 0 ≤ x.op
def AllW (last : Int) (l : List Wk) (k : Nat) : Prop := ∀ (j : Nat) x, j < k → l[j]? = some x → OkW last l j x
def LoadsW (room : Int) (l : List Wk) (last : Int) : Prop := 1 ≤ room ∧ (l.length : Int) ≤ room ∧ 0 ≤ last ∧ AllW last l l.length
theorem all_succ {last : Int} {l : List Wk} {k : Nat} {x : Wk} (h : AllW last l k) (hx : l[k]? = some x) (ho : OkW last l k x) : AllW last l (k + 1) := by
  intro j y hj hy
  rcases Nat.lt_or_ge j k with h1 | h1
  · exact h j y h1 hy
  · obtain rfl : j = k := by omega
    obtain rfl : x = y := Option.some.inj (hx.symm.trans hy)
    exact ho
theorem not_all {room last : Int} {l : List Wk} {k : Nat} {x : Wk} (hx : l[k]? = some x) (h : ¬ OkW last l k x) : ¬ LoadsW room l last := fun hl => h (hl.2.2.2 k x (List.getElem?_eq_some_iff.1 hx).1 hx)
theorem findI_new {p : Wk → Bool} {l : List Wk} (h : ∀ y ∈ l, p y = false) : findI p l = -1 := findI_none (fun _ y _ hy => h y (List.mem_of_getElem? hy))
theorem findI_old {p : Wk → Bool} {l : List Wk} (h : ¬ ∀ y ∈ l, p y = false) : decide (0 ≤ findI p l) = true := by
  rcases findI_cases p l with ⟨_, h1⟩ | ⟨k, x, h1, _, _⟩
  · exact absurd h1 h
  · rw [h1]; exact decide_eq_true (by omega)
def LoadPost (room : Int) (l : List Wk) (last : Int) (w : World) (e : Ending) (w' : World) : Prop :=
  (¬ LoadsW room l last ∧ e = .returned (.tuple #[.pointer none, .bool false]) ∧ Below w.heap.size w w') ∨
  (LoadsW room l last ∧ e = .returned (.tuple #[.pointer (some ⟨w.heap.size, 0, none⟩), .bool true]) ∧ ∃ v, BookAt 227 w.heap.size w' w.heap.size v ⟨room, last, l⟩ ∧ Below w.heap.size w w')
def LRel (room last : Int) (l : List Wk) (w : World) (i : Value) (wr : World) : Prop :=
  ∃ (k : Nat) (v : Value), i = .int .i64 k ∧ k ≤ l.length ∧ AllW last l k ∧ BookAt 227 w.heap.size wr w.heap.size v ⟨room, pL l k, l.take k⟩ ∧ Below w.heap.size w wr
end Go.Proofs.YtjmlimogmmikoaaGreatDoor
namespace Go.Proofs.YtjmlimogmmikoaaGreatDoor
open Go.RowKit
set_option maxRecDepth 100000 in
set_option maxHeartbeats 1000000 in
theorem load_room (room last : Int) (v0 : Value) (l : List Wk) (w : World) (hR : RowsW w v0 l) (h : room < 1) :
    Calls Tryz.prog 76 #[.int .i64 room, v0, .int .i64 last] w (LoadPost room l last w) := by
  obtain ⟨a, cap, rfl, hl, -⟩ := hR
  have HN := Lib.hid (show ¬ LoadsW room l last from fun h2 => by have := h2.1; omega)
  go_enter Tryz.func76, Tryz.ntmps76
  go_wp2_with fail
  refine (new_none room _ h).mono ?_
  rintro e w1 ⟨rfl, rfl⟩
  go_wp2
  go_ret2
  exact .inl ⟨HN.out, rfl, Below.refl _ _⟩
set_option maxRecDepth 100000 in
set_option maxHeartbeats 1000000 in
theorem load_many (room last : Int) (v0 : Value) (l : List Wk) (w : World) (hR : RowsW w v0 l) (h : 1 ≤ room) (h2 : room < (l.length : Int)) :
    Calls Tryz.prog 76 #[.int .i64 room, v0, .int .i64 last] w (LoadPost room l last w) := by
  obtain ⟨a, cap, rfl, hl, -⟩ := hR
  have HN := Lib.hid (show ¬ LoadsW room l last from fun h3 => by have := h3.2.1; have := h3.2.2.1; omega)
  go_enter Tryz.func76, Tryz.ntmps76
  go_wp2_with fail
  refine (new_some room _ h).mono ?_
  rintro e w1 ⟨rfl, rfl⟩
  go_wp2
  go_ret2
  exact .inl ⟨HN.out, rfl, box_below⟩
set_option maxRecDepth 100000 in
set_option maxHeartbeats 1000000 in
theorem load_neg (room last : Int) (v0 : Value) (l : List Wk) (w : World) (hR : RowsW w v0 l) (h : 1 ≤ room) (h1 : (l.length : Int) ≤ room) (h2 : last < 0) :
    Calls Tryz.prog 76 #[.int .i64 room, v0, .int .i64 last] w (LoadPost room l last w) := by
  obtain ⟨a, cap, rfl, hl, -⟩ := hR
  have HN := Lib.hid (show ¬ LoadsW room l last from fun h3 => by have := h3.2.1; have := h3.2.2.1; omega)
  go_enter Tryz.func76, Tryz.ntmps76
  go_wp2_with fail
  refine (new_some room _ h).mono ?_
  rintro e w1 ⟨rfl, rfl⟩
  go_wp2
  go_ret2
  exact .inl ⟨HN.out, rfl, box_below⟩
set_option maxRecDepth 100000 in
set_option maxHeartbeats 8000000 in
theorem loadGo_any (room last : Int) (v0 : Value) (l : List Wk) (w : World) (hr : Ready w) (hR : RowsW w v0 l) (hs : ∀ x ∈ l, SmallW x) (h : 1 ≤ room) (h1 : (l.length : Int) ≤ room) (h2 : 0 ≤ last) (h3 : l.length ≤ 40) :
    Calls Tryz.prog 76 #[.int .i64 room, v0, .int .i64 last] w (LoadPost room l last w) := by
  have HR := Lib.hid hr
  obtain ⟨a, cap, rfl, hl, hcell⟩ := hR
  have HC := Lib.hid hcell
  have HS := Lib.hid hs
  clear hr hcell hs
  go_enter Tryz.func76, Tryz.ntmps76
  go_wp2_with fail
  refine (new_some room _ h).mono ?_
  rintro e w1 ⟨rfl, rfl⟩
  go_wp2_with fail
  go_loopw [31] (fun i wr => LRel room last l w i wr) (fun i _ => l.length - (intOf i).toNat)
  case atStart => exact ⟨0, _, rfl, Nat.zero_le _, (fun j x hj => by omega), new_book room w, box_below⟩
  case round =>
    obtain ⟨k, v, rfl, hk, hall, hB, hb⟩ := hrel
    have HA := Lib.hid hB
    have HB := Lib.hid hb
    have HALL := Lib.hid hall
    have hszw := hb.size
    have hgt : w.heap.size < wr.heap.size := hB.lt
    clear hB hb hall
    by_cases hlt : k < l.length
    · obtain ⟨x, hx⟩ : ∃ x, l[k]? = some x := ⟨_, List.getElem?_eq_getElem hlt⟩
      obtain ⟨g, off, rfl, c0, c1, c2, c3, c4, c5, c6⟩ := RowsW.at HC.out hx
      have HSX := Lib.hid (HS.out x (List.mem_of_getElem? hx))
      have d0 := cell_below HB.out c0
      have d1 := cell_below HB.out c1
      have d2 := cell_below HB.out c2
      have d3 := cell_below HB.out c3
      have d4 := cell_below HB.out c4
      have d5 := cell_below HB.out c5
      have d6 := cell_below HB.out c6
      have HX := Lib.hid hx
      clear hx c0 c1 c2 c3 c4 c5 c6
      go_wp2_with fail
      refine (wkcheck_any x _ (HR.out.below (HB.out.trans (box_below.mono hszw))) HSX.out).mono ?_
      rintro e w1 ⟨rfl, hb1⟩
      have HB1 := Lib.hid (box_below.trans (hb1.mono (by simp)))
      have hz1 : wr.heap.size < w1.heap.size := by have := hb1.size; simp at this; omega
      have m0 : w1.cell? ⟨wr.heap.size, 0, none⟩ = some (.int .i64 x.no) := cell_below hb1 (by simp)
      have m1 : w1.cell? ⟨wr.heap.size, 1, none⟩ = some (.int .i64 x.cls) := cell_below hb1 (by simp)
      have m2 : w1.cell? ⟨wr.heap.size, 2, none⟩ = some (.int .i64 x.op) := cell_below hb1 (by simp)
      have m3 : w1.cell? ⟨wr.heap.size, 3, none⟩ = some (.string x.name) := cell_below hb1 (by simp)
      have m4 : w1.cell? ⟨wr.heap.size, 4, none⟩ = some (.string x.plat) := cell_below hb1 (by simp)
      have m5 : w1.cell? ⟨wr.heap.size, 5, none⟩ = some (.bool x.paused) := cell_below hb1 (by simp)
      have m6 : w1.cell? ⟨wr.heap.size, 6, none⟩ = some (.int .u64 x.untl) := cell_below hb1 (by simp)
      clear hb1 d0 d1 d2 d3 d4 d5 d6
      go_wp2_with fail
      refine (nmGet_any x.name _ (HA.out.below HB1.out)).mono ?_
      rintro e w2 ⟨rfl, hb2⟩
      have HB2 := Lib.hid (HB1.out.trans (hb2.mono HB1.out.size))
      have hz2 : wr.heap.size < w2.heap.size := by have := hb2.size; omega
      have n0 := cell_below hb2 m0
      have n1 := cell_below hb2 m1
      have n2 := cell_below hb2 m2
      have n3 := cell_below hb2 m3
      have n4 := cell_below hb2 m4
      have n5 := cell_below hb2 m5
      have n6 := cell_below hb2 m6
      clear hb2 m0 m1 m2 m3 m4 m5 m6
      generalize hG : atW ({ room := room, last := pL l k, ws := l.take k } : Bk).ws (findI (nmB x.name) ({ room := room, last := pL l k, ws := l.take k } : Bk).ws) = gw at *
      generalize hO : decide (0 ≤ findI (nmB x.name) ({ room := room, last := pL l k, ws := l.take k } : Bk).ws) = ok at *
      have HO := Lib.hid (show decide (0 ≤ findI (nmB x.name) (l.take k)) = ok from hO)
      clear hG hO
      obtain ⟨w3, hw3⟩ : ∃ w3 : World, w3 = w2.alloc (.cells #[.int .i64 gw.no, .int .i64 gw.cls, .int .i64 gw.op, .string gw.name, .string gw.plat, .bool gw.paused, .int .u64 gw.untl] 67) := ⟨_, rfl⟩
      have HB2' := Lib.hid (show Below wr.heap.size wr w3 by rw [hw3]; exact HB2.out.alloc HB2.out.size _)
      have HA3 := Lib.hid (HA.out.below HB2'.out)
      have HB3 := Lib.hid (HB.out.trans (HB2'.out.mono hszw))
      have hz3 : wr.heap.size < w3.heap.size := by rw [hw3]; simp; omega
      have q0 : w3.cell? ⟨wr.heap.size, 0, none⟩ = some (.int .i64 x.no) := by rw [hw3]; exact cell_below box_below n0
      have q1 : w3.cell? ⟨wr.heap.size, 1, none⟩ = some (.int .i64 x.cls) := by rw [hw3]; exact cell_below box_below n1
      have q2 : w3.cell? ⟨wr.heap.size, 2, none⟩ = some (.int .i64 x.op) := by rw [hw3]; exact cell_below box_below n2
      have q3 : w3.cell? ⟨wr.heap.size, 3, none⟩ = some (.string x.name) := by rw [hw3]; exact cell_below box_below n3
      have q4 : w3.cell? ⟨wr.heap.size, 4, none⟩ = some (.string x.plat) := by rw [hw3]; exact cell_below box_below n4
      have q5 : w3.cell? ⟨wr.heap.size, 5, none⟩ = some (.bool x.paused) := by rw [hw3]; exact cell_below box_below n5
      have q6 : w3.cell? ⟨wr.heap.size, 6, none⟩ = some (.int .u64 x.untl) := by rw [hw3]; exact cell_below box_below n6
      have g1 : w3.cell? ⟨w.heap.size, 1, none⟩ = some (.int .i64 (pL l k)) := HA3.out.c1
      have HW3 := Lib.hid hw3
      clear hw3 n0 n1 n2 n3 n4 n5 n6
      go_wp2_with fail
      rw [← HW3.out]
      clear HW3
      by_cases k0 : chkE x = 0
      · have k0b : (chkE x != 0) = false := by rw [k0]; rfl
        rcases k1 : ((ba (chkS x)).toList == x.plat.toList) with _ | _
        · have k1b : ((ba (chkS x)).toList != x.plat.toList) = true := by rw [bne, k1]; rfl
          have HN := Lib.hid (not_all (room := room) (last := last) HX.out (fun ho => by have := ho.plat; rw [k1] at this; cases this))
          clear k0
          go_quiet (fail)
          go_wp2_with fail
          go_ret2
          exact .inl ⟨HN.out, rfl, below_drewN HB3.out _⟩
        · have k1b : ((ba (chkS x)).toList != x.plat.toList) = false := by rw [bne, k1]; rfl
          by_cases k2 : ∀ y ∈ l.take k, nmB x.name y = false
          · obtain rfl : false = ok := by rw [← HO.out, findI_new k2]; rfl
            have HK2 := Lib.hid k2
            have HK0 := Lib.hid k0
            have HK1 := Lib.hid k1
            clear k0 k2
            by_cases k3 : pL l k < x.no
            · by_cases k4 : x.no ≤ last
              · by_cases k5 : 0 ≤ x.op
                · have HOK := Lib.hid (show OkW last l k x from ⟨HK0.out, HK1.out, HK2.out, k3, k4, k5⟩)
                  go_quiet (fail)
                  go_wp2_with fail
                  generalize hw4 : w3.drewN _ = w4 at *
                  have HB34 := Lib.hid (show Below w3.heap.size w3 w4 by rw [← hw4]; exact below_drewN (Below.refl _ _) _)
                  have HA4 := Lib.hid (HA3.out.below HB34.out)
                  have HB4 := Lib.hid (HB3.out.trans (HB34.out.mono HB3.out.size))
                  have hz4 : wr.heap.size < w4.heap.size := by have := HB34.out.size; omega
                  have r0 := cell_below HB34.out q0
                  have r1 := cell_below HB34.out q1
                  have r2 := cell_below HB34.out q2
                  have r3 := cell_below HB34.out q3
                  have r4 := cell_below HB34.out q4
                  have r5 := cell_below HB34.out q5
                  have r6 := cell_below HB34.out q6
                  have g2 : w4.cell? ⟨w.heap.size, 2, none⟩ = some v := HA4.out.c2
                  have hbw4 : w.heap.size < w4.heap.size := by omega
                  have HNB := Lib.hid (show v.ownBlock ≠ some w.heap.size from fun e => HA4.out.not_blk (by decide) (mem_blk.2 e))
                  have HO4 := Lib.hid (show w4.ownsRow w.heap.size 67 7 v (l.take k).length (flatW (l.take k)) from HA4.out.own)
                  have hlk : (l.take k).length = k := by rw [List.length_take]; omega
                  rw [hlk] at HO4
                  obtain ⟨i0, hi0, hz0, hz1', hz2'⟩ := info_parts worker_info
                  have h1x : ∀ u ∈ encW x, u.oneCell' = true := encW_one _
                  obtain ⟨gg, gcap, w9, hrun, hown9, hgrow, hat, hlt9⟩ := run_append_lies (P := Tryz.prog) (w := (w4.alloc (.cells (encW x).toArray 67)).drew) 28 28 w.heap.size 67 i0 _ 7 72 Tryz.underlying28 hi0 hz0 hz1' hz2' rfl (by omega) v k (flatW (l.take k)) ((HO4.out.alloc _).drew)
                    ⟨w4.heap.size, 0, none⟩ 1 1 (encW x) rfl (World.news_of_block (cs := (encW x).toArray) (t := 67) (fr := (0, 0)) (heap_alloc_new w4 _)) h1x (by omega) (by unfold maxLen; omega) (by omega) (by show w.heap.size ≤ (w4.alloc _).heap.size; simp; omega) (w4.heap.size + 1) (by show (w4.alloc _).heap.size = _; simp)
                  have HO9 := Lib.hid (show w9.ownsRow w.heap.size 67 7 (.slice (some ⟨gg, 0, none⟩) (k + 1) gcap) (k + 1) (flatW (l.take (k + 1))) by rw [take_one HX.out, flatW_snoc]; exact hown9)
                  have HF9 := Lib.hid (show Fr (w.heap.size :: blk v) w4 w9 from ((Fr.refl _ w4).alloc _).drew.grown hgrow (fun j hj => .inl (List.mem_cons_of_mem _ (mem_blk.2 hj))))
                  have HAT := Lib.hid hat
                  have HGE := Lib.hid (book_ge HA4.out)
                  have hnx : wr.heap.size ∉ w.heap.size :: blk v := was_far (m := wr.heap.size) HA4.out HA.out hgt (Nat.le_refl _)
                  have s0 := HF9.out.cell r0 hnx
                  have hh9 : w9.heap[w.heap.size]? = some (.cells #[.int .i64 room, .int .i64 (pL l k), v] 227 (0, 0)) := (hgrow.block w.heap.size (by show w.heap.size < (w4.alloc _).heap.size; simp; omega) (Ne.symm HNB.out)).trans (fr_alloc_old HA4.out.heap)
                  have k2' : w9.cell? ⟨w.heap.size, 2, none⟩ = some v := fr_cell_of_heap hh9 rfl
                  have k1' : w9.cell? ⟨w.heap.size, 1, none⟩ = some (.int .i64 (pL l k)) := fr_cell_of_heap hh9 rfl
                  have f9 : w9.frozen? ⟨w.heap.size, 2, none⟩ = false := fr_free_of_heap hh9
                  have f91 : w9.frozen? ⟨w.heap.size, 1, none⟩ = false := fr_free_of_heap hh9
                  have HH9 := Lib.hid hh9
                  have hngg : w.heap.size ≠ gg := by
                    rcases hat with h | h
                    · intro e; rw [← e] at h; exact HNB.out h
                    · omega
                  have HNGG := Lib.hid hngg
                  have hne9 : wr.heap.size ≠ w.heap.size := by omega
                  have HLK := Lib.hid hlk
                  have HW4 := Lib.hid hw4
                  simp only [encW] at hrun
                  simp [go_sem] at hrun
                  clear hown9 hgrow hat hh9 h1x hi0 hz0 hz1' hz2' hlk hnx hngg q0 q1 q2 q3 q4 q5 q6 g1 hw4
                  go_region
                  clear hrun
                  go_wp2_with fail
                  have HFIN := Lib.hid ((book_put (s := ⟨room, pL l k, l.take k⟩) (T := 227) (Nat.le_refl _) HH9.out (v' := .slice (some ⟨gg, 0, none⟩) (k + 1) gcap) (l := l.take (k + 1)) (by rw [show (l.take (k + 1)).length = k + 1 by rw [List.length_take]; omega]; exact HO9.out) (by rw [blk_slice]; simp; exact HNGG.out) (by rw [List.length_take]; omega)).setLast (by decide) x.no)
                  go_roundw
                  case rel =>
                    refine ⟨k + 1, .slice (some ⟨gg, 0, none⟩) (k + 1) gcap, by go_num, by omega, all_succ HALL.out HX.out HOK.out, ?_, ?_⟩
                    · rw [pL_succ HX.out]
                      exact HFIN.out
                    · exact ((HB4.out.trans (HF9.out.below (by omega) HGE.out)).setCell (by simp) _).setCell (by simp) _
                  case measure => simp [intOf]; omega
                · have HN := Lib.hid (not_all (room := room) (last := last) HX.out (fun ho => k5 ho.op))
                  go_quiet (fail)
                  go_wp2_with fail
                  go_ret2
                  exact .inl ⟨HN.out, rfl, below_drewN HB3.out _⟩
              · have HN := Lib.hid (not_all (room := room) (last := last) HX.out (fun ho => k4 ho.most))
                go_quiet (fail)
                go_wp2_with fail
                go_ret2
                exact .inl ⟨HN.out, rfl, below_drewN HB3.out _⟩
            · have HN := Lib.hid (not_all (room := room) (last := last) HX.out (fun ho => k3 ho.rise))
              have k3' : x.no ≤ pL l k := by omega
              clear k3
              go_quiet (fail)
              go_wp2_with fail
              go_ret2
              exact .inl ⟨HN.out, rfl, below_drewN HB3.out _⟩
          · obtain rfl : true = ok := by rw [← HO.out, findI_old k2]
            have HN := Lib.hid (not_all (room := room) (last := last) HX.out (fun ho => k2 ho.new))
            clear k0 k2
            go_quiet (fail)
            go_wp2_with fail
            go_ret2
            exact .inl ⟨HN.out, rfl, below_drewN HB3.out _⟩
      · have k0b : (chkE x != 0) = true := by rw [bne_iff_ne]; exact k0
        have HN := Lib.hid (not_all (room := room) (last := last) HX.out (fun ho => k0 ho.chk))
        clear k0
        go_quiet (fail)
        go_wp2_with fail
        go_ret2
        exact .inl ⟨HN.out, rfl, below_drewN HB3.out _⟩
    · obtain rfl : k = l.length := by omega
      have c1 := HA.out.c1
      have f1 := HA.out.free 1
      have HFIN := Lib.hid (HA.out.setLast (by decide) last)
      have HBF := Lib.hid (HB.out.setCell (p := ⟨w.heap.size, 1, none⟩) (Nat.le_refl _) (.int .i64 last))
      go_wp2_with fail
      go_ret2
      refine .inr ⟨⟨h, h1, h2, HALL.out⟩, rfl, v, ?_, HBF.out⟩
      have h4 := HFIN.out
      rw [List.take_length] at h4
      exact h4
end Go.Proofs.YtjmlimogmmikoaaGreatDoor
namespace Go.Proofs.YtjmlimogmmikoaaGreatDoor
open Go.RowKit
end Go.Proofs.YtjmlimogmmikoaaGreatDoor
namespace Go.Proofs.YtjmlimogmmikoaaGreatDoor
open Go.RowKit
theorem load_any (room last : Int) (v0 : Value) (l : List Wk) (w : World) (hr : Ready w) (hR : RowsW w v0 l) (hs : ∀ x ∈ l, SmallW x) (h3 : l.length ≤ 40) :
    Calls Tryz.prog 76 #[.int .i64 room, v0, .int .i64 last] w (LoadPost room l last w) := by
  by_cases h : room < 1
  · exact load_room room last v0 l w hR h
  · by_cases h1 : room < (l.length : Int)
    · exact load_many room last v0 l w hR (by omega) h1
    · by_cases h2 : last < 0
      · exact load_neg room last v0 l w hR (by omega) (by omega) h2
      · exact loadGo_any room last v0 l w hr hR hs (by omega) (by omega) (by omega) h3
end Go.Proofs.YtjmlimogmmikoaaGreatDoor
namespace Go.Proofs.YtjmlimogmmikoaaGreatDoor
open Go.RowKit
end Go.Proofs.YtjmlimogmmikoaaGreatDoor
namespace Go.Proofs.YtjmlimogmmikoaaGreatDoor
open Go.RowKit
end Go.Proofs.YtjmlimogmmikoaaGreatDoor
namespace Go.Proofs.YtjmlimogmmikoaaGreatDoor
open Go.RowKit
structure Opr where
  id : Int
  tenant : Int
  inv : Int
  key : ByteArray
  cmd : ByteArray
  need : ByteArray
  cost : Int
  cls : Int
  state : Int
  att : Int
  ret : Int
  pre : Int
  code : Int
  ep : Int
  wk : Int
  dl : Int
  wake : Int
  st : Int
theorem op_info : (Tryz.prog.info? 53).map (·.size) = some 18 := by kernel_rfl
end Go.Proofs.YtjmlimogmmikoaaGreatDoor
namespace Go.Proofs.YtjmlimogmmikoaaGreatDoor
open Go.RowKit
def opA (o : Opr) : Array Value := #[.int .i64 o.id, .int .i64 o.tenant, .int .i64 o.inv, .string o.key, .string o.cmd, .string o.need, .int .i64 o.cost, .int .i64 o.cls, .int .i64 o.state, .int .i64 o.att, .int .i64 o.ret, .int .i64 o.pre, .int .i64 o.code, .int .i64 o.ep, .int .i64 o.wk, .int .u64 o.dl, .int .u64 o.wake, .int .u64 o.st]
theorem opA_one (o : Opr) : (opA o).all (·.oneCell') = true := by simp [opA, Value.oneCell']
theorem opA_size (o : Opr) : (opA o).size = 18 := rfl
theorem opA_info (o : Opr) : (Tryz.prog.info? 53).map (·.size) = some (opA o).size := by rw [opA_size]; exact op_info
structure OpB (w w' : World) (g r : Nat) (os zs : Array Value) : Prop where
  below : Below w.heap.size w w'
  gl : w.heap.size ≤ g
  rl : w.heap.size ≤ r
  gr : g ≠ r
  op : w'.heap[g]? = some (.cells os 53 (0, 0))
  res : w'.heap[r]? = some (.cells zs 53 (0, 0))
theorem setRow_at {w : World} {g : Nat} {cs ds : Array Value} {t : TypeId} {fr : Nat × Nat} (h : w.heap[g]? = some (.cells cs t fr)) : (w.setRow g ds).heap[g]? = some (.cells ds t fr) := by
  simp only [World.setRow, Array.getElem?_modify, h]
  simp
theorem setRow_not {w : World} {g k : Nat} {ds : Array Value} (h : k ≠ g) : (w.setRow g ds).heap[k]? = w.heap[k]? := by
  simp only [World.setRow, Array.getElem?_modify]
  simp [Ne.symm h]
theorem below_setRow {B : Nat} {w w' : World} (h : Below B w w') {g : Nat} (hg : B ≤ g) (ds : Array Value) : Below B w (w'.setRow g ds) :=
  ⟨h.os, h.tape, h.output, by simpa [World.setRow] using h.size, fun k hk => (setRow_not (by omega)).trans (h.block k hk)⟩
theorem OpB.out {w w1 : World} {g r : Nat} {os zs : Array Value} (h : OpB w w1 g r os zs) (ds : Array Value) : OpB w (w1.setRow r ds) g r os ds :=
  ⟨below_setRow h.below h.rl ds, h.gl, h.rl, h.gr, (setRow_not h.gr).trans h.op, setRow_at h.res⟩
end Go.Proofs.YtjmlimogmmikoaaGreatDoor
namespace Go.Proofs.YtjmlimogmmikoaaGreatDoor
open Go.RowKit
theorem eqFields_self {P : Program} (d : Nat) (xs : Array Value) (w : World) : ∀ (fs : List Field), (∀ f ∈ fs, ∃ v, (part f.type xs f.offset).run P w = .ok v w ∧ (Op.equalIn d f.type v v).run P w = .ok true w) → (Op.eqFields d xs xs fs).run P w = .ok true w
  | [], _ => by simp [Op.eqFields]
  | f :: fs, h => by
    obtain ⟨v, h1, h2⟩ := h f (by simp)
    have ih := eqFields_self d xs w fs (fun g hg => h g (by simp [hg]))
    rw [Op.eqFields]
    split
    · simp only [Sem.run_bind, h1, Result.andThen_ok, h2, Bool.not_true, Bool.false_eq_true, if_false]
      exact ih
    · exact ih
end Go.Proofs.YtjmlimogmmikoaaGreatDoor
namespace Go.Proofs.YtjmlimogmmikoaaGreatDoor
open Go.RowKit
def opZ : Opr := ⟨0, 0, 0, ⟨#[]⟩, ⟨#[]⟩, ⟨#[]⟩, 0, 0, 0, 0, 0, 0, 0, 0, 0, 0, 0, 0⟩
theorem wpList_build0 {P : Program} {ops : Array Oper} {rest : List Oper} {o : Oper} {a : Act} {w : World} {Q : Exit → Act → World → Prop} (hg : o.guard = none) (t : TypeId) (ho : o.op = .build t #[]) {cells : Array Value} (hb : P.built t [] = some cells) (h : wpList P ops Q rest (a.put o.dst (.agg cells)) w) : wpList P ops Q (o :: rest) a w :=
  wpList_build hg t #[] ho (by simp [hb]) (by simpa [hb] using h)
theorem built_op0 : Tryz.prog.built 53 [] = some (opA opZ) := by kernel_rfl
set_option maxRecDepth 100000 in
set_option maxHeartbeats 2000000 in
theorem rfind_nil (lw id : Int) (ws tv lv : Value) (c : Cfg) (w : World) : Calls Tryz.prog 78 #[.agg (ckA lw ws tv lv c), .int .i64 id] w fun e w' => e = .returned (.tuple #[.agg (opA opZ), .bool false]) ∧ Below w.heap.size w w' := by
  have k7 : (ckA lw ws tv lv c)[7]? = some (.slice none 0 0) := rfl
  go_enter Tryz.func78, Tryz.ntmps78
  go_wp2_with fail
  refine (ixNilOp _ _).mono ?_
  rintro e w2 ⟨rfl, rfl⟩
  go_wp2_with (first
    | refine wpList_build0 rfl 53 rfl built_op0 ?_
    | (refine wpList_store_new rfl 53 _ _ rfl (w.heap.size + 1 + 1) ?a1 _ rfl rfl ?a2 ?a3 ?a4 ?_; (case a1 => simp); (case a2 => exact opA_info opZ); (case a3 => rfl); (case a4 => exact opA_one opZ)))
  refine bodyPost_ret (v := .tuple #[.agg (opA opZ), .bool false]) (results_row2 Tryz.results78 rfl rfl (heap_alloc_three _ _ _ _) Tryz.underlying53 rfl (opA_info opZ)) rfl ⟨rfl, ?_⟩
  exact (box_below.alloc (by simp) _).alloc (by simp; omega) _
theorem wkld_info : (Tryz.prog.info? 67).map (·.size) = some 7 := by kernel_rfl
theorem load_nothing (n : Int) (h : 1 ≤ n) : LoadsW n [] 0 := ⟨h, by simpa using (by omega : (0 : Int) ≤ n), Int.le_refl _, fun j x hj => absurd hj (by simp)⟩
theorem rows_nothing (w : World) : RowsW w (.slice none 0 0) [] := ⟨none, 0, rfl, Nat.zero_le _, fun j u hu => by simp [flatW] at hu⟩
set_option maxRecDepth 100000 in
set_option maxHeartbeats 2000000 in
theorem rworkers_nil (tv lv : Value) (c : Cfg) (w : World) (hr : Ready w) (h : 1 ≤ c.workers) : Calls Tryz.prog 24 #[.agg (ckA 0 (.slice none 0 0) tv lv c)] w (BoolPost true w) := by
  have HR := Lib.hid (hr.below (box_below (o := .cells (ckA 0 (.slice none 0 0) tv lv c) 72)))
  have k4 : (ckA 0 (.slice none 0 0) tv lv c)[4]? = some (.int .i64 0) := rfl
  have k7 : (ckA 0 (.slice none 0 0) tv lv c)[7]? = some (.slice none 0 0) := rfl
  have k9 : (ckA 0 (.slice none 0 0) tv lv c)[9]? = some (.slice none 0 0) := rfl
  have k32 : (ckA 0 (.slice none 0 0) tv lv c)[32]? = some (.int .i64 c.workers) := rfl
  have HL := Lib.hid (load_nothing c.workers h)
  clear hr h
  go_enter Tryz.func24, Tryz.ntmps24
  go_wp2_with fail
  refine (load_any c.workers 0 (.slice none 0 0) [] _ HR.out (rows_nothing _) (by simp) (by simp)).mono ?_
  rintro e w1 (⟨hn, -, -⟩ | ⟨-, rfl, v2, -, hb1⟩)
  · exact absurd HL.out hn
  have HB := Lib.hid ((box_below2 hb1).alloc (by have := hb1.size; simp at this; omega) (.cells #[.pointer (some ⟨w.heap.size + 1, 0, none⟩)] 131))
  have m7 := cell_below (hb1.alloc hb1.size (.cells #[.pointer (some ⟨w.heap.size + 1, 0, none⟩)] 131)) (cell_alloc_at (w := w) (t := 72) k7)
  have m9 := cell_below (hb1.alloc hb1.size (.cells #[.pointer (some ⟨w.heap.size + 1, 0, none⟩)] 131)) (cell_alloc_at (w := w) (t := 72) k9)
  clear hb1 k4 k7 k9 k32 HL HR
  go_wp2
  go_loopw [28] (fun i wr => i = .int .i64 0 ∧ wr = w1.alloc (.cells #[.pointer (some ⟨w.heap.size + 1, 0, none⟩)] 131)) (fun i _ => 1)
  case atStart => exact ⟨rfl, rfl⟩
  case round =>
    obtain ⟨rfl, rfl⟩ := hrel
    go_wp2_with fail
    refine (hasNilOp _ _).mono ?_
    rintro e w2 ⟨rfl, rfl⟩
    go_wp2_with fail
    go_ret
    exact ⟨rfl, HB.out⟩
set_option maxRecDepth 100000 in
set_option maxHeartbeats 2000000 in
theorem rworkers_one (lw : Int) (g off cap : Nat) (tv lv : Value) (c : Cfg) (x : Wk) (w : World) (hr : Ready w) (hC0 : CfgAt w tv lv c) (hR0 : RowsW w (.slice (some ⟨g, off, none⟩) 1 cap) [x]) (hs : SmallW x) (hL : LoadsW c.workers [x] lw) (hcl : x.cls < classesV c) (hop : x.op ≠ 0) : Calls Tryz.prog 24 #[.agg (ckA lw (.slice (some ⟨g, off, none⟩) 1 cap) tv lv c)] w (BoolPost false w) := by
  have HR := Lib.hid (hr.below (box_below (o := .cells (ckA lw (.slice (some ⟨g, off, none⟩) 1 cap) tv lv c) 72)))
  have HRW := Lib.hid (hR0.below (box_below (o := .cells (ckA lw (.slice (some ⟨g, off, none⟩) 1 cap) tv lv c) 72)))
  have HC := Lib.hid (hC0.below (box_below (o := .cells (ckA lw (.slice (some ⟨g, off, none⟩) 1 cap) tv lv c) 72)))
  have k4 : (ckA lw (.slice (some ⟨g, off, none⟩) 1 cap) tv lv c)[4]? = some (.int .i64 lw) := rfl
  have k9 : (ckA lw (.slice (some ⟨g, off, none⟩) 1 cap) tv lv c)[9]? = some (.slice (some ⟨g, off, none⟩) 1 cap) := rfl
  have k32 : (ckA lw (.slice (some ⟨g, off, none⟩) 1 cap) tv lv c)[32]? = some (.int .i64 c.workers) := rfl
  have HL := Lib.hid hL
  have HS := Lib.hid hs
  clear hr hL hs
  go_enter Tryz.func24, Tryz.ntmps24
  go_wp2_with fail
  refine (load_any c.workers lw (.slice (some ⟨g, off, none⟩) 1 cap) [x] _ HR.out HRW.out (by simpa using HS.out) (by simp)).mono ?_
  rintro e w1 (⟨hn, -, -⟩ | ⟨-, rfl, v2, -, hb1⟩)
  · exact absurd HL.out hn
  have hbd : Below (w.alloc (.cells (ckA lw (.slice (some ⟨g, off, none⟩) 1 cap) tv lv c) 72)).heap.size (w.alloc (.cells (ckA lw (.slice (some ⟨g, off, none⟩) 1 cap) tv lv c) 72)) (w1.alloc (.cells #[.pointer (some ⟨w.heap.size + 1, 0, none⟩)] 131)) := hb1.alloc hb1.size _
  have HB := Lib.hid (show Below w.heap.size w (w1.alloc (.cells #[.pointer (some ⟨w.heap.size + 1, 0, none⟩)] 131)) from (box_below2 hb1).alloc (by have := hb1.size; simp at this; omega) _)
  have hHG : (w1.alloc (.cells #[.pointer (some ⟨w.heap.size + 1, 0, none⟩)] 131)).heap[w.heap.size]? = some (.cells (ckA lw (.slice (some ⟨g, off, none⟩) 1 cap) tv lv c) 72) := (hbd.block _ (by simp)).trans (heap_alloc_new w _)
  have hHG2 : ((w1.alloc (.cells #[.pointer (some ⟨w.heap.size + 1, 0, none⟩)] 131)).alloc (.cells (encW x).toArray 67)).heap[w.heap.size]? = some (.cells (ckA lw (.slice (some ⟨g, off, none⟩) 1 cap) tv lv c) 72) := fr_alloc_old hHG
  have HG2 := Lib.hid hHG2
  have m9 : (w1.alloc (.cells #[.pointer (some ⟨w.heap.size + 1, 0, none⟩)] 131)).cell? ⟨w.heap.size, 9, none⟩ = some (.slice (some ⟨g, off, none⟩) 1 cap) := fr_cell_of_heap hHG rfl
  have HRG := Lib.hid (show ((w1.alloc (.cells #[.pointer (some ⟨w.heap.size + 1, 0, none⟩)] 131)).alloc (.cells (encW x).toArray 67)).drew.rangeAt w.heap.size 15 (cfA tv lv c).toList from ck_cfg hHG2)
  have n5 : w.heap.size + 1 ≤ w1.heap.size := by have := hb1.size; simp at this; omega
  have HX1 := Lib.hid (show ((w1.alloc (.cells #[.pointer (some ⟨w.heap.size + 1, 0, none⟩)] 131)).alloc (.cells (encW x).toArray 67)).drew.cell? ⟨w1.heap.size + 1, 1, none⟩ = some (.int .i64 x.cls) from fr_cell_of_heap (w := (w1.alloc (.cells #[.pointer (some ⟨w.heap.size + 1, 0, none⟩)] 131)).alloc (.cells (encW x).toArray 67)) (heap_alloc_two w1 _ _) rfl)
  have HWB := Lib.hid (heap_alloc_two w1 (.cells #[.pointer (some ⟨w.heap.size + 1, 0, none⟩)] 131) (.cells (encW x).toArray 67))
  have hb2 : Below w.heap.size w ((w1.alloc (.cells #[.pointer (some ⟨w.heap.size + 1, 0, none⟩)] 131)).alloc (.cells (encW x).toArray 67)).drew := (HB.out.alloc HB.out.size _).drew
  have HB2 := Lib.hid hb2
  have HCF := Lib.hid (hC0.below hb2)
  have HRA := Lib.hid (show (w1.alloc (.cells #[.pointer (some ⟨w.heap.size + 1, 0, none⟩)] 131)).rangeAt g off (encW x) from fun j v hj => by
    obtain ⟨a, c2, hv, -, hcl⟩ := hR0
    cases hv
    obtain ⟨g', off', ha, h0⟩ := hcl j v (by simpa [flatW] using hj)
    cases ha
    exact cell_below HB.out h0)
  clear hb1 hbd hHG hHG2 k4 k9 k32 HL HR HC hb2 HRW
  go_wp2
  go_loopw [28] (fun i wr => i = .int .i64 0 ∧ wr = w1.alloc (.cells #[.pointer (some ⟨w.heap.size + 1, 0, none⟩)] 131)) (fun i _ => 1)
  case atStart => exact ⟨rfl, rfl⟩
  case round =>
    obtain ⟨rfl, rfl⟩ := hrel
    go_upto_region 7 with (first
      | (refine wpList_load_mid rfl 67 _ rfl g off rfl (encW x) _ HRA.out Tryz.underlying67 rfl wkld_info ?_)
      | (refine wpList_store_new rfl 67 _ _ rfl (w1.heap.size + 1) ?a1 _ rfl rfl ?a2 ?a3 ?a4 ?_; (case a1 => simp); (case a2 => exact wkld_info); (case a3 => rfl); (case a4 => simp [encW, Value.oneCell'])))
    refine wp_region_noPanic ?_
    refine wp_region_any (by kernel_rfl) ?_
    change wpAny _ _ _ _ _ _ _ (World.drew _)
    refine wpAny_of_held (S := (fun w2 => w2.rangeAt w.heap.size 15 (cfA tv lv c).toList ∧ w2.cell? ⟨w1.heap.size + 1, 1, none⟩ = some (.int .i64 x.cls))) _ _ _ _ ?_
    have hHeld : (fun w2 => w2.rangeAt w.heap.size 15 (cfA tv lv c).toList ∧ w2.cell? ⟨w1.heap.size + 1, 1, none⟩ = some (.int .i64 x.cls)) ((w1.alloc (.cells #[.pointer (some ⟨w.heap.size + 1, 0, none⟩)] 131)).alloc (.cells (encW x).toArray 67)).drew := ⟨HRG.out, HX1.out⟩
    refine wpAnyH_take (i := 0) (oi := ⟨some 32, _, _, _, _, _⟩) (v := ?_) rfl (by kernel_rfl) (by kernel_rfl) (by kernel_rfl) (fun _ _ _ h => h) (Or.inl ⟨by rfl, ?_⟩) (by assumption) ?_
    rotate_left 1
    · intro w hSw
      try dsimp only at hSw
      go_simp
      try with_reducible rfl
    try simp only [Act.put, List.setIfInBounds_toArray, List.set_cons_zero, List.set_cons_succ]
    refine wpAnyH_take (i := 1) (oi := ⟨some 33, _, _, _, _, _⟩) (v := ?_) rfl (by kernel_rfl) (by kernel_rfl) (by kernel_rfl) (fun _ _ _ h => h) (Or.inl ⟨by rfl, ?_⟩) (by assumption) ?_
    rotate_left 1
    · intro w hSw
      try dsimp only at hSw
      go_simp
      try with_reducible rfl
    try simp only [Act.put, List.setIfInBounds_toArray, List.set_cons_zero, List.set_cons_succ]
    refine wpAnyH_take (i := 2) (oi := ⟨some 34, _, _, _, _, _⟩) (v := ?_) rfl (by kernel_rfl) (by kernel_rfl) (by kernel_rfl) (fun _ _ _ h => h) (Or.inl ⟨by rfl, ?_⟩) (by assumption) ?_
    rotate_left 1
    · intro w hSw
      try dsimp only at hSw
      go_simp
      try with_reducible rfl
    try simp only [Act.put, List.setIfInBounds_toArray, List.set_cons_zero, List.set_cons_succ]
    refine wpAnyH_take (i := 3) (oi := ⟨some 35, _, _, _, _, _⟩) (v := _) rfl (by kernel_rfl) (by kernel_rfl) (by kernel_rfl) (fun _ _ _ h => h) (yieldsIf_load_mid (by rfl) 25 _ rfl w.heap.size 15 rfl (cfA tv lv c).toList _ (fun w hw => hw.1) Tryz.underlying25 rfl cfg_info) (by assumption) ?_
    try simp only [Act.put, List.setIfInBounds_toArray, List.set_cons_zero, List.set_cons_succ]
    refine wpAnyH_ready (rs := [4]) (by kernel_rfl) (by simp) ?_
    refine AllReadyH.cons (o := ⟨some 36, _, _, _, _, _⟩) rfl (fun K hK => ?_) AllReadyH.nil
    go_simp
    refine (classes_any _ tv lv c _ (cfA_cells tv lv c) HCF.out).mono ?_
    rintro e w6 ⟨rfl, hb6'⟩
    have hHeld6 : (fun w2 => w2.rangeAt w.heap.size 15 (cfA tv lv c).toList ∧ w2.cell? ⟨w1.heap.size + 1, 1, none⟩ = some (.int .i64 x.cls)) w6 := ⟨fun j v hj => cell_below hb6' (hHeld.1 j v hj), cell_below hb6' hHeld.2⟩
    refine hK.out _ _ hHeld6 (fun hHeld => ?_)
    clear hK K
    try simp only [Act.put, List.setIfInBounds_toArray, List.set_cons_zero, List.set_cons_succ]
    clear hHeld6
    refine wpAnyH_take (i := 5) (oi := ⟨some 37, _, _, _, _, _⟩) (v := ?_) rfl (by kernel_rfl) (by kernel_rfl) (by kernel_rfl) (fun _ _ _ h => h) (Or.inl ⟨by rfl, ?_⟩) (by assumption) ?_
    rotate_left 1
    · intro w hSw
      try dsimp only at hSw
      go_simp
      try with_reducible rfl
    try simp only [Act.put, List.setIfInBounds_toArray, List.set_cons_zero, List.set_cons_succ]
    refine wpAnyH_done (by kernel_rfl) ?_ _
    refine NoPanic.normal ?_
    clear hHeld
    have hG6 := (hb6'.block _ (by simp; omega)).trans HG2.out
    have HG6 := Lib.hid hG6
    have hW6 := (hb6'.block _ (by simp)).trans HWB.out
    have x2 : w6.cell? ⟨w1.heap.size + 1, 2, none⟩ = some (.int .i64 x.op) := fr_cell_of_heap hW6 rfl
    have HB6 := Lib.hid (HB2.out.trans (hb6'.mono HB2.out.size))
    have hlt : ¬ (classesV c ≤ x.cls) := by omega
    have hopb : (x.op != 0) = true := bne_iff_ne.2 hop
    clear hG6 hW6 hb6' HRA HCF HB2 HWB HX1 HRG m9 HG2 HB HS
    go_wp2_with (refine wpList_load_agg 72 HG6.out Tryz.underlying72 rfl ck_info rfl _ rfl rfl ?_)
    refine (rfind_nil lw x.op _ tv lv c _).mono ?_
    rintro e w7 ⟨rfl, hb7⟩
    have HB7 := Lib.hid (HB6.out.trans (hb7.mono HB6.out.size))
    have y2 := cell_below (hb7.alloc hb7.size (.cells (opA opZ) 53)) x2
    have y6 : (w7.alloc (.cells (opA opZ) 53)).cell? ⟨w7.heap.size, 8, none⟩ = some (.int .i64 0) := cell_alloc_at rfl
    have z6 : (opA opZ)[6]? = some (.int .i64 0) := rfl
    clear hb7 x2
    go_upto_region 10 with (refine wpList_store_new rfl 53 _ _ rfl w7.heap.size ?a1 _ rfl rfl ?a2 ?a3 ?a4 ?_; (case a1 => rfl); (case a2 => exact opA_info opZ); (case a3 => rfl); (case a4 => exact opA_one opZ))
    have HB8 := Lib.hid (HB7.out.alloc HB7.out.size (.cells (opA opZ) 53))
    clear z6
    generalize w7.alloc (.cells (opA opZ) 53) = w8 at y2 y6 HB8 ⊢
    go_wp2_with fail
    go_ret
    exact ⟨rfl, HB8.out⟩
end Go.Proofs.YtjmlimogmmikoaaGreatDoor
namespace Go.Proofs.YtjmlimogmmikoaaGreatDoor
open Go.RowKit
def RuleOk (b : Bool) (u : Value) (w : World) : Prop := ∀ w', Below w.heap.size w w' → Calls Tryz.prog 34 #[u] w' (BoolPost (!b) w')
set_option maxRecDepth 100000 in
set_option maxHeartbeats 2000000 in
theorem rulesix (fs : List Value) (r g : Nat) (w : World) (hl : fs.length = 12) (hr : r ≤ 12) (hc : ∀ (j : Nat) u, fs[j]? = some u → w.cell? ⟨g, j, none⟩ = some u)
    (h : ∀ (j : Nat) u, j < r → fs[j]? = some u → RuleOk true u w) (h2 : ∀ u, fs[r]? = some u → RuleOk false u w) :
    Calls Tryz.prog 33 #[.slice (some ⟨g, 0, none⟩) 12 12, .func (.func 34) #[] #[]] w fun e w' => e = .returned (.int .i64 (if r < 12 then (r : Int) else -1)) ∧ Below w.heap.size w w' := by
  have HC := Lib.hid hc
  have H := Lib.hid h
  have H2 := Lib.hid h2
  clear hc h h2
  go_enter Tryz.func33, Tryz.ntmps33
  go_wp2
  go_loopw [8] (fun i wr => ∃ k : Nat, k ≤ r ∧ i = .int .i64 k ∧ Below w.heap.size w wr) (fun i _ => 12 - (intOf i).toNat)
  case atStart => exact ⟨0, Nat.zero_le _, rfl, Below.refl _ _⟩
  case round =>
    obtain ⟨k, hk, rfl, hb⟩ := hrel
    have HB := Lib.hid hb
    by_cases hlt : k < 12
    · obtain ⟨u, hu⟩ : ∃ u, fs[k]? = some u := ⟨_, List.getElem?_eq_getElem (by omega)⟩
      have c0 := cell_below hb (HC.out k u hu)
      have HU := Lib.hid hu
      clear hu hb
      rcases Nat.lt_or_ge k r with hkr | hkr
      · go_wp2_with fail
        refine (H.out k u hkr HU.out _ HB.out).mono ?_
        rintro e w2 ⟨rfl, hb2⟩
        have HB2 := Lib.hid (HB.out.trans (hb2.mono HB.out.size))
        clear hb2 c0
        go_wp2_with fail
        go_roundw
        case rel => exact ⟨k + 1, by omega, by go_num, HB2.out⟩
        case measure => simp [intOf]; omega
      · obtain rfl : k = r := by omega
        go_wp2_with fail
        refine (H2.out u HU.out _ HB.out).mono ?_
        rintro e w2 ⟨rfl, hb2⟩
        have HB2 := Lib.hid (HB.out.trans (hb2.mono HB.out.size))
        clear hb2 c0
        go_wp2_with fail
        go_ret
        exact ⟨ret_int (by first | rfl | rw [if_pos hlt]), HB2.out⟩
    · clear hb
      go_wp2_with fail
      go_ret
      exact ⟨ret_int (by first | rfl | rw [if_neg (by omega)]), HB.out⟩
set_option maxRecDepth 100000 in
set_option maxHeartbeats 2000000 in
theorem rule0 (tv lv : Value) (c : Cfg) (b : Nat) (w : World) (hg : w.heap[b]? = some (.cells (cfA tv lv c) 25 (0, 0))) (hC : CfgAt w tv lv c) (q : Bool) (hq : (checkE c == 0) = q) : RuleOk q (.func (.func 20) #[] #[.pointer (some ⟨b, 0, none⟩)]) w := by
  intro w2 hb2
  have HC := Lib.hid (hC.below hb2)
  have HG := Lib.hid ((hb2.block b (Array.getElem?_eq_some_iff.1 hg).1).trans hg)
  have HQ := Lib.hid hq
  clear hq hC hg hb2
  go_enter Tryz.func34, Tryz.ntmps34
  go_wp2_with fail
  have H1 : Calls Tryz.prog 20 #[.pointer (some ⟨b, 0, none⟩)] w2 (BoolPost q w2) := by
    go_enter Tryz.func20, Tryz.ntmps20
    go_wp2_with (refine wpList_load_agg 25 HG.out Tryz.underlying25 rfl cfg_info rfl _ rfl rfl ?_)
    refine (check_any _ tv lv c _ (cfA_cells tv lv c) HC.out).mono ?_
    rintro e w3 ⟨rfl, hb3⟩
    go_wp2_with fail
    go_ret
    exact ⟨ret_bool HQ.out, hb3⟩
  refine H1.mono ?_
  rintro e w3 ⟨rfl, hb3⟩
  go_wp2_with fail
  go_ret
  exact ⟨rfl, hb3⟩
set_option maxRecDepth 100000 in
set_option maxHeartbeats 2000000 in
theorem rule1 {lw : Int} {ws tv lv : Value} {c : Cfg} {w : World} (h : 1 ≤ c.keep) : RuleOk true (.func (.func 22) #[.agg (ckA lw ws tv lv c)] #[]) w := by
  intro w2 hb2
  go_enter Tryz.func34, Tryz.ntmps34
  go_wp2_with fail
  refine (rops_nil lw ws tv lv c _ h).mono ?_
  rintro e w3 ⟨rfl, hb3⟩
  go_wp2_with fail
  go_ret
  exact ⟨rfl, hb3⟩
set_option maxRecDepth 100000 in
set_option maxHeartbeats 2000000 in
theorem rule2 {lw : Int} {ws tv lv : Value} {c : Cfg} {w : World} (hC : CfgAt w tv lv c) (h : checkE c = 0) : RuleOk true (.func (.func 23) #[.agg (ckA lw ws tv lv c)] #[]) w := by
  intro w2 hb2
  go_enter Tryz.func34, Tryz.ntmps34
  go_wp2_with fail
  refine (rinv_nil lw ws tv lv c _ (hC.below hb2) h).mono ?_
  rintro e w3 ⟨rfl, hb3⟩
  go_wp2_with fail
  go_ret
  exact ⟨rfl, hb3⟩
set_option maxRecDepth 100000 in
set_option maxHeartbeats 2000000 in
theorem rule3 {tv lv : Value} {c : Cfg} {w : World} (hr : Ready w) (h : 1 ≤ c.workers) : RuleOk true (.func (.func 24) #[.agg (ckA 0 (.slice none 0 0) tv lv c)] #[]) w := by
  intro w2 hb2
  go_enter Tryz.func34, Tryz.ntmps34
  go_wp2_with fail
  refine (rworkers_nil tv lv c _ (hr.below hb2) h).mono ?_
  rintro e w3 ⟨rfl, hb3⟩
  go_wp2_with fail
  go_ret
  exact ⟨rfl, hb3⟩
set_option maxRecDepth 100000 in
set_option maxHeartbeats 2000000 in
theorem rule3no {lw : Int} {tv lv : Value} {c : Cfg} {w : World} {g off cap : Nat} {x : Wk} (hr : Ready w) (hC : CfgAt w tv lv c) (hR : RowsW w (.slice (some ⟨g, off, none⟩) 1 cap) [x]) (hs : SmallW x) (hL : LoadsW c.workers [x] lw) (hcl : x.cls < classesV c) (hop : x.op ≠ 0) : RuleOk false (.func (.func 24) #[.agg (ckA lw (.slice (some ⟨g, off, none⟩) 1 cap) tv lv c)] #[]) w := by
  intro w2 hb2
  go_enter Tryz.func34, Tryz.ntmps34
  go_wp2_with fail
  refine (rworkers_one lw g off cap tv lv c x _ (hr.below hb2) (hC.below hb2) (hR.below hb2) hs hL hcl hop).mono ?_
  rintro e w3 ⟨rfl, hb3⟩
  go_wp2_with fail
  go_ret
  exact ⟨rfl, hb3⟩
set_option maxRecDepth 100000 in
set_option maxHeartbeats 2000000 in
theorem rule4 {lw : Int} {ws tv lv : Value} {c : Cfg} {w : World} (hC : CfgAt w tv lv c) (h1 : 1 ≤ c.pools) (h2 : 1 ≤ classesV c) (h3 : 1 ≤ c.q) (h4 : c.q ≤ 64) : RuleOk true (.func (.func 25) #[.agg (ckA lw ws tv lv c)] #[]) w := by
  intro w2 hb2
  go_enter Tryz.func34, Tryz.ntmps34
  go_wp2_with fail
  refine (rpools_nil lw ws tv lv c _ (hC.below hb2) h1 h2 h3 h4).mono ?_
  rintro e w3 ⟨rfl, hb3⟩
  go_wp2_with fail
  go_ret
  exact ⟨rfl, hb3⟩
set_option maxRecDepth 100000 in
set_option maxHeartbeats 2000000 in
theorem rule5 {lw : Int} {ws tv lv : Value} {c : Cfg} {w : World} : RuleOk true (.func (.func 26) #[.agg (ckA lw ws tv lv c)] #[]) w := by
  intro w2 hb2
  go_enter Tryz.func34, Tryz.ntmps34
  go_wp2_with fail
  refine (rwaiting_nil lw ws tv lv c _).mono ?_
  rintro e w3 ⟨rfl, hb3⟩
  go_wp2_with fail
  go_ret
  exact ⟨rfl, hb3⟩
set_option maxRecDepth 100000 in
set_option maxHeartbeats 2000000 in
theorem rule6 {lw : Int} {ws tv lv : Value} {c : Cfg} {w : World} : RuleOk true (.func (.func 27) #[.agg (ckA lw ws tv lv c)] #[]) w := by
  intro w2 hb2
  go_enter Tryz.func34, Tryz.ntmps34
  go_wp2_with fail
  refine (repochs_nil lw ws tv lv c _).mono ?_
  rintro e w3 ⟨rfl, hb3⟩
  go_wp2_with fail
  go_ret
  exact ⟨rfl, hb3⟩
set_option maxRecDepth 100000 in
set_option maxHeartbeats 2000000 in
theorem rule7 {lw : Int} {tv lv : Value} {c : Cfg} {w : World} : RuleOk true (.func (.func 28) #[.agg (ckA lw (.slice none 0 0) tv lv c)] #[]) w := by
  intro w2 hb2
  go_enter Tryz.func34, Tryz.ntmps34
  go_wp2_with fail
  refine (rtimes_nil lw tv lv c _).mono ?_
  rintro e w3 ⟨rfl, hb3⟩
  go_wp2_with fail
  go_ret
  exact ⟨rfl, hb3⟩
set_option maxRecDepth 100000 in
set_option maxHeartbeats 2000000 in
theorem rule8 {lw : Int} {ws tv lv : Value} {c : Cfg} {w : World} (h : 1 ≤ c.keys) : RuleOk true (.func (.func 29) #[.agg (ckA lw ws tv lv c)] #[]) w := by
  intro w2 hb2
  go_enter Tryz.func34, Tryz.ntmps34
  go_wp2_with fail
  refine (rran_nil lw ws tv lv c _ h).mono ?_
  rintro e w3 ⟨rfl, hb3⟩
  go_wp2_with fail
  go_ret
  exact ⟨rfl, hb3⟩
set_option maxRecDepth 100000 in
set_option maxHeartbeats 2000000 in
theorem rule9 {lw : Int} {ws tv lv : Value} {c : Cfg} {w : World} (h : 1 ≤ c.dead) (h1 : c.dead ≤ 1000) : RuleOk true (.func (.func 30) #[.agg (ckA lw ws tv lv c)] #[]) w := by
  intro w2 hb2
  go_enter Tryz.func34, Tryz.ntmps34
  go_wp2_with fail
  refine (rletters_nil lw ws tv lv c _ h h1).mono ?_
  rintro e w3 ⟨rfl, hb3⟩
  go_wp2_with fail
  go_ret
  exact ⟨rfl, hb3⟩
set_option maxRecDepth 100000 in
set_option maxHeartbeats 2000000 in
theorem rule10 {lw : Int} {ws tv lv : Value} {c : Cfg} {w : World} (h : 0 ≤ c.watch) : RuleOk true (.func (.func 31) #[.agg (ckA lw ws tv lv c)] #[]) w := by
  intro w2 hb2
  go_enter Tryz.func34, Tryz.ntmps34
  go_wp2_with fail
  refine (rwatch_nil lw ws tv lv c _ h).mono ?_
  rintro e w3 ⟨rfl, hb3⟩
  go_wp2_with fail
  go_ret
  exact ⟨rfl, hb3⟩
set_option maxRecDepth 100000 in
set_option maxHeartbeats 2000000 in
theorem rule11 {lw : Int} {ws tv lv : Value} {c : Cfg} {w : World} : RuleOk true (.func (.func 32) #[.agg (ckA lw ws tv lv c)] #[]) w := by
  intro w2 hb2
  go_enter Tryz.func34, Tryz.ntmps34
  go_wp2_with fail
  refine (rtwins_nil lw ws tv lv c _).mono ?_
  rintro e w3 ⟨rfl, hb3⟩
  go_wp2_with fail
  go_ret
  exact ⟨rfl, hb3⟩
def rulesF (b : Nat) (lw : Int) (ws tv lv : Value) (c : Cfg) : List Value := [.func (.func 20) #[] #[.pointer (some ⟨b, 0, none⟩)], .func (.func 22) #[.agg (ckA lw ws tv lv c)] #[], .func (.func 23) #[.agg (ckA lw ws tv lv c)] #[], .func (.func 24) #[.agg (ckA lw ws tv lv c)] #[], .func (.func 25) #[.agg (ckA lw ws tv lv c)] #[], .func (.func 26) #[.agg (ckA lw ws tv lv c)] #[], .func (.func 27) #[.agg (ckA lw ws tv lv c)] #[], .func (.func 28) #[.agg (ckA lw ws tv lv c)] #[], .func (.func 29) #[.agg (ckA lw ws tv lv c)] #[], .func (.func 30) #[.agg (ckA lw ws tv lv c)] #[], .func (.func 31) #[.agg (ckA lw ws tv lv c)] #[], .func (.func 32) #[.agg (ckA lw ws tv lv c)] #[]]
theorem wpList_built2 {P : Program} {ops : Array Oper} {rest : List Oper} {o : Oper} {a : Act} {w : World} {Q : Exit → Act → World → Prop} {u v : Value} (hg : o.guard = none) (t : TypeId) (i j : Nat) (x y : Operand) (ho : o.op = .build t #[(i, x), (j, y)])
    (hx : a.eval x = u) (hy : a.eval y = v) {cells : Array Value} (hb : P.built t [(i, u), (j, v)] = some cells) (h : wpList P ops Q rest (a.put o.dst (.agg cells)) w) : wpList P ops Q (o :: rest) a w :=
  wpList_builtN hg t _ ho _ (by simp [hx, hy]) hb h
theorem built_ck (lw : Int) (ws tv lv : Value) (c : Cfg) : Tryz.prog.built 72 [(0, .agg (stA lw ws)), (1, .agg (cfA tv lv c))] = some (ckA lw ws tv lv c) := by kernel_rfl
set_option maxRecDepth 100000 in
set_option maxHeartbeats 2000000 in
theorem wrong_any (lw : Int) (ws tv lv : Value) (c : Cfg) (r : Nat) (w : World) (hr : r ≤ 12)
    (h : ∀ w2, Below w.heap.size w w2 → w2.heap[w.heap.size]? = some (.cells (cfA tv lv c) 25 (0, 0)) → (∀ (j : Nat) u, j < r → (rulesF w.heap.size lw ws tv lv c)[j]? = some u → RuleOk true u w2) ∧ (∀ u, (rulesF w.heap.size lw ws tv lv c)[r]? = some u → RuleOk false u w2)) (ho : (ckA lw ws tv lv c).all (·.oneCell') = true) :
    Calls Tryz.prog 9 #[.agg (cfA tv lv c), .agg (stA lw ws)] w fun e w' => e = .returned (.int .i64 (if r < 12 then (r : Int) + 1 else 0)) ∧ Below w.heap.size w w' := by
  have H := Lib.hid h
  have HO := Lib.hid ho
  clear h ho
  go_enter Tryz.func9, Tryz.ntmps9
  go_upto_region 2 with (first
    | refine wpList_load_agg 42 (heap_alloc_two w _ _) Tryz.underlying42 rfl st_info rfl _ rfl rfl ?_
    | refine wpList_load_agg 25 (fr_alloc_old (heap_alloc_new w _)) Tryz.underlying25 rfl cfg_info rfl _ rfl rfl ?_
    | refine wpList_built2 (u := .agg (stA lw ws)) (v := .agg (cfA tv lv c)) rfl 72 _ _ _ _ rfl rfl rfl (built_ck lw ws tv lv c) ?_
    | (refine wpList_store_new rfl 72 _ _ rfl (w.heap.size + 1 + 1) ?a1 _ rfl rfl ?a2 ?a3 ?a4 ?_; (case a1 => simp); (case a2 => exact ck_info); (case a3 => rfl); (case a4 => exact HO.out)))
  have HG := Lib.hid (heap_alloc_three w (.cells (cfA tv lv c) 25) (.cells (stA lw ws) 42) (.cells (ckA lw ws tv lv c) 72))
  have HG0 := Lib.hid (fr_alloc_old (o := .cells (ckA lw ws tv lv c) 72) (fr_alloc_old (o := .cells (stA lw ws) 42) (heap_alloc_new w (.cells (cfA tv lv c) 25))))
  have HB := Lib.hid (((box_below (w := w) (o := .cells (cfA tv lv c) 25)).alloc (by simp) (.cells (stA lw ws) 42)).alloc (by simp; omega) (.cells (ckA lw ws tv lv c) 72))
  generalize ((w.alloc (.cells (cfA tv lv c) 25)).alloc (.cells (stA lw ws) 42)).alloc (.cells (ckA lw ws tv lv c) 72) = W3 at HG HG0 HB ⊢
  go_upto_region 3 with (refine wpList_load_agg 72 HG.out Tryz.underlying72 rfl ck_info rfl _ rfl rfl ?_)
  go_wp2_with fail
  obtain ⟨q1, q2⟩ := H.out (W3.alloc (.cells (rulesF w.heap.size lw ws tv lv c).toArray 38)) (HB.out.alloc HB.out.size _) (fr_alloc_old HG0.out)
  refine (rulesix (rulesF w.heap.size lw ws tv lv c) r W3.heap.size _ rfl hr (fun j u hu => cell_alloc_at (by rw [← hu]; simp [rulesF])) q1 q2).mono ?_
  rintro e w5 ⟨rfl, hb5⟩
  have HB5 := Lib.hid ((HB.out.alloc HB.out.size (.cells (rulesF w.heap.size lw ws tv lv c).toArray 38)).trans (hb5.mono (by have := HB.out.size; simp; omega)))
  clear q1 q2 hb5
  rcases Nat.lt_or_ge r 12 with hlt | hlt
  · rw [if_pos hlt]
    go_wp2_with fail
    go_ret
    exact ⟨ret_int (by first | rfl | rw [if_pos hlt]), HB5.out⟩
  · rw [if_neg (by omega)]
    go_wp2_with fail
    go_ret
    exact ⟨ret_int (by first | rfl | rw [if_neg (by omega)]), HB5.out⟩
end Go.Proofs.YtjmlimogmmikoaaGreatDoor
