/-
  worker.Book: Add: the walk.
-/
import Derived.Test.YtmijmfgclmaodaaGreatDoorWk3
import Derived.BigRegion
import Derived.Deep.AppendLies
namespace Go.Proofs.YtmijmfgclmaodaaGreatDoor
open Go.RowKit

/-- A method of a book has turned it: what it hands back, the book behind it, and what else was written. -/
def BookPost (T : TypeId) (base : Nat) (w : World) (b : Nat) (v : Value) (s' : Bk) (r : Value) (e : Ending) (w' : World) : Prop :=
  e = .returned r ∧ ∃ v', BookAt T base w' b v' s' ∧ Fr (b :: blk v) w w' ∧ ∀ k ∈ blk v', k ∈ blk v ∨ w.heap.size ≤ k
theorem worker_info : (Tryz.prog.info? 33).map (fun i => (i.zero, i.size, i.bytes)) = some (some (.agg #[.int .i64 0, .int .i64 0, .int .i64 0, .string ⟨#[]⟩, .string ⟨#[]⟩, .bool false, .int .u64 0]), 7, 72) := by kernel_rfl
/-- The worker that is laid in. -/
def newW (s : Bk) (x : Wk) : Wk := ⟨s.last + 1, x.cls, 0, x.name, ba (chkS x), false, x.untl⟩
def addS (s : Bk) (x : Wk) : Bk := ⟨s.room, s.last + 1, s.ws ++ [newW s x]⟩

set_option maxRecDepth 100000 in
set_option maxHeartbeats 1000000 in
theorem add_bad {base b : Nat} {v : Value} {s : Bk} (x : Wk) (w : World) (hr : Ready w) (hB : BookAt 56 base w b v s) (hs : SmallW x) (h : mayE s x ≠ 0) :
    Calls Tryz.prog 16 #[.pointer (some ⟨b, 0, none⟩), .agg #[.int .i64 x.no, .int .i64 x.cls, .int .i64 x.op, .string x.name, .string x.plat, .bool x.paused, .int .u64 x.untl]] w fun e w' => e = .returned (.tuple #[.int .i64 0, .int .i64 (mayE s x)]) ∧ Below w.heap.size w w' := by
  have HR := Lib.hid hr
  have HB := Lib.hid hB
  have hne : (mayE s x != 0) = true := by rw [bne_iff_ne]; exact h
  clear hr hB h
  go_enter Tryz.func16, Tryz.ntmps16
  go_wp2_with fail
  refine (may_any x _ (HR.out.below box_below) (HB.out.below box_below) hs).mono ?_
  rintro e w1 ⟨rfl, hb1⟩
  go_wp2
  go_ret2
  exact ⟨rfl, box_below.trans (hb1.mono (by simp))⟩

set_option maxRecDepth 100000 in
set_option maxHeartbeats 2000000 in
theorem add_ok {base b : Nat} {v : Value} {s : Bk} (x : Wk) (w : World) (hr : Ready w) (hB : BookAt 56 base w b v s) (hs : SmallW x) (h : mayE s x = 0) (hl0 : 0 ≤ s.last) (hl1 : s.last ≤ 1000000) (hw : s.ws.length < 1000) (hbase : base ≤ w.heap.size) :
    Calls Tryz.prog 16 #[.pointer (some ⟨b, 0, none⟩), .agg #[.int .i64 x.no, .int .i64 x.cls, .int .i64 x.op, .string x.name, .string x.plat, .bool x.paused, .int .u64 x.untl]] w (BookPost 56 base w b v (addS s x) (.tuple #[.int .i64 (s.last + 1), .int .i64 0])) := by
  have HR := Lib.hid hr
  have HB := Lib.hid hB
  have HZ := Lib.hid h
  clear hr hB h
  go_enter Tryz.func16, Tryz.ntmps16
  go_wp2_with fail
  refine (may_any x _ (HR.out.below box_below) (HB.out.below box_below) hs).mono ?_
  rintro e w1 ⟨rfl, hb1⟩
  rw [HZ.out]
  have HB1 := Lib.hid (box_below.trans (hb1.mono (by simp)))
  have hz1 : w.heap.size < w1.heap.size := by have := hb1.size; simp at this; omega
  have c0 : w1.cell? ⟨w.heap.size, 0, none⟩ = some (.int .i64 x.no) := cell_below hb1 (by simp)
  have c1 : w1.cell? ⟨w.heap.size, 1, none⟩ = some (.int .i64 x.cls) := cell_below hb1 (by simp)
  have c2 : w1.cell? ⟨w.heap.size, 2, none⟩ = some (.int .i64 x.op) := cell_below hb1 (by simp)
  have c3 : w1.cell? ⟨w.heap.size, 3, none⟩ = some (.string x.name) := cell_below hb1 (by simp)
  have c4 : w1.cell? ⟨w.heap.size, 4, none⟩ = some (.string x.plat) := cell_below hb1 (by simp)
  have c5 : w1.cell? ⟨w.heap.size, 5, none⟩ = some (.bool x.paused) := cell_below hb1 (by simp)
  have c6 : w1.cell? ⟨w.heap.size, 6, none⟩ = some (.int .u64 x.untl) := cell_below hb1 (by simp)
  clear hb1
  go_wp2_with fail
  refine (wkcheck_any x _ (HR.out.below HB1.out) hs).mono ?_
  rintro e w2 ⟨rfl, hb2⟩
  have HB2 := Lib.hid (HB1.out.trans (hb2.mono HB1.out.size))
  have hz2 : w.heap.size < w2.heap.size := by have := hb2.size; omega
  have hbw : b < w.heap.size := HB.out.lt
  have d1 := cell_below hb2 c1
  have d3 := cell_below hb2 c3
  have d6 := cell_below hb2 c6
  have HA2 := Lib.hid (HB.out.below HB2.out)
  have g1 := HA2.out.c1
  have f1 := HA2.out.free 1
  clear hb2 c0 c1 c2 c3 c4 c5 c6
  go_wp2_with fail
  obtain ⟨w3, hw3⟩ : ∃ w3 : World, w3 = w2.setCell ⟨b, 1, none⟩ (.int .i64 (s.last + 1)) := ⟨_, rfl⟩
  rw [← hw3]
  have HA3 := Lib.hid (show BookAt 56 base w3 b v ⟨s.room, s.last + 1, s.ws⟩ by rw [hw3]; exact HA2.out.setLast (by decide) _)
  have HF3 := Lib.hid (show Fr (b :: blk v) w w3 by rw [hw3]; exact (Fr.of_below HB2.out).setCell (.inl (by simp)) _)
  have e1 : w3.cell? ⟨w.heap.size, 1, none⟩ = some (.int .i64 x.cls) := by rw [hw3]; rw [World.cell?_of_block (w := w2) (fr_setCell_other (by simp; omega))]; exact d1
  have e3 : w3.cell? ⟨w.heap.size, 3, none⟩ = some (.string x.name) := by rw [hw3]; rw [World.cell?_of_block (w := w2) (fr_setCell_other (by simp; omega))]; exact d3
  have e6 : w3.cell? ⟨w.heap.size, 6, none⟩ = some (.int .u64 x.untl) := by rw [hw3]; rw [World.cell?_of_block (w := w2) (fr_setCell_other (by simp; omega))]; exact d6
  have hz3 : w3.heap.size = w2.heap.size := by rw [hw3]; simp [World.setCell]
  clear hw3 d1 d3 d6 g1 f1
  have g1 : w3.cell? ⟨b, 1, none⟩ = some (.int .i64 (s.last + 1)) := HA3.out.c1
  have g2 := HA3.out.c2
  have f2 := HA3.out.free 2
  have hnb : v.ownBlock ≠ some b := fun e => HA3.out.not_blk (by decide) (mem_blk.2 e)
  have hnw : v.ownBlock ≠ some w.heap.size := fun e => by have := own_lt HB.out.own _ (mem_blk.2 e); omega
  have HNB := Lib.hid hnb
  have HNW := Lib.hid hnw
  have HO3 := Lib.hid (show w3.ownsRow base 33 7 v s.ws.length (flatW s.ws) from HA3.out.own)
  obtain ⟨i0, hi0, hz0, hz1', hz2'⟩ := info_parts worker_info
  have hbase3 : base ≤ w3.heap.size := by omega
  have hbw3 : b < w3.heap.size := by omega
  have hww3 : w.heap.size < w3.heap.size := by omega
  clear hnb hnw
  have h1 : ∀ u ∈ encW (newW s x), u.oneCell' = true := encW_one _
  obtain ⟨gg, gcap, w9, hrun, hown9, hgrow, hat, hlt9⟩ := run_append_lies (P := Tryz.prog) (w := (w3.alloc (.cells (encW (newW s x)).toArray 33)).drew) 27 27 base 33 i0 _ 7 72 Tryz.underlying27 hi0 hz0 hz1' hz2' rfl (by omega) v s.ws.length (flatW s.ws) ((HO3.out.alloc _).drew)
    ⟨w3.heap.size, 0, none⟩ 1 1 (encW (newW s x)) rfl (World.news_of_block (cs := (encW (newW s x)).toArray) (t := 33) (fr := (0, 0)) (heap_alloc_new w3 _)) h1 (by omega) (by unfold maxLen; omega) (by omega) (by show base ≤ (w3.alloc _).heap.size; simp; omega) (w3.heap.size + 1) (by show (w3.alloc _).heap.size = _; simp)
  have hgz : w3.heap.size + 1 ≤ w9.heap.size := by have := hgrow.size; rw [show (w3.alloc (.cells (encW (newW s x)).toArray 33)).drew.heap.size = w3.heap.size + 1 from by show (w3.alloc _).heap.size = _; simp] at this; exact this
  have HO9 := Lib.hid (show w9.ownsRow base 33 7 (.slice (some ⟨gg, 0, none⟩) (s.ws.length + 1) gcap) (s.ws.length + 1) (flatW (s.ws ++ [newW s x])) by rw [flatW_snoc]; exact hown9)
  have HF9 := Lib.hid (show Fr (b :: blk v) w w9 from (HF3.out.alloc _).drew.grown hgrow (fun k hk => .inl (List.mem_cons_of_mem _ (mem_blk.2 hk))))
  have HAT := Lib.hid hat
  have hh9 : w9.heap[b]? = some (.cells #[.int .i64 s.room, .int .i64 (s.last + 1), v] 56 (0, 0)) := (hgrow.block b (by show b < (w3.alloc _).heap.size; simp; omega) (Ne.symm HNB.out)).trans (fr_alloc_old HA3.out.heap)
  have k1 : w9.cell? ⟨b, 1, none⟩ = some (.int .i64 (s.last + 1)) := fr_cell_of_heap hh9 rfl
  have k2 : w9.cell? ⟨b, 2, none⟩ = some v := fr_cell_of_heap hh9 rfl
  have f9 : w9.frozen? ⟨b, 2, none⟩ = false := fr_free_of_heap hh9
  have HH9 := Lib.hid hh9
  simp only [encW, newW] at hrun
  simp [go_sem] at hrun
  have HZ3 := Lib.hid hz3
  clear hown9 hgrow hat hh9 h1 hz3 hi0 hz0 hz1' hz2'
  go_region
  clear hrun
  go_wp2_with fail
  go_ret2
  have hngg : b ≠ gg := by
    rcases HAT.out with h | h
    · intro e; subst e; exact HNB.out h
    · omega
  refine ⟨rfl, .slice (some ⟨gg, 0, none⟩) (s.ws.length + 1) gcap, ?_, HF9.out.setCell (.inl (by simp)) _, fun k hk => ?_⟩
  · have h := book_put (s := ⟨s.room, s.last + 1, s.ws⟩) (T := 56) HB.out.le HH9.out (v' := .slice (some ⟨gg, 0, none⟩) (s.ws.length + 1) gcap) (l := s.ws ++ [newW s x]) (by have h2 := HO9.out; rw [List.length_append]; exact h2) (by rw [blk_slice]; simp; exact hngg) (by rw [List.length_append]; simp; omega)
    exact h
  · rw [blk_slice, List.mem_singleton] at hk
    subst hk
    rcases HAT.out with h | h
    · exact .inl (mem_blk.2 h)
    · exact .inr (by omega)
end Go.Proofs.YtmijmfgclmaodaaGreatDoor
