/-
  fifo.Queue: Push: the walk.
-/
import Derived.Test.YtohkchilogmneaaFifo2
import Derived.Test.YtohkchilogmneaaQPush
namespace Go.Proofs.Ytohkchilogmneaa
open Go.RowKit

def PushPost (pre : List Int) (ρ : Roles) (w : World) (q : Nat) (l : List It) (x : It) (e : Ending) (w' : World) : Prop :=
  e = .returned (.int .i64 0) ∧ ∃ nb, w.heap.size ≤ nb ∧ nb < w'.heap.size ∧ Fp (Part ρ pre) w w' ∧ ∀ ρ', Later ρ ρ' w → ρ' nb = pre ++ [3, x.id] → QueAt pre ρ' w' q (l ++ [x])
section
variable {pre : List Int} {ρ : Roles} {q : Nat} {l : List It}
set_option maxRecDepth 100000 in
set_option maxHeartbeats 2000000 in
theorem fifoPush_arg (x : It) (w : World) (h : x.id < 1 ∨ x.cost < 1 ∨ 64 < x.cost) : Calls Try.prog 49 #[.pointer (some ⟨q, 0, none⟩), .agg #[.int .i64 x.id, .int .i64 x.cost]] w fun e w' => e = .returned (.int .i64 1) ∧ Below w.heap.size w w' := by
  by_cases h1 : x.id < 1
  · clear h
    go_enter Try.func49, Try.ntmps49
    go_wp2
    go_ret
    exact ⟨rfl, box_below⟩
  · by_cases h2 : x.cost < 1
    · clear h
      go_enter Try.func49, Try.ntmps49
      go_wp2
      go_ret
      exact ⟨rfl, box_below⟩
    · have h3 : 64 < x.cost := by omega
      clear h
      go_enter Try.func49, Try.ntmps49
      go_wp2
      go_ret
      exact ⟨rfl, box_below⟩
set_option maxRecDepth 100000 in
set_option maxHeartbeats 2000000 in
theorem fifoPush_there (x : It) (w : World) (hQ : QueAt pre ρ w q l) (hid : I64 x.id) (h1 : 1 ≤ x.id) (h2 : 1 ≤ x.cost) (h3 : x.cost ≤ 64) (h : hasIt x.id l = true) : Calls Try.prog 49 #[.pointer (some ⟨q, 0, none⟩), .agg #[.int .i64 x.id, .int .i64 x.cost]] w fun e w' => e = .returned (.int .i64 8) ∧ Below w.heap.size w w' := by
  obtain ⟨m, lk, D, hq⟩ := hQ
  have HQ := Lib.hid hq
  have HI := Lib.hid hid
  have HH := Lib.hid h
  clear hq hid h
  go_enter Try.func49, Try.ntmps49
  go_wp2_with fail
  refine (fifoHas_any (pre := pre) (ρ := ρ) x.id _ (QueAt.below ⟨m, lk, D, HQ.out⟩ box_below) HI.out).mono ?_
  rintro e w1 ⟨rfl, rfl⟩
  rw [HH.out]
  go_wp2
  go_ret
  exact ⟨rfl, box_below⟩
set_option maxRecDepth 100000 in
set_option maxHeartbeats 2000000 in
theorem fifoPush_nil (x : It) (w : World) (hQ : QueAt pre ρ w q []) (hid : I64 x.id) (h0 : itE [] x = 0) (hf : ([] : List It).length < 1000000) : Calls Try.prog 49 #[.pointer (some ⟨q, 0, none⟩), .agg #[.int .i64 x.id, .int .i64 x.cost]] w (PushPost pre ρ w q [] x) := by
  obtain ⟨m, lk, D, hq⟩ := hQ
  have HQ := Lib.hid hq
  have HI := Lib.hid hid
  obtain ⟨h1, h2, h3, hh⟩ := itE_ok h0
  have HH := Lib.hid hh
  have H0 := Lib.hid h0
  have HF := Lib.hid hf
  obtain ⟨s0, s1⟩ := cost_bounds hq.good.ok
  have s2 : 64 * (([] : List It).length : Int) ≤ 64000000 := by omega
  obtain ⟨sm, hsm⟩ : ∃ sm, sm = costIt [] := ⟨_, rfl⟩
  have HSM := Lib.hid hsm
  have s3 : 0 ≤ sm := by omega
  have s4 : sm ≤ 64000000 := by omega
  have hqw : q < w.heap.size := fp_lt_of_heap hq.head
  have hh0 : w.heap[q]? = some (.cells #[.pointer none, .pointer none, .map (some m), .int .i64 sm] 149 (0, 0)) := by
    rw [hsm]
    exact hq.head
  have hqm : q ≠ m := fun e => by have h1 := hq.rq; rw [e, hq.rm] at h1; simp at h1
  have HH0 := Lib.hid hh0
  have hmw := hq.map.lt
  clear hq hid hh h0 hf hsm s0 s1 s2 hh0 
  go_enter Try.func49, Try.ntmps49
  go_wp2_with fail
  refine (fifoHas_any (pre := pre) (ρ := ρ) x.id _ (QueAt.below ⟨m, lk, D, HQ.out⟩ box_below) HI.out).mono ?_
  rintro e w1 ⟨rfl, rfl⟩
  rw [HH.out]
  go_upto_region 7 with fail
  obtain ⟨w2, hw2⟩ : ∃ w2 : World, w2 = w.alloc (.cells #[.int .i64 x.id, .int .i64 x.cost] 37) := ⟨_, rfl⟩
  rw [← hw2]
  have HB2 := Lib.hid (show Below w.heap.size w w2 by rw [hw2]; exact box_below)
  have hz2 : w2.heap.size = w.heap.size + 1 := by rw [hw2]; simp
  have HX2 := Lib.hid (show w2.heap[w.heap.size]? = some (.cells #[.int .i64 x.id, .int .i64 x.cost] 37 (0, 0)) by rw [hw2]; exact fr_alloc_at)
  have HHQ2 := Lib.hid ((HB2.out.block q hqw).trans HH0.out)
  clear hw2
  have c1 : w2.cell? ⟨q, 1, none⟩ = some (.pointer none) := fr_cell_of_heap HHQ2.out rfl
  have b0 : w2.cell? ⟨w.heap.size, 0, none⟩ = some (.int .i64 x.id) := fr_cell_of_heap HX2.out rfl
  have b1 : w2.cell? ⟨w.heap.size, 1, none⟩ = some (.int .i64 x.cost) := fr_cell_of_heap HX2.out rfl
  have HZ2 := Lib.hid hz2
  clear hz2
  go_region
  clear c1 b0 b1
  go_upto_region 8 with fail
  obtain ⟨nb, hnb⟩ : ∃ nb : Nat, nb = w2.heap.size := ⟨_, rfl⟩
  obtain ⟨w3, hw3⟩ : ∃ w3 : World, w3 = (w2.alloc (.cells #[.int .i64 x.id, .int .i64 x.cost, .pointer none, .pointer none] 152)).drew := ⟨_, rfl⟩
  rw [← hw3, ← hnb]
  have HN3 := Lib.hid (show w3.heap[nb]? = some (.cells #[.int .i64 x.id, .int .i64 x.cost, .pointer none, .pointer none] 152 (0, 0)) by rw [hw3, hnb]; exact fr_alloc_at)
  have hb3 : Below w2.heap.size w2 w3 := by rw [hw3]; exact ⟨rfl, rfl, rfl, by show _ ≤ (w2.alloc _).heap.size; simp, fun k hk => Below.heap_alloc _ _ _ hk⟩
  have HB3 := Lib.hid (HB2.out.trans (hb3.mono HB2.out.size))
  have HX3 := Lib.hid ((hb3.block _ (by have := HZ2.out; omega)).trans HX2.out)
  have HHQ3 := Lib.hid ((HB3.out.block q hqw).trans HH0.out)
  have HNB := Lib.hid (show nb = w.heap.size + 1 by rw [hnb]; exact HZ2.out)
  have HM3 := Lib.hid ((HQ.out.below HB3.out).map)
  clear hw3 hb3 hnb
  have c1 : w3.cell? ⟨q, 1, none⟩ = some (.pointer none) := fr_cell_of_heap HHQ3.out rfl
  have c0 : w3.cell? ⟨q, 0, none⟩ = some (.pointer none) := fr_cell_of_heap HHQ3.out rfl
  have f0 := fr_free_of_heap (i := 0) HHQ3.out
  go_upto_region 11 with fail
  obtain ⟨w4, hw4⟩ : ∃ w4 : World, w4 = w3.setCell ⟨q, 0, none⟩ (.pointer (some ⟨nb, 0, none⟩)) := ⟨_, rfl⟩
  rw [← hw4]
  have hqn : q ≠ nb := by have := HNB.out; omega
  have hqx : w.heap.size ≠ q := by omega
  have HHQ4 := Lib.hid (show w4.heap[q]? = some (.cells #[.pointer (some ⟨nb, 0, none⟩), .pointer none, .map (some m), .int .i64 sm] 149 (0, 0)) by rw [hw4]; exact fr_setCell_at HHQ3.out)
  have HN4 := Lib.hid ((show w4.heap[nb]? = w3.heap[nb]? by rw [hw4, fr_setCell_other (Ne.symm hqn)]).trans HN3.out)
  have HX4 := Lib.hid ((show w4.heap[w.heap.size]? = w3.heap[w.heap.size]? by rw [hw4, fr_setCell_other hqx]).trans HX3.out)
  have HM4 := Lib.hid (show w4.ownsMap Try.prog 3 lkR m 0 D by rw [hw4]; exact HM3.out.setCell (Ne.symm hqm) _)
  have HF4 := Lib.hid (show Fp (fun k => k = q) w w4 by rw [hw4]; exact (Fp.of_below (S := fun k => k = q) HB3.out).setCell (p := ⟨q, 0, none⟩) (fun _ => rfl) _)
  clear hw4 c0 f0 c1 hqn hqx
  have c1 : w4.cell? ⟨q, 1, none⟩ = some (.pointer none) := fr_cell_of_heap HHQ4.out rfl
  have f1 := fr_free_of_heap (i := 1) HHQ4.out
  go_upto_region 12 with fail
  obtain ⟨w5, hw5⟩ : ∃ w5 : World, w5 = w4.setCell ⟨q, 1, none⟩ (.pointer (some ⟨nb, 0, none⟩)) := ⟨_, rfl⟩
  rw [← hw5]
  have hqn : nb ≠ q := by have := HNB.out; omega
  have hqx : w.heap.size ≠ q := by omega
  have HHQ5 := Lib.hid (show w5.heap[q]? = some (.cells #[.pointer (some ⟨nb, 0, none⟩), .pointer (some ⟨nb, 0, none⟩), .map (some m), .int .i64 sm] 149 (0, 0)) by rw [hw5]; exact fr_setCell_at HHQ4.out)
  have HN5 := Lib.hid ((show w5.heap[nb]? = w4.heap[nb]? by rw [hw5, fr_setCell_other hqn]).trans HN4.out)
  have HX5 := Lib.hid ((show w5.heap[w.heap.size]? = w4.heap[w.heap.size]? by rw [hw5, fr_setCell_other hqx]).trans HX4.out)
  have HM5 := Lib.hid (show w5.ownsMap Try.prog 3 lkR m ([] : List It).length D by rw [hw5]; exact HM4.out.setCell (Ne.symm hqm) _)
  have HF5 := Lib.hid (show Fp (fun k => k = q) w w5 by rw [hw5]; exact HF4.out.setCell (p := ⟨q, 1, none⟩) (fun _ => rfl) _)
  clear hw5 c1 f1 hqn hqx
  obtain ⟨w6, hrun, hown6, hturn⟩ := (HM5.out.drew).store keyT Try.underlying146 (by have := HF.out; unfold maxLen; omega) (keyI_of HI.out) (lkR_some nb)
  have c2 : w5.cell? ⟨q, 2, none⟩ = some (.map (some m)) := fr_cell_of_heap HHQ5.out rfl
  have b0 : w5.cell? ⟨w.heap.size, 0, none⟩ = some (.int .i64 x.id) := fr_cell_of_heap HX5.out rfl
  have hg6 := hturn.grown
  have HM6 := Lib.hid hown6
  have HHQ6 := Lib.hid ((hg6.block q (fp_lt_of_heap (w := w5) HHQ5.out) (by simp; exact hqm)).trans HHQ5.out)
  have HN6 := Lib.hid ((hg6.block nb (fp_lt_of_heap (w := w5) HN5.out) (by simp; have := HNB.out; omega)).trans HN5.out)
  have HX6 := Lib.hid ((hg6.block w.heap.size (fp_lt_of_heap (w := w5) HX5.out) (by simp; omega)).trans HX5.out)
  have HF6 := Lib.hid (show Fp (fun k => k = q ∨ k = m) w w6 from (HF5.out.drew.mono (S' := (fun k => k = q ∨ k = m)) (fun k hk => .inl hk)).grown hg6 (fun k _ hk => by simp at hk; simp [hk]))
  clear hown6 hturn hg6
  go_region
  clear hrun c2 b0
  go_upto_region 13 with fail
  have c3 : w6.cell? ⟨q, 3, none⟩ = some (.int .i64 sm) := fr_cell_of_heap HHQ6.out rfl
  have f3 := fr_free_of_heap (i := 3) HHQ6.out
  have b1 : w6.cell? ⟨w.heap.size, 1, none⟩ = some (.int .i64 x.cost) := fr_cell_of_heap HX6.out rfl
  go_region
  go_wp2_with fail
  go_ret
  have hz6 : w.heap.size ≤ w6.heap.size := HF6.out.size
  have hqn : nb ≠ q := by have := HNB.out; omega
  refine ⟨rfl, nb, by have := HNB.out; omega, ?_, ?_, fun ρ' hl hr => ⟨m, (fun id => if id = x.id then nb else lk id), D.put (keyI x.id) (.lit (.int .i64 nb)), push_close HQ.out H0.out HI.out HF.out ?_ ?_ ?_ ?_ ?_ hl hr⟩⟩
  · have := fp_lt_of_heap HN6.out
    simpa [World.setCell] using this
  · refine (HF6.out.drew.setCell (p := ⟨q, 3, none⟩) (fun _ => .inl rfl) _).mono (fun k hk => ?_)
    rcases hk with rfl | rfl
    · exact ⟨_, HQ.out.rq⟩
    · exact ⟨_, HQ.out.rm⟩
  · rw [← HSM.out]
    exact fr_setCell_at (w := w6.drew) HHQ6.out
  · exact (World.ownsMap.drew HM6.out).setCell (Ne.symm hqm) _
  · refine (fr_setCell_other (w := w6) hqn).trans ?_
    exact HN6.out
  · exact fun i y hy => by simp at hy
  · exact fun i y hy => by simp at hy
set_option maxRecDepth 100000 in
set_option maxHeartbeats 2000000 in
theorem fifoPush_cons (x : It) (w : World) (hQ : QueAt pre ρ w q l) (hid : I64 x.id) (h0 : itE l x = 0) (hf : (l : List It).length < 1000000) {i : Nat} {y : It} (hy : l[i]? = some y) (hi : i + 1 = l.length) : Calls Try.prog 49 #[.pointer (some ⟨q, 0, none⟩), .agg #[.int .i64 x.id, .int .i64 x.cost]] w (PushPost pre ρ w q l x) := by
  obtain ⟨m, lk, D, hq⟩ := hQ
  have HQ := Lib.hid hq
  have HI := Lib.hid hid
  obtain ⟨h1, h2, h3, hh⟩ := itE_ok h0
  have HH := Lib.hid hh
  have H0 := Lib.hid h0
  have HF := Lib.hid hf
  obtain ⟨s0, s1⟩ := cost_bounds hq.good.ok
  have s2 : 64 * ((l : List It).length : Int) ≤ 64000000 := by omega
  obtain ⟨sm, hsm⟩ : ∃ sm, sm = costIt l := ⟨_, rfl⟩
  have HSM := Lib.hid hsm
  have s3 : 0 ≤ sm := by omega
  have s4 : sm ≤ 64000000 := by omega
  have hqw : q < w.heap.size := fp_lt_of_heap hq.head
  have hh0 : w.heap[q]? = some (.cells #[lkP lk l.head?, .pointer (some ⟨lk y.id, 0, none⟩), .map (some m), .int .i64 sm] 149 (0, 0)) := by
    rw [hsm]
    have e : l.getLast? = some y := by rw [List.getLast?_eq_getElem?, show l.length - 1 = i by omega]; exact hy
    have h := hq.head
    rw [e] at h
    exact h
  have hly := hq.link i y hy
  have hlyw := fp_lt_of_heap hly.2
  have hqy : q ≠ lk y.id := fun e => by have h1 := hq.rq; rw [e, hly.1] at h1; simp at h1
  have hym : lk y.id ≠ m := fun e => by have h1 := hq.rm; rw [← e, hly.1] at h1; simp at h1
  have HY := Lib.hid hy
  have HLY := Lib.hid hly
  have HI1 := Lib.hid hi
  have hqm : q ≠ m := fun e => by have h1 := hq.rq; rw [e, hq.rm] at h1; simp at h1
  have HH0 := Lib.hid hh0
  have hmw := hq.map.lt
  clear hq hid hh h0 hf hsm s0 s1 s2 hh0 hy hly hi
  go_enter Try.func49, Try.ntmps49
  go_wp2_with fail
  refine (fifoHas_any (pre := pre) (ρ := ρ) x.id _ (QueAt.below ⟨m, lk, D, HQ.out⟩ box_below) HI.out).mono ?_
  rintro e w1 ⟨rfl, rfl⟩
  rw [HH.out]
  go_upto_region 7 with fail
  obtain ⟨w2, hw2⟩ : ∃ w2 : World, w2 = w.alloc (.cells #[.int .i64 x.id, .int .i64 x.cost] 37) := ⟨_, rfl⟩
  rw [← hw2]
  have HB2 := Lib.hid (show Below w.heap.size w w2 by rw [hw2]; exact box_below)
  have hz2 : w2.heap.size = w.heap.size + 1 := by rw [hw2]; simp
  have HX2 := Lib.hid (show w2.heap[w.heap.size]? = some (.cells #[.int .i64 x.id, .int .i64 x.cost] 37 (0, 0)) by rw [hw2]; exact fr_alloc_at)
  have HHQ2 := Lib.hid ((HB2.out.block q hqw).trans HH0.out)
  clear hw2
  have c1 : w2.cell? ⟨q, 1, none⟩ = some (.pointer (some ⟨lk y.id, 0, none⟩)) := fr_cell_of_heap HHQ2.out rfl
  have b0 : w2.cell? ⟨w.heap.size, 0, none⟩ = some (.int .i64 x.id) := fr_cell_of_heap HX2.out rfl
  have b1 : w2.cell? ⟨w.heap.size, 1, none⟩ = some (.int .i64 x.cost) := fr_cell_of_heap HX2.out rfl
  have HZ2 := Lib.hid hz2
  clear hz2
  go_region
  clear c1 b0 b1
  go_upto_region 8 with fail
  obtain ⟨nb, hnb⟩ : ∃ nb : Nat, nb = w2.heap.size := ⟨_, rfl⟩
  obtain ⟨w3, hw3⟩ : ∃ w3 : World, w3 = (w2.alloc (.cells #[.int .i64 x.id, .int .i64 x.cost, .pointer (some ⟨lk y.id, 0, none⟩), .pointer none] 152)).drew := ⟨_, rfl⟩
  rw [← hw3, ← hnb]
  have HN3 := Lib.hid (show w3.heap[nb]? = some (.cells #[.int .i64 x.id, .int .i64 x.cost, .pointer (some ⟨lk y.id, 0, none⟩), .pointer none] 152 (0, 0)) by rw [hw3, hnb]; exact fr_alloc_at)
  have hb3 : Below w2.heap.size w2 w3 := by rw [hw3]; exact ⟨rfl, rfl, rfl, by show _ ≤ (w2.alloc _).heap.size; simp, fun k hk => Below.heap_alloc _ _ _ hk⟩
  have HB3 := Lib.hid (HB2.out.trans (hb3.mono HB2.out.size))
  have HX3 := Lib.hid ((hb3.block _ (by have := HZ2.out; omega)).trans HX2.out)
  have HHQ3 := Lib.hid ((HB3.out.block q hqw).trans HH0.out)
  have HNB := Lib.hid (show nb = w.heap.size + 1 by rw [hnb]; exact HZ2.out)
  have HM3 := Lib.hid ((HQ.out.below HB3.out).map)
  clear hw3 hb3 hnb
  have c1 : w3.cell? ⟨q, 1, none⟩ = some (.pointer (some ⟨lk y.id, 0, none⟩)) := fr_cell_of_heap HHQ3.out rfl
  have HLY3 := Lib.hid ((HB3.out.block _ hlyw).trans HLY.out.2)
  have d3 : w3.cell? ⟨lk y.id, 3, none⟩ = some (lkP lk l[i + 1]?) := fr_cell_of_heap HLY3.out rfl
  have g3 := fr_free_of_heap (i := 3) HLY3.out
  go_upto_region 11 with fail
  obtain ⟨w4, hw4⟩ : ∃ w4 : World, w4 = w3.setCell ⟨lk y.id, 3, none⟩ (.pointer (some ⟨nb, 0, none⟩)) := ⟨_, rfl⟩
  rw [← hw4]
  have hyn : nb ≠ lk y.id := by have := HNB.out; omega
  have hyx : w.heap.size ≠ lk y.id := by omega
  have HHQ4 := Lib.hid (show w4.heap[q]? = some (.cells #[lkP lk l.head?, .pointer (some ⟨lk y.id, 0, none⟩), .map (some m), .int .i64 sm] 149 (0, 0)) by rw [hw4, fr_setCell_other hqy]; exact HHQ3.out)
  have HLY4 := Lib.hid (show w4.heap[lk y.id]? = some (.cells #[.int .i64 y.id, .int .i64 y.cost, lkP lk (prevI l i), .pointer (some ⟨nb, 0, none⟩)] 152 (0, 0)) by rw [hw4]; exact fr_setCell_at HLY3.out)
  have HN4 := Lib.hid ((show w4.heap[nb]? = w3.heap[nb]? by rw [hw4, fr_setCell_other hyn]).trans HN3.out)
  have HX4 := Lib.hid ((show w4.heap[w.heap.size]? = w3.heap[w.heap.size]? by rw [hw4, fr_setCell_other hyx]).trans HX3.out)
  have HM4 := Lib.hid (show w4.ownsMap Try.prog 3 lkR m l.length D by rw [hw4]; exact HM3.out.setCell (Ne.symm hym) _)
  have HF4 := Lib.hid (show Fp (fun k => k = q ∨ k = lk y.id) w w4 by rw [hw4]; exact (Fp.of_below (S := fun k => k = q ∨ k = lk y.id) HB3.out).setCell (p := ⟨lk y.id, 3, none⟩) (fun _ => .inr rfl) _)
  clear hw4 d3 g3 c1 hyn hyx
  have c1 : w4.cell? ⟨q, 1, none⟩ = some (.pointer (some ⟨lk y.id, 0, none⟩)) := fr_cell_of_heap HHQ4.out rfl
  have f1 := fr_free_of_heap (i := 1) HHQ4.out
  go_upto_region 12 with fail
  obtain ⟨w5, hw5⟩ : ∃ w5 : World, w5 = w4.setCell ⟨q, 1, none⟩ (.pointer (some ⟨nb, 0, none⟩)) := ⟨_, rfl⟩
  rw [← hw5]
  have hqn : nb ≠ q := by have := HNB.out; omega
  have hqx : w.heap.size ≠ q := by omega
  have HHQ5 := Lib.hid (show w5.heap[q]? = some (.cells #[lkP lk l.head?, .pointer (some ⟨nb, 0, none⟩), .map (some m), .int .i64 sm] 149 (0, 0)) by rw [hw5]; exact fr_setCell_at HHQ4.out)
  have HN5 := Lib.hid ((show w5.heap[nb]? = w4.heap[nb]? by rw [hw5, fr_setCell_other hqn]).trans HN4.out)
  have HX5 := Lib.hid ((show w5.heap[w.heap.size]? = w4.heap[w.heap.size]? by rw [hw5, fr_setCell_other hqx]).trans HX4.out)
  have HM5 := Lib.hid (show w5.ownsMap Try.prog 3 lkR m (l : List It).length D by rw [hw5]; exact HM4.out.setCell (Ne.symm hqm) _)
  have HF5 := Lib.hid (show Fp (fun k => k = q ∨ k = lk y.id) w w5 by rw [hw5]; exact HF4.out.setCell (p := ⟨q, 1, none⟩) (fun _ => .inl rfl) _)
  have HLY5 := Lib.hid ((show w5.heap[lk y.id]? = w4.heap[lk y.id]? by rw [hw5, fr_setCell_other (Ne.symm hqy)]).trans HLY4.out)
  clear hw5 c1 f1 hqn hqx
  obtain ⟨w6, hrun, hown6, hturn⟩ := (HM5.out.drew).store keyT Try.underlying146 (by have := HF.out; unfold maxLen; omega) (keyI_of HI.out) (lkR_some nb)
  have c2 : w5.cell? ⟨q, 2, none⟩ = some (.map (some m)) := fr_cell_of_heap HHQ5.out rfl
  have b0 : w5.cell? ⟨w.heap.size, 0, none⟩ = some (.int .i64 x.id) := fr_cell_of_heap HX5.out rfl
  have hg6 := hturn.grown
  have HM6 := Lib.hid hown6
  have HHQ6 := Lib.hid ((hg6.block q (fp_lt_of_heap (w := w5) HHQ5.out) (by simp; exact hqm)).trans HHQ5.out)
  have HN6 := Lib.hid ((hg6.block nb (fp_lt_of_heap (w := w5) HN5.out) (by simp; have := HNB.out; omega)).trans HN5.out)
  have HX6 := Lib.hid ((hg6.block w.heap.size (fp_lt_of_heap (w := w5) HX5.out) (by simp; omega)).trans HX5.out)
  have HF6 := Lib.hid (show Fp (fun k => k = q ∨ k = lk y.id ∨ k = m) w w6 from (HF5.out.drew.mono (S' := (fun k => k = q ∨ k = lk y.id ∨ k = m)) (fun k hk => hk.imp id .inl)).grown hg6 (fun k _ hk => by simp at hk; simp [hk]))
  have HLY6 := Lib.hid ((hg6.block _ (fp_lt_of_heap (w := w5) HLY5.out) (by simp; exact hym)).trans HLY5.out)
  clear hown6 hturn hg6
  go_region
  clear hrun c2 b0
  go_upto_region 13 with fail
  have c3 : w6.cell? ⟨q, 3, none⟩ = some (.int .i64 sm) := fr_cell_of_heap HHQ6.out rfl
  have f3 := fr_free_of_heap (i := 3) HHQ6.out
  have b1 : w6.cell? ⟨w.heap.size, 1, none⟩ = some (.int .i64 x.cost) := fr_cell_of_heap HX6.out rfl
  go_region
  go_wp2_with fail
  go_ret
  have hz6 : w.heap.size ≤ w6.heap.size := HF6.out.size
  have hqn : nb ≠ q := by have := HNB.out; omega
  refine ⟨rfl, nb, by have := HNB.out; omega, ?_, ?_, fun ρ' hl hr => ⟨m, (fun id => if id = x.id then nb else lk id), D.put (keyI x.id) (.lit (.int .i64 nb)), push_close HQ.out H0.out HI.out HF.out ?_ ?_ ?_ ?_ ?_ hl hr⟩⟩
  · have := fp_lt_of_heap HN6.out
    simpa [World.setCell] using this
  · refine (HF6.out.drew.setCell (p := ⟨q, 3, none⟩) (fun _ => .inl rfl) _).mono (fun k hk => ?_)
    rcases hk with rfl | rfl | rfl
    · exact ⟨_, HQ.out.rq⟩
    · exact ⟨_, HLY.out.1⟩
    · exact ⟨_, HQ.out.rm⟩
  · rw [← HSM.out]
    have e : hdP lk nb l = lkP lk l.head? := by
      have h := HY.out
      cases l with
      | nil => simp at h
      | cons z r => rfl
    rw [e]
    exact fr_setCell_at (w := w6.drew) HHQ6.out
  · exact (World.ownsMap.drew HM6.out).setCell (Ne.symm hqm) _
  · refine (fr_setCell_other (w := w6) hqn).trans ?_
    have e : l.getLast? = some y := by rw [List.getLast?_eq_getElem?, show l.length - 1 = i by have := HI1.out; omega]; exact HY.out
    rw [e]
    exact HN6.out
  · intro j z hz hj
    obtain rfl : j = i := by have := HI1.out; omega
    obtain rfl : y = z := Option.some.inj (HY.out.symm.trans hz)
    refine (fr_setCell_other (w := w6) (Ne.symm hqy)).trans ?_
    exact HLY6.out
  · intro j z hz hj
    have hlz := HQ.out.link j z hz
    have h1 : lk z.id ≠ q := fun e => by have h1 := hlz.1; rw [e, HQ.out.rq] at h1; simp at h1
    have h2 : lk z.id ≠ m := fun e => by have h1 := hlz.1; rw [e, HQ.out.rm] at h1; simp at h1
    have h3 : lk z.id ≠ lk y.id := fun e => by
      have h1 := hlz.1
      rw [e, HLY.out.1] at h1
      simp at h1
      have := once_inj HQ.out.good.once HY.out hz h1
      have := HI1.out
      omega
    refine (fr_setCell_other (w := w6) h1).trans ?_
    exact HF6.out.block _ (fp_lt_of_heap hlz.2) (by simp [h1, h2, h3])
/-- THE WALK: Push. -/
theorem fifoPush_ok (x : It) (w : World) (hQ : QueAt pre ρ w q l) (hid : I64 x.id) (h0 : itE l x = 0) (hf : l.length < 1000000) : Calls Try.prog 49 #[.pointer (some ⟨q, 0, none⟩), .agg #[.int .i64 x.id, .int .i64 x.cost]] w (PushPost pre ρ w q l x) := by
  rcases Nat.eq_zero_or_pos l.length with h | h
  · obtain rfl := List.length_eq_zero_iff.1 h
    exact fifoPush_nil x w hQ hid h0 hf
  · exact fifoPush_cons x w hQ hid h0 hf (i := l.length - 1) (List.getElem?_eq_getElem (by omega)) (by omega)
theorem fifoPush_bad (x : It) (w : World) (hQ : QueAt pre ρ w q l) (hid : I64 x.id) (h0 : itE l x ≠ 0) : Calls Try.prog 49 #[.pointer (some ⟨q, 0, none⟩), .agg #[.int .i64 x.id, .int .i64 x.cost]] w fun e w' => e = .returned (.int .i64 (itE l x)) ∧ Below w.heap.size w w' := by
  by_cases h : x.id < 1 ∨ x.cost < 1 ∨ 64 < x.cost
  · rw [show itE l x = 1 by unfold itE; rw [if_pos h]]
    exact fifoPush_arg x w h
  · have h2 : hasIt x.id l = true := by
      unfold itE at h0
      rw [if_neg h] at h0
      rcases hh : hasIt x.id l with _ | _
      · rw [hh] at h0; exact absurd rfl h0
      · rfl
    rw [show itE l x = 8 by unfold itE; rw [if_neg h, if_pos h2]]
    exact fifoPush_there x w hQ hid (by omega) (by omega) (by omega) h2
end
end Go.Proofs.Ytohkchilogmneaa
