/-
  fifo.Queue: Pop: the walk.
-/
import Derived.Test.YtohkchilogmneaaFifo4
namespace Go.Proofs.Ytohkchilogmneaa
open Go.RowKit

/-- The roles of the blocks that are there; none for those to come. -/
def fence (ρ : Roles) (w : World) : Roles := fun k => if k < w.heap.size then ρ k else []
theorem fence_later (ρ : Roles) (w : World) : Later ρ (fence ρ w) w := fun k hk => by simp [fence, hk]
theorem fence_new {ρ : Roles} {w : World} {pre : List Int} (hp : pre ≠ []) {k : Nat} (hk : w.heap.size ≤ k) : ¬ Part (fence ρ w) pre k := by
  rintro ⟨s, h⟩
  simp only [fence, if_neg (Nat.not_lt.2 hk)] at h
  exact hp (List.append_eq_nil_iff.1 h.symm).1
theorem fence_part {ρ : Roles} {w : World} {pre : List Int} (hp : pre ≠ []) {k : Nat} (h : Part (fence ρ w) pre k) : Part ρ pre k := by
  rcases Nat.lt_or_ge k w.heap.size with hk | hk
  · obtain ⟨s, h⟩ := h
    exact ⟨s, by simpa [fence, hk] using h⟩
  · exact absurd h (fence_new hp hk)
theorem fence_role {ρ : Roles} {w : World} {r : List Int} {k : Nat} (h : fence ρ w k = r) (hr : r ≠ []) : ρ k = r := by
  unfold fence at h
  split at h
  · exact h
  · exact absurd h.symm hr
section
variable {pre : List Int} {ρ : Roles} {q : Nat} {l : List It}
theorem QueAt.of_fence {w w' : World} (h : QueAt pre (fence ρ w) w' q l) : QueAt pre ρ w' q l := by
  obtain ⟨m, lk, D, h⟩ := h
  exact ⟨m, lk, D, h.head, fence_role h.rq (by simp), fence_role h.rm (by simp), h.map, h.size, h.has, h.at_, fun i x hx => ⟨fence_role (h.link i x hx).1 (by simp), (h.link i x hx).2⟩, h.good⟩
set_option maxRecDepth 100000 in
set_option maxHeartbeats 2000000 in
/-- THE WALK: Pop. -/
theorem fifoPop_cons (hpre : pre ≠ []) (x : It) (r : List It) (w : World) (hQ : QueAt pre ρ w q (x :: r)) : Calls Try.prog 51 #[.pointer (some ⟨q, 0, none⟩)] w (DropPost pre ρ w q (x :: r) x) := by
  have HQ := Lib.hid hQ
  clear hQ
  go_enter Try.func51, Try.ntmps51
  go_wp2_with fail
  refine (fifoHead_cons (pre := pre) (ρ := ρ) x r _ (HQ.out.below box_below)).mono ?_
  rintro e w1 ⟨rfl, hb1⟩
  have HB1 := Lib.hid hb1
  have hz1 : w.heap.size < w1.heap.size := by have := hb1.size; simp at this; omega
  clear hb1
  go_upto_region 4 with fail
  obtain ⟨w2, hw2⟩ : ∃ w2 : World, w2 = w1.alloc (.cells #[.int .i64 x.id, .int .i64 x.cost] 37) := ⟨_, rfl⟩
  obtain ⟨b2, hb2⟩ : ∃ b2 : Nat, b2 = w1.heap.size := ⟨_, rfl⟩
  rw [← hw2, ← hb2]
  have HB2 := Lib.hid (show Below w.heap.size w w2 by rw [hw2]; exact (box_below.trans (HB1.out.mono (by simp))).alloc (by omega) _)
  have HR2 := Lib.hid (show w2.heap[w.heap.size]? = some (.cells #[.int .i64 0, .int .i64 0] 37 (0, 0)) by rw [hw2]; exact fr_alloc_old ((HB1.out.block _ (by simp)).trans fr_alloc_at))
  have c0 : w2.cell? ⟨b2, 0, none⟩ = some (.int .i64 x.id) := by rw [hw2, hb2]; exact cell_alloc_at rfl
  clear hw2 hb2
  go_wp2_with fail
  refine (fifoDrop_some (pre := pre) (ρ := fence ρ w) x 0 _ ((HQ.out.later (fence_later ρ w)).below HB2.out) rfl).mono ?_
  rintro e w3 ⟨rfl, hF3, hQ3⟩
  have HF3 := Lib.hid hF3
  have HQ3 := Lib.hid hQ3
  have HR3 := Lib.hid (hF3.heap HR2.out (fence_new hpre (Nat.le_refl _)))
  clear hF3 hQ3 c0
  go_wp2_with (refine wpList_store_row rfl 37 _ _ rfl w.heap.size #[.int .i64 x.id, .int .i64 x.cost] rfl rfl 37 _ HR3.out (item_sz x) rfl (item_one x) ?_)
  refine bodyPost_ret (v := .tuple #[.agg #[.int .i64 x.id, .int .i64 x.cost], .bool true]) (results_row2 Try.results51 rfl rfl (setRow_heap w3 w.heap.size _ _ _ _ HR3.out) Try.underlying37 rfl (item_sz x)) rfl ⟨rfl, ?_, ?_⟩
  · exact ((Fp.of_below HB2.out).trans (HF3.out.mono (fun k hk => fence_part hpre hk)) (fun _ _ hk => hk)).setRow (fun h => absurd h (by simp))
  · exact (HQ3.out.frame Fp.row (fun k _ hp e => by subst e; exact fence_new hpre (Nat.le_refl _) hp)).of_fence
end
end Go.Proofs.Ytohkchilogmneaa
