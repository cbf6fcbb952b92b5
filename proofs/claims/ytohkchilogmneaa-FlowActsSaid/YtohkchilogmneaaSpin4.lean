/-
  slices.Delete of one node: the walk.
-/
import Derived.Test.YtohkchilogmneaaSpin3
import Derived.Deep.RegionLaw
namespace Go.Proofs.Ytohkchilogmneaa
open Go.RowKit

/-! ### Cells laid one behind the other -/
def layV (cur : Array Value) : Nat → List Value → Array Value
  | _, [] => cur
  | o, v :: r => layV (cur.setIfInBounds o v) (o + 1) r
theorem layV_size : ∀ (vs : List Value) (cur : Array Value) (o : Nat), (layV cur o vs).size = cur.size
  | [], _, _ => rfl
  | v :: r, cur, o => by rw [layV, layV_size r]; simp
theorem layV_out : ∀ (vs : List Value) (cur : Array Value) (o j : Nat), (j < o ∨ o + vs.length ≤ j) → (layV cur o vs)[j]? = cur[j]?
  | [], _, _, _, _ => rfl
  | v :: r, cur, o, j, h => by
    rw [List.length_cons] at h
    rw [layV, layV_out r _ _ _ (by omega), Array.getElem?_setIfInBounds_ne (by omega)]
theorem layV_in : ∀ (vs : List Value) (cur : Array Value) (o i : Nat) {u : Value}, vs[i]? = some u → o + vs.length ≤ cur.size → (layV cur o vs)[o + i]? = some u
  | [], _, _, _, _, h, _ => by simp at h
  | v :: r, cur, o, 0, u, h, hs => by
    simp at h
    subst h
    rw [List.length_cons] at hs
    rw [layV, layV_out r _ _ _ (by omega), Nat.add_zero, Array.getElem?_setIfInBounds_self_of_lt (by omega)]
  | v :: r, cur, o, i + 1, u, h, hs => by
    rw [List.length_cons] at hs
    rw [layV, show o + (i + 1) = o + 1 + i by omega]
    exact layV_in r _ _ i (by simpa using h) (by simp; omega)
theorem heap_layV : ∀ (vs : List Value) (o : Nat) {w : World} {g : Nat} {cur : Array Value} {t : TypeId} {fr : Nat × Nat}, w.heap[g]? = some (.cells cur t fr) → (w.setCells g o vs).heap[g]? = some (.cells (layV cur o vs) t fr)
  | [], _, _, _, _, _, _, h => h
  | v :: r, o, w, g, cur, t, fr, h => by rw [World.setCells, layV]; exact heap_layV r (o + 1) (fr_setCell_at h)
theorem Fp.setCells {S : Nat → Prop} {w : World} {g : Nat} (hg : g < w.heap.size → S g) : ∀ (vs : List Value) (o : Nat) {w' : World}, Fp S w w' → Fp S w (w'.setCells g o vs)
  | [], _, _, h => h
  | v :: r, o, w', h => by rw [World.setCells]; exact Fp.setCells hg r (o + 1) (h.setCell (p := ⟨g, o, none⟩) hg v)

/-- 'clear(s)', s of one pointer. -/
theorem run_clear_ptr (w : World) (ty : TypeId) (g o c : Nat) (hc : (w.cell? ⟨g, o, none⟩).isSome = true) (hf : w.frozen? ⟨g, o, none⟩ = false) :
    (Builtin.clear_ #[98] ty #[.slice (some ⟨g, o, none⟩) 1 c]).run Try.prog w = .ok (.tuple #[]) (w.setCells g o [.pointer none]) := by
  have hc0 : ∀ j, j < ([Value.pointer none] : List Value).length → (w.cell? ⟨g, o + 0 + j, none⟩).isSome = true := by
    intro j hj
    have h0 : j = 0 := by simpa using hj
    subst h0
    simpa using hc
  have hf0 : ∀ j, j < ([Value.pointer none] : List Value).length → w.frozen? ⟨g, o + 0 + j, none⟩ = false := by
    intro j hj
    have h0 : j = 0 := by simpa using hj
    subst h0
    simpa using hf
  have h1 : ∀ u ∈ ([Value.pointer none] : List Value), u.oneCell' = true := by
    intro u hu
    rw [List.mem_singleton] at hu
    subst hu
    rfl
  have hst := run_storeCells_cells (P := Try.prog) g o [.pointer none] 0 w hc0 hf0 h1
  simp only [Nat.add_zero] at hst
  have hz : (Builtin.zeroCells (Value.cells (.pointer none)) 1).toList = [.pointer none] := by kernel_rfl
  simp [Builtin.clear_, run_underlying Try.underlying98, hz, hst]
def DelNPost (w : World) (v : Value) (bs : List Nat) (k : Nat) (e : Ending) (w' : World) : Prop :=
  ∃ v', e = .returned v' ∧ ArrIn 104 w' v' (bs.eraseIdx k) ∧ v'.ownBlock = v.ownBlock ∧ Fp (fun j => v.ownBlock = some j) w w'
set_option maxRecDepth 100000 in
set_option maxHeartbeats 4000000 in
/-- THE WALK: slices.Delete of one node. -/
theorem spinDelete_any (v : Value) (bs : List Nat) (k : Nat) (w : World) (hA : ArrIn 104 w v bs) (hk : k < bs.length) (hl : bs.length ≤ 1000000) :
    Calls Try.prog 86 #[v, .int .i64 k, .int .i64 ((k : Int) + 1)] w (DelNPost w v bs k) := by
  obtain ⟨i0, hi0, hz0, hz1, hz2⟩ := info_parts np_info
  rcases hA with ⟨_, rfl⟩ | ⟨g, off, cap, cur, rfl, hh, hfit, hle, hcm, hc⟩
  · simp at hk
  have hcell : ∀ j, j < cap → (w.cell? ⟨g, off + j, none⟩).isSome = true ∧ w.frozen? ⟨g, off + j, none⟩ = false := by
    intro j hj
    obtain ⟨u, hu⟩ : ∃ u, cur[off + j]? = some u := ⟨_, Array.getElem?_eq_getElem (by omega)⟩
    exact ⟨by rw [fr_cell_of_heap hh hu]; rfl, fr_free_of_heap hh⟩
  obtain ⟨news, hnews⟩ : ∃ news, news = (bs.drop (k + 1)).map ptrV := ⟨_, rfl⟩
  have hlen : news.length = bs.length - (k + 1) := by rw [hnews]; simp
  have hget : ∀ t u, news[t]? = some u → w.cell? ⟨g, off + (k + 1) + t, none⟩ = some u := by
    intro t u hu
    rw [hnews, List.getElem?_map, List.getElem?_drop] at hu
    obtain ⟨b, hb, rfl⟩ := Option.map_eq_some_iff.1 hu
    have := fr_cell_of_heap hh (hc _ b hb)
    rw [Nat.add_assoc]
    exact this
  obtain ⟨A, hA, hsrc⟩ : ∃ A : Addr, (if cap = k + 1 then some (⟨g, off, none⟩ : Addr) else some ⟨g, off + (k + 1), none⟩) = some A ∧ Hid (∀ t u, news[t]? = some u → w.drew.cell? (A.add t) = some u) := by
    by_cases h : cap = k + 1
    · refine ⟨⟨g, off, none⟩, by simp [h], fun t u hu => ?_⟩
      have h0 : news.length = 0 := by rw [hlen]; omega
      rw [List.length_eq_zero_iff.1 h0] at hu
      simp at hu
    · refine ⟨⟨g, off + (k + 1), none⟩, by simp [h], fun t u hu => ?_⟩
      rw [show (⟨g, off + (k + 1), none⟩ : Addr).add t = ⟨g, off + (k + 1) + t, none⟩ by unfold Addr.add; split <;> simp_all]
      exact hget t u hu
  have s1 : Hid (news.length = (bs.length - (k + 1)) * 1) := by show _ = _; omega
  have s2 : Hid (∀ u ∈ news, u.oneCell' = true) := by
    intro u hu
    rw [hnews] at hu
    obtain ⟨b, _, rfl⟩ := List.mem_map.1 hu
    rfl
  have s3 : Hid (∀ t, t < news.length → (w.drew.cell? ⟨g, off + k * 1 + t, none⟩).isSome = true ∧ w.drew.frozen? ⟨g, off + k * 1 + t, none⟩ = false) := by
    intro t ht
    rw [hlen] at ht
    have := hcell (k + t) (by omega)
    rw [Nat.mul_one, Nat.add_assoc]
    exact this
  obtain ⟨W1, hW1⟩ : ∃ W1, W1 = w.drew.setCells g (off + k * 1) news := ⟨_, rfl⟩
  have hh1 : W1.heap[g]? = some (.cells (layV cur (off + k) news) 104 (0, 0)) := by rw [hW1, Nat.mul_one]; exact heap_layV news (off + k) (w := w.drew) hh
  have hcl : ∀ ty, (Builtin.clear_ #[98] ty #[.slice (some ⟨g, off + (bs.length - 1), none⟩) 1 (cap - (bs.length - 1))]).run Try.prog W1 = .ok (.tuple #[]) (W1.setCells g (off + (bs.length - 1)) [.pointer none]) := fun ty =>
    run_clear_ptr W1 ty g _ _ (by
      obtain ⟨u, hu⟩ : ∃ u, (layV cur (off + k) news)[off + (bs.length - 1)]? = some u := ⟨_, Array.getElem?_eq_getElem (by rw [layV_size]; omega)⟩
      rw [fr_cell_of_heap hh1 hu]; rfl) (fr_free_of_heap hh1)
  have hel : (bs.eraseIdx k).length = bs.length - 1 := List.length_eraseIdx_of_lt hk
  have hS : ∀ n, g < n → (Value.slice (some ⟨g, off, none⟩) bs.length cap).ownBlock = some g := fun _ _ => rfl
  have hF1 : Fp (fun j => (Value.slice (some ⟨g, off, none⟩) bs.length cap).ownBlock = some j) w W1 := by
    rw [hW1]
    exact Fp.setCells (hS _) _ _ (Fp.refl _ w).drew
  have hF2 := Fp.setCells (S := fun j => (Value.slice (some ⟨g, off, none⟩) bs.length cap).ownBlock = some j) (hS _) [.pointer none] (off + (bs.length - 1)) hF1
  have hfin : DelNPost w (.slice (some ⟨g, off, none⟩) bs.length cap) bs k (.returned (.slice (some ⟨g, off, none⟩) (bs.length - 1) cap)) (W1.setCells g (off + (bs.length - 1)) [.pointer none]) := by
    refine ⟨_, rfl, .inr ⟨g, off, cap, _, by rw [hel], heap_layV _ _ hh1, by rw [layV_size, layV_size]; exact hfit, by rw [hel]; omega, hcm, fun i b hb => ?_⟩, rfl, hF2⟩
    have hi : i < bs.length - 1 := by rw [← hel]; exact (List.getElem?_eq_some_iff.1 hb).1
    rw [layV_out _ _ _ _ (by omega)]
    rw [List.getElem?_eraseIdx] at hb
    split at hb
    · rw [layV_out _ _ _ _ (by omega)]
      exact hc i b hb
    · rename_i h1
      have hn : news[i - k]? = some (ptrV b) := by
        rw [hnews, List.getElem?_map, List.getElem?_drop, show k + 1 + (i - k) = i + 1 by omega, hb]
        rfl
      have := layV_in news cur (off + k) (i - k) hn (by rw [hlen]; omega)
      rwa [show off + k + (i - k) = off + i by omega] at this
  have HFIN := Lib.hid hfin
  have HW := Lib.hid hW1
  have hn1 : k + (bs.length - (k + 1)) = bs.length - 1 := by omega
  have hn2 : bs.length - (bs.length - 1) = 1 := by omega
  have HN1 := Lib.hid hn1
  have hic : k ≤ cap := by omega
  have hjc : k + 1 ≤ cap := by omega
  have hcm2 : cap ≤ 9223372036854775807 := by unfold maxLen at hcm; omega
  clear hW1 hh1 hcell hget hlen hc hh hnews hcm hn1 hfin hel hfit
  go_enter Try.func86, Try.ntmps86
  have hb1 : (0 : Int) ≤ (k : Int) + 1 := by omega
  have hb2 : (k : Int) + 1 ≤ (bs.length : Int) := by omega
  go_wp2_with fail
  go_region_law (refine step_append_room rfl (.tmp 22) (.tmp 25) 98 rfl 104 i0 1 Try.underlying98 hi0 hz1 g off k cap (by simp [Act.eval, Act.put]) A (bs.length - (k + 1)) (cap - (k + 1)) news (by simp [Act.eval, Act.put]) s1.out hsrc.out s2.out (by omega) s3.out ?_; rw [← HW.out])
  rw [HN1.out]
  go_wp2
  go_ret
  exact HFIN.out
end Go.Proofs.Ytohkchilogmneaa
