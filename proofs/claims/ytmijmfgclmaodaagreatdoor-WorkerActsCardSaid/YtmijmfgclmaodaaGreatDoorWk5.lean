/-
  worker.Book: All, Remove; slices.Clone, slices.Delete at workers: the walks.
-/
import Derived.Test.YtmijmfgclmaodaaGreatDoorWk4
import Derived.Deep.RegionLaw
import Derived.Lib.SliceRun
namespace Go.Proofs.YtmijmfgclmaodaaGreatDoor
open Go.RowKit

set_option maxRecDepth 100000 in
set_option maxHeartbeats 1000000 in
theorem clone_nil (w : World) :
    Calls Tryz.prog 68 #[.slice none 0 0] w fun e w' => e = .returned (.slice none 0 0) ∧ w = w' := by
  have hnil := fun (W : World) => Lib.run_eql_slice_nil (P := Tryz.prog) W 27 33 none 0 0 0 0 Tryz.underlying27
  go_enter Tryz.func68, Tryz.ntmps68
  go_wp2
  go_ret
  exact ⟨rfl, rfl⟩
theorem flatW_one (l : List Wk) : ∀ u ∈ flatW l, u.oneCell' = true := by
  intro u hu
  obtain ⟨x, _, hx⟩ := List.mem_flatMap.1 hu
  exact encW_one x u hx
theorem clone_cells {w : World} {base g cap : Nat} {l : List Wk} {o : Obj} (h : w.ownsRow base 33 7 (.slice (some ⟨g, 0, none⟩) l.length cap) l.length (flatW l)) (j : Nat) (u : Value) (hu : (flatW l)[j]? = some u) : (w.alloc o).cell? ((⟨g, 0, none⟩ : Addr).add j) = some u := by
  obtain ⟨a, cap', hv, _, _, _, hc⟩ := own_cells h
  cases hv
  obtain ⟨g', ha, _, hlt, h0, _⟩ := hc j u hu
  cases ha
  rw [show (⟨g, 0, none⟩ : Addr).add j = ⟨g, j, none⟩ by unfold Addr.add; split <;> simp_all]
  exact cell_below box_below h0
def ClonePost (l : List Wk) (w : World) (e : Ending) (w' : World) : Prop := ∃ v', e = .returned v' ∧ RowsW w' v' l ∧ Below w.heap.size w w'
set_option maxRecDepth 100000 in
set_option maxHeartbeats 1000000 in
theorem clone_some (g cap base : Nat) (l : List Wk) (w : World) (ho : w.ownsRow base 33 7 (.slice (some ⟨g, 0, none⟩) l.length cap) l.length (flatW l)) (hl : l.length ≤ 1000) :
    Calls Tryz.prog 68 #[.slice (some ⟨g, 0, none⟩) l.length cap] w (ClonePost l w) := by
  have hnil := fun (W : World) => Lib.run_eql_slice_nil (P := Tryz.prog) W 27 33 (some ⟨g, 0, none⟩) l.length cap 0 0 Tryz.underlying27
  have HO := Lib.hid ho
  obtain ⟨i0, hi0, hz0, hz1, hz2⟩ := info_parts worker_info
  clear ho
  go_enter Tryz.func68, Tryz.ntmps68
  go_wp2_with (at_builtin; refine wpList_append_own _ rfl _ _ 27 rfl w.heap.size 33 i0 _ 7 72 Tryz.underlying27 hi0 hz0 hz1 hz2 rfl (by decide) (.slice (some ⟨w.heap.size, 0, none⟩) 0 0) 0 [] rfl ?c0 ⟨g, 0, none⟩ l.length cap (flatW l) rfl ?c1 ?c2 ?c3 ?c4 ?c5 ?c6 ?_; (case c0 => exact ⟨by simp, .inr ⟨w.heap.size, 0, #[], rfl, Nat.le_refl _, fr_alloc_at, by decide, by decide, by simp, by simp⟩⟩); (case c1 => exact flatW_len l); (case c2 => exact clone_cells HO.out); (case c3 => exact flatW_one l); (case c4 => unfold maxLen; omega); (case c5 => omega); (case c6 => simp); intro v' w1 hown1 hgrow _)
  have HN := Lib.hid hown1
  have HB := Lib.hid (show Below w.heap.size w w1 from (box_below (o := .cells #[] 33)).trans ⟨hgrow.os, hgrow.tape, hgrow.output, hgrow.size, fun k hk => hgrow.block k (by simp; omega) (fun e => by simp [Value.ownBlock] at e; omega)⟩)
  clear hown1 hgrow
  go_wp2
  go_ret
  exact ⟨_, rfl, RowsW.own (base := w.heap.size) (by have h := HN.out; rw [Nat.zero_add, List.nil_append] at h; exact h) (by omega), HB.out⟩
/-- All workers, in a slice of its own. -/
theorem clone_any {base : Nat} (v : Value) (l : List Wk) (w : World) (ho : w.ownsRow base 33 7 v l.length (flatW l)) (hl : l.length ≤ 1000) :
    Calls Tryz.prog 68 #[v] w (ClonePost l w) := by
  have ho' := ho
  obtain ⟨_, ⟨rfl, h0⟩ | ⟨g, cap, cur, rfl, hr⟩⟩ := ho
  · have : l = [] := List.length_eq_zero_iff.1 h0
    subst this
    refine (clone_nil w).mono ?_
    rintro e w' ⟨rfl, rfl⟩
    exact ⟨_, rfl, ⟨none, 0, rfl, Nat.zero_le _, fun j u hu => by simp [flatW] at hu⟩, Below.refl _ _⟩
  · exact clone_some g cap base l w ho' hl
set_option maxRecDepth 100000 in
set_option maxHeartbeats 1000000 in
/-- THE WALK: All. -/
theorem all_any {T : TypeId} {base b : Nat} {v : Value} {s : Bk} (w : World) (hB : BookAt T base w b v s) :
    Calls Tryz.prog 35 #[.pointer (some ⟨b, 0, none⟩)] w (ClonePost s.ws w) := by
  have HB := Lib.hid hB
  have c2 := hB.c2
  clear hB
  go_enter Tryz.func35, Tryz.ntmps35
  go_wp2_with fail
  refine (clone_any v s.ws _ HB.out.own HB.out.few).mono ?_
  rintro e w1 ⟨v', rfl, hr, hb⟩
  go_wp2
  go_ret
  exact ⟨_, rfl, hr, hb⟩

/-! ### Cells laid one behind the other -/
def layC (cur : Array Value) : Nat → List Value → Array Value
  | _, [] => cur
  | o, v :: r => layC (cur.setIfInBounds o v) (o + 1) r
theorem layC_size : ∀ (vs : List Value) (cur : Array Value) (o : Nat), (layC cur o vs).size = cur.size
  | [], _, _ => rfl
  | v :: r, cur, o => by rw [layC, layC_size r]; simp
theorem layC_list : ∀ (vs : List Value) (cur : Array Value) (o : Nat), o + vs.length ≤ cur.size → (layC cur o vs).toList = cur.toList.take o ++ vs ++ cur.toList.drop (o + vs.length)
  | [], cur, o, _ => by simp [layC]
  | v :: r, cur, o, h => by
    rw [List.length_cons] at h
    rw [layC, layC_list r _ _ (by simp; omega), Array.toList_setIfInBounds, List.take_set, List.drop_set_of_lt (by omega)]
    have hlen : cur.toList.length = cur.size := by simp
    rw [List.take_succ_eq_append_getElem (by omega : o < cur.toList.length), List.set_append_right _ _ (by rw [List.length_take]; omega), List.length_take, show o - min o cur.toList.length = 0 by omega]
    simp [show o + (r.length + 1) = o + 1 + r.length by omega]
theorem heap_setCells : ∀ (vs : List Value) (o : Nat) {w : World} {g : Nat} {cur : Array Value} {t : TypeId} {fr : Nat × Nat}, w.heap[g]? = some (.cells cur t fr) → (w.setCells g o vs).heap[g]? = some (.cells (layC cur o vs) t fr)
  | [], _, _, _, _, _, _, h => h
  | v :: r, o, w, g, cur, t, fr, h => by rw [World.setCells, layC]; exact heap_setCells r (o + 1) (fr_setCell_at h)
theorem Fr.setCells {S : List Nat} {w : World} {g : Nat} (hg : g ∈ S ∨ w.heap.size ≤ g) : ∀ (vs : List Value) (o : Nat) {w' : World}, Fr S w w' → Fr S w (w'.setCells g o vs)
  | [], _, _, h => h
  | v :: r, o, w', h => by rw [World.setCells]; exact Fr.setCells hg r (o + 1) (h.setCell (p := ⟨g, o, none⟩) hg v)
def zeroL : List Value := [.int .i64 0, .int .i64 0, .int .i64 0, .string ⟨#[]⟩, .string ⟨#[]⟩, .bool false, .int .u64 0]
theorem zero_worker (w : World) : (zeroValue 33).run Tryz.prog w = .ok (.agg #[.int .i64 0, .int .i64 0, .int .i64 0, .string ⟨#[]⟩, .string ⟨#[]⟩, .bool false, .int .u64 0]) w := by kernel_rfl
/-- 'clear(s)', s of one worker. -/
theorem run_clear_one (w : World) (ty : TypeId) (g o c : Nat) (hc : ∀ j, j < 7 → (w.cell? ⟨g, o + j, none⟩).isSome = true) (hf : ∀ j, j < 7 → w.frozen? ⟨g, o + j, none⟩ = false) :
    (Builtin.clear_ #[27] ty #[.slice (some ⟨g, o, none⟩) 1 c]).run Tryz.prog w = .ok (.tuple #[]) (w.setCells g o zeroL) := by
  have hst := run_storeCells_cells (P := Tryz.prog) g o zeroL 0 w (by simpa [zeroL] using hc) (by simpa [zeroL] using hf) (by intro v hv; simp only [zeroL, List.mem_cons, List.not_mem_nil, or_false] at hv; rcases hv with rfl | rfl | rfl | rfl | rfl | rfl | rfl <;> rfl)
  simp only [Nat.add_zero] at hst
  have hz : (Builtin.zeroCells (Value.cells (.agg #[.int .i64 0, .int .i64 0, .int .i64 0, .string ⟨#[]⟩, .string ⟨#[]⟩, .bool false, .int .u64 0])) 1).toList = zeroL := by kernel_rfl
  simp [Builtin.clear_, run_underlying Tryz.underlying27, hz, hst]
/-- A slice of the call's own from which one worker was struck. -/
theorem own_struck {w w' : World} {base g cap i : Nat} {l : List Wk} (h : w.ownsRow base 33 7 (.slice (some ⟨g, 0, none⟩) l.length cap) l.length (flatW l)) (hi : i < l.length)
    (hw : ∀ cur, w.heap[g]? = some (.cells cur 33 (0, 0)) → w'.heap[g]? = some (.cells (layC (layC cur (i * 7) (flatW (l.drop (i + 1)))) ((l.length - 1) * 7) zeroL) 33 (0, 0))) :
    w'.ownsRow base 33 7 (.slice (some ⟨g, 0, none⟩) (l.length - 1) cap) (l.length - 1) (flatW (l.eraseIdx i)) := by
  have hel : (l.eraseIdx i).length = l.length - 1 := by rw [List.length_eraseIdx_of_lt hi]
  obtain ⟨hl, ⟨h0, _⟩ | ⟨g', cap', cur, hv, hb, hh, hn, hcm, hcs, htk⟩⟩ := h
  · cases h0
  cases hv
  have hlen : (flatW (l.drop (i + 1))).length = (l.length - (i + 1)) * 7 := by rw [flatW_len, List.length_drop]
  have hsz : i * 7 + (flatW (l.drop (i + 1))).length ≤ cur.size := by rw [hlen, hcs]; omega
  refine ⟨by rw [flatW_len, hel], .inr ⟨g, cap, _, rfl, hb, hw cur hh, by omega, hcm, by rw [layC_size, layC_size, hcs], ?_⟩⟩
  rw [layC_list _ _ _ (by rw [layC_size, hcs]; simp [zeroL]; omega), layC_list _ _ _ hsz]
  rw [List.append_assoc, List.take_append_of_le_length (by simp; rw [hlen, hcs]; omega)]
  rw [List.take_take, Nat.min_self]
  have ht : cur.toList.take (i * 7) = flatW (l.take i) := by
    have e : flatW (l.take i) = (flatW l).take (i * 7) := (flat_take encW 7 encW_len l i).symm
    rw [e, ← htk, List.take_take, Nat.min_eq_left (by omega)]
  rw [ht, List.append_assoc, ← List.append_assoc, List.take_append_of_le_length (by rw [List.length_append, flatW_len, hlen, List.length_take]; omega), List.take_of_length_le (by rw [List.length_append, flatW_len, hlen, List.length_take]; omega)]
  rw [List.eraseIdx_eq_take_drop_succ]
  simp [flatW]
def DelPost (base g cap i : Nat) (l : List Wk) (w : World) (e : Ending) (w' : World) : Prop :=
  e = .returned (.slice (some ⟨g, 0, none⟩) (l.length - 1) cap) ∧ w'.ownsRow base 33 7 (.slice (some ⟨g, 0, none⟩) (l.length - 1) cap) (l.length - 1) (flatW (l.eraseIdx i)) ∧ Fr [g] w w'
set_option maxRecDepth 100000 in
set_option maxHeartbeats 4000000 in
/-- THE WALK: slices.Delete of one worker. -/
theorem delete_any {base : Nat} (g cap i : Nat) (l : List Wk) (w : World) (ho : w.ownsRow base 33 7 (.slice (some ⟨g, 0, none⟩) l.length cap) l.length (flatW l)) (hi : i < l.length) (hl : l.length ≤ 1000) :
    Calls Tryz.prog 57 #[.slice (some ⟨g, 0, none⟩) l.length cap, .int .i64 i, .int .i64 ((i : Int) + 1)] w (DelPost base g cap i l w) := by
  have HO := Lib.hid ho
  obtain ⟨i0, hi0, hz0, hz1, hz2⟩ := info_parts worker_info
  obtain ⟨a, cap', hv, hn, hcm, hxl, hc⟩ := own_cells ho
  cases hv
  obtain ⟨hl0, ⟨h0, _⟩ | ⟨g', cap', cur, hv, hb, hh, _, _, hcs, htk⟩⟩ := ho
  · cases h0
  cases hv
  have hcell : ∀ j, j < cap * 7 → (w.cell? ⟨g, j, none⟩).isSome = true ∧ w.frozen? ⟨g, j, none⟩ = false := by
    intro j hj
    obtain ⟨u, hu⟩ : ∃ u, cur[j]? = some u := ⟨_, Array.getElem?_eq_getElem (by omega)⟩
    exact ⟨by rw [fr_cell_of_heap hh hu]; rfl, fr_free_of_heap hh⟩
  obtain ⟨news, hnews⟩ : ∃ news, news = flatW (l.drop (i + 1)) := ⟨_, rfl⟩
  have hlen : news.length = (l.length - (i + 1)) * 7 := by rw [hnews, flatW_len, List.length_drop]
  have hget : ∀ t u, news[t]? = some u → w.cell? ⟨g, (i + 1) * 7 + t, none⟩ = some u := by
    intro t u hu
    have hd : flatW (l.drop (i + 1)) = (flatW l).drop ((i + 1) * 7) := (flat_drop encW 7 encW_len l (i + 1)).symm
    rw [hnews, hd, List.getElem?_drop] at hu
    obtain ⟨g', ha, _, _, h1, _⟩ := hc _ _ hu
    cases ha
    exact h1
  obtain ⟨A, hA, hsrc⟩ : ∃ A : Addr, (if cap = i + 1 then some (⟨g, 0, none⟩ : Addr) else some ⟨g, (i + 1) * 7, none⟩) = some A ∧ Hid (∀ t u, news[t]? = some u → w.drew.cell? (A.add t) = some u) := by
    by_cases h : cap = i + 1
    · refine ⟨⟨g, 0, none⟩, by simp [h], fun t u hu => ?_⟩
      have h0 : news.length = 0 := by rw [hlen]; omega
      rw [List.length_eq_zero_iff.1 h0] at hu
      simp at hu
    · refine ⟨⟨g, (i + 1) * 7, none⟩, by simp [h], fun t u hu => ?_⟩
      rw [show (⟨g, (i + 1) * 7, none⟩ : Addr).add t = ⟨g, (i + 1) * 7 + t, none⟩ by unfold Addr.add; split <;> simp_all]
      exact hget t u hu
  have s1 : Hid (news.length = (l.length - (i + 1)) * 7) := hlen
  have s2 : Hid (∀ u ∈ news, u.oneCell' = true) := by rw [hnews]; exact flatW_one _
  have s3 : Hid (∀ t, t < news.length → (w.drew.cell? ⟨g, 0 + i * 7 + t, none⟩).isSome = true ∧ w.drew.frozen? ⟨g, 0 + i * 7 + t, none⟩ = false) := by
    intro t ht
    rw [hlen] at ht
    rw [Nat.zero_add]
    exact hcell (i * 7 + t) (by omega)
  obtain ⟨W1, hW1⟩ : ∃ W1, W1 = w.drew.setCells g (0 + i * 7) news := ⟨_, rfl⟩
  have hh1 : W1.heap[g]? = some (.cells (layC cur (i * 7) news) 33 (0, 0)) := by rw [hW1, Nat.zero_add]; exact heap_setCells news (i * 7) (w := w.drew) hh
  have hcl : ∀ ty, (Builtin.clear_ #[27] ty #[.slice (some ⟨g, (l.length - 1) * 7, none⟩) 1 (cap - (l.length - 1))]).run Tryz.prog W1 = .ok (.tuple #[]) (W1.setCells g ((l.length - 1) * 7) zeroL) := fun ty =>
    run_clear_one W1 ty g _ _ (fun j hj => by
      obtain ⟨u, hu⟩ : ∃ u, (layC cur (i * 7) news)[(l.length - 1) * 7 + j]? = some u := ⟨_, Array.getElem?_eq_getElem (by rw [layC_size, hcs]; omega)⟩
      rw [fr_cell_of_heap hh1 hu]; rfl) (fun j hj => fr_free_of_heap hh1)
  have hfin : DelPost base g cap i l w (.returned (.slice (some ⟨g, 0, none⟩) (l.length - 1) cap)) (W1.setCells g ((l.length - 1) * 7) zeroL) := by
    refine ⟨rfl, own_struck HO.out hi (fun cur' h' => ?_), Fr.setCells (.inl (by simp)) _ _ (by rw [hW1]; exact Fr.setCells (.inl (by simp)) _ _ (Fr.refl _ w).drew)⟩
    obtain rfl : cur = cur' := by rw [hh] at h'; simpa using h'
    rw [← hnews]
    exact heap_setCells _ _ hh1
  have HFIN := Lib.hid hfin
  have HW := Lib.hid hW1
  have hn1 : i + (l.length - (i + 1)) = l.length - 1 := by omega
  have hn2 : l.length - (l.length - 1) = 1 := by omega
  have HN1 := Lib.hid hn1
  have hic : i ≤ cap := by omega
  have hjc : i + 1 ≤ cap := by omega
  have hlc : l.length ≤ cap := by omega
  have hcm2 : cap ≤ 9223372036854775807 := by unfold maxLen at hcm; omega
  clear hW1 hh1 hcell hget hlen hc hh hb htk hcs hnews hcm hn1 hxl hl0 HO hfin
  go_enter Tryz.func57, Tryz.ntmps57
  have hb1 : (0 : Int) ≤ (i : Int) + 1 := by omega
  have hb2 : (i : Int) + 1 ≤ (l.length : Int) := by omega
  go_wp2_with fail
  go_region_law (refine step_append_room rfl (.tmp 22) (.tmp 25) 27 rfl 33 i0 7 Tryz.underlying27 hi0 hz1 g 0 i cap (by simp [Act.eval, Act.put]) A (l.length - (i + 1)) (cap - (i + 1)) news (by simp [Act.eval, Act.put]) s1.out hsrc.out s2.out (by omega) s3.out ?_; rw [← HW.out])
  rw [HN1.out]
  go_wp2
  go_ret
  exact HFIN.out
end Go.Proofs.YtmijmfgclmaodaaGreatDoor
