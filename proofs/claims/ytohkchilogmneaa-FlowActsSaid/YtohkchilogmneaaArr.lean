/-
  A slice of pointers, at an offset of its block: what it reads as, what an append of one leaves.
-/
import Derived.Test.YtohkchilogmneaaRole
import Derived.ArgAppend
namespace Go.Proofs.Ytohkchilogmneaa
open Go.RowKit

def ptrV (b : Nat) : Value := .pointer (some ⟨b, 0, none⟩)
/-- A slice of pointers (type e), the blocks bs. -/
def ArrIn (e : TypeId) (w : World) (v : Value) (bs : List Nat) : Prop :=
  (v = .slice none 0 0 ∧ bs = []) ∨ ∃ g off cap cur, v = .slice (some ⟨g, off, none⟩) bs.length cap ∧ w.heap[g]? = some (.cells cur e (0, 0)) ∧ off + cap ≤ cur.size ∧ bs.length ≤ cap ∧ cap ≤ maxLen ∧ ∀ (i b : Nat), bs[i]? = some b → cur[off + i]? = some (ptrV b)
theorem ArrIn.lt {e : TypeId} {w : World} {v : Value} {bs : List Nat} (h : ArrIn e w v bs) : ∀ k, v.ownBlock = some k → k < w.heap.size := by
  intro k hk
  rcases h with ⟨rfl, _⟩ | ⟨g, off, cap, cur, rfl, hg, _⟩
  · cases hk
  · simp only [Value.ownBlock, Option.some.injEq] at hk
    subst hk
    exact fp_lt_of_heap hg
theorem ArrIn.kept {e : TypeId} {w w' : World} {v : Value} {bs : List Nat} (h : ArrIn e w v bs) (hk : ∀ k, v.ownBlock = some k → w'.heap[k]? = w.heap[k]?) : ArrIn e w' v bs := by
  rcases h with h | ⟨g, off, cap, cur, rfl, hg, hr⟩
  · exact .inl h
  · exact .inr ⟨g, off, cap, cur, rfl, (hk g rfl).trans hg, hr⟩
theorem ArrIn.below {e : TypeId} {w w' : World} {v : Value} {bs : List Nat} (h : ArrIn e w v bs) (hb : Below w.heap.size w w') : ArrIn e w' v bs := h.kept (fun k hk => hb.block k (h.lt k hk))
theorem ArrIn.frame {e : TypeId} {w w' : World} {v : Value} {bs : List Nat} (h : ArrIn e w v bs) {S : Nat → Prop} (hf : Fp S w w') (hS : ∀ k, v.ownBlock = some k → ¬ S k) : ArrIn e w' v bs := h.kept (fun k hk => hf.block k (h.lt k hk) (hS k hk))
/-- One of them. -/
theorem ArrIn.at {e : TypeId} {w : World} {v : Value} {bs : List Nat} (h : ArrIn e w v bs) {i b : Nat} (hb : bs[i]? = some b) : ∃ g off cap, v = .slice (some ⟨g, off, none⟩) bs.length cap ∧ w.cell? ⟨g, off + i, none⟩ = some (ptrV b) := by
  rcases h with ⟨_, rfl⟩ | ⟨g, off, cap, cur, rfl, hg, _, _, _, hc⟩
  · simp at hb
  · exact ⟨g, off, cap, rfl, fr_cell_of_heap hg (hc i b hb)⟩
theorem ArrIn.form {e : TypeId} {w : World} {v : Value} {bs : List Nat} (h : ArrIn e w v bs) : ∃ a cap, v = .slice a bs.length cap ∧ bs.length ≤ cap := by
  rcases h with ⟨rfl, rfl⟩ | ⟨g, off, cap, cur, rfl, _, _, hl, _⟩
  · exact ⟨none, 0, rfl, Nat.le_refl _⟩
  · exact ⟨_, cap, rfl, hl⟩
section
variable {P : Program}
theorem run_append_arr {w : World} (t ty e : TypeId) (ht : P.underlying t = some (.slice e)) (hinfo : (P.info? e).map (fun i => (i.zero, i.size, i.bytes)) = some (some (.pointer none), 1, 8))
    {v : Value} {bs : List Nat} (h : ArrIn e w v bs) (u b : Nat) (hu : w.cell? ⟨u, 0, none⟩ = some (ptrV b)) (hn : bs.length < 1000000) :
    ∃ v' w', (Builtin.append_ #[t, t] ty #[v, .slice (some ⟨u, 0, none⟩) 1 1]).run P w = .ok v' w' ∧ ArrIn e w' v' (bs ++ [b]) ∧ w.grownBy w' v.ownBlock ∧ (v'.ownBlock = v.ownBlock ∨ v'.ownBlock = some w.heap.size) := by
  obtain ⟨i0, hi, hz0, hz1, hz2⟩ := info_parts hinfo
  have hnews : ∀ j x, [ptrV b][j]? = some x → w.cell? ((⟨u, 0, none⟩ : Addr).add j) = some x := fun j x hx => by
    cases j with
    | zero =>
      simp at hx
      subst hx
      exact hu
    | succ j => simp at hx
  have h1 : ∀ x ∈ [ptrV b], x.oneCell' = true := fun x hx => by
    rw [List.mem_singleton] at hx
    subst hx
    rfl
  rcases h with ⟨rfl, rfl⟩ | ⟨g, off, cap, cur, rfl, hg, hfit, hle, hcm, hc⟩
  · have hr := run_append_nil (P := P) w t ty e i0 (.pointer none) ht hi hz0 ⟨u, 0, none⟩ 1 1 [ptrV b] (by rw [hz1]; rfl) hnews (by omega) (by omega) (by rw [hz2]; omega)
    refine ⟨_, _, hr, .inr ⟨w.heap.size, 0, _, _, rfl, heap_alloc_new w.drew _, ?_, grownCap_ge w 1 0 e, grownCap_le_maxLen w 1 0 e (by unfold maxLen; omega), fun i x hx => ?_⟩, ⟨rfl, rfl, rfl, by simp, fun k hk _ => Below.heap_alloc w.drew _ k hk⟩, .inr rfl⟩
    · have := grownCap_ge w 1 0 e
      simp [size_zeroCells, Value.cells]
      omega
    · cases i with
      | zero =>
        simp at hx
        subst hx
        rw [Nat.add_zero, Array.getElem?_append_left (by simp)]
        rfl
      | succ i => simp at hx
  · by_cases hroom : bs.length + 1 ≤ cap
    · have hr := run_append_room_cells (P := P) (w := w) t ty e i0 ht hi g off bs.length cap ⟨u, 0, none⟩ 1 1 [ptrV b] (by rw [hz1]; rfl) hnews h1 hroom (fun j hj => by
        have hj0 : j = 0 := by simpa using hj
        subst hj0
        rw [hz1]
        obtain ⟨x, hx⟩ : ∃ x, cur[off + bs.length * 1 + 0]? = some x := ⟨_, Array.getElem?_eq_getElem (by omega)⟩
        rw [fr_cell_of_heap hg hx]
        rfl) (fun j _ => fr_free_of_heap hg)
      rw [hz1, Nat.mul_one] at hr
      refine ⟨_, _, hr, .inr ⟨g, off, cap, _, by rw [List.length_append]; rfl, fr_setCell_at hg, by simpa using hfit, by rw [List.length_append]; simpa using hroom, hcm, fun i x hx => ?_⟩, ⟨rfl, rfl, rfl, by simp [World.setCells, World.setCell], fun k hk hne => fr_setCell_other (fun e => hne (by simp [Value.ownBlock, e]))⟩, .inl rfl⟩
      rcases Nat.lt_or_ge i bs.length with hi2 | hi2
      · rw [List.getElem?_append_left hi2] at hx
        rw [Array.getElem?_setIfInBounds_ne (by omega)]
        exact hc i x hx
      · have hi3 : i < (bs ++ [b]).length := (List.getElem?_eq_some_iff.1 hx).1
        have hi4 : i = bs.length := by simp at hi3; omega
        subst hi4
        rw [List.getElem?_append_right (by omega), Nat.sub_self] at hx
        simp at hx
        subst hx
        rw [Array.getElem?_setIfInBounds_self_of_lt (by omega)]
    · have holds : ∀ j x, (bs.map ptrV)[j]? = some x → w.cell? ((⟨g, off, none⟩ : Addr).add j) = some x := fun j x hx => by
        rw [show (⟨g, off, none⟩ : Addr).add j = ⟨g, off + j, none⟩ by unfold Addr.add; split <;> simp_all]
        rw [List.getElem?_map] at hx
        obtain ⟨y, hy, rfl⟩ := Option.map_eq_some_iff.1 hx
        exact fr_cell_of_heap hg (hc j y hy)
      have hr := run_append_grow (P := P) w t ty e i0 (.pointer none) ht hi hz0 ⟨g, off, none⟩ bs.length cap (bs.map ptrV) (by rw [hz1]; simp) holds ⟨u, 0, none⟩ 1 1 [ptrV b] (by rw [hz1]; rfl) hnews (by omega) (by omega) (by rw [hz2]; exact growslice_fits (by omega) (by omega))
      have hge := grownCap_ge w (bs.length + 1) cap e
      refine ⟨_, _, hr, .inr ⟨w.heap.size, 0, _, _, by rw [List.length_append]; rfl, heap_alloc_new w.drew _, ?_, by rw [List.length_append]; exact hge, grownCap_le_maxLen w _ _ e (by unfold maxLen; omega), fun i x hx => ?_⟩, ⟨rfl, rfl, rfl, by simp, fun k hk _ => Below.heap_alloc w.drew _ k hk⟩, .inr rfl⟩
      · simp [size_zeroCells, Value.cells]
        omega
      · have e1 : ((bs ++ [b]).map ptrV)[i]? = some (ptrV x) := by rw [List.getElem?_map, hx]; rfl
        rw [List.map_append] at e1
        have hi3 : i < (bs ++ [b]).length := (List.getElem?_eq_some_iff.1 hx).1
        rw [Nat.zero_add, Array.getElem?_append_left (by simp at hi3 ⊢; omega)]
        simpa using e1
end
end Go.Proofs.Ytohkchilogmneaa
