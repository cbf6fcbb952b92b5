/-
  A queue behind a Drop: how it lies then.
-/
import Derived.Test.YtohkchilogmneaaQPush
namespace Go.Proofs.Ytohkchilogmneaa
open Go.RowKit

theorem erase_get {l : List It} {i j : Nat} : (l.eraseIdx i)[j]? = if j < i then l[j]? else l[j + 1]? := by
  rw [List.getElem?_eraseIdx]
theorem erase_head {l : List It} {i : Nat} : (l.eraseIdx i).head? = if i = 0 then l[1]? else l.head? := by
  rw [List.head?_eq_getElem?, erase_get, List.head?_eq_getElem?]
  by_cases h : i = 0
  · subst h; simp
  · rw [if_pos (by omega), if_neg h]
theorem erase_last {l : List It} {i : Nat} (hi : i < l.length) : (l.eraseIdx i).getLast? = if i + 1 = l.length then prevI l i else l.getLast? := by
  rw [List.getLast?_eq_getElem?, erase_get, List.length_eraseIdx_of_lt hi, List.getLast?_eq_getElem?]
  unfold prevI
  by_cases h : i + 1 = l.length
  · rw [if_pos h]
    by_cases h0 : i = 0
    · rw [if_pos h0, if_neg (by omega), List.getElem?_eq_none (by omega)]
    · rw [if_neg h0, if_pos (by omega)]
      congr 1
      omega
  · rw [if_neg h, if_neg (by omega)]
    congr 1
    omega
theorem cost_erase : ∀ {l : List It} {i : Nat} {x : It}, l[i]? = some x → costIt (l.eraseIdx i) = costIt l - x.cost
  | [], _, _, h => by simp at h
  | y :: r, 0, x, h => by
    simp at h
    subst h
    simp [costIt]
    omega
  | y :: r, i + 1, x, h => by
    have ih := cost_erase (l := r) (i := i) (x := x) (by simpa using h)
    rw [List.eraseIdx_cons_succ]
    simp only [costIt, List.map_cons, List.sum_cons] at ih ⊢
    omega
/-- The cells of a link behind the Drop of the one at i. -/
def linkD (lk : Int → Nat) (l : List It) (i j : Nat) (z : It) : Array Value :=
  #[.int .i64 z.id, .int .i64 z.cost, lkP lk (if j = i + 1 then prevI l i else prevI l j), lkP lk (if j + 1 = i then l[i + 1]? else l[j + 1]?)]
theorem drop_close {pre : List Int} {ρ : Roles} {w w' : World} {q m : Nat} {lk : Int → Nat} {D : DataW Unit} {l : List It} {x : It} {i : Nat} (h : QAt pre ρ w q m lk D l) (hx : l[i]? = some x)
    (hq : w'.heap[q]? = some (.cells #[lkP lk (if i = 0 then l[1]? else l.head?), lkP lk (if i + 1 = l.length then prevI l i else l.getLast?), .map (some m), .int .i64 (costIt l - x.cost)] 149 (0, 0)))
    (hm : w'.ownsMap Try.prog 3 lkR m l.length (D.del (keyI x.id)))
    (hl : ∀ (j : Nat) z, l[j]? = some z → j ≠ i → w'.heap[lk z.id]? = some (.cells (linkD lk l i j z) 152 (0, 0))) : QAt pre ρ w' q m lk (D.del (keyI x.id)) (l.eraseIdx i) := by
  have hi : i < l.length := (List.getElem?_eq_some_iff.1 hx).1
  have hhx : hasIt x.id l = true := has_iff.2 ⟨i, x, hx, rfl⟩
  have hxi : I64 x.id := (h.good.ok x (List.mem_of_getElem? hx)).2.1
  have hlen : (l.eraseIdx i).length = l.length - 1 := List.length_eraseIdx_of_lt hi
  have hsz : Maps.size (D.del (keyI x.id)) = (l.eraseIdx i).length := by
    have h1 := Maps.size_del (k := keyI x.id) (h.map.tidy keyT)
    rw [h.has x.id hxi, hhx, h.size] at h1
    simp at h1
    omega
  have hne : ∀ (j : Nat) (z : It), (l.eraseIdx i)[j]? = some z → z.id ≠ x.id := fun j z hz e => by
    rw [erase_get] at hz
    split at hz
    · have := once_inj h.good.once hz hx e; omega
    · have := once_inj h.good.once hz hx e; omega
  refine ⟨?_, h.rq, h.rm, ?_, hsz, fun id hid => ?_, fun z hz y => ?_, fun j z hz => ?_, good_erase h.good i⟩
  · rw [hq, erase_head, erase_last hi, cost_erase hx]
  · rw [← hsz]
    exact ownMap_tight hm
  · by_cases he : id = x.id
    · subst he
      rw [Maps.has_del_same]
      symm
      rw [Bool.eq_false_iff]
      intro h1
      obtain ⟨j, z, hz, he⟩ := has_iff.1 h1
      exact hne j z hz he
    · rw [Maps.has_del_other (keyI_ne he), h.has id hid, ← drop_erase h.good.once hx]
      unfold hasIt dropIt
      rw [List.any_filter]
      congr 1
      funext y
      by_cases hy : y.id = id
      · subst hy; simp [he]
      · simp [hy]
  · obtain ⟨j, hj, rfl⟩ := List.getElem_of_mem hz
    have e := hne j _ (List.getElem?_eq_getElem hj)
    rw [Maps.atKey_del_other (keyI_ne e)]
    exact h.at_ _ (List.mem_of_mem_eraseIdx hz) y
  · have key : ∀ k : Nat, l[k]? = some z → k ≠ i → (k = if j < i then j else j + 1) → ρ (lk z.id) = pre ++ [3, z.id] ∧ w'.heap[lk z.id]? = some (.cells (linkC lk (l.eraseIdx i) j z) 152 (0, 0)) := by
      intro k hk hki he
      refine ⟨(h.link k z hk).1, ?_⟩
      rw [hl k z hk hki]
      unfold linkD linkC
      have e1 : (if k = i + 1 then prevI l i else prevI l k) = prevI (l.eraseIdx i) j := by
        by_cases h1 : j < i
        · rw [if_pos h1] at he
          subst he
          rw [if_neg (by omega)]
          unfold prevI
          split
          · rfl
          · rw [erase_get, if_pos (by omega)]
        · rw [if_neg h1] at he
          subst he
          by_cases h2 : j = i
          · subst h2
            rw [if_pos rfl]
            unfold prevI
            split
            · rfl
            · rw [erase_get, if_pos (by omega)]
          · rw [if_neg (by omega)]
            unfold prevI
            rw [if_neg (by omega), if_neg (by omega), erase_get, if_neg (by omega)]
            congr 1
            omega
      have e2 : (if k + 1 = i then l[i + 1]? else l[k + 1]?) = (l.eraseIdx i)[j + 1]? := by
        rw [erase_get]
        by_cases h1 : j < i
        · rw [if_pos h1] at he
          subst he
          by_cases h2 : k + 1 = i
          · rw [if_pos h2, if_neg (by omega), h2]
          · rw [if_neg h2, if_pos (by omega)]
        · rw [if_neg h1] at he
          subst he
          rw [if_neg (by omega), if_neg (by omega)]
      rw [e1, e2]
    rw [erase_get] at hz
    split at hz
    · rename_i h1
      exact key j hz (by omega) (by rw [if_pos h1])
    · rename_i h1
      exact key (j + 1) hz (by omega) (by rw [if_neg h1])
end Go.Proofs.Ytohkchilogmneaa
