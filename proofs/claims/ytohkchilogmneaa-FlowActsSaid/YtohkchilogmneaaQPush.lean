/-
  A queue behind a Push: how it lies then.
-/
import Derived.Test.YtohkchilogmneaaQue
namespace Go.Proofs.Ytohkchilogmneaa
open Go.RowKit

theorem itE_ok {l : List It} {x : It} (h : itE l x = 0) : 1 ≤ x.id ∧ 1 ≤ x.cost ∧ x.cost ≤ 64 ∧ hasIt x.id l = false := by
  unfold itE at h
  split at h
  · cases h
  · rename_i h1
    split at h
    · cases h
    · rename_i h2
      exact ⟨by omega, by omega, by omega, by simpa using h2⟩
theorem new_id {l : List It} {x y : It} (h : hasIt x.id l = false) (hy : y ∈ l) : y.id ≠ x.id := by
  have := (List.any_eq_false.1 h) y hy
  simpa using this
theorem lkP_upd {lk : Int → Nat} {nb : Nat} {x : It} {o : Option It} (h : ∀ y, o = some y → y.id ≠ x.id) : lkP (fun id => if id = x.id then nb else lk id) o = lkP lk o := by
  cases o with
  | none => rfl
  | some y => simp [lkP, h y rfl]
theorem lkP_new {lk : Int → Nat} {nb : Nat} {x : It} : lkP (fun id => if id = x.id then nb else lk id) (some x) = .pointer (some ⟨nb, 0, none⟩) := by simp [lkP]
def hdP (lk : Int → Nat) (nb : Nat) (l : List It) : Value := match l with
  | [] => .pointer (some ⟨nb, 0, none⟩)
  | y :: _ => lkP lk (some y)
theorem push_close {pre : List Int} {ρ ρ' : Roles} {w w' : World} {q m : Nat} {lk : Int → Nat} {D : DataW Unit} {l : List It} {x : It} {nb : Nat} (h : QAt pre ρ w q m lk D l) (h0 : itE l x = 0) (hid : I64 x.id) (hf : l.length < 1000000)
    (hq : w'.heap[q]? = some (.cells #[hdP lk nb l, .pointer (some ⟨nb, 0, none⟩), .map (some m), .int .i64 (costIt l + x.cost)] 149 (0, 0)))
    (hm : w'.ownsMap Try.prog 3 lkR m (l.length + 1) (D.put (keyI x.id) (.lit (.int .i64 nb))))
    (hn : w'.heap[nb]? = some (.cells #[.int .i64 x.id, .int .i64 x.cost, lkP lk l.getLast?, .pointer none] 152 (0, 0)))
    (hlast : ∀ (i : Nat) y, l[i]? = some y → i + 1 = l.length → w'.heap[lk y.id]? = some (.cells #[.int .i64 y.id, .int .i64 y.cost, lkP lk (prevI l i), .pointer (some ⟨nb, 0, none⟩)] 152 (0, 0)))
    (hold : ∀ (i : Nat) z, l[i]? = some z → i + 1 < l.length → w'.heap[lk z.id]? = w.heap[lk z.id]?)
    (hl : Later ρ ρ' w) (hr : ρ' nb = pre ++ [3, x.id]) : QAt pre ρ' w' q m (fun id => if id = x.id then nb else lk id) (D.put (keyI x.id) (.lit (.int .i64 nb))) (l ++ [x]) := by
  obtain ⟨_, _, _, hno⟩ := itE_ok h0
  have hne : ∀ y ∈ l, y.id ≠ x.id := fun y hy => new_id hno hy
  have hop : ∀ (o : Option It), (∀ y, o = some y → y ∈ l) → lkP (fun id => if id = x.id then nb else lk id) o = lkP lk o := fun o ho => lkP_upd (fun y hy => hne y (ho y hy))
  have hat : ∀ i y, l[i]? = some y → y ∈ l := fun i y hy => List.mem_of_getElem? hy
  have hprev : ∀ i, i ≤ l.length → prevI (l ++ [x]) i = prevI l i := fun i hi => by
    unfold prevI
    split
    · rfl
    · rw [List.getElem?_append_left (by omega)]
  have hpm : ∀ i y, prevI l i = some y → y ∈ l := fun i y hy => by
    unfold prevI at hy
    split at hy
    · cases hy
    · exact hat _ _ hy
  refine ⟨?_, (hl q (fp_lt_of_heap h.head)).trans h.rq, (hl m h.map.lt).trans h.rm, by simpa using hm, ?_, fun id hi => ?_, fun y hy z => ?_, fun i y hy => ?_, good_snoc h.good h0 hid hf⟩
  · rw [hq]
    have e1 : hdP lk nb l = lkP (fun id => if id = x.id then nb else lk id) (l ++ [x]).head? := by
      cases l with
      | nil => exact lkP_new.symm
      | cons y r => exact (hop (some y) (fun z hz => by cases hz; simp)).symm
    have e2 : (.pointer (some ⟨nb, 0, none⟩) : Value) = lkP (fun id => if id = x.id then nb else lk id) (l ++ [x]).getLast? := by
      rw [List.getLast?_append]
      exact lkP_new.symm
    have e3 : costIt l + x.cost = costIt (l ++ [x]) := by simp [costIt]
    rw [e1, e2, e3]
  · rw [Maps.size_put (h.map.tidy keyT), h.has x.id hid, hno, h.size]
    simp
  · by_cases he : id = x.id
    · subst he
      rw [Maps.has_put_same h.map.isMap (keyI_is _)]
      exact (has_iff.2 ⟨l.length, x, by simp, rfl⟩).symm
    · rw [Maps.has_put_other (keyI_ne he), h.has id hi]
      unfold hasIt
      rw [List.any_append]
      simp [Ne.symm he]
  · rcases List.mem_append.1 hy with hy | hy
    · have e := hne y hy
      rw [Maps.atKey_put_other (keyI_ne e), h.at_ y hy z]
      simp [e]
    · rw [List.mem_singleton] at hy
      subst hy
      rw [Maps.atKey_put_same h.map.isMap (keyI_is _)]
      simp
  · rcases Nat.lt_or_ge i l.length with hi | hi
    · rw [List.getElem?_append_left hi] at hy
      have e := hne y (hat _ _ hy)
      have hlk := h.link i y hy
      simp only [e, if_false]
      refine ⟨(hl _ (fp_lt_of_heap hlk.2)).trans hlk.1, ?_⟩
      rcases Nat.lt_or_ge (i + 1) l.length with hi2 | hi2
      · rw [hold i y hy hi2, hlk.2]
        unfold linkC
        rw [hprev i (by omega), hop _ (fun z hz => hpm _ _ hz), List.getElem?_append_left hi2, hop _ (fun z hz => hat _ _ hz)]
      · rw [hlast i y hy (by omega)]
        unfold linkC
        rw [hprev i (by omega), hop _ (fun z hz => hpm _ _ hz), List.getElem?_append_right (by omega), show i + 1 - l.length = 0 by omega]
        simp [lkP]
    · have hi2 : i < (l ++ [x]).length := (List.getElem?_eq_some_iff.1 hy).1
      have : i = l.length := by simp at hi2; omega
      subst this
      rw [List.getElem?_append_right (by omega), Nat.sub_self] at hy
      simp at hy
      subst hy
      simp only [if_true]
      refine ⟨hr, ?_⟩
      rw [hn]
      unfold linkC
      rw [hprev _ (Nat.le_refl _), hop _ (fun z hz => hpm _ _ hz), List.getElem?_eq_none (by simp)]
      have e : prevI l l.length = l.getLast? := by
        unfold prevI
        rw [List.getLast?_eq_getElem?]
        split
        · rename_i h0
          rw [List.length_eq_zero_iff.1 h0]
          rfl
        · rfl
      rw [e]
      rfl
end Go.Proofs.Ytohkchilogmneaa
