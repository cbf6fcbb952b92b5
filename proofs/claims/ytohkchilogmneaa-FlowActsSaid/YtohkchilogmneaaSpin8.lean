/-
  A round of Pick: what the append leaves; what the source's call leaves.
-/
import Derived.Test.YtohkchilogmneaaSpin7
namespace Go.Proofs.Ytohkchilogmneaa
open Go.RowKit

/-- s[1:] -/
def tailV (v : Value) : Value := match v with
  | .slice (some ⟨g, off, d⟩) n cap => .slice (if cap = 1 then some ⟨g, off, d⟩ else some ⟨g, off + 1, d⟩) (n - 1) (cap - 1)
  | x => x
theorem tail_arr {w : World} {v : Value} {b : Nat} {bs : List Nat} (h : ArrIn 104 w v (b :: bs)) : ArrIn 104 w (tailV v) bs ∧ (tailV v).ownBlock = v.ownBlock := by
  rcases h with ⟨_, h0⟩ | ⟨g, off, cap, cur, rfl, hg, hfit, hle, hcm, hc⟩
  · cases h0
  · rw [List.length_cons] at hle
    by_cases h1 : cap = 1
    · have h0 : bs = [] := List.length_eq_zero_iff.1 (by omega)
      subst h0
      subst h1
      exact ⟨.inr ⟨g, off, 0, cur, rfl, hg, by omega, Nat.le_refl _, by omega, fun i b hb => by simp at hb⟩, rfl⟩
    · refine ⟨.inr ⟨g, off + 1, cap - 1, cur, ?_, hg, by omega, by omega, by omega, fun i x hx => ?_⟩, ?_⟩
      · simp only [tailV, if_neg h1, List.length_cons, Nat.add_sub_cancel]
      · have := hc (i + 1) x (by simpa using hx)
        rwa [show off + 1 + i = off + (i + 1) by omega]
      · simp only [tailV, if_neg h1]
        rfl
section
variable {pre : List Int} {ρ : Roles} {sp : Nat} {q : Int} {gv : Bool} {v v' : Value} {w wb wc : World} {n : Nd} {r : List Nd}
theorem spin_rotate {o : Obj} (h : SpinAt pre ρ w sp q gv v (n :: r)) (hA : ArrIn 104 wb v' (r.map Nd.blk ++ [n.blk])) (hg : (w.alloc o).grownBy wb v.ownBlock) (hat : v'.ownBlock = v.ownBlock ∨ v'.ownBlock = some (w.heap.size + 1))
    (hw : wc = (wb.setCell ⟨sp, 1, none⟩ v').setCell ⟨sp, 2, none⟩ (.bool false)) :
    ∃ ρ', Later ρ ρ' w ∧ (∀ k, w.heap.size ≤ k → ρ' k = [] ∨ ρ' k = pre ++ [3]) ∧ SpinAt pre ρ' wc sp q false v' (r ++ [n]) ∧ Fp (SpinPart ρ pre) w wc := by
  obtain ⟨ρ', hρ'⟩ : ∃ ρ' : Roles, ρ' = fun k => if k < w.heap.size then ρ k else if v'.ownBlock = some k then pre ++ [3] else [] := ⟨_, rfl⟩
  have hl : Later ρ ρ' w := fun k hk => by rw [hρ']; simp [hk]
  have hsv : v.ownBlock ≠ some sp := fun e => by have h1 := h.ra sp e; rw [h.rs] at h1; simp at h1
  have hspw := fp_lt_of_heap h.head
  have hv'sp : v'.ownBlock ≠ some sp := fun e => by
    rcases hat with h1 | h1
    · exact hsv (h1.symm.trans e)
    · rw [h1] at e
      simp at e
      omega
  have hF : Fp (SpinPart ρ pre) w wb := ((Fp.refl _ w).alloc o).grown hg (fun k _ hk => .inr (.inl (h.ra k hk)))
  have hFc : Fp (SpinPart ρ pre) w wc := by rw [hw]; exact (hF.setCell (p := ⟨sp, 1, none⟩) (fun _ => .inl h.rs) _).setCell (p := ⟨sp, 2, none⟩) (fun _ => .inl h.rs) _
  have hoth : ∀ k, k ≠ sp → wc.heap[k]? = wb.heap[k]? := fun k hk => by rw [hw, fr_setCell_other hk, fr_setCell_other hk]
  have hb : ∀ k, k < w.heap.size → v.ownBlock ≠ some k → wb.heap[k]? = w.heap[k]? := fun k hk hne => (hg.block k (by simp; omega) (fun e => hne e.symm)).trans (Below.heap_alloc _ _ _ hk)
  have hnode : ∀ (i : Nat) m, (n :: r)[i]? = some m → ρ' m.blk = pre ++ [4, m.id] ∧ wc.heap[m.blk]? = some (.cells (ndC m) 111 (0, 0)) := fun i m hm => by
    have h1 := h.node i m hm
    have h2 := fp_lt_of_heap h1.2
    refine ⟨(hl _ h2).trans h1.1, ?_⟩
    rw [hoth _ (fun e => by have h3 := h1.1; rw [e, h.rs] at h3; simp at h3), hb _ h2 (fun e => by have h3 := h.ra _ e; rw [h1.1] at h3; simp at h3)]
    exact h1.2
  refine ⟨ρ', hl, fun k hk => ?_, ⟨?_, (hl _ hspw).trans h.rs, ?_, fun k hk => ?_, fun i m hm => ?_, ?_, ?_⟩, hFc⟩
  · rw [hρ']
    simp only [if_neg (Nat.not_lt.2 hk)]
    split
    · exact .inr rfl
    · exact .inl rfl
  · rw [hw]
    exact fr_setCell_at (fr_setCell_at ((hb sp hspw hsv).trans h.head))
  · rw [List.map_append]
    exact hA.kept (fun k hk => hoth k (fun e => hv'sp (by rw [hk, e])))
  · rcases Nat.lt_or_ge k w.heap.size with hk2 | hk2
    · rcases hat with h1 | h1
      · exact (hl k hk2).trans (h.ra k (h1.symm.trans hk))
      · rw [h1] at hk
        simp at hk
        omega
    · rw [hρ']
      simp only [if_neg (Nat.not_lt.2 hk2), hk, if_true]
  · rcases Nat.lt_or_ge i r.length with hi | hi
    · rw [List.getElem?_append_left hi] at hm
      exact hnode (i + 1) m hm
    · rw [List.getElem?_append_right hi] at hm
      have hi0 : i - r.length < [n].length := (List.getElem?_eq_some_iff.1 hm).1
      have hi1 : i - r.length = 0 := by simp at hi0; omega
      rw [hi1] at hm
      simp at hm
      subst hm
      exact hnode 0 n rfl
  · have h1 := h.once
    rw [List.map_cons] at h1
    rw [List.map_append]
    exact ((List.perm_append_comm (l₁ := r.map Nd.id) (l₂ := [n].map Nd.id)).nodup_iff).2 h1
  · have := h.few
    simp at this ⊢
    omega
/-- The sources' call leaves the ring. -/
theorem spin_call {w' : World} {ρ' : Roles} {ns : List Nd} (h : SpinAt pre ρ w sp q gv v ns) (hF : Fp (InPart ρ pre) w w') (hl : Later ρ ρ' w) : SpinAt pre ρ' w' sp q gv v ns := by
  refine (h.later hl).frame hF (fun k hk hS => ?_)
  rintro ⟨s, hs⟩
  unfold SpinPart at hS
  rw [hl k hk, hs] at hS
  rcases hS with h1 | h1 | ⟨id, h1⟩ <;> simp at h1
end
end Go.Proofs.Ytohkchilogmneaa
