/-
  An evaluator for closed runs: the operations (6: append, to the evaluator's state).
-/
import Derived.Test.YtjfcjpbolokfcaaGreatDoorEv9
namespace Go.Proofs.YtjfcjpbolokfcaaGreatDoor.Ev
open Go

theorem del_updH {t : T AO} {n nx : Nat} {a : AO} : ∀ m o, ((t.del n).set a nx).get m = some o → updH (updH t.get n none) nx (some a) m = some o := fun m o h => by
  unfold updH
  rcases set_get h with ⟨rfl, rfl⟩ | ⟨hne, h⟩
  · rw [if_pos rfl]
  · rw [if_neg hne]
    obtain ⟨h1, h2⟩ := del_get h
    rw [if_neg h1]
    exact h2
/-- Cells are there. -/
theorem HR.there {ρ : Nat → Nm} {nx : Nat} {H : Nat → Option AO} {w : World} (h : HR ρ nx H w) {n k sz fz : Nat} {t : T Value} {e : TypeId} (hn : H n = some (.cells t k e sz fz)) : ∀ (c o : Nat), o + c ≤ k →
    ∃ us : List Value, us.length = c ∧ (∀ j u, us[j]? = some u → w.cell? (((ρ n).at o).add j) = some u) ∧ ∀ j v, j < c → t.get (o + j) = some v → ∃ u, us[j]? = some u ∧ VR ρ nx v u
  | 0, o, _ => ⟨[], rfl, fun j u hu => by simp at hu, fun j v hj => by omega⟩
  | c + 1, o, hc => by
    obtain ⟨us, h1, h2, h3⟩ := HR.there h hn c (o + 1) (by omega)
    obtain ⟨_, cs, fr, g1, g2, g3, g4⟩ := h.obj n _ hn
    obtain ⟨a, ha⟩ := arr_get (a := cs) (i := (ρ n).s + o) (by omega)
    have hcell : w.cell? ((ρ n).at o) = some a := by
      simp only [World.cell?, Nm.at, g1]
      exact ha
    refine ⟨a :: us, by simp [h1], fun j u hu => ?_, fun j v hj hv => ?_⟩
    · cases j with
      | zero =>
        simp at hu
        subst hu
        rw [at_add]
        exact hcell
      | succ j =>
        have := h2 j u (by simpa using hu)
        rw [at_add] at this ⊢
        rw [show o + (j + 1) = o + 1 + j by omega]
        exact this
    · cases j with
      | zero =>
        obtain ⟨b, hb, hvb⟩ := g3 o v (by omega) hv
        obtain rfl := Option.some.inj (ha.symm.trans hb)
        exact ⟨a, by simp, hvb⟩
      | succ j =>
        obtain ⟨u, hu, hr⟩ := h3 j v (by omega) (by rw [show o + 1 + j = o + (j + 1) by omega]; exact hv)
        exact ⟨u, by simpa using hu, hr⟩
theorem storeCells_at (P : Program) {b o : Nat} {m : Nm} (hb : m.b = b) {e : TypeId} {fr : Nat × Nat} : ∀ (us : List Value) (i : Nat) (w : World) (cs : Array Value), w.heap[b]? = some (.cells cs e fr) → (∀ u ∈ us, u.oneCell' = true) → m.s + (o + i) + us.length ≤ cs.size → (∀ j, m.s + (o + i) ≤ j → j < m.s + (o + i) + us.length → ¬ (fr.1 ≤ j ∧ j < fr.2)) →
    ∃ (w' : World) (cs' : Array Value), (storeCells (m.at o) us i).run P w = .ok () w' ∧ w'.heap[b]? = some (.cells cs' e fr) ∧ cs'.size = cs.size ∧ (∀ j, (j < m.s + (o + i) ∨ m.s + (o + i) + us.length ≤ j) → cs'[j]? = cs[j]?) ∧ (∀ (j : Nat) u, us[j]? = some u → cs'[m.s + (o + i) + j]? = some u) ∧ w'.heap.size = w.heap.size ∧ (∀ k, k ≠ b → w'.heap[k]? = w.heap[k]?) ∧ w'.os = w.os ∧ w'.tape = w.tape ∧ w'.output = w.output
  | [], i, w, cs, h, _, _, _ => ⟨w, cs, rfl, h, rfl, fun _ _ => rfl, fun j u hu => by simp at hu, rfl, fun _ _ => rfl, rfl, rfl, rfl⟩
  | u :: us, i, w, cs, h, h1, hk, hz => by
    subst hb
    simp only [List.length_cons] at hk hz
    have hone : u.oneCell' = true := h1 u List.mem_cons_self
    have hcell : w.cell? (m.at (o + i)) = some (cs[m.s + (o + i)]'(by omega)) := by
      simp only [World.cell?, Nm.at, h]
      exact Array.getElem?_eq_getElem _
    have hfz : w.frozen? (m.at (o + i)) = false := by
      have := hz (m.s + (o + i)) (by omega) (by omega)
      simp only [World.frozen?, Nm.at, h, Bool.and_eq_false_iff]
      by_cases h5 : fr.1 ≤ m.s + (o + i)
      · exact .inr (decide_eq_false (fun h6 => this ⟨h5, h6⟩))
      · exact .inl (decide_eq_false h5)
    have hat := setCell_at (a := m.at (o + i)) (v := u) h rfl
    obtain ⟨w', cs', r1, r2, r3, r4, r5, r6, r7, r8, r9, r10⟩ := storeCells_at P (m := m) (o := o) rfl us (i + 1) (w.setCell (m.at (o + i)) u) _ hat (fun x hx => h1 x (List.mem_cons_of_mem _ hx)) (by rw [Array.size_setIfInBounds]; omega) (fun j h2 h3 => hz j (by omega) (by omega))
    refine ⟨w', cs', ?_, r2, by rw [r3, Array.size_setIfInBounds], fun j hj => ?_, fun j x hx => ?_, by rw [r6]; simp [World.setCell], fun k hk2 => by rw [r7 k hk2, setCell_not hk2], r8, r9, r10⟩
    · show (do store ((m.at o).add i) u; storeCells (m.at o) us (i + 1) : Sem Unit).run P w = _
      rw [Sem.run_bind, run_store P w _ u _ hone, at_add, hcell]
      simp only [hfz, Bool.false_eq_true, if_false, Result.andThen_ok]
      exact r1
    · simp only [List.length_cons] at hj
      rw [r4 j (by omega), Array.getElem?_setIfInBounds_ne]
      simp only [Nm.at]
      omega
    · cases j with
      | zero =>
        simp at hx
        subst hx
        rw [r4 _ (by omega)]
        simp only [Nm.at, Nat.add_zero]
        rw [Array.getElem?_setIfInBounds_self_of_lt (by omega)]
      | succ j =>
        have := r5 j x (by simpa using hx)
        rw [show m.s + (o + i) + (j + 1) = m.s + (o + (i + 1)) + j by omega]
        exact this
/-- A name's block gets another name, and other cells. -/
theorem HR.moved {ρ : Nat → Nm} {nx : Nat} {H : Nat → Option AO} {w w' : World} (h : HR ρ nx H w) {n : Nat} {o a : AO} {m : Nm} (hn : H n = some o) (hm : m.b = (ρ n).b) (h1 : w'.os = w.os) (h2 : w'.tape = w.tape) (h3 : w'.output = w.output) (h4 : w'.heap.size = w.heap.size) (h5 : ∀ k, k ≠ m.b → w'.heap[k]? = w.heap[k]?) (ho : OR (upd ρ nx m) (nx + 1) m a w'.heap[m.b]?) :
    Step ρ nx H w (upd ρ nx m) (nx + 1) (updH (updH H n none) nx (some a)) w' := by
  have hx := upd_ext ρ nx m
  have old : ∀ {k p}, updH (updH H n none) nx (some a) k = some p → (k = nx ∧ p = a) ∨ (k ≠ nx ∧ k ≠ n ∧ H k = some p) := fun {k p} hk => by
    rcases updH_get hk with ⟨h1, h2⟩ | ⟨h1, h2⟩
    · exact .inl ⟨h1, (Option.some.inj h2).symm⟩
    · rcases updH_get h2 with ⟨_, h3⟩ | ⟨h3, h4⟩
      · cases h3
      · exact .inr ⟨h1, h3, h4⟩
  refine ⟨hx, ⟨fun k p hk => ?_, fun k k' p p' hk hk' he => ?_⟩, ⟨h1, h2, h3, by omega, fun k _ hk => h5 k (fun e => hk n o hn (hm.symm.trans e.symm))⟩, fun k p hk => ?_⟩
  · rcases old hk with ⟨rfl, rfl⟩ | ⟨g1, g2, g3⟩
    · refine ⟨Nat.lt_succ_self _, ?_⟩
      rw [upd_at]
      exact ho
    · have h6 := h.obj k p g3
      refine ⟨Nat.lt_succ_of_lt h6.1, ?_⟩
      rw [hx.2 k h6.1, h5 _ (fun e => g2 (h.inj k n p o g3 hn (e.trans hm)))]
      exact h6.2.mono hx
  · rcases old hk with ⟨e1, _⟩ | ⟨g1, g2, g3⟩ <;> rcases old hk' with ⟨e2, _⟩ | ⟨q1, q2, q3⟩
    · exact e1.trans e2.symm
    · rw [e1, upd_at, hx.2 k' (h.obj k' _ q3).1, hm] at he
      exact absurd (h.inj k' n _ _ q3 hn he.symm) q2
    · rw [e2, upd_at, hx.2 k (h.obj k _ g3).1, hm] at he
      exact absurd (h.inj k n _ _ g3 hn he) g2
    · rw [hx.2 k (h.obj k _ g3).1, hx.2 k' (h.obj k' _ q3).1] at he
      exact h.inj k k' _ _ g3 q3 he
  · rcases old hk with ⟨rfl, rfl⟩ | ⟨g1, g2, g3⟩
    · exact .inr ⟨n, o, hn, by rw [upd_at, hm]⟩
    · exact .inr ⟨k, p, g3, by rw [hx.2 k (h.obj k _ g3).1]⟩
end Go.Proofs.YtjfcjpbolokfcaaGreatDoor.Ev
