/-
  Whose turn it is: what a Take leaves of it.
-/
import Derived.Test.YtdbjihkgafhakaaGreatDoorPool11
namespace Go.Proofs.YtdbjihkgafhakaaGreatDoor

section
variable {most : Int} {pl : ByteArray} {b : Option PB}
theorem stepB_le {y z0 : PB} (h : b = some z0) : ∃ z, stepB most pl b y = some z ∧ z.c.served ≤ z0.c.served := by
  subst h
  unfold stepB
  by_cases hf : fitB most pl (some z0) y = true
  · rw [if_pos hf]
    refine ⟨y, rfl, ?_⟩
    unfold fitB betterB at hf
    simp only [Bool.and_eq_true, decide_eq_true_iff] at hf
    omega
  · rw [if_neg hf]
    exact ⟨z0, rfl, Int.le_refl _⟩
theorem stepB_fit {y : PB} (h1 : (y.k : Int) ≤ most) (h2 : 0 < totT y.c.rows) (h3 : matchP pl y.n.name = true) : ∃ z, stepB most pl b y = some z ∧ z.c.served ≤ y.c.served := by
  unfold stepB
  by_cases hf : fitB most pl b y = true
  · rw [if_pos hf]
    exact ⟨y, rfl, Int.le_refl _⟩
  · rw [if_neg hf]
    cases b with
    | none =>
      refine absurd ?_ hf
      unfold fitB betterB
      simp [h1, h2, h3]
    | some z =>
      refine ⟨z, rfl, ?_⟩
      refine Classical.byContradiction fun hn => hf ?_
      unfold fitB betterB
      have : y.c.served < z.c.served := by omega
      simp [h1, h2, h3, this]
theorem needTo_le {i : Nat} {a : PN} {z0 : PB} (h : b = some z0) : ∀ k, ∃ z, needTo most pl i a b k = some z ∧ z.c.served ≤ z0.c.served
  | 0 => ⟨z0, h, Int.le_refl _⟩
  | k + 1 => by
    obtain ⟨z, h1, h2⟩ := needTo_le (i := i) (a := a) h k
    cases hc : a.cls[k]? with
    | none =>
      refine ⟨z, ?_, h2⟩
      show (match a.cls[k]? with | some c => stepB most pl (needTo most pl i a b k) ⟨i, a, k, c⟩ | none => needTo most pl i a b k) = _
      rw [hc]
      exact h1
    | some c =>
      rw [needTo_succ hc]
      obtain ⟨z', g1, g2⟩ := stepB_le (most := most) (pl := pl) (y := ⟨i, a, k, c⟩) h1
      exact ⟨z', g1, by omega⟩
theorem needTo_fit {i : Nat} {a : PN} {c : PC} {j : Nat} (hc : a.cls[j]? = some c) (h1 : (j : Int) ≤ most) (h2 : 0 < totT c.rows) (h3 : matchP pl a.name = true) : ∀ k, j < k → ∃ z, needTo most pl i a b k = some z ∧ z.c.served ≤ c.served
  | 0, h => absurd h (Nat.not_lt_zero _)
  | k + 1, h => by
    by_cases e : j = k
    · subst e
      rw [needTo_succ hc]
      exact stepB_fit (y := ⟨i, a, j, c⟩) h1 h2 h3
    · obtain ⟨z, g1, g2⟩ := needTo_fit (i := i) hc h1 h2 h3 k (by omega)
      cases hk : a.cls[k]? with
      | none =>
        refine ⟨z, ?_, g2⟩
        show (match a.cls[k]? with | some c => stepB most pl (needTo most pl i a b k) ⟨i, a, k, c⟩ | none => needTo most pl i a b k) = _
        rw [hk]
        exact g1
      | some d =>
        rw [needTo_succ hk]
        obtain ⟨z', f1, f2⟩ := stepB_le (most := most) (pl := pl) (y := ⟨i, a, k, d⟩) g1
        exact ⟨z', f1, by omega⟩
theorem bestTo_fitMin {L : List PN} {t : Nat} {a : PN} {c : PC} {j : Nat} (ha : L[t]? = some a) (hc : a.cls[j]? = some c) (h1 : (j : Int) ≤ most) (h2 : 0 < totT c.rows) (h3 : matchP pl a.name = true) : ∀ i, t < i → ∃ z, bestTo most pl L i = some z ∧ z.c.served ≤ c.served
  | 0, h => absurd h (Nat.not_lt_zero _)
  | i + 1, h => by
    by_cases e : t = i
    · subst e
      rw [bestTo_succ ha]
      exact needTo_fit hc h1 h2 h3 _ (List.getElem?_eq_some_iff.1 hc).1
    · obtain ⟨z, g1, g2⟩ := bestTo_fitMin ha hc h1 h2 h3 i (by omega)
      cases hi : L[i]? with
      | none =>
        refine ⟨z, ?_, g2⟩
        show (match L[i]? with | some n => needTo most pl i n (bestTo most pl L i) n.cls.length | none => bestTo most pl L i) = _
        rw [hi]
        exact g1
      | some d =>
        rw [bestTo_succ hi]
        obtain ⟨z', f1, f2⟩ := needTo_le (most := most) (pl := pl) (i := i) (a := d) g1 d.cls.length
        exact ⟨z', f1, by omega⟩
end
theorem asked_set2 {L : List PN} {s : ByteArray} {k : Int} {i j : Nat} {a : PN} {c c' d : PC} (ha : L[i]? = some a) (hc : a.cls[j]? = some c) (h : Asked (L.set i { a with cls := a.cls.set j c' }) s k d) : Asked L s k d ∨ (d = c' ∧ a.name = s ∧ k = j) := by
  obtain ⟨i', j', p, h1, h2, h3, h4⟩ := h
  by_cases e : i = i'
  · subst e
    rw [List.getElem?_set_self (List.getElem?_eq_some_iff.1 ha).1] at h1
    cases h1
    change (a.cls.set j c')[j']? = some d at h4
    by_cases e2 : j = j'
    · subst e2
      rw [List.getElem?_set_self (List.getElem?_eq_some_iff.1 hc).1] at h4
      cases h4
      exact .inr ⟨rfl, h2, h3⟩
    · rw [List.getElem?_set_ne e2] at h4
      exact .inl ⟨i, j', a, ha, h2, h3, h4⟩
  · rw [List.getElem?_set_ne e] at h1
    exact .inl ⟨i', j', p, h1, h2, h3, h4⟩
theorem fewer_mid (t u : Int) (A B : List Int) : fewer t (A ++ u :: B) = fewer t A + fewer t B + if u < t then 1 else 0 := by
  rw [fewer_append]
  unfold fewer
  rw [List.countP_cons]
  by_cases h : u < t
  · rw [if_pos h, if_pos (by simpa using h)]
    omega
  · rw [if_neg h, if_neg (by simpa using h)]
    omega
section
variable {x : PX} {next n m most : Int} {L : List PN} {s pl : ByteArray} {k : Int} {y : PB} {row : TRow} {rest : List TRow}
theorem pinv_take (hp : PInv x next L) (hn : L[y.i]? = some y.n) (hc : y.n.cls[y.k]? = some y.c) (hnx : 0 ≤ next) : PInv x (next + 1) (L.set y.i (tookN y next row rest)) := by
  have ham := List.mem_of_getElem? hn
  obtain ⟨A, B, h1, h2⟩ := sv_split hn hc
  have hsv : sv (L.set y.i (tookN y next row rest)) = A ++ next :: B := h2 { y.c with served := next, gv := (tookT row rest).1, rows := (tookT row rest).2 }
  have hlow := hp.low
  have hon := hp.once
  rw [h1] at hlow hon
  refine ⟨by rw [List.length_set]; exact hp.few, fun p hm => ?_, fun t ht => ?_, ?_, names_set hp hn rfl, fun p hm => ?_⟩
  · rcases mem_set_or hm with h | rfl
    · exact hp.len p h
    · show (y.n.cls.set y.k _).length = _
      rw [List.length_set]
      exact hp.len y.n ham
  · rw [hsv] at ht
    rcases List.mem_append.1 ht with h | h
    · have := hlow t (List.mem_append_left _ h)
      omega
    · rcases List.mem_cons.1 h with h | h
      · omega
      · have := hlow t (List.mem_append_right _ (List.mem_cons_of_mem _ h))
        omega
  · rw [hsv]
    rw [List.nodup_append] at hon ⊢
    obtain ⟨o1, o2, o3⟩ := hon
    rw [List.nodup_cons] at o2
    refine ⟨o1, List.nodup_cons.2 ⟨fun h => ?_, o2.2⟩, fun t ht u hu e => ?_⟩
    · have := hlow next (List.mem_append_right _ (List.mem_cons_of_mem _ h))
      omega
    · rcases List.mem_cons.1 hu with h | h
      · have := hlow t (List.mem_append_left _ ht)
        omega
      · exact o3 t ht u (List.mem_cons_of_mem _ h) e
  · rcases mem_set_or hm with h | rfl
    · exact hp.uses p h
    · exact hp.uses y.n ham
/-- A Take. -/
theorem turn_take (h : TurnInv x L s k n) (hp : PInv x next L) (hn : L[y.i]? = some y.n) (hc : y.n.cls[y.k]? = some y.c) (hnx : 0 ≤ next) (hb : bestTo most pl L L.length = some y)
    (hm : m = 0 ∨ (¬ (y.n.name = s ∧ (y.k : Int) = k) ∧ (∃ d, Asked (L.set y.i (tookN y next row rest)) s k d ∧ 0 < totT d.rows) ∧ m = if k ≤ most ∧ matchP pl s = true then n + 1 else n)) : TurnInv x (L.set y.i (tookN y next row rest)) s k m := by
  have hp' := pinv_take (row := row) (rest := rest) hp hn hc hnx
  rcases hm with rfl | ⟨hny, ⟨d, hd, hw⟩, hm⟩
  · exact turn_zero hp'
  · obtain ⟨A, B, h1, h2⟩ := sv_split hn hc
    have hsv : sv (L.set y.i (tookN y next row rest)) = A ++ next :: B := h2 { y.c with served := next, gv := (tookT row rest).1, rows := (tookT row rest).2 }
    have hdL : Asked L s k d := by
      rcases asked_set2 (c' := { y.c with served := next, gv := (tookT row rest).1, rows := (tookT row rest).2 }) hn hc hd with h3 | ⟨_, g1, g2⟩
      · exact h3
      · exact absurd ⟨g1, g2.symm⟩ hny
    have h3 := h.2.1 d hdL hw
    have hdm : d.served ∈ A ++ next :: B := by
      obtain ⟨i, j, a, g1, _, _, g4⟩ := hd
      rw [← hsv]
      exact sv_mem g1 g4
    obtain ⟨i, j, a, g1, g2, g3, g4⟩ := hdL
    have hlow := hp.low _ (sv_mem g1 g4)
    have hne : d.served ≠ y.c.served := fun e => by
      have hon := hp.once
      rw [h1, List.nodup_append] at hon
      obtain ⟨_, o2, o3⟩ := hon
      rw [List.nodup_cons] at o2
      rcases List.mem_append.1 hdm with hA | hB
      · exact o3 _ hA _ List.mem_cons_self e
      · rcases List.mem_cons.1 hB with hB | hB
        · omega
        · exact o2.1 (e ▸ hB)
    have f1 := fewer_mid d.served y.c.served A B
    have f2 := fewer_mid d.served next A B
    rw [if_neg (by omega)] at f2
    rw [h1] at h3
    have hlast : m + fewer d.served (sv (L.set y.i (tookN y next row rest))) < x.pools * x.classes := by
      rw [hsv]
      by_cases hcd : k ≤ most ∧ matchP pl s = true
      · rw [if_pos hcd] at hm
        obtain ⟨z, q1, q2⟩ := bestTo_fitMin (most := most) (pl := pl) g1 g4 (by rw [← g3]; exact hcd.1) hw (by rw [g2]; exact hcd.2) L.length (List.getElem?_eq_some_iff.1 g1).1
        rw [hb] at q1
        cases q1
        rw [if_pos (by omega)] at f1
        omega
      · rw [if_neg hcd] at hm
        split at f1 <;> omega
    refine ⟨?_, fun d' hd' _ => ?_, fun hz => ?_⟩
    · have := h.1
      split at hm <;> omega
    · rw [asked_once hp' hd' hd]
      exact hlast
    · have := hz d hd
      omega
end
end Go.Proofs.YtdbjihkgafhakaaGreatDoor
