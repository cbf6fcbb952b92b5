/-
  Whose turn it is: what each call leaves of it.
-/
import Derived.Test.YtdbjihkgafhakaaGreatDoorPool10
namespace Go.Proofs.YtdbjihkgafhakaaGreatDoor

theorem flat_sub {α β : Type} (f : α → List β) {A B : List α} (h : A.Sublist B) : (A.flatMap f).Sublist (B.flatMap f) := by
  induction h with
  | slnil => exact List.Sublist.slnil
  | cons a _ ih =>
    rw [List.flatMap_cons]
    exact ih.trans (List.sublist_append_right _ _)
  | cons_cons a _ ih =>
    rw [List.flatMap_cons, List.flatMap_cons]
    exact (List.Sublist.refl _).append ih
section
variable {x : PX} {next next' n m : Int} {L L' : List PN} {s : ByteArray} {k : Int}
/-- A call that is no Take. -/
theorem turn_keep (h : TurnInv x L s k n) (hp : PInv x next L) (hp' : PInv x next' L') (hA : ∀ c', Asked L' s k c' → 0 < totT c'.rows → ∃ c, Asked L s k c ∧ c.served = c'.served) (hf : ∀ c', Asked L' s k c' → 0 < totT c'.rows → fewer c'.served (sv L') ≤ fewer c'.served (sv L))
    (hm : m = 0 ∨ (m = n ∧ ∃ c', Asked L' s k c' ∧ 0 < totT c'.rows)) : TurnInv x L' s k m := by
  rcases hm with rfl | ⟨rfl, c', hc', hw'⟩
  · exact turn_zero hp'
  · obtain ⟨c, hc, hs⟩ := hA c' hc' hw'
    by_cases hw : 0 < totT c.rows
    · have h1 := h.2.1 c hc hw
      have h2 := hf c' hc' hw'
      refine ⟨h.1, fun d hd _ => ?_, fun hz => ?_⟩
      · rw [asked_once hp' hd hc']
        rw [hs] at h1
        omega
      · have := hz c' hc'
        omega
    · have h0 := h.2.2 (fun d hd => by rw [asked_once hp hd hc]; omega)
      rw [h0]
      exact turn_zero hp'
theorem names_set (hp : PInv x next L) {i : Nat} {a a' : PN} (ha : L[i]? = some a) (hn : a'.name = a.name) : ∀ (i' j' : Nat) p q, (L.set i a')[i']? = some p → (L.set i a')[j']? = some q → p.name = q.name → i' = j' := by
  have key : ∀ (i' : Nat) p, (L.set i a')[i']? = some p → ∃ p', L[i']? = some p' ∧ p.name = p'.name := fun i' p h => by
    by_cases e : i = i'
    · subst e
      rw [List.getElem?_set_self (List.getElem?_eq_some_iff.1 ha).1] at h
      cases h
      exact ⟨a, ha, hn⟩
    · rw [List.getElem?_set_ne e] at h
      exact ⟨p, h, rfl⟩
  intro i' j' p q h1 h2 e
  obtain ⟨p', g1, e1⟩ := key i' p h1
  obtain ⟨q', g2, e2⟩ := key j' q h2
  exact hp.names i' j' p' q' g1 g2 (by rw [← e1, ← e2, e])
theorem mem_set_or {i : Nat} {a' p : PN} (h : p ∈ L.set i a') : p ∈ L ∨ p = a' := by
  obtain ⟨j, hj⟩ := List.getElem?_of_mem h
  by_cases e : i = j
  · subst e
    have hlt : i < L.length := by have := (List.getElem?_eq_some_iff.1 hj).1; rwa [List.length_set] at this
    rw [List.getElem?_set_self hlt] at hj
    cases hj
    exact .inr rfl
  · rw [List.getElem?_set_ne e] at hj
    exact .inl (List.mem_of_getElem? hj)
/-- A class's share turned. -/
theorem pinv_cls (hp : PInv x next L) {i j : Nat} {a : PN} {c c' : PC} (ha : L[i]? = some a) (hc : a.cls[j]? = some c) (hs : c'.served = c.served) : PInv x next (L.set i { a with cls := a.cls.set j c' }) := by
  have ham := List.mem_of_getElem? ha
  have hsv := sv_same ha hc hs
  refine ⟨by rw [List.length_set]; exact hp.few, fun p hm => ?_, by rw [hsv]; exact hp.low, by rw [hsv]; exact hp.once, names_set hp ha rfl, fun p hm => ?_⟩
  · rcases mem_set_or hm with h | rfl
    · exact hp.len p h
    · show (a.cls.set j c').length = _
      rw [List.length_set]
      exact hp.len a ham
  · rcases mem_set_or hm with h | rfl
    · exact hp.uses p h
    · exact hp.uses a ham
theorem asked_set {i j : Nat} {a : PN} {c c' d : PC} (ha : L[i]? = some a) (hc : a.cls[j]? = some c) (h : Asked (L.set i { a with cls := a.cls.set j c' }) s k d) : Asked L s k d ∨ (d = c' ∧ Asked L s k c) := by
  obtain ⟨i', j', p, h1, h2, h3, h4⟩ := h
  by_cases e : i = i'
  · subst e
    rw [List.getElem?_set_self (List.getElem?_eq_some_iff.1 ha).1] at h1
    cases h1
    change (a.cls.set j c')[j']? = some d at h4
    by_cases e2 : j = j'
    · subst e2
      rw [List.getElem?_set_self (List.getElem?_eq_some_iff.1 hc).1] at h4
      cases h4
      exact .inr ⟨rfl, i, j, a, ha, h2, h3, hc⟩
    · rw [List.getElem?_set_ne e2] at h4
      exact .inl ⟨i, j', a, ha, h2, h3, h4⟩
  · rw [List.getElem?_set_ne e] at h1
    exact .inl ⟨i', j', p, h1, h2, h3, h4⟩
theorem turn_cls (h : TurnInv x L s k n) (hp : PInv x next L) {i j : Nat} {a : PN} {c c' : PC} (ha : L[i]? = some a) (hc : a.cls[j]? = some c) (hs : c'.served = c.served) (hm : m = 0 ∨ (m = n ∧ ∃ d, Asked (L.set i { a with cls := a.cls.set j c' }) s k d ∧ 0 < totT d.rows)) : TurnInv x (L.set i { a with cls := a.cls.set j c' }) s k m := by
  refine turn_keep h hp (pinv_cls hp ha hc hs) (fun d hd _ => ?_) (fun d _ _ => by rw [sv_same ha hc hs]; exact Nat.le_refl _) hm
  rcases asked_set ha hc hd with h1 | ⟨rfl, h1⟩
  · exact ⟨d, h1, rfl⟩
  · exact ⟨c, h1, hs.symm⟩
/-- How many have a need, set. -/
theorem pinv_uses (hp : PInv x next L) {i : Nat} {a : PN} {u : Int} (ha : L[i]? = some a) (hu : 1 ≤ u) : PInv x next (L.set i { a with uses := u }) := by
  have ham := List.mem_of_getElem? ha
  have hsv := sv_uses (u := u) ha
  refine ⟨by rw [List.length_set]; exact hp.few, fun p hm => ?_, by rw [hsv]; exact hp.low, by rw [hsv]; exact hp.once, names_set hp ha rfl, fun p hm => ?_⟩
  · rcases mem_set_or hm with h | rfl
    · exact hp.len p h
    · exact hp.len a ham
  · rcases mem_set_or hm with h | rfl
    · exact hp.uses p h
    · exact hu
theorem asked_uses {i : Nat} {a : PN} {u : Int} {d : PC} (ha : L[i]? = some a) (h : Asked (L.set i { a with uses := u }) s k d) : Asked L s k d := by
  obtain ⟨i', j', p, h1, h2, h3, h4⟩ := h
  by_cases e : i = i'
  · subst e
    rw [List.getElem?_set_self (List.getElem?_eq_some_iff.1 ha).1] at h1
    cases h1
    exact ⟨i, j', a, ha, h2, h3, h4⟩
  · rw [List.getElem?_set_ne e] at h1
    exact ⟨i', j', p, h1, h2, h3, h4⟩
theorem turn_uses (h : TurnInv x L s k n) (hp : PInv x next L) {i : Nat} {a : PN} {u : Int} (ha : L[i]? = some a) (hu : 1 ≤ u) (hm : m = 0 ∨ (m = n ∧ ∃ d, Asked (L.set i { a with uses := u }) s k d ∧ 0 < totT d.rows)) : TurnInv x (L.set i { a with uses := u }) s k m :=
  turn_keep h hp (pinv_uses hp ha hu) (fun d hd _ => ⟨d, asked_uses ha hd, rfl⟩) (fun d _ _ => by rw [sv_uses ha]; exact Nat.le_refl _) hm
theorem fewer_append (t : Int) (A B : List Int) : fewer t (A ++ B) = fewer t A + fewer t B := by
  unfold fewer
  rw [List.countP_append]
/-- A need gone. -/
theorem pinv_gone (hp : PInv x next L) (i : Nat) : PInv x next (L.eraseIdx i) := by
  have hmem : ∀ {p}, p ∈ L.eraseIdx i → p ∈ L := fun h => List.mem_of_mem_eraseIdx h
  have hsub : (sv (L.eraseIdx i)).Sublist (sv L) := by
    unfold sv
    exact flat_sub _ (List.eraseIdx_sublist L i)
  refine ⟨?_, fun p h => hp.len p (hmem h), fun t ht => hp.low t (hsub.subset ht), hp.once.sublist hsub, fun i' j' p q h1 h2 e => ?_, fun p h => hp.uses p (hmem h)⟩
  · have h1 := (List.eraseIdx_sublist L i).length_le
    have h2 := hp.few
    omega
  · have key : ∀ (t : Nat) p, (L.eraseIdx i)[t]? = some p → L[if t < i then t else t + 1]? = some p := fun t p h => by
      rw [List.getElem?_eraseIdx] at h
      by_cases e : t < i
      · rw [if_pos e] at h ⊢
        exact h
      · rw [if_neg e] at h ⊢
        exact h
    have h3 := hp.names _ _ p q (key i' p h1) (key j' q h2) e
    split at h3 <;> split at h3 <;> omega
theorem asked_gone {i : Nat} {d : PC} (h : Asked (L.eraseIdx i) s k d) : Asked L s k d := by
  obtain ⟨i', j', p, h1, h2, h3, h4⟩ := h
  rw [List.getElem?_eraseIdx] at h1
  by_cases e : i' < i
  · rw [if_pos e] at h1
    exact ⟨i', j', p, h1, h2, h3, h4⟩
  · rw [if_neg e] at h1
    exact ⟨i' + 1, j', p, h1, h2, h3, h4⟩
theorem turn_gone (h : TurnInv x L s k n) (hp : PInv x next L) {i : Nat} (hm : m = 0 ∨ (m = n ∧ ∃ d, Asked (L.eraseIdx i) s k d ∧ 0 < totT d.rows)) : TurnInv x (L.eraseIdx i) s k m := by
  refine turn_keep h hp (pinv_gone hp i) (fun d hd _ => ⟨d, asked_gone hd, rfl⟩) (fun d _ _ => ?_) hm
  have hsub : (sv (L.eraseIdx i)).Sublist (sv L) := by
    unfold sv
    exact flat_sub _ (List.eraseIdx_sublist L i)
  exact hsub.countP_le
theorem pow_sv {a : PN} (h : ∀ (j : Nat) c, a.cls[j]? = some c → c.served = next + j) : ∀ t ∈ a.cls.map PC.served, next ≤ t ∧ t < next + a.cls.length := fun t ht => by
  obtain ⟨c, hc, rfl⟩ := List.mem_map.1 ht
  obtain ⟨j, hj⟩ := List.getElem?_of_mem hc
  have h1 := h j c hj
  have h2 := (List.getElem?_eq_some_iff.1 hj).1
  omega
theorem run_once : ∀ {l : List PC} {t : Int}, (∀ (j : Nat) c, l[j]? = some c → c.served = t + j) → (l.map PC.served).Nodup
  | [], _, _ => by simp
  | c :: l, t, h => by
    rw [List.map_cons, List.nodup_cons]
    have h0 := h 0 c rfl
    have hl : ∀ (j : Nat) d, l[j]? = some d → d.served = (t + 1) + j := fun j d hd => by
      have := h (j + 1) d (by simpa using hd)
      omega
    refine ⟨fun hm => ?_, run_once hl⟩
    obtain ⟨d, hd, e⟩ := List.mem_map.1 hm
    obtain ⟨j, hj⟩ := List.getElem?_of_mem hd
    have := hl j d hj
    omega
/-- A new need. -/
theorem pinv_join (hp : PInv x next L) {a : PN} (hl : a.cls.length = x.classes) (hs : ∀ (j : Nat) c, a.cls[j]? = some c → c.served = next + j) (hnx : 0 ≤ next) (hroom : (L.length : Int) < x.pools) (hnew : ∀ p ∈ L, p.name ≠ a.name) (hu : 1 ≤ a.uses) : PInv x (next + x.classes) (L ++ [a]) := by
  have hsv : sv (L ++ [a]) = sv L ++ a.cls.map PC.served := by
    rw [sv_append]
    congr 1
    simp [sv]
  have hb := pow_sv hs
  rw [hl] at hb
  refine ⟨by rw [List.length_append, List.length_singleton]; omega, fun p h => ?_, fun t ht => ?_, ?_, fun i j p q h1 h2 e => ?_, fun p h => ?_⟩
  · rcases List.mem_append.1 h with h | h
    · exact hp.len p h
    · rw [List.mem_singleton] at h
      rw [h]
      exact hl
  · rw [hsv] at ht
    rcases List.mem_append.1 ht with h | h
    · have := hp.low t h
      omega
    · have := hb t h
      omega
  · rw [hsv, List.nodup_append]
    refine ⟨hp.once, run_once hs, fun t ht u hu e => ?_⟩
    have h1 := hp.low t ht
    have h2 := hb u hu
    omega
  · have hlen : ∀ {i : Nat} {p : PN}, (L ++ [a])[i]? = some p → (i < L.length ∧ L[i]? = some p) ∨ (i = L.length ∧ p = a) := fun {i p} h => by
      rcases Nat.lt_or_ge i L.length with hi | hi
      · rw [List.getElem?_append_left hi] at h
        exact .inl ⟨hi, h⟩
      · rw [List.getElem?_append_right hi] at h
        have hz := (List.getElem?_eq_some_iff.1 h).1
        simp at hz
        have hi0 : i = L.length := by omega
        subst hi0
        simp at h
        exact .inr ⟨rfl, h.symm⟩
    rcases hlen h1 with ⟨_, g1⟩ | ⟨e1, g1⟩ <;> rcases hlen h2 with ⟨_, g2⟩ | ⟨e2, g2⟩
    · exact hp.names i j p q g1 g2 e
    · exact absurd (e.trans (by rw [g2])) (hnew p (List.mem_of_getElem? g1))
    · exact absurd (e.symm.trans (by rw [g1])) (hnew q (List.mem_of_getElem? g2))
    · omega
  · rcases List.mem_append.1 h with h | h
    · exact hp.uses p h
    · rw [List.mem_singleton] at h
      rw [h]
      exact hu
theorem turn_join (h : TurnInv x L s k n) (hp : PInv x next L) {a : PN} (hl : a.cls.length = x.classes) (hs : ∀ (j : Nat) c, a.cls[j]? = some c → c.served = next + j ∧ c.rows = []) (hnx : 0 ≤ next) (hroom : (L.length : Int) < x.pools) (hnew : ∀ p ∈ L, p.name ≠ a.name) (hu : 1 ≤ a.uses)
    (hm : m = 0 ∨ (m = n ∧ ∃ d, Asked (L ++ [a]) s k d ∧ 0 < totT d.rows)) : TurnInv x (L ++ [a]) s k m := by
  have hs' : ∀ (j : Nat) c, a.cls[j]? = some c → c.served = next + j := fun j c hc => (hs j c hc).1
  have hasked : ∀ d, Asked (L ++ [a]) s k d → 0 < totT d.rows → Asked L s k d := fun d hd hw => by
    obtain ⟨i, j, p, h1, h2, h3, h4⟩ := hd
    rcases Nat.lt_or_ge i L.length with hi | hi
    · rw [List.getElem?_append_left hi] at h1
      exact ⟨i, j, p, h1, h2, h3, h4⟩
    · rw [List.getElem?_append_right hi] at h1
      have hz := (List.getElem?_eq_some_iff.1 h1).1
      simp at hz
      have hi0 : i = L.length := by omega
      subst hi0
      simp at h1
      subst h1
      rw [(hs j d h4).2] at hw
      simp [totT] at hw
  refine turn_keep h hp (pinv_join hp hl hs' hnx hroom hnew hu) (fun d hd hw => ⟨d, hasked d hd hw, rfl⟩) (fun d hd hw => ?_) hm
  obtain ⟨i, j, p, h1, h2, h3, h4⟩ := hasked d hd hw
  have hlow := hp.low _ (sv_mem h1 h4)
  have hb := pow_sv hs'
  rw [sv_append, fewer_append]
  have hz : fewer d.served (sv [a]) = 0 := by
    unfold fewer
    rw [List.countP_eq_zero]
    intro t ht
    have ht' : t ∈ a.cls.map PC.served := by simpa [sv] using ht
    have := hb t ht'
    simp
    omega
  omega
end
end Go.Proofs.YtdbjihkgafhakaaGreatDoor
