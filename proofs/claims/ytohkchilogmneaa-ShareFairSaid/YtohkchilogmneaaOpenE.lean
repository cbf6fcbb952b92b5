/-
  Arguments that came in, opened: a slice of elements of whatever type, element by element.
-/
import Derived.Test.YtohkchilogmneaaOpen
import Derived.Test.YtohkchilogmneaaFr
namespace Go.Proofs.Ytohkchilogmneaa
open Go.ChangeShapes Go.WideShapes Go.ChangeAt Go.RowKit Go.Deep

section
variable {H : Type} {enc : TypeId × Value → H} {P : Program} {w : World} {base : Nat} {spare : Nat → Bool} {held : Bool}

theorem choose_list {α : Type} (n : Nat) (p : Nat → α → Prop) (h : ∀ i, i < n → ∃ x, p i x) : ∃ l : List α, l.length = n ∧ ∀ i x, l[i]? = some x → p i x := by
  induction n with
  | zero => exact ⟨[], rfl, fun i x hx => by simp at hx⟩
  | succ n ih =>
    obtain ⟨l, hl, hp⟩ := ih (fun i hi => h i (by omega))
    obtain ⟨x, hx⟩ := h n (by omega)
    refine ⟨l ++ [x], by simp [hl], fun i y hy => ?_⟩
    rcases Nat.lt_or_ge i n with hi | hi
    · rw [List.getElem?_append_left (by omega)] at hy
      exact hp i y hy
    · have hi2 : i < (l ++ [x]).length := (List.getElem?_eq_some_iff.1 hy).1
      have : i = n := by simp at hi2; omega
      subst this
      rw [List.getElem?_append_right (by omega), hl, Nat.sub_self] at hy
      simp at hy
      subst hy
      exact hx
theorem flat_split {α : Type} (en : α → List Value) (K : Nat) (hK : ∀ x, (en x).length = K) (h0 : 0 < K) {l : List α} {j : Nat} {u : Value} (h : (l.flatMap en)[j]? = some u) : ∃ x, l[j / K]? = some x ∧ (en x)[j % K]? = some u := by
  have hj : j < l.length * K := by rw [← flat_len en K hK l]; exact (List.getElem?_eq_some_iff.1 h).1
  have hd : j / K < l.length := Nat.div_lt_of_lt_mul (by rw [Nat.mul_comm]; exact hj)
  have hm : j % K < K := Nat.mod_lt _ h0
  refine ⟨l[j / K], List.getElem?_eq_getElem hd, ?_⟩
  rw [← flat_at en K hK (j % K) (List.getElem?_eq_getElem hd) hm, Nat.mul_comm, Nat.div_add_mod]
  exact h
/-- A slice of elements of K cells each, read one by one. -/
theorem open_enc {α : Type} (en : α → List Value) (K : Nat) (hK : ∀ x, (en x).length = K) (h0 : 0 < K) (Q : α → Prop) {t e : TypeId} {fuel : Nat} {v : Value} {x : DataW H × List MemPlace} (ht : P.underlying t = some (.slice e)) (hC : P.cellsOf e = K)
    (dec : ∀ (n : Nat) (cs : List Value) (y : DataW H × List MemPlace), DataW.trod enc P w base spare held n e cs = some y → (∀ z ∈ y.1.weights P e, z ≤ 140737488351232) → ∃ x, cs = en x ∧ Q x)
    (hz : ∀ z ∈ x.1.weights P t, z ≤ 140737488351232) (h : DataW.trod enc P w base spare held fuel t [v] = some x) :
    ∃ (l : List α) (a : Option Addr) (cap : Nat), v = .slice a l.length cap ∧ l.length ≤ cap ∧ (l.length = 0 ∨ l.length * P.bytesOf e ≤ 140737488351232) ∧ (∀ y ∈ l, Q y) ∧
      ∀ (j : Nat) u, (l.flatMap en)[j]? = some u → ∃ g off, a = some ⟨g, off, none⟩ ∧ w.cell? ⟨g, off + j, none⟩ = some u := by
  rcases open_slice ht h with ⟨h1, h2⟩ | ⟨a, len, cap, m, n, D, Pl, hcs, hb, hl, hm, hmm, hx, hi⟩
  · have : v = .slice none 0 0 := by simpa using h1
    subst this
    exact ⟨[], none, 0, rfl, Nat.le_refl _, .inl rfl, (fun y hy => by cases hy), (fun j u hu => by simp at hu)⟩
  · have : v = .slice (some a) len cap := by simpa using hcs
    subst this
    have hlm : len ≤ m := by rw [hmm]; split <;> omega
    have key : ∀ i, i < len → ∃ y : α, Q y ∧ w.cells? base (a.add (i * K)) K = some (en y) := by
      intro i hil
      obtain ⟨cs', hc, ht'⟩ := hi i (by omega)
      rw [hC] at hc
      obtain ⟨y, rfl, hq⟩ := dec n cs' _ ht' (fun z hzz => hz z (by rw [hx]; exact weights_slice_mem ht (d := D i) (List.mem_map.2 ⟨i, List.mem_range.2 hil, rfl⟩) hzz))
      exact ⟨y, hq, hc⟩
    obtain ⟨l, hlen, hp⟩ := choose_list len _ key
    subst hlen
    refine ⟨l, some a, cap, rfl, hl, ?_, fun y hy => ?_, fun j u hu => ?_⟩
    · right
      have h1 := hz _ (by rw [hx]; exact weights_slice_len ht)
      simp only [List.length_map, List.length_range] at h1
      exact Nat.le_trans (Nat.mul_le_mul_right _ (by omega)) h1
    · obtain ⟨i, hi2, rfl⟩ := List.getElem_of_mem hy
      exact (hp i _ (List.getElem?_eq_getElem hi2)).1
    · obtain ⟨y, hy, hu2⟩ := flat_split en K hK h0 hu
      have hc := (hp _ _ hy).2
      obtain ⟨_, hcl, hat⟩ := World.cells?_some hc
      have hm2 : j % K < K := Nat.mod_lt _ h0
      have h1 := hat (j % K) hm2
      rw [hu2] at h1
      obtain ⟨b, off, spot⟩ := a
      have hsp : spot = none := by
        have hl0 : 0 < l.length := Nat.lt_of_le_of_lt (Nat.zero_le _) (List.getElem?_eq_some_iff.1 hy).1
        have hc0 := (hp 0 _ (List.getElem?_eq_getElem hl0)).2
        obtain ⟨_, hcl0, hat0⟩ := World.cells?_some hc0
        have h2 := hat0 0 h0
        rw [List.getElem?_eq_getElem (show 0 < (en l[0]).length by rw [hK]; exact h0)] at h2
        simp only [Nat.zero_mul, Addr.add, if_true] at h2
        exact cell_spot h2
      subst hsp
      refine ⟨b, off, rfl, ?_⟩
      rw [← h1]
      congr 1
      have e : ∀ (o i : Nat), (⟨b, o, none⟩ : Addr).add i = ⟨b, o + i, none⟩ := fun o i => by unfold Addr.add; split <;> simp_all
      rw [e, e, Nat.add_assoc, Nat.mul_comm, Nat.div_add_mod]
end
end Go.Proofs.Ytohkchilogmneaa
