/-
  Two flows treated alike: Push; what was looked at; the law on it.
-/
import Derived.Test.YtohkchilogmneaaFairP2
namespace Go.Proofs.Ytohkchilogmneaa

section
variable {ws : Int → Int} {q C C' i j id : Int} {gv : Bool} {x : It} {rows : List FRow}
theorem FOk.push (h : FOk ws q C gv rows) (hq : ∀ id, 0 ≤ q * ws id) (hid : 0 ≤ id ∧ id ≤ 3) (h0 : pushE id (ws id) x rows = 0) (hC : C ≤ C') (hC1 : 1 ≤ C') (hx : x.cost ≤ C') : FOk ws q C' gv (pushR id (ws id) x rows) := by
  have h' := h.more hC
  obtain ⟨hb, ⟨h1, h2, h3⟩ | ⟨k, r, h1, h2, h3, h4, h5⟩⟩ := pushE_zero h0
  · have hx1 : 1 ≤ x.cost := by
      unfold itE at h3
      split at h3
      · cases h3
      · omega
    have hnew : ∀ r ∈ rows, r.id ≠ id := by
      intro r hr e
      have := List.findIdx?_eq_none_iff.1 h1 r hr
      simp [e] at this
    unfold pushR
    rw [h1]
    simp only
    refine ⟨?_, fun z hz => ?_, fun z hz => ?_, fun z hz => ?_, fun z hz => ?_, fun z hz => ?_⟩
    · rw [List.map_append, List.nodup_append]
      refine ⟨h.once, by simp, fun a ha b hb => ?_⟩
      obtain ⟨r, hr, rfl⟩ := List.mem_map.1 ha
      simp at hb
      subst hb
      exact hnew r hr
    · rcases List.mem_append.1 hz with hz | hz
      · exact h.wts z hz
      · rw [List.mem_singleton] at hz
        subst hz
        exact ⟨rfl, hid⟩
    · rcases List.mem_append.1 hz with hz | hz
      · exact h.low z hz
      · rw [List.mem_singleton] at hz
        subst hz
        exact ⟨Int.le_refl _, by simp⟩
    · rcases List.mem_append.1 hz with hz | hz
      · exact h'.cost z hz
      · rw [List.mem_singleton] at hz
        subst hz
        intro y hy
        simp at hy
        subst hy
        exact ⟨hx1, hx⟩
    · cases rows with
      | nil => simp at hz
      | cons y l =>
        rw [List.cons_append, List.tail_cons] at hz
        rcases List.mem_append.1 hz with hz | hz
        · exact h'.tail z hz
        · rw [List.mem_singleton] at hz
          subst hz
          show (0 : Int) ≤ _
          omega
    · cases rows with
      | nil =>
        simp at hz
        subst hz
        have := hq id
        show (0 : Int) ≤ C' - 1 + if gv = true then q * ws id else 0
        split <;> omega
      | cons y l =>
        rw [List.cons_append] at hz
        simp at hz
        subst hz
        exact h'.head y (by simp)
  · have hx1 : 1 ≤ x.cost := by
      unfold itE at h5
      split at h5
      · cases h5
      · omega
    unfold pushR
    rw [h1]
    simp only
    rw [modify_set h2]
    have hmem := List.mem_of_getElem? h2
    refine h'.set h2 rfl rfl ⟨(h.low r hmem).1, Int.le_refl _⟩ (by simp) (fun z hz => ?_)
    rcases List.mem_append.1 hz with hz | hz
    · exact h'.cost r hmem z hz
    · rw [List.mem_singleton] at hz
      subst hz
      exact ⟨hx1, hx⟩
theorem phi_push (hi : hasF i rows) (hj : hasF j rows) {wt : Int} : phi ws q i j gv (stepPush id wt x rows) = phi ws q i j gv rows := by
  unfold stepPush
  split
  · unfold pushR
    rcases find_at (id := id) (rows := rows) with ⟨h1, h2⟩ | ⟨k, r, h1, h2, h3, h4⟩
    · rw [h1]
      simp only
      have hnew : ∀ r ∈ rows, r.id ≠ id := by
        intro r hr e
        have := List.findIdx?_eq_none_iff.1 h1 r hr
        simp [e] at this
      have ni : id ≠ i := by
        obtain ⟨r, hr, e⟩ := hi
        exact fun e' => hnew r hr (e.trans e'.symm)
      have nj : id ≠ j := by
        obtain ⟨r, hr, e⟩ := hj
        exact fun e' => hnew r hr (e.trans e'.symm)
      unfold phi
      rw [dfF_snoc hnew, dfF_snoc hnew, if_neg ni, if_neg nj]
      have hc : cIJ i j gv (rows ++ [⟨id, wt, 0, [x]⟩]) = cIJ i j gv rows := by
        cases rows with
        | nil =>
          obtain ⟨r, hr, _⟩ := hi
          cases hr
        | cons y l =>
          have hf : firstIJ i j (y :: l ++ [⟨id, wt, 0, [x]⟩]) = firstIJ i j (y :: l) := by rw [first_snoc, if_pos (.inl hi)]
          have hl : y.id ≠ i → y.id ≠ j → firstIJ i j (l ++ [⟨id, wt, 0, [x]⟩]) = firstIJ i j l := fun h3 h4 => by
            rw [first_snoc, if_pos (.inl ((hasF_cons.1 hi).resolve_left h3))]
          rw [List.cons_append] at hf ⊢
          simp only [cIJ, hf]
          by_cases h3 : y.id = i
          · simp only [if_pos h3]
          · by_cases h4 : y.id = j
            · simp only [if_neg h3, if_pos h4]
            · simp only [if_neg h3, if_neg h4, hl h3 h4]
      rw [hc]
    · rw [h1]
      simp only
      rw [modify_set h2]
      exact phi_key (key_set h2 rfl rfl)
  · rfl
theorem has_push {wt : Int} (h : hasF i rows) : hasF i (stepPush id wt x rows) := by
  unfold stepPush
  split
  · unfold pushR
    rcases find_at (id := id) (rows := rows) with ⟨h1, h2⟩ | ⟨k, r, h1, h2, h3, h4⟩
    · rw [h1]
      obtain ⟨r, hr, e⟩ := h
      exact ⟨r, List.mem_append_left _ hr, e⟩
    · rw [h1]
      simp only
      rw [modify_set h2]
      have hm : i ∈ (rows.set k { r with its := r.its ++ [x] }).map FRow.id := by
        rw [set_map, set_same (by rw [List.getElem?_map, h2]; rfl)]
        obtain ⟨r, hr, e⟩ := h
        exact e ▸ List.mem_map_of_mem hr
      obtain ⟨r', hr', e⟩ := List.mem_map.1 hm
      exact ⟨r', hr', e⟩
  · exact h
end
/-- What is looked at: what was taken of each flow, how often something was dropped, what waits. -/
structure Lk where
  t : Int → Int
  d : Int → Int
  b : Int → Bool
/-- A look, and the ring as it was. -/
abbrev Gst := Lk × Bool × List FRow
def In4 (i : Int) : Prop := 0 ≤ i ∧ i ≤ 3
/-- From one look to the next one nothing is lost. -/
def LinkOk (ws : Int → Int) (q : Int) (g g' : Gst) : Prop := (∀ i, g.1.t i ≤ g'.1.t i) ∧
  ∀ i j, i ≠ j → In4 i → In4 j → g.1.b i = true → g.1.b j = true → g'.1.b i = true → g'.1.b j = true → g.1.d i = g'.1.d i → g.1.d j = g'.1.d j → g'.1.t i * ws j - g'.1.t j * ws i + phi ws q i j g'.2.1 g'.2.2 = g.1.t i * ws j - g.1.t j * ws i + phi ws q i j g.2.1 g.2.2
structure LooksOk (ws : Int → Int) (q C : Int) (gs : List Gst) : Prop where
  ok : ∀ g ∈ gs, FOk ws q C g.2.1 g.2.2 ∧ ∀ i, In4 i → (g.1.b i = true ↔ hasF i g.2.2)
  link : ∀ (m : Nat) g g', gs[m]? = some g → gs[m + 1]? = some g' → LinkOk ws q g g'
  top : ∀ g ∈ gs, ∀ i, 0 ≤ g.1.t i ∧ g.1.t i ≤ 64 * gs.length
def FairOk (ws : Int → Int) (q C : Int) (a b : Lk) (i j : Int) : Prop :=
  (0 ≤ b.t i - a.t i ∧ b.t i - a.t i < 1048576) ∧ (0 ≤ b.t j - a.t j ∧ b.t j - a.t j < 1048576) ∧
  (b.t i - a.t i) * ws j ≤ (b.t j - a.t j) * ws i + (q * ws i * ws j + C * ws j + C * ws i) ∧ (b.t j - a.t j) * ws i ≤ (b.t i - a.t i) * ws j + (q * ws i * ws j + C * ws j + C * ws i)
section
variable {ws : Int → Int} {q C : Int}
theorem df_bounds {gv : Bool} {rows : List FRow} (h : FOk ws q C gv rows) (hq : ∀ i, 0 ≤ q * ws i) {i : Int} (hi : hasF i rows) : 0 ≤ dfF i rows ∧ dfF i rows ≤ C - 1 + q * ws i ∧ ((∀ r ∈ rows.head?, gv = true → r.id ≠ i) → dfF i rows ≤ C - 1) := by
  have key : ∀ {l : List FRow}, hasF i l → ∃ r ∈ l, r.id = i ∧ dfF i l = r.df := by
    intro l
    induction l with
    | nil => rintro ⟨_, h, _⟩; cases h
    | cons y l ih =>
      intro hh
      rw [dfF_cons]
      by_cases e : y.id = i
      · exact ⟨y, List.mem_cons_self, e, by rw [if_pos e]⟩
      · obtain ⟨r, hr, e1, e2⟩ := ih ((hasF_cons.1 hh).resolve_left e)
        exact ⟨r, List.mem_cons_of_mem _ hr, e1, by rw [if_neg e, e2]⟩
  obtain ⟨r, hr, e1, e2⟩ := key hi
  rw [e2]
  have hqi := hq i
  have hlow := (h.low r hr).1
  cases rows with
  | nil => cases hr
  | cons y l =>
    rcases List.mem_cons.1 hr with rfl | hr
    · have h1 := h.head r (by simp)
      rw [e1] at h1
      refine ⟨hlow, ?_, fun hh => ?_⟩
      · split at h1 <;> omega
      · have hg : gv ≠ true := fun e => hh r (by simp) e e1
        rw [if_neg hg] at h1
        omega
    · have h1 := h.tail r hr
      exact ⟨hlow, by omega, fun _ => h1⟩
/-- phi keeps to a band. -/
theorem phi_band {gv : Bool} {rows : List FRow} (h : FOk ws q C gv rows) (hq : 0 ≤ q) (hw : ∀ i, 1 ≤ ws i) {i j : Int} (hij : i ≠ j) (hi : hasF i rows) (hj : hasF j rows) :
    phi ws q i j gv rows ≤ (C - 1) * ws j ∧ -((C - 1) * ws i) - q * ws i * ws j ≤ phi ws q i j gv rows := by
  have hqw : ∀ i, 0 ≤ q * ws i := fun i => Int.mul_nonneg hq (by have := hw i; omega)
  obtain ⟨a1, a2, a3⟩ := df_bounds h hqw hi
  obtain ⟨b1, b2, b3⟩ := df_bounds h hqw hj
  have wi := hw i
  have wj := hw j
  have m1 := Int.mul_nonneg a1 (show 0 ≤ ws j by omega)
  have m2 := Int.mul_nonneg b1 (show 0 ≤ ws i by omega)
  have m0 : 0 ≤ q * ws i * ws j := Int.mul_nonneg (hqw i) (by omega)
  have ui : dfF i rows ≤ C - 1 → dfF i rows * ws j ≤ (C - 1) * ws j := fun h => Int.mul_le_mul_of_nonneg_right h (by omega)
  have uj : dfF j rows ≤ C - 1 → dfF j rows * ws i ≤ (C - 1) * ws i := fun h => Int.mul_le_mul_of_nonneg_right h (by omega)
  have ti : dfF i rows * ws j ≤ (C - 1) * ws j + q * ws i * ws j := by
    have := Int.mul_le_mul_of_nonneg_right a2 (show 0 ≤ ws j by omega)
    rwa [Int.add_mul] at this
  have tj : dfF j rows * ws i ≤ (C - 1) * ws i + q * ws i * ws j := by
    have := Int.mul_le_mul_of_nonneg_right b2 (show 0 ≤ ws i by omega)
    rw [Int.add_mul, Int.mul_right_comm q (ws j) (ws i)] at this
    exact this
  unfold phi
  cases rows with
  | nil =>
    obtain ⟨r, hr, _⟩ := hi
    cases hr
  | cons y l =>
    cases gv with
    | false =>
      have ui := ui (a3 (fun r _ e => by cases e))
      have uj := uj (b3 (fun r _ e => by cases e))
      have hc : cIJ i j false (y :: l) = 0 ∨ cIJ i j false (y :: l) = 1 := by
        simp only [cIJ, Bool.false_eq_true, if_false]
        split
        · exact .inl rfl
        · exact .inr rfl
      rcases hc with hc | hc <;> rw [hc] <;> simp only [Int.mul_zero, Int.mul_one] <;> omega
    | true =>
      by_cases h1 : y.id = i
      · have hc : cIJ i j true (y :: l) = 1 := by simp [cIJ, h1]
        have uj := uj (b3 (fun r hr _ e => by
          simp at hr
          subst hr
          exact hij (h1.symm.trans e)))
        rw [hc]
        simp only [Int.mul_one]
        omega
      · have ui := ui (a3 (fun r hr _ e => by
          simp at hr
          subst hr
          exact h1 e))
        by_cases h2 : y.id = j
        · have hc : cIJ i j true (y :: l) = 0 := by simp [cIJ, h2, Ne.symm hij]
          rw [hc]
          simp only [Int.mul_zero]
          omega
        · have uj := uj (b3 (fun r hr _ e => by
            simp at hr
            subst hr
            exact h2 e))
          have hc : cIJ i j true (y :: l) = 0 ∨ cIJ i j true (y :: l) = 1 := by
            simp only [cIJ, if_true, if_neg h1, if_neg h2]
            split
            · exact .inl rfl
            · exact .inr rfl
          rcases hc with hc | hc <;> rw [hc] <;> simp only [Int.mul_zero, Int.mul_one] <;> omega
theorem looks_chain {gs : List Gst} (h : LooksOk ws q C gs) {i j : Int} (hij : i ≠ j) (hi : In4 i) (hj : In4 j) {last : Gst} : ∀ (n k : Nat) (a : Gst), gs[k]? = some a → gs[k + n]? = some last →
    (∀ (m : Nat) g, k ≤ m → m ≤ k + n → gs[m]? = some g → g.1.b i = true ∧ g.1.b j = true ∧ g.1.d i = last.1.d i ∧ g.1.d j = last.1.d j) →
    (∀ i, a.1.t i ≤ last.1.t i) ∧ last.1.t i * ws j - last.1.t j * ws i + phi ws q i j last.2.1 last.2.2 = a.1.t i * ws j - a.1.t j * ws i + phi ws q i j a.2.1 a.2.2
  | 0, k, a, ha, hl, _ => by
    rw [Nat.add_zero, ha] at hl
    cases hl
    exact ⟨fun _ => Int.le_refl _, rfl⟩
  | n + 1, k, a, ha, hl, hall => by
    obtain ⟨b, hb⟩ : ∃ b, gs[k + 1]? = some b := ⟨_, List.getElem?_eq_getElem (by have := (List.getElem?_eq_some_iff.1 hl).1; omega)⟩
    obtain ⟨h1, h2⟩ := looks_chain h hij hi hj n (k + 1) b hb (by rw [show k + 1 + n = k + (n + 1) by omega]; exact hl) (fun m g h3 h4 => hall m g (by omega) (by omega))
    obtain ⟨l1, l2⟩ := h.link k a b ha hb
    have ka := hall k a (Nat.le_refl _) (by omega) ha
    have kb := hall (k + 1) b (by omega) (by omega) hb
    refine ⟨fun i => Int.le_trans (l1 i) (h1 i), ?_⟩
    rw [h2, l2 i j hij hi hj ka.1 ka.2.1 kb.1 kb.2.1 (ka.2.2.1.trans kb.2.2.1.symm) (ka.2.2.2.trans kb.2.2.2.symm)]
/-- THE LAW: from each look up to the last one. -/
theorem looks_fair {gs : List Gst} (h : LooksOk ws q C gs) (hlen : gs.length ≤ 151) (hq : 0 ≤ q) (hw : ∀ i, 1 ≤ ws i) {i j : Int} (hij : i ≠ j) (hi : In4 i) (hj : In4 j) {last a : Gst} {k n : Nat} (ha : gs[k]? = some a) (hl : gs[k + n]? = some last)
    (hall : ∀ (m : Nat) g, k ≤ m → m ≤ k + n → gs[m]? = some g → g.1.b i = true ∧ g.1.b j = true ∧ g.1.d i = last.1.d i ∧ g.1.d j = last.1.d j) : FairOk ws q C a.1 last.1 i j := by
  obtain ⟨h1, h2⟩ := looks_chain h hij hi hj n k a ha hl hall
  have ma := List.mem_of_getElem? ha
  have ml := List.mem_of_getElem? hl
  have ka := hall k a (Nat.le_refl _) (by omega) ha
  have kl := hall (k + n) last (by omega) (Nat.le_refl _) hl
  obtain ⟨fa, ba⟩ := h.ok a ma
  obtain ⟨fl, bl⟩ := h.ok last ml
  obtain ⟨p1, p2⟩ := phi_band fa hq hw hij ((ba i hi).1 ka.1) ((ba j hj).1 ka.2.1)
  obtain ⟨q1, q2⟩ := phi_band fl hq hw hij ((bl i hi).1 kl.1) ((bl j hj).1 kl.2.1)
  have ti := h.top a ma i
  have tj := h.top a ma j
  have si := h.top last ml i
  have sj := h.top last ml j
  have oi := h1 i
  have oj := h1 j
  have wi := hw i
  have wj := hw j
  have c1 : (C - 1) * ws j = C * ws j - ws j := by rw [Int.sub_mul, Int.one_mul]
  have c2 : (C - 1) * ws i = C * ws i - ws i := by rw [Int.sub_mul, Int.one_mul]
  rw [c1] at p1 q1
  rw [c2] at p2 q2
  refine ⟨⟨by omega, by omega⟩, ⟨by omega, by omega⟩, ?_, ?_⟩
  · rw [Int.sub_mul, Int.sub_mul]
    omega
  · rw [Int.sub_mul, Int.sub_mul]
    omega
end
end Go.Proofs.Ytohkchilogmneaa
