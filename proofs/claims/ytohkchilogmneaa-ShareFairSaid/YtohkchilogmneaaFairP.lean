/-
  Two flows treated alike: the plain law.
-/
import Derived.Test.YtohkchilogmneaaLive15
namespace Go.Proofs.Ytohkchilogmneaa

theorem atF_cons (id : Int) (x : FRow) (l : List FRow) : atF id (x :: l) = if x.id = id then some x else atF id l := by
  unfold atF
  by_cases h : x.id = id
  · rw [if_pos h, List.find?_cons_of_pos (by simpa using h)]
  · rw [if_neg h, List.find?_cons_of_neg (by simpa using h)]
theorem dfF_cons (id : Int) (x : FRow) (l : List FRow) : dfF id (x :: l) = if x.id = id then x.df else dfF id l := by
  unfold dfF
  rw [atF_cons]
  by_cases h : x.id = id
  · rw [if_pos h, if_pos h]
  · rw [if_neg h, if_neg h]
theorem dfF_snoc {id : Int} {x : FRow} : ∀ {l : List FRow}, (∀ r ∈ l, r.id ≠ x.id) → dfF id (l ++ [x]) = if x.id = id then x.df else dfF id l
  | [], _ => by rw [List.nil_append, dfF_cons]
  | y :: l, h => by
    rw [List.cons_append, dfF_cons, dfF_snoc (l := l) (fun r hr => h r (List.mem_cons_of_mem _ hr)), dfF_cons]
    have hy := h y List.mem_cons_self
    by_cases h1 : y.id = id
    · rw [if_pos h1, if_neg (fun e => hy (h1.trans e.symm)), if_pos h1]
    · rw [if_neg h1, if_neg h1]
/-- Is i ahead of j? -/
def firstIJ (i j : Int) : List FRow → Bool
  | [] => true
  | r :: l => if r.id = i then true else if r.id = j then false else firstIJ i j l
/-- Has i been charged once more than j? -/
def cIJ (i j : Int) (gv : Bool) : List FRow → Int
  | [] => 0
  | r :: l => if gv = true then (if r.id = i then 1 else if r.id = j then 0 else if firstIJ i j l = true then 0 else 1) else if firstIJ i j (r :: l) = true then 0 else 1
def phi (ws : Int → Int) (q i j : Int) (gv : Bool) (rows : List FRow) : Int := dfF i rows * ws j - dfF j rows * ws i - q * ws i * ws j * cIJ i j gv rows
def hasF (id : Int) (rows : List FRow) : Prop := ∃ r ∈ rows, r.id = id
instance (id : Int) (rows : List FRow) : Decidable (hasF id rows) := by unfold hasF; infer_instance
theorem first_snoc {i j : Int} {x : FRow} : ∀ {l : List FRow}, firstIJ i j (l ++ [x]) = if hasF i l ∨ hasF j l then firstIJ i j l else firstIJ i j [x]
  | [] => by rw [if_neg (by rintro (⟨_, h, _⟩ | ⟨_, h, _⟩) <;> cases h)]; rfl
  | y :: l => by
    rw [List.cons_append, firstIJ, firstIJ]
    by_cases h1 : y.id = i
    · rw [if_pos h1, if_pos h1, if_pos (.inl ⟨y, List.mem_cons_self, h1⟩)]
    · rw [if_neg h1, if_neg h1]
      by_cases h2 : y.id = j
      · rw [if_pos h2, if_pos h2, if_pos (.inr ⟨y, List.mem_cons_self, h2⟩)]
      · rw [if_neg h2, if_neg h2, first_snoc (l := l)]
        have e : (hasF i (y :: l) ∨ hasF j (y :: l)) ↔ (hasF i l ∨ hasF j l) := by
          unfold hasF
          simp [h1, h2]
        simp only [e]
theorem first_only_j {i j : Int} (hij : i ≠ j) : ∀ {l : List FRow}, ¬ hasF i l → hasF j l → firstIJ i j l = false
  | [], _, ⟨_, h, _⟩ => by cases h
  | y :: l, hi, hj => by
    have h1 : y.id ≠ i := fun e => hi ⟨y, List.mem_cons_self, e⟩
    rw [firstIJ, if_neg h1]
    by_cases h2 : y.id = j
    · rw [if_pos h2]
    · rw [if_neg h2]
      refine first_only_j hij (fun ⟨r, hr, e⟩ => hi ⟨r, List.mem_cons_of_mem _ hr, e⟩) ?_
      obtain ⟨r, hr, e⟩ := hj
      rcases List.mem_cons.1 hr with rfl | hr
      · exact absurd e h2
      · exact ⟨r, hr, e⟩
theorem first_only_i {i j : Int} : ∀ {l : List FRow}, ¬ hasF j l → firstIJ i j l = true
  | [], _ => rfl
  | y :: l, hj => by
    have h1 : y.id ≠ j := fun e => hj ⟨y, List.mem_cons_self, e⟩
    rw [firstIJ]
    by_cases h2 : y.id = i
    · rw [if_pos h2]
    · rw [if_neg h2, if_neg h1]
      exact first_only_i (fun ⟨r, hr, e⟩ => hj ⟨r, List.mem_cons_of_mem _ hr, e⟩)
theorem hasF_cons {id : Int} {x : FRow} {l : List FRow} : hasF id (x :: l) ↔ x.id = id ∨ hasF id l := by
  unfold hasF
  simp
section
variable {ws : Int → Int} {q i j : Int} {gv : Bool} {x : FRow} {r : List FRow}
theorem phi_charge (hij : i ≠ j) (hw : x.wt = ws x.id) : phi ws q i j true (chargeR q gv x :: r) = phi ws q i j gv (x :: r) := by
  cases gv with
  | true => rfl
  | false =>
    unfold phi
    rw [dfF_cons, dfF_cons, dfF_cons, dfF_cons]
    have hid : (chargeR q false x).id = x.id := (chargeR_its q false x).2.1
    have hdf : (chargeR q false x).df = x.df + q * x.wt := rfl
    rw [hid, hdf, hw]
    have c1 : cIJ i j true (chargeR q false x :: r) = if x.id = i then 1 else if x.id = j then 0 else if firstIJ i j r = true then 0 else 1 := by
      simp only [cIJ, hid, if_true]
    have c2 : cIJ i j false (x :: r) = if (if x.id = i then true else if x.id = j then false else firstIJ i j r) = true then 0 else 1 := rfl
    rw [c1, c2]
    by_cases h1 : x.id = i
    · have h2 : x.id ≠ j := fun e => hij (h1.symm.trans e)
      simp only [h1, if_true, if_neg hij]
      rw [Int.add_mul]
      simp only [Int.mul_one, Int.mul_zero, Int.sub_zero]
      omega
    · by_cases h2 : x.id = j
      · simp only [h2, if_neg (Ne.symm hij), if_true, Bool.false_eq_true, if_false]
        rw [Int.add_mul]
        have e : q * ws j * ws i = q * ws i * ws j := by rw [Int.mul_right_comm]
        rw [e]
        simp only [Int.mul_one, Int.mul_zero, Int.sub_zero]
        omega
      · simp only [if_neg h1, if_neg h2]
theorem phi_rotate (hij : i ≠ j) (hn : ∀ y ∈ r, y.id ≠ x.id) (hi : hasF i (x :: r)) (hj : hasF j (x :: r)) : phi ws q i j false (r ++ [x]) = phi ws q i j true (x :: r) := by
  have hc : cIJ i j false (r ++ [x]) = cIJ i j true (x :: r) := by
    have h0 : cIJ i j false (r ++ [x]) = if firstIJ i j (r ++ [x]) = true then 0 else 1 := by
      cases r with
      | nil => simp [cIJ]
      | cons y l => simp [cIJ]
    have hf : (hasF i r ∨ hasF j r) → firstIJ i j (r ++ [x]) = firstIJ i j r := fun h => by rw [first_snoc, if_pos h]
    rw [h0]
    unfold cIJ
    simp only [if_true]
    by_cases h1 : x.id = i
    · have hjr : hasF j r := by
        rcases hasF_cons.1 hj with h | h
        · exact absurd (h1.symm.trans h) hij
        · exact h
      have hir : ¬ hasF i r := fun ⟨y, hy, e⟩ => hn y hy (e.trans h1.symm)
      rw [hf (.inr hjr), if_pos h1, first_only_j hij hir hjr]
      simp
    · by_cases h2 : x.id = j
      · have hir : hasF i r := by
          rcases hasF_cons.1 hi with h | h
          · exact absurd h h1
          · exact h
        have hjr : ¬ hasF j r := fun ⟨y, hy, e⟩ => hn y hy (e.trans h2.symm)
        rw [hf (.inl hir), if_neg h1, if_pos h2, first_only_i hjr]
        simp
      · have hir : hasF i r := by
          rcases hasF_cons.1 hi with h | h
          · exact absurd h h1
          · exact h
        rw [hf (.inl hir), if_neg h1, if_neg h2]
  unfold phi
  rw [hc, dfF_snoc hn, dfF_snoc hn, dfF_cons, dfF_cons]
/-- What is known of the rows of a ring of known weights: D below what a head costs; one quantum more, if given. -/
structure FOk (ws : Int → Int) (q C : Int) (gv : Bool) (rows : List FRow) : Prop where
  once : (rows.map FRow.id).Nodup
  wts : ∀ r ∈ rows, r.wt = ws r.id ∧ 0 ≤ r.id ∧ r.id ≤ 3
  low : ∀ r ∈ rows, 0 ≤ r.df ∧ r.its ≠ []
  cost : ∀ r ∈ rows, ∀ y ∈ r.its, 1 ≤ y.cost ∧ y.cost ≤ C
  tail : ∀ r ∈ rows.tail, r.df ≤ C - 1
  head : ∀ r ∈ rows.head?, r.df ≤ C - 1 + if gv = true then q * ws r.id else 0
theorem FOk.calm {C : Int} {rows : List FRow} (h : FOk ws q C false rows) : ∀ r ∈ rows, r.df ≤ C - 1 := by
  intro r hr
  cases rows with
  | nil => cases hr
  | cons x l =>
    rcases List.mem_cons.1 hr with rfl | hr
    · have := h.head r (by simp)
      simpa using this
    · exact h.tail r hr
theorem FOk.charge {C : Int} (h : FOk ws q C gv (x :: r)) (hq : 0 ≤ q * ws x.id) : FOk ws q C true (chargeR q gv x :: r) := by
  have hw := h.wts x List.mem_cons_self
  have hid := chargeR_its q gv x
  have hdf : (chargeR q gv x).df = x.df + if gv = true then 0 else q * ws x.id := by
    cases gv with
    | true => simp [chargeR]
    | false => simp [chargeR, hw.1]
  refine ⟨?_, ?_, ?_, ?_, h.tail, ?_⟩
  · rw [List.map_cons, hid.2.1]
    exact h.once
  · intro y hy
    rcases List.mem_cons.1 hy with rfl | hy
    · rw [hid.2.1, hid.2.2]
      exact hw
    · exact h.wts y (List.mem_cons_of_mem _ hy)
  · intro y hy
    rcases List.mem_cons.1 hy with rfl | hy
    · have h1 := h.low x List.mem_cons_self
      rw [hid.1, hdf]
      refine ⟨?_, h1.2⟩
      split <;> omega
    · exact h.low y (List.mem_cons_of_mem _ hy)
  · intro y hy
    rcases List.mem_cons.1 hy with rfl | hy
    · rw [hid.1]
      exact h.cost x List.mem_cons_self
    · exact h.cost y (List.mem_cons_of_mem _ hy)
  · intro y hy
    simp at hy
    subst hy
    have h1 := h.head x (by simp)
    rw [hid.2.1, hdf, if_pos rfl]
    cases gv with
    | true => simpa using h1
    | false =>
      simp at h1 ⊢
      omega
theorem FOk.rotate {C : Int} (h : FOk ws q C true (x :: r)) (hc : ¬ headC x.its ≤ x.df) : FOk ws q C false (r ++ [x]) := by
  have hx : x.df ≤ C - 1 := by
    have h1 := h.low x List.mem_cons_self
    cases hl : x.its with
    | nil => exact absurd hl h1.2
    | cons y l =>
      have h2 := h.cost x List.mem_cons_self y (by rw [hl]; exact List.mem_cons_self)
      rw [hl] at hc
      have e : headC (y :: l) = y.cost := rfl
      rw [e] at hc
      omega
  have hall : ∀ y ∈ r ++ [x], y.df ≤ C - 1 := by
    intro y hy
    rcases List.mem_append.1 hy with hy | hy
    · exact h.tail y hy
    · rw [List.mem_singleton] at hy
      subst hy
      exact hx
  have hmem : ∀ y ∈ r ++ [x], y ∈ x :: r := by
    intro y hy
    rcases List.mem_append.1 hy with hy | hy
    · exact List.mem_cons_of_mem _ hy
    · rw [List.mem_singleton] at hy
      subst hy
      exact List.mem_cons_self
  refine ⟨?_, fun y hy => h.wts y (hmem y hy), fun y hy => h.low y (hmem y hy), fun y hy => h.cost y (hmem y hy), fun y hy => hall y (List.mem_of_mem_tail hy), fun y hy => ?_⟩
  · have h1 := h.once
    rw [List.map_cons] at h1
    rw [List.map_append]
    exact ((List.perm_append_comm (l₁ := r.map FRow.id) (l₂ := [x].map FRow.id)).nodup_iff).2 h1
  · have := hall y (List.mem_of_mem_head? hy)
    simpa using this
end
end Go.Proofs.Ytohkchilogmneaa
