/-
  Two flows treated alike: what each call leaves.
-/
import Derived.Test.YtohkchilogmneaaFairP
namespace Go.Proofs.Ytohkchilogmneaa

section
variable {ws : Int → Int} {q C i j : Int} {gv : Bool} {x : FRow} {r rows : List FRow}
theorem once_ne {x : FRow} {r : List FRow} (h : ((x :: r).map FRow.id).Nodup) : ∀ y ∈ r, y.id ≠ x.id := by
  rw [List.map_cons, List.nodup_cons] at h
  exact fun y hy e => h.1 (by rw [← e]; exact List.mem_map_of_mem hy)
theorem picks_fair {l l2 : List FRow} (h : PicksR q gv l l2) (hq : ∀ y ∈ l, 0 ≤ q * ws y.id) (hF : FOk ws q C gv l) :
    FOk ws q C true l2 ∧ (∀ i j, i ≠ j → hasF i l → hasF j l → phi ws q i j true l2 = phi ws q i j gv l) ∧ ∀ id, hasF id l2 ↔ hasF id l := by
  induction h with
  | @grant gv x r h =>
    refine ⟨hF.charge (hq x List.mem_cons_self), fun i j hij _ _ => phi_charge hij (hF.wts x List.mem_cons_self).1, fun id => ?_⟩
    rw [hasF_cons, hasF_cons, (chargeR_its q gv x).2.1]
  | @rotate gv x r l2 h hr ih =>
    have h1 := hF.charge (hq x List.mem_cons_self)
    have h2 := h1.rotate (by rw [(chargeR_its q gv x).1]; exact h)
    have hid := (chargeR_its q gv x).2.1
    have hmem : ∀ id, hasF id (r ++ [chargeR q gv x]) ↔ hasF id (x :: r) := fun id => by
      unfold hasF
      simp [hid]
      exact or_comm
    obtain ⟨k1, k2, k3⟩ := ih (fun y hy => by
      rcases List.mem_append.1 hy with hy | hy
      · exact hq y (List.mem_cons_of_mem _ hy)
      · rw [List.mem_singleton] at hy
        subst hy
        rw [hid]
        exact hq x List.mem_cons_self) h2
    refine ⟨k1, fun i j hij hi hj => ?_, fun id => (k3 id).trans (hmem id)⟩
    rw [k2 i j hij ((hmem i).2 hi) ((hmem j).2 hj), phi_rotate hij (once_ne h1.once) (by rw [hasF_cons, hid, ← hasF_cons]; exact hi) (by rw [hasF_cons, hid, ← hasF_cons]; exact hj), phi_charge hij (hF.wts x List.mem_cons_self).1]
theorem dfF_key {id : Int} : ∀ {l l' : List FRow}, l.map (fun r => (r.id, r.df)) = l'.map (fun r => (r.id, r.df)) → dfF id l = dfF id l'
  | [], [], _ => rfl
  | [], _ :: _, h => by cases h
  | _ :: _, [], h => by cases h
  | x :: l, y :: l', h => by
    rw [List.map_cons, List.map_cons, List.cons.injEq, Prod.mk.injEq] at h
    rw [dfF_cons, dfF_cons, h.1.1, h.1.2, dfF_key h.2]
theorem first_key : ∀ {l l' : List FRow}, l.map FRow.id = l'.map FRow.id → firstIJ i j l = firstIJ i j l'
  | [], [], _ => rfl
  | [], _ :: _, h => by cases h
  | _ :: _, [], h => by cases h
  | x :: l, y :: l', h => by
    rw [List.map_cons, List.map_cons, List.cons.injEq] at h
    rw [firstIJ, firstIJ, h.1, first_key h.2]
theorem cIJ_key {l l' : List FRow} (h : l.map FRow.id = l'.map FRow.id) : cIJ i j gv l = cIJ i j gv l' := by
  cases l with
  | nil =>
    cases l' with
    | nil => rfl
    | cons y l' => cases h
  | cons x l =>
    cases l' with
    | nil => cases h
    | cons y l' =>
      have hf := first_key (i := i) (j := j) h
      rw [List.map_cons, List.map_cons, List.cons.injEq] at h
      simp only [cIJ, h.1, first_key h.2, hf]
theorem phi_key {l l' : List FRow} (h : l.map (fun r => (r.id, r.df)) = l'.map (fun r => (r.id, r.df))) : phi ws q i j gv l = phi ws q i j gv l' := by
  have h2 : l.map FRow.id = l'.map FRow.id := by
    have := congrArg (List.map Prod.fst) h
    rw [List.map_map, List.map_map] at this
    exact this
  unfold phi
  rw [dfF_key h, dfF_key h, cIJ_key h2]
theorem dfF_erase {id : Int} : ∀ {l : List FRow} {k : Nat} {y : FRow}, l[k]? = some y → y.id ≠ id → dfF id (l.eraseIdx k) = dfF id l
  | [], _, _, h, _ => by simp at h
  | x :: l, 0, y, h, hy => by
    simp at h
    subst h
    rw [List.eraseIdx_cons_zero, dfF_cons, if_neg hy]
  | x :: l, k + 1, y, h, hy => by
    rw [List.eraseIdx_cons_succ, dfF_cons, dfF_cons, dfF_erase (by simpa using h) hy]
theorem first_erase : ∀ {l : List FRow} {k : Nat} {y : FRow}, l[k]? = some y → y.id ≠ i → y.id ≠ j → firstIJ i j (l.eraseIdx k) = firstIJ i j l
  | [], _, _, h, _, _ => by simp at h
  | x :: l, 0, y, h, hi, hj => by
    simp at h
    subst h
    rw [List.eraseIdx_cons_zero, firstIJ, if_neg hi, if_neg hj]
  | x :: l, k + 1, y, h, hi, hj => by
    rw [List.eraseIdx_cons_succ, firstIJ, firstIJ, first_erase (by simpa using h) hi hj]
theorem cIJ_erase {l : List FRow} {k : Nat} {y : FRow} (h : l[k]? = some y) (hi : y.id ≠ i) (hj : y.id ≠ j) : cIJ i j (if k = 0 then false else gv) (l.eraseIdx k) = cIJ i j gv l := by
  cases l with
  | nil => simp at h
  | cons x l =>
    cases k with
    | zero =>
      simp at h
      subst h
      rw [List.eraseIdx_cons_zero, if_pos rfl]
      have h1 : cIJ i j false l = if firstIJ i j l = true then 0 else 1 := by
        cases l with
        | nil => rfl
        | cons z l => simp [cIJ]
      rw [h1]
      simp only [cIJ, firstIJ, if_neg hi, if_neg hj]
      cases gv <;> simp
    | succ k =>
      rw [List.eraseIdx_cons_succ, if_neg (by omega)]
      have h' : l[k]? = some y := by simpa using h
      have hf := first_erase (i := i) (j := j) h' hi hj
      simp only [cIJ, firstIJ, hf]
      rfl
theorem phi_erase {l : List FRow} {k : Nat} {y : FRow} (h : l[k]? = some y) (hi : y.id ≠ i) (hj : y.id ≠ j) : phi ws q i j (if k = 0 then false else gv) (l.eraseIdx k) = phi ws q i j gv l := by
  unfold phi
  rw [dfF_erase h hi, dfF_erase h hj, cIJ_erase h hi hj]
/-- A row replaced by one of the same number and weight, with less: what holds still. -/
theorem FOk.set {k : Nat} {r y : FRow} (h : FOk ws q C gv rows) (hr : rows[k]? = some r) (hid : y.id = r.id) (hwt : y.wt = r.wt) (hdf : 0 ≤ y.df ∧ y.df ≤ r.df) (hits : y.its ≠ []) (hcost : ∀ z ∈ y.its, 1 ≤ z.cost ∧ z.cost ≤ C) : FOk ws q C gv (rows.set k y) := by
  have hmem := List.mem_of_getElem? hr
  have hm : ∀ z ∈ rows.set k y, z ∈ rows ∨ z = y := fun z hz => mem_set hz
  refine ⟨?_, fun z hz => ?_, fun z hz => ?_, fun z hz => ?_, fun z hz => ?_, fun z hz => ?_⟩
  · rw [set_map, hid, set_same (by rw [List.getElem?_map, hr]; rfl)]
    exact h.once
  · rcases hm z hz with hz | rfl
    · exact h.wts z hz
    · rw [hid, hwt]
      exact h.wts r hmem
  · rcases hm z hz with hz | rfl
    · exact h.low z hz
    · exact ⟨hdf.1, hits⟩
  · rcases hm z hz with hz | rfl
    · exact h.cost z hz
    · exact hcost
  · cases rows with
    | nil => simp at hr
    | cons x l =>
      cases k with
      | zero =>
        simp at hz
        exact h.tail z hz
      | succ k =>
        have hr' : l[k]? = some r := by simpa using hr
        rw [List.set_cons_succ, List.tail_cons] at hz
        rcases mem_set hz with hz | rfl
        · exact h.tail z hz
        · have := h.tail r (List.mem_of_getElem? hr')
          omega
  · cases rows with
    | nil => simp at hr
    | cons x l =>
      cases k with
      | zero =>
        simp at hr hz
        subst hr hz
        have := h.head x (by simp)
        rw [hid]
        omega
      | succ k =>
        simp at hz
        subst hz
        exact h.head x (by simp)
theorem FOk.erase {k : Nat} {r : FRow} (h : FOk ws q C gv rows) (hr : rows[k]? = some r) : FOk ws q C (if k = 0 then false else gv) (rows.eraseIdx k) := by
  have hm : ∀ z ∈ rows.eraseIdx k, z ∈ rows := fun z hz => List.mem_of_mem_eraseIdx hz
  refine ⟨?_, fun z hz => h.wts z (hm z hz), fun z hz => h.low z (hm z hz), fun z hz => h.cost z (hm z hz), fun z hz => ?_, fun z hz => ?_⟩
  · exact h.once.sublist ((List.eraseIdx_sublist rows k).map FRow.id)
  · cases rows with
    | nil => simp at hr
    | cons x l =>
      cases k with
      | zero =>
        rw [List.eraseIdx_cons_zero] at hz
        exact h.tail z (List.mem_of_mem_tail hz)
      | succ k =>
        rw [List.eraseIdx_cons_succ, List.tail_cons] at hz
        exact h.tail z (List.mem_of_mem_eraseIdx hz)
  · cases rows with
    | nil => simp at hr
    | cons x l =>
      cases k with
      | zero =>
        rw [List.eraseIdx_cons_zero] at hz
        have := h.tail z (List.mem_of_mem_head? hz)
        simp
        exact this
      | succ k =>
        rw [List.eraseIdx_cons_succ] at hz
        simp at hz
        subst hz
        rw [if_neg (show ¬ (k + 1 = 0) by omega)]
        exact h.head x (by simp)
theorem FOk.withR {k : Nat} {r y : FRow} (h : FOk ws q C gv rows) (hr : rows[k]? = some r) (hid : y.id = r.id) (hwt : y.wt = r.wt) (hdf : 0 ≤ y.df ∧ y.df ≤ r.df) (hsub : ∀ z ∈ y.its, z ∈ r.its) : FOk ws q C (withR k y gv rows).1 (withR k y gv rows).2 := by
  unfold Proofs.Ytohkchilogmneaa.withR
  by_cases h0 : y.its = []
  · rw [if_pos h0]
    exact h.erase hr
  · rw [if_neg h0]
    exact h.set hr hid hwt hdf h0 (fun z hz => h.cost r (List.mem_of_getElem? hr) z (hsub z hz))
theorem has_once {k : Nat} {r : FRow} (h : (rows.map FRow.id).Nodup) (hr : rows[k]? = some r) : ¬ hasF r.id (rows.eraseIdx k) := by
  rintro ⟨z, hz, e⟩
  obtain ⟨m, hm⟩ := List.mem_iff_getElem?.1 hz
  rw [List.getElem?_eraseIdx] at hm
  have h2 : (rows.map FRow.id)[k]? = some z.id := by simp [hr, e]
  split at hm
  · have h3 : (rows.map FRow.id)[m]? = some z.id := by simp [hm]
    have := (List.getElem?_inj (List.getElem?_eq_some_iff.1 h2).1 h).1 (h2.trans h3.symm)
    omega
  · have h3 : (rows.map FRow.id)[m + 1]? = some z.id := by simp [hm]
    have := (List.getElem?_inj (List.getElem?_eq_some_iff.1 h2).1 h).1 (h2.trans h3.symm)
    omega
theorem key_set {k : Nat} {r y : FRow} (hr : rows[k]? = some r) (hid : y.id = r.id) (hdf : y.df = r.df) : (rows.set k y).map (fun r => (r.id, r.df)) = rows.map (fun r => (r.id, r.df)) := by
  rw [set_map, hid, hdf, set_same (by rw [List.getElem?_map, hr]; rfl)]
/-- What a Drop leaves of phi. -/
theorem phi_drop {k : Nat} {r y : FRow} (h : FOk ws q C gv rows) (hr : rows[k]? = some r) (hid : y.id = r.id) (hdf : y.df = r.df) (hi : hasF i (withR k y gv rows).2) (hj : hasF j (withR k y gv rows).2) : phi ws q i j (withR k y gv rows).1 (withR k y gv rows).2 = phi ws q i j gv rows := by
  unfold withR at hi hj ⊢
  by_cases h0 : y.its = []
  · rw [if_pos h0] at hi hj ⊢
    exact phi_erase hr (fun e => has_once h.once hr (e ▸ hi)) (fun e => has_once h.once hr (e ▸ hj))
  · rw [if_neg h0] at hi hj ⊢
    exact phi_key (key_set hr hid hdf)
/-- What a Take leaves of phi. -/
theorem phi_take {row : FRow} {rest : List FRow} (hij : i ≠ j) (h : FOk ws q C true (row :: rest)) (hi : hasF i (tookR row rest).2) (hj : hasF j (tookR row rest).2) :
    phi ws q i j (tookR row rest).1 (tookR row rest).2 = phi ws q i j true (row :: rest) - (if row.id = i then headC row.its * ws j else 0) + (if row.id = j then headC row.its * ws i else 0) := by
  unfold tookR withR at hi hj ⊢
  by_cases h0 : row.its.tail = []
  · rw [if_pos h0] at hi hj ⊢
    have h1 : row.id ≠ i := fun e => has_once h.once (k := 0) rfl (e ▸ hi)
    have h2 : row.id ≠ j := fun e => has_once h.once (k := 0) rfl (e ▸ hj)
    rw [phi_erase (k := 0) rfl h1 h2, if_neg h1, if_neg h2]
    omega
  · rw [if_neg h0]
    simp only [List.set_cons_zero]
    unfold phi
    have hc : cIJ i j true ({ row with df := row.df - headC row.its, its := row.its.tail } :: rest) = cIJ i j true (row :: rest) := cIJ_key rfl
    rw [hc, dfF_cons, dfF_cons, dfF_cons, dfF_cons]
    by_cases h1 : row.id = i
    · have h2 : row.id ≠ j := fun e => hij (h1.symm.trans e)
      simp only [if_pos h1, if_neg h2]
      rw [Int.sub_mul]
      omega
    · by_cases h2 : row.id = j
      · simp only [if_neg h1, if_pos h2]
        rw [Int.sub_mul]
        omega
      · simp only [if_neg h1, if_neg h2]
        omega
theorem FOk.more {C' : Int} (h : FOk ws q C gv rows) (hC : C ≤ C') : FOk ws q C' gv rows :=
  ⟨h.once, h.wts, h.low, fun r hr y hy => ⟨(h.cost r hr y hy).1, Int.le_trans (h.cost r hr y hy).2 hC⟩, fun r hr => by have := h.tail r hr; omega, fun r hr => by have := h.head r hr; omega⟩
end
end Go.Proofs.Ytohkchilogmneaa
