/-
  Two flows treated alike: what one call leaves of the looks.
-/
import Derived.Test.YtohkchilogmneaaFairP3
import Derived.Test.YtohkchilogmneaaFPicks
namespace Go.Proofs.Ytohkchilogmneaa

/-- What one call leaves. -/
structure Mid (ws : Int → Int) (q : Int) (t d : Int → Int) (gv : Bool) (rows : List FRow) (C : Int) (t' d' : Int → Int) (gv' : Bool) (rows' : List FRow) (C' : Int) : Prop where
  grow : C ≤ C'
  top : C' ≤ 64
  ok : FOk ws q C' gv' rows'
  up : ∀ i, t i ≤ t' i ∧ t' i ≤ t i + 64
  same : ∀ i j, i ≠ j → hasF i rows → hasF j rows → hasF i rows' → hasF j rows' → d i = d' i → d j = d' j → t' i * ws j - t' j * ws i + phi ws q i j gv' rows' = t i * ws j - t j * ws i + phi ws q i j gv rows
section
variable {ws : Int → Int} {q : Int} {t d : Int → Int} {gv : Bool} {rows : List FRow} {C : Int}
theorem Mid.none (h : FOk ws q C gv rows) (hC : C ≤ 64) : Mid ws q t d gv rows C t d gv rows C :=
  ⟨Int.le_refl _, hC, h, fun i => ⟨Int.le_refl _, by omega⟩, fun _ _ _ _ _ _ _ _ _ => rfl⟩
theorem Mid.push (h : FOk ws q C gv rows) (hC1 : 1 ≤ C) (hC : C ≤ 64) (hq : ∀ i, 0 ≤ q * ws i) {id : Int} {x : It} (hid : 0 ≤ id ∧ id ≤ 3) :
    Mid ws q t d gv rows C t d gv (stepPush id (ws id) x rows) (if pushE id (ws id) x rows = 0 then (if C < x.cost then x.cost else C) else C) := by
  by_cases h0 : pushE id (ws id) x rows = 0
  · have hx : x.cost ≤ 64 := by
      obtain ⟨_, ⟨_, _, h3⟩ | ⟨_, _, _, _, _, _, h3⟩⟩ := pushE_zero h0
      all_goals
        unfold itE at h3
        split at h3
        · cases h3
        · omega
    refine ⟨?_, ?_, ?_, fun i => ⟨Int.le_refl _, by omega⟩, fun i j _ hi hj _ _ _ _ => by rw [phi_push hi hj]⟩
    · rw [if_pos h0]
      split <;> omega
    · rw [if_pos h0]
      split <;> omega
    · unfold stepPush
      rw [if_pos h0, if_pos h0]
      refine h.push hq hid h0 ?_ ?_ ?_ <;> split <;> omega
  · have e : stepPush id (ws id) x rows = rows := by unfold stepPush; rw [if_neg h0]
    rw [e, if_neg h0]
    exact Mid.none h hC
theorem Mid.pick (h : FOk ws q C gv rows) (hC : C ≤ 64) (hq : ∀ i, 0 ≤ q * ws i) {rows' : List FRow} (hp : PicksR q gv rows rows') : Mid ws q t d gv rows C t d true rows' C := by
  obtain ⟨h1, h2, h3⟩ := picks_fair hp (fun y _ => hq y.id) h
  exact ⟨Int.le_refl _, hC, h1, fun i => ⟨Int.le_refl _, by omega⟩, fun i j hij hi hj _ _ _ _ => by rw [h2 i j hij hi hj]⟩
theorem Mid.take (h : FOk ws q C gv rows) (hC : C ≤ 64) (hq : ∀ i, 0 ≤ q * ws i) {row : FRow} {rest : List FRow} (hp : PicksR q gv rows (row :: rest)) :
    Mid ws q t d gv rows C (upd t row.id (t row.id + headC row.its)) d (tookR row rest).1 (tookR row rest).2 C ∧ In4 row.id := by
  obtain ⟨h1, h2, h3⟩ := picks_fair hp (fun y _ => hq y.id) h
  obtain ⟨x, l, he, hle⟩ := hp.le
  cases he
  have hlow := h1.low row List.mem_cons_self
  obtain ⟨y, l, hl⟩ : ∃ y l, row.its = y :: l := by
    cases hl : row.its with
    | nil => exact absurd hl hlow.2
    | cons y l => exact ⟨y, l, rfl⟩
  have hc := h1.cost row List.mem_cons_self y (by rw [hl]; exact List.mem_cons_self)
  have hh : headC row.its = y.cost := by rw [hl]; rfl
  refine ⟨⟨Int.le_refl _, hC, ?_, fun i => ?_, fun i j hij hi hj hi' hj' _ _ => ?_⟩, (h1.wts row List.mem_cons_self).2⟩
  · exact h1.withR (k := 0) (r := row) rfl rfl rfl ⟨by show 0 ≤ row.df - headC row.its; omega, by show row.df - headC row.its ≤ row.df; omega⟩ (fun z hz => List.mem_of_mem_tail hz)
  · by_cases e : i = row.id
    · rw [e, upd_same, hh]
      omega
    · rw [upd_other _ e]
      omega
  · rw [phi_take hij h1 hi' hj', h2 i j hij hi hj]
    by_cases e1 : row.id = i
    · have e2 : row.id ≠ j := fun e => hij (e1.symm.trans e)
      rw [if_pos e1, if_neg e2, ← e1, upd_same, upd_other _ (Ne.symm e2), e1, Int.add_mul]
      omega
    · by_cases e2 : row.id = j
      · rw [if_neg e1, if_pos e2, ← e2, upd_same, upd_other _ (Ne.symm e1), e2, Int.add_mul]
        omega
      · rw [if_neg e1, if_neg e2, upd_other _ (Ne.symm e1), upd_other _ (Ne.symm e2)]
        omega
theorem Mid.drop (h : FOk ws q C gv rows) (hC : C ≤ 64) {k : Nat} {r : FRow} (hr : rows[k]? = some r) (id : Int) {d' : Int → Int} :
    Mid ws q t d gv rows C t d' (withR k { r with its := dropIt r.its id } gv rows).1 (withR k { r with its := dropIt r.its id } gv rows).2 C := by
  refine ⟨Int.le_refl _, hC, h.withR hr rfl rfl ⟨(h.low r (List.mem_of_getElem? hr)).1, Int.le_refl _⟩ (fun z hz => (List.mem_filter.1 hz).1), fun i => ⟨Int.le_refl _, by omega⟩, fun i j hij _ _ hi hj _ _ => ?_⟩
  rw [phi_drop (y := { r with its := dropIt r.its id }) h hr rfl rfl hi hj]
theorem LooksOk.more {C' : Int} {gs : List Gst} (h : LooksOk ws q C gs) (hC : C ≤ C') : LooksOk ws q C' gs :=
  ⟨fun g hg => ⟨(h.ok g hg).1.more hC, (h.ok g hg).2⟩, h.link, h.top⟩
theorem LooksOk.snoc {C' : Int} {gs : List Gst} {t' d' : Int → Int} {b b' : Int → Bool} {gv' : Bool} {rows' : List FRow} (h : LooksOk ws q C gs) (hl : gs[gs.length - 1]? = some (⟨t, d, b⟩, gv, rows)) (hm : Mid ws q t d gv rows C t' d' gv' rows' C') (hb : ∀ i, In4 i → (b' i = true ↔ hasF i rows')) :
    LooksOk ws q C' (gs ++ [(⟨t', d', b'⟩, gv', rows')]) := by
  have hmem := List.mem_of_getElem? hl
  have h' := h.more hm.grow
  refine ⟨fun g hg => ?_, fun m g g' hg hg' => ?_, fun g hg i => ?_⟩
  · rcases List.mem_append.1 hg with hg | hg
    · exact h'.ok g hg
    · rw [List.mem_singleton] at hg
      subst hg
      exact ⟨hm.ok, hb⟩
  · have hm1 : m + 1 < (gs ++ [((⟨t', d', b'⟩ : Lk), gv', rows')]).length := (List.getElem?_eq_some_iff.1 hg').1
    rw [List.length_append, List.length_singleton] at hm1
    rw [List.getElem?_append_left (by omega)] at hg
    rcases Nat.lt_or_ge (m + 1) gs.length with h1 | h1
    · rw [List.getElem?_append_left h1] at hg'
      exact h.link m g g' hg hg'
    · have e : m + 1 = gs.length := by omega
      rw [List.getElem?_append_right h1, e, Nat.sub_self] at hg'
      simp at hg'
      subst hg'
      rw [show m = gs.length - 1 by omega, hl] at hg
      cases hg
      refine ⟨fun i => (hm.up i).1, fun i j hij hi hj b1 b2 b3 b4 e1 e2 => ?_⟩
      have hk := (h.ok _ hmem).2
      exact hm.same i j hij ((hk i hi).1 b1) ((hk j hj).1 b2) ((hb i hi).1 b3) ((hb j hj).1 b4) e1 e2
  · rw [List.length_append, List.length_singleton]
    rcases List.mem_append.1 hg with hg | hg
    · have := h.top g hg i
      omega
    · rw [List.mem_singleton] at hg
      subst hg
      have h1 := h.top _ hmem i
      have h2 := hm.up i
      show 0 ≤ t' i ∧ t' i ≤ _
      simp only at h1
      omega
theorem fok_nil : FOk ws q 1 false [] := ⟨by simp, (fun r h => by cases h), (fun r h => by cases h), (fun r h => by cases h), (fun r h => by cases h), (fun r h => by cases h)⟩
theorem looks_one : LooksOk ws q 1 [(⟨fun _ => 0, fun _ => 0, fun _ => false⟩, false, [])] := by
  refine ⟨fun g hg => ?_, fun m g g' _ hg' => ?_, fun g hg i => ?_⟩
  · rw [List.mem_singleton] at hg
    subst hg
    refine ⟨fok_nil, fun i _ => ?_⟩
    simp [hasF]
  · simp at hg'
  · rw [List.mem_singleton] at hg
    subst hg
    simp
end
end Go.Proofs.Ytohkchilogmneaa
