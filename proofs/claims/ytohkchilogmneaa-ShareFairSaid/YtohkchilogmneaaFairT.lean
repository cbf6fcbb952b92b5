/-
  Two tenants treated alike, and two invocations of one: the plain law.
-/
import Derived.Test.YtohkchilogmneaaFairP4
import Derived.Test.YtohkchilogmneaaLaw16All
namespace Go.Proofs.Ytohkchilogmneaa

/-- A tenant's row as one of a ring: all its items. -/
def fl (x : TRow) : FRow := ⟨x.id, x.wt, x.df, x.rows.flatMap FRow.its⟩
/-- The inner ring of a tenant. -/
def inT (u : Int) (rows : List TRow) : Bool × List FRow := match rows.find? (fun r => r.id == u) with
  | some x => (x.gv, x.rows)
  | none => (false, [])
theorem inT_none {u : Int} {rows : List TRow} (h : ∀ x ∈ rows, x.id ≠ u) : inT u rows = (false, []) := by
  unfold inT
  rw [List.find?_eq_none.2 (fun x hx => by simpa using h x hx)]
theorem inT_cons (u : Int) (x : TRow) (l : List TRow) : inT u (x :: l) = if x.id = u then (x.gv, x.rows) else inT u l := by
  unfold inT
  by_cases h : x.id = u
  · rw [if_pos h, List.find?_cons_of_pos (by simpa using h)]
  · rw [if_neg h, List.find?_cons_of_neg (by simpa using h)]
theorem inT_snoc {u : Int} {x : TRow} : ∀ {l : List TRow}, (∀ r ∈ l, r.id ≠ x.id) → inT u (l ++ [x]) = if x.id = u then (x.gv, x.rows) else inT u l
  | [], _ => by rw [List.nil_append, inT_cons]
  | y :: l, h => by
    rw [List.cons_append, inT_cons, inT_snoc (l := l) (fun r hr => h r (List.mem_cons_of_mem _ hr)), inT_cons]
    have hy := h y List.mem_cons_self
    by_cases h1 : y.id = u
    · rw [if_pos h1, if_neg (fun e => hy (h1.trans e.symm)), if_pos h1]
    · rw [if_neg h1, if_neg h1]
theorem inT_set {u : Int} : ∀ {rows : List TRow} {k : Nat} {r y : TRow}, (rows.map TRow.id).Nodup → rows[k]? = some r → y.id = r.id → inT u (rows.set k y) = if r.id = u then (y.gv, y.rows) else inT u rows
  | [], _, _, _, _, h, _ => by simp at h
  | x :: l, 0, r, y, _, h, hy => by
    simp at h
    subst h
    rw [List.set_cons_zero, inT_cons, inT_cons, hy]
    by_cases e : x.id = u
    · rw [if_pos e, if_pos e]
    · rw [if_neg e, if_neg e, if_neg e]
  | x :: l, k + 1, r, y, ho, h, hy => by
    have h' : l[k]? = some r := by simpa using h
    rw [List.map_cons, List.nodup_cons] at ho
    rw [List.set_cons_succ, inT_cons, inT_cons, inT_set ho.2 h' hy]
    by_cases e : x.id = u
    · have hne : r.id ≠ u := fun e' => ho.1 (by rw [e, ← e']; exact List.mem_map_of_mem (List.mem_of_getElem? h'))
      rw [if_pos e, if_pos e, if_neg hne]
    · rw [if_neg e, if_neg e]
theorem inT_erase {u : Int} : ∀ {rows : List TRow} {k : Nat} {r : TRow}, (rows.map TRow.id).Nodup → rows[k]? = some r → inT u (rows.eraseIdx k) = if r.id = u then (false, []) else inT u rows
  | [], _, _, _, h => by simp at h
  | x :: l, 0, r, ho, h => by
    simp at h
    subst h
    rw [List.map_cons, List.nodup_cons] at ho
    rw [List.eraseIdx_cons_zero, inT_cons]
    by_cases e : x.id = u
    · rw [if_pos e]
      exact inT_none (fun y hy e' => ho.1 (by rw [e, ← e']; exact List.mem_map_of_mem hy))
    · rw [if_neg e, if_neg e]
  | x :: l, k + 1, r, ho, h => by
    have h' : l[k]? = some r := by simpa using h
    rw [List.map_cons, List.nodup_cons] at ho
    rw [List.eraseIdx_cons_succ, inT_cons, inT_cons, inT_erase ho.2 h']
    by_cases e : x.id = u
    · have hne : r.id ≠ u := fun e' => ho.1 (by rw [e, ← e']; exact List.mem_map_of_mem (List.mem_of_getElem? h'))
      rw [if_pos e, if_pos e, if_neg hne]
    · rw [if_neg e, if_neg e]
theorem fl_ids (rows : List TRow) : (rows.map fl).map FRow.id = rows.map TRow.id := by rw [List.map_map]; rfl
theorem flat_ne {rows : List FRow} (h : rows ≠ []) (hf : ∀ r ∈ rows, r.its ≠ []) : rows.flatMap FRow.its ≠ [] := by
  cases rows with
  | nil => exact absurd rfl h
  | cons r l =>
    rw [List.flatMap_cons]
    intro e
    exact hf r List.mem_cons_self (List.append_eq_nil_iff.1 e).1
/-- What holds of the rows of a share of known weights: ws of the tenants, wi of their invocations. -/
structure TOk (ws : Int → Int) (wi : Int → Int → Int) (q C : Int) (gv : Bool) (rows : List TRow) : Prop where
  out : FOk ws q C gv (rows.map fl)
  inn : ∀ x ∈ rows, FOk (wi x.id) q C x.gv x.rows ∧ x.rows ≠ []
  ids : ∀ x ∈ rows, (0 ≤ x.id ∧ x.id ≤ 2) ∧ ∀ r ∈ x.rows, 0 ≤ r.id ∧ r.id ≤ 2
theorem TOk.full {ws : Int → Int} {wi : Int → Int → Int} {q C : Int} {gv : Bool} {rows : List TRow} (h : TOk ws wi q C gv rows) : ∀ x ∈ rows, ∀ r ∈ x.rows, r.its ≠ [] := fun x hx r hr => ((h.inn x hx).1.low r hr).2
theorem TOk.once {ws : Int → Int} {wi : Int → Int → Int} {q C : Int} {gv : Bool} {rows : List TRow} (h : TOk ws wi q C gv rows) : (rows.map TRow.id).Nodup := by rw [← fl_ids]; exact h.out.once
theorem fok_nil' {ws : Int → Int} {q C : Int} : FOk ws q C false [] := ⟨by simp, (fun r h => by cases h), (fun r h => by cases h), (fun r h => by cases h), (fun r h => by cases h), (fun r h => by cases h)⟩
theorem TOk.inner {ws : Int → Int} {wi : Int → Int → Int} {q C : Int} {gv : Bool} {rows : List TRow} (h : TOk ws wi q C gv rows) (u : Int) : FOk (wi u) q C (inT u rows).1 (inT u rows).2 := by
  by_cases hn : ∃ x ∈ rows, x.id = u
  · obtain ⟨x, hx, rfl⟩ := hn
    have : inT x.id rows = (x.gv, x.rows) := by
      have ho := h.once
      clear h
      induction rows with
      | nil => cases hx
      | cons y l ih =>
        rw [inT_cons]
        rw [List.map_cons, List.nodup_cons] at ho
        rcases List.mem_cons.1 hx with rfl | hx
        · rw [if_pos rfl]
        · rw [if_neg (fun e => ho.1 (by rw [e]; exact List.mem_map_of_mem hx)), ih hx ho.2]
    rw [this]
    exact (h.inn x hx).1
  · rw [inT_none (fun x hx e => hn ⟨x, hx, e⟩)]
    exact fok_nil'
theorem TOk.more {ws : Int → Int} {wi : Int → Int → Int} {q C C' : Int} {gv : Bool} {rows : List TRow} (h : TOk ws wi q C gv rows) (hC : C ≤ C') : TOk ws wi q C' gv rows :=
  ⟨h.out.more hC, fun x hx => ⟨(h.inn x hx).1.more hC, (h.inn x hx).2⟩, h.ids⟩
section
variable {ws : Int → Int} {wi : Int → Int → Int} {q C i j : Int} {gv : Bool} {x : TRow} {r rows : List TRow}
theorem fl_head {x : TRow} {y : FRow} {ys : List FRow} {z : It} {zs : List It} (h1 : x.rows = y :: ys) (h2 : y.its = z :: zs) : headC (fl x).its = z.cost := by
  show headC (x.rows.flatMap FRow.its) = _
  rw [h1, List.flatMap_cons, h2]
  rfl
theorem headIt_fl {x : TRow} (hne : x.rows ≠ []) (hf : ∀ r ∈ x.rows, r.its ≠ []) : headC (fl x).its = (headIt x.rows).cost := by
  cases h1 : x.rows with
  | nil => exact absurd h1 hne
  | cons y ys =>
    cases h2 : y.its with
    | nil => exact absurd h2 (hf y (by rw [h1]; exact List.mem_cons_self))
    | cons z zs =>
      rw [fl_head h1 h2]
      show z.cost = (y.its.headD ⟨0, 0⟩).cost
      rw [h2]
      rfl
theorem fl_charge (q : Int) (gv : Bool) (x : TRow) : fl (chargeT q gv x) = chargeR q gv (fl x) := by cases gv <;> rfl
theorem fl_pickedT (q : Int) (gv : Bool) (x : TRow) (l2 : List FRow) : fl (pickedT q gv x l2) = { chargeR q gv (fl x) with its := l2.flatMap FRow.its } := by
  cases gv <;> rfl
theorem picks_ids {q : Int} {gv : Bool} {l l2 : List FRow} (h : PicksR q gv l l2) {P : Int → Prop} (hp : ∀ r ∈ l, P r.id) : ∀ r ∈ l2, P r.id := by
  induction h with
  | @grant gv x r h =>
    intro y hy
    rcases List.mem_cons.1 hy with rfl | hy
    · rw [(chargeR_its q gv x).2.1]
      exact hp x List.mem_cons_self
    · exact hp y (List.mem_cons_of_mem _ hy)
  | @rotate gv x r l2 h hr ih =>
    refine ih (fun y hy => ?_)
    rcases List.mem_append.1 hy with hy | hy
    · exact hp y (List.mem_cons_of_mem _ hy)
    · rw [List.mem_singleton] at hy
      subst hy
      rw [(chargeR_its q gv x).2.1]
      exact hp x List.mem_cons_self
/-- A tenant's row behind its charge and its inner pick. -/
theorem TOk.pick1 {l2 : List FRow} (h : TOk ws wi q C gv (x :: r)) (hq : 0 ≤ q * ws x.id) (hqi : ∀ u i, 0 ≤ q * wi u i) (hp : PicksR q x.gv x.rows l2) : TOk ws wi q C true (pickedT q gv x l2 :: r) := by
  have hx := h.inn x List.mem_cons_self
  obtain ⟨k1, k2, k3⟩ := picks_fair hp (fun y _ => hqi x.id y.id) hx.1
  have hid : (pickedT q gv x l2).id = x.id := by cases gv <;> rfl
  have ho := h.out
  rw [List.map_cons] at ho
  have hc := ho.charge (x := fl x) hq
  have hne := flat_ne (picks_ne hp) (fun r hr => (k1.low r hr).2)
  have hset := hc.set (k := 0) (r := chargeR q gv (fl x)) (y := { chargeR q gv (fl x) with its := l2.flatMap FRow.its }) rfl rfl rfl ⟨(hc.low _ List.mem_cons_self).1, Int.le_refl _⟩ hne (fun z hz => by
    obtain ⟨r', hr', hz'⟩ := List.mem_flatMap.1 hz
    exact k1.cost r' hr' z hz')
  refine ⟨?_, fun y hy => ?_, fun y hy => ?_⟩
  · rw [List.map_cons, fl_pickedT]
    exact hset
  · rcases List.mem_cons.1 hy with rfl | hy
    · rw [hid]
      exact ⟨k1, picks_ne hp⟩
    · exact h.inn y (List.mem_cons_of_mem _ hy)
  · rcases List.mem_cons.1 hy with rfl | hy
    · rw [hid]
      have h1 := h.ids x List.mem_cons_self
      exact ⟨h1.1, picks_ids (P := fun i => 0 ≤ i ∧ i ≤ 2) hp h1.2⟩
    · exact h.ids y (List.mem_cons_of_mem _ hy)
theorem TOk.rotate (h : TOk ws wi q C true (x :: r)) (hc : ¬ (headIt x.rows).cost ≤ x.df) : TOk ws wi q C false (r ++ [x]) := by
  have ho := h.out
  rw [List.map_cons] at ho
  have hx := h.inn x List.mem_cons_self
  have hrot := ho.rotate (x := fl x) (by rw [headIt_fl hx.2 (fun r hr => (hx.1.low r hr).2)]; exact hc)
  have hm : ∀ y ∈ r ++ [x], y ∈ x :: r := fun y hy => by
    rcases List.mem_append.1 hy with hy | hy
    · exact List.mem_cons_of_mem _ hy
    · rw [List.mem_singleton] at hy
      subst hy
      exact List.mem_cons_self
  refine ⟨?_, fun y hy => h.inn y (hm y hy), fun y hy => h.ids y (hm y hy)⟩
  rw [List.map_append]
  exact hrot
/-- An inner ring behind a pick: as it was, or picked. -/
def Picked (q : Int) (s s' : Bool × List FRow) : Prop := s' = s ∨ (s'.1 = true ∧ PicksR q s.1 s.2 s'.2)
theorem Picked.trans {s s' s'' : Bool × List FRow} (h : Picked q s s') (h' : Picked q s' s'') : Picked q s s'' := by
  rcases h with rfl | ⟨h1, h2⟩
  · exact h'
  · rcases h' with rfl | ⟨h3, h4⟩
    · exact .inr ⟨h1, h2⟩
    · right
      refine ⟨h3, ?_⟩
      obtain ⟨y, ys, e, hle⟩ := h2.le
      rw [h1, e] at h4
      have := h4.once (picks_same hle)
      rw [this, ← e]
      exact h2
theorem inT_pick {u : Int} {l2 : List FRow} (hp : PicksR q x.gv x.rows l2) : Picked q (inT u (x :: r)) (inT u (pickedT q gv x l2 :: r)) := by
  have hid : (pickedT q gv x l2).id = x.id := by cases gv <;> rfl
  rw [inT_cons, inT_cons, hid]
  by_cases e : x.id = u
  · rw [if_pos e, if_pos e]
    exact .inr ⟨rfl, hp⟩
  · rw [if_neg e, if_neg e]
    exact .inl rfl
theorem inT_rotate {u : Int} (hn : ∀ y ∈ r, y.id ≠ x.id) : inT u (r ++ [x]) = inT u (x :: r) := by rw [inT_snoc hn, inT_cons]
theorem hasF_fl {id : Int} {rows : List TRow} : hasF id (rows.map fl) ↔ ∃ x ∈ rows, x.id = id := by
  constructor
  · rintro ⟨r, hr, e⟩
    obtain ⟨x, hx, rfl⟩ := List.mem_map.1 hr
    exact ⟨x, hx, e⟩
  · rintro ⟨x, hx, e⟩
    exact ⟨fl x, List.mem_map_of_mem hx, e⟩
theorem picksT_fair {l l2 : List TRow} (h : PicksT q gv l l2) (hq : ∀ u, 0 ≤ q * ws u) (hqi : ∀ u i, 0 ≤ q * wi u i) (hF : TOk ws wi q C gv l) :
    TOk ws wi q C true l2 ∧ (∀ i j, i ≠ j → hasF i (l.map fl) → hasF j (l.map fl) → phi ws q i j true (l2.map fl) = phi ws q i j gv (l.map fl)) ∧ (∀ id, hasF id (l2.map fl) ↔ hasF id (l.map fl)) ∧ ∀ u, Picked q (inT u l) (inT u l2) := by
  induction h with
  | @grant gv x r l2 hp h =>
    have h1 := hF.pick1 (hq x.id) hqi hp
    have hw := hF.out.wts (fl x) List.mem_cons_self
    refine ⟨h1, fun i j hij _ _ => ?_, fun id => ?_, fun u => inT_pick hp⟩
    · show phi ws q i j true (fl (pickedT q gv x l2) :: r.map fl) = _
      rw [fl_pickedT, List.map_cons, ← phi_charge (x := fl x) hij hw.1]
      exact phi_key rfl
    · show hasF id (fl (pickedT q gv x l2) :: r.map fl) ↔ _
      rw [fl_pickedT, List.map_cons, hasF_cons, hasF_cons]
      have : (chargeR q gv (fl x)).id = (fl x).id := (chargeR_its q gv (fl x)).2.1
      show (chargeR q gv (fl x)).id = id ∨ _ ↔ _
      rw [this]
  | @rotate gv x r l3 l2 hp h hr ih =>
    have h1 := hF.pick1 (hq x.id) hqi hp
    have hw := hF.out.wts (fl x) List.mem_cons_self
    have h2 := h1.rotate (x := pickedT q gv x l2) h
    have hid : (pickedT q gv x l2).id = x.id := by cases gv <;> rfl
    obtain ⟨k1, k2, k3, k4⟩ := ih h2
    have hon := h1.once
    rw [List.map_cons, List.nodup_cons] at hon
    have hne : ∀ y ∈ r, y.id ≠ (pickedT q gv x l2).id := fun y hy e => hon.1 (by rw [← e]; exact List.mem_map_of_mem hy)
    have hmem : ∀ id, hasF id ((r ++ [pickedT q gv x l2]).map fl) ↔ hasF id ((x :: r).map fl) := fun id => by
      rw [hasF_fl, hasF_fl]
      simp only [List.mem_append, List.mem_cons, List.not_mem_nil, or_false]
      constructor
      · rintro ⟨z, hz | rfl, e⟩
        · exact ⟨z, .inr hz, e⟩
        · exact ⟨x, .inl rfl, by rw [← hid]; exact e⟩
      · rintro ⟨z, rfl | hz, e⟩
        · exact ⟨_, .inr rfl, by rw [hid]; exact e⟩
        · exact ⟨z, .inl hz, e⟩
    refine ⟨k1, fun i j hij hi hj => ?_, fun id => (k3 id).trans (hmem id), fun u => ?_⟩
    · have hi' : hasF i (fl (pickedT q gv x l2) :: r.map fl) := by
        have := (hmem i).2 hi
        rw [hasF_fl] at this
        rw [← List.map_cons, hasF_fl]
        obtain ⟨z, hz, e⟩ := this
        refine ⟨z, ?_, e⟩
        rcases List.mem_append.1 hz with hz | hz
        · exact List.mem_cons_of_mem _ hz
        · rw [List.mem_singleton] at hz
          rw [hz]
          exact List.mem_cons_self
      have hj' : hasF j (fl (pickedT q gv x l2) :: r.map fl) := by
        have := (hmem j).2 hj
        rw [hasF_fl] at this
        rw [← List.map_cons, hasF_fl]
        obtain ⟨z, hz, e⟩ := this
        refine ⟨z, ?_, e⟩
        rcases List.mem_append.1 hz with hz | hz
        · exact List.mem_cons_of_mem _ hz
        · rw [List.mem_singleton] at hz
          rw [hz]
          exact List.mem_cons_self
      rw [k2 i j hij ((hmem i).2 hi) ((hmem j).2 hj)]
      show phi ws q i j false ((r ++ [pickedT q gv x l2]).map fl) = _
      rw [List.map_append, List.map_cons, List.map_nil, phi_rotate (x := fl (pickedT q gv x l2)) hij (fun y hy => by
        obtain ⟨z, hz, rfl⟩ := List.mem_map.1 hy
        exact hne z hz) hi' hj', fl_pickedT, List.map_cons, ← phi_charge (x := fl x) hij hw.1]
      exact phi_key rfl
    · have h5 := k4 u
      rw [show r ++ [{ chargeT q gv x with gv := true, rows := l2 }] = r ++ [pickedT q gv x l2] from rfl, inT_rotate hne] at h5
      exact (inT_pick hp).trans h5
end
end Go.Proofs.Ytohkchilogmneaa
