/-
  Two tenants treated alike: what each call leaves.
-/
import Derived.Test.YtohkchilogmneaaFairT
namespace Go.Proofs.Ytohkchilogmneaa

section
variable {ws : Int → Int} {q C C' i j : Int} {gv : Bool} {t d : Int → Int} {rows : List FRow}
theorem Mid.same' (h : FOk ws q C gv rows) (hC : C ≤ C') (h64 : C' ≤ 64) : Mid ws q t d gv rows C t d gv rows C' :=
  ⟨hC, h64, h.more hC, fun i => ⟨Int.le_refl _, by omega⟩, fun _ _ _ _ _ _ _ _ _ => rfl⟩
theorem Mid.pickd (h : FOk ws q C gv rows) (hC : C ≤ 64) (hq : ∀ i, 0 ≤ q * ws i) {s' : Bool × List FRow} (hp : Picked q (gv, rows) s') : Mid ws q t d gv rows C t d s'.1 s'.2 C := by
  rcases hp with rfl | ⟨h1, h2⟩
  · exact Mid.none h hC
  · have := Mid.pick (t := t) (d := d) h hC hq h2
    rw [h1]
    exact this
/-- Where nothing waits the numbers may be what they like. -/
theorem Mid.alt {gv' : Bool} {rows' : List FRow} {t' d' t2 d2 : Int → Int} {k : Int} (h : Mid ws q t d gv rows C t' d' gv' rows' C') (hk : ¬ hasF k rows) (ht : ∀ i, i ≠ k → t2 i = t' i) (hd : ∀ i, i ≠ k → d2 i = d' i) (hu : t k ≤ t2 k ∧ t2 k ≤ t k + 64) : Mid ws q t d gv rows C t2 d2 gv' rows' C' :=
  ⟨h.grow, h.top, h.ok, fun i => by
    by_cases e : i = k
    · rw [e]
      exact hu
    · rw [ht i e]
      exact h.up i, fun i j hij hi hj hi' hj' e1 e2 => by
    have ni : i ≠ k := fun e => hk (e ▸ hi)
    have nj : j ≠ k := fun e => hk (e ▸ hj)
    rw [ht i ni, ht j nj]
    rw [hd i ni] at e1
    rw [hd j nj] at e2
    exact h.same i j hij hi hj hi' hj' e1 e2⟩
theorem FOk.snoc {z : FRow} (h : FOk ws q C gv rows) (hnew : ∀ r ∈ rows, r.id ≠ z.id) (hw : z.wt = ws z.id ∧ 0 ≤ z.id ∧ z.id ≤ 3) (hd : z.df = 0) (hne : z.its ≠ []) (hc : ∀ y ∈ z.its, 1 ≤ y.cost ∧ y.cost ≤ C) (hC1 : 1 ≤ C) (hq : ∀ i, 0 ≤ q * ws i) : FOk ws q C gv (rows ++ [z]) := by
  refine ⟨?_, fun y hy => ?_, fun y hy => ?_, fun y hy => ?_, fun y hy => ?_, fun y hy => ?_⟩
  · rw [List.map_append, List.nodup_append]
    refine ⟨h.once, by simp, fun a ha b hb => ?_⟩
    obtain ⟨r, hr, rfl⟩ := List.mem_map.1 ha
    simp at hb
    subst hb
    exact hnew r hr
  · rcases List.mem_append.1 hy with hy | hy
    · exact h.wts y hy
    · rw [List.mem_singleton] at hy
      subst hy
      exact hw
  · rcases List.mem_append.1 hy with hy | hy
    · exact h.low y hy
    · rw [List.mem_singleton] at hy
      subst hy
      exact ⟨by omega, hne⟩
  · rcases List.mem_append.1 hy with hy | hy
    · exact h.cost y hy
    · rw [List.mem_singleton] at hy
      subst hy
      exact hc
  · cases rows with
    | nil => simp at hy
    | cons a l =>
      rw [List.cons_append, List.tail_cons] at hy
      rcases List.mem_append.1 hy with hy | hy
      · exact h.tail y hy
      · rw [List.mem_singleton] at hy
        subst hy
        omega
  · cases rows with
    | nil =>
      simp at hy
      subst hy
      have := hq z.id
      rw [hd]
      split <;> omega
    | cons a l =>
      rw [List.cons_append] at hy
      simp at hy
      subst hy
      exact h.head a (by simp)
theorem phi_snoc {z : FRow} (hnew : ∀ r ∈ rows, r.id ≠ z.id) (hi : hasF i rows) (hj : hasF j rows) : phi ws q i j gv (rows ++ [z]) = phi ws q i j gv rows := by
  have ni : z.id ≠ i := by
    obtain ⟨r, hr, e⟩ := hi
    exact fun e' => hnew r hr (e.trans e'.symm)
  have nj : z.id ≠ j := by
    obtain ⟨r, hr, e⟩ := hj
    exact fun e' => hnew r hr (e.trans e'.symm)
  unfold phi
  rw [dfF_snoc hnew, dfF_snoc hnew, if_neg ni, if_neg nj]
  have hc : cIJ i j gv (rows ++ [z]) = cIJ i j gv rows := by
    cases rows with
    | nil =>
      obtain ⟨r, hr, _⟩ := hi
      cases hr
    | cons y l =>
      have hf : firstIJ i j (y :: l ++ [z]) = firstIJ i j (y :: l) := by rw [first_snoc, if_pos (.inl hi)]
      have hl : y.id ≠ i → y.id ≠ j → firstIJ i j (l ++ [z]) = firstIJ i j l := fun h3 h4 => by
        rw [first_snoc, if_pos (.inl ((hasF_cons.1 hi).resolve_left h3))]
      rw [List.cons_append] at hf ⊢
      simp only [cIJ, hf]
      by_cases h3 : y.id = i
      · simp only [if_pos h3]
      · by_cases h4 : y.id = j
        · simp only [if_neg h3, if_pos h4]
        · simp only [if_neg h3, if_neg h4, hl h3 h4]
  rw [hc]
theorem phi_took {row y : FRow} {rest : List FRow} {c : Int} (hij : i ≠ j) (h : FOk ws q C true (row :: rest)) (hid : y.id = row.id) (hdf : y.df = row.df - c) (hi : hasF i (withR 0 y true (row :: rest)).2) (hj : hasF j (withR 0 y true (row :: rest)).2) :
    phi ws q i j (withR 0 y true (row :: rest)).1 (withR 0 y true (row :: rest)).2 = phi ws q i j true (row :: rest) - (if row.id = i then c * ws j else 0) + (if row.id = j then c * ws i else 0) := by
  unfold withR at hi hj ⊢
  by_cases h0 : y.its = []
  · rw [if_pos h0] at hi hj ⊢
    have h1 : row.id ≠ i := fun e => has_once h.once (k := 0) rfl (e ▸ hi)
    have h2 : row.id ≠ j := fun e => has_once h.once (k := 0) rfl (e ▸ hj)
    rw [phi_erase (k := 0) rfl h1 h2, if_neg h1, if_neg h2]
    omega
  · rw [if_neg h0]
    simp only [List.set_cons_zero]
    unfold phi
    have hc : cIJ i j true (y :: rest) = cIJ i j true (row :: rest) := cIJ_key (by rw [List.map_cons, List.map_cons, hid])
    rw [hc, dfF_cons, dfF_cons, dfF_cons, dfF_cons, hid, hdf]
    by_cases h1 : row.id = i
    · have h2 : row.id ≠ j := fun e => hij (h1.symm.trans e)
      simp only [if_pos h1, if_neg h2]
      rw [Int.sub_mul]
      omega
    · by_cases h2 : row.id = j
      · simp only [if_neg h1, if_pos h2]
        rw [Int.sub_mul]
        omega
      · simp only [if_neg h1, if_neg h2]
        omega
theorem withR_nil {k : Nat} {r y : FRow} (hr : rows[k]? = some r) (h : (withR k y gv rows).2 = []) : (withR k y gv rows).1 = false := by
  unfold withR at h ⊢
  by_cases h0 : y.its = []
  · rw [if_pos h0] at h ⊢
    simp only at h ⊢
    have hk := (List.getElem?_eq_some_iff.1 hr).1
    have hl := congrArg List.length h
    rw [List.length_eraseIdx, if_pos hk, List.length_nil] at hl
    rw [if_pos (by omega)]
  · rw [if_neg h0] at h
    simp only at h
    have hk := (List.getElem?_eq_some_iff.1 hr).1
    have hl := congrArg List.length h
    rw [List.length_set, List.length_nil] at hl
    omega
end
section
variable {ws : Int → Int} {wi : Int → Int → Int} {q C C' : Int} {gv : Bool} {t d : Int → Int → Int} {rows : List TRow}
/-- Taken of an invocation, and so of its tenant. -/
def addL (f : Int → Int → Int) (u i c : Int) : Int → Int → Int := fun u' i' => if u' = u ∧ (i' = i ∨ i' = 3) then f u' i' + c else f u' i'
theorem addL_in {f : Int → Int → Int} {u i c : Int} : addL f u i c u i = f u i + c := by unfold addL; rw [if_pos ⟨rfl, .inl rfl⟩]
theorem addL_top {f : Int → Int → Int} {u i c : Int} : addL f u i c u 3 = f u 3 + c := by unfold addL; rw [if_pos ⟨rfl, .inr rfl⟩]
theorem addL_far {f : Int → Int → Int} {u i c u' i' : Int} (h : u' ≠ u) : addL f u i c u' i' = f u' i' := by unfold addL; rw [if_neg (fun e => h e.1)]
theorem addL_other {f : Int → Int → Int} {u i c i' : Int} (h : i' ≠ i) (h3 : i' ≠ 3) : addL f u i c u i' = f u i' := by unfold addL; rw [if_neg (fun e => e.2.elim h h3)]
theorem addL_row {f : Int → Int → Int} {u i c : Int} : (fun u' => addL f u i c u' 3) = upd (fun u' => f u' 3) u (f u 3 + c) := by
  funext u'
  by_cases e : u' = u
  · rw [e, addL_top, upd_same]
  · rw [addL_far e, upd_other _ e]
theorem addL_3 {f : Int → Int → Int} {u i c u' : Int} : addL f u i c u' 3 = upd (fun u' => f u' 3) u (f u 3 + c) u' := congrFun addL_row u'
theorem addL_zero {f : Int → Int → Int} {u i : Int} : addL f u i 0 = f := by
  funext a b
  unfold addL
  split <;> omega
/-- What one call leaves of a share. -/
structure MidT (ws : Int → Int) (wi : Int → Int → Int) (q : Int) (t d : Int → Int → Int) (gv : Bool) (rows : List TRow) (C : Int) (t' d' : Int → Int → Int) (gv' : Bool) (rows' : List TRow) (C' : Int) : Prop where
  ok : TOk ws wi q C' gv' rows'
  out : Mid ws q (fun u => t u 3) (fun u => d u 3) gv (rows.map fl) C (fun u => t' u 3) (fun u => d' u 3) gv' (rows'.map fl) C'
  inn : ∀ u, Mid (wi u) q (t u) (d u) (inT u rows).1 (inT u rows).2 C (t' u) (d' u) (inT u rows').1 (inT u rows').2 C'
theorem MidT.none (h : TOk ws wi q C gv rows) (hC : C ≤ C') (h64 : C' ≤ 64) : MidT ws wi q t d gv rows C t d gv rows C' :=
  ⟨h.more hC, Mid.same' h.out hC h64, fun u => Mid.same' (h.inner u) hC h64⟩
theorem MidT.pick (h : TOk ws wi q C gv rows) (hC : C ≤ 64) (hq : ∀ u, 0 ≤ q * ws u) (hqi : ∀ u i, 0 ≤ q * wi u i) {rows' : List TRow} (hp : PicksT q gv rows rows') : MidT ws wi q t d gv rows C t d true rows' C := by
  obtain ⟨h1, h2, h3, h4⟩ := picksT_fair hp hq hqi h
  exact ⟨h1, ⟨Int.le_refl _, hC, h1.out, fun i => ⟨Int.le_refl _, by omega⟩, fun i j hij hi hj _ _ _ _ => by rw [h2 i j hij hi hj]⟩, fun u => Mid.pickd (h.inner u) hC (hqi u) (h4 u)⟩
theorem no3 (h : TOk ws wi q C gv rows) (u : Int) : ¬ hasF 3 (inT u rows).2 := by
  rintro ⟨r, hr, e⟩
  by_cases hn : ∃ x ∈ rows, x.id = u
  · obtain ⟨x, hx, he⟩ := hn
    have hin : ∃ x ∈ rows, (inT u rows).2 = x.rows := by
      unfold inT
      cases hf : rows.find? (fun r => r.id == u) with
      | none => exact absurd (List.find?_eq_none.1 hf x hx) (by simp [he])
      | some z => exact ⟨z, List.mem_of_find?_eq_some hf, rfl⟩
    obtain ⟨z, hz, e2⟩ := hin
    rw [e2] at hr
    have := ((h.ids z hz).2 r hr).2
    omega
  · rw [inT_none (fun x hx e => hn ⟨x, hx, e⟩)] at hr
    cases hr
theorem erase_map {α β : Type} (g : α → β) : ∀ (l : List α) (k : Nat), (l.eraseIdx k).map g = (l.map g).eraseIdx k
  | [], _ => rfl
  | x :: l, 0 => rfl
  | x :: l, k + 1 => by rw [List.eraseIdx_cons_succ, List.map_cons, List.map_cons, List.eraseIdx_cons_succ, erase_map g l k]
theorem withT_fl {k : Nat} {y : TRow} (hf : ∀ r ∈ y.rows, r.its ≠ []) (gv : Bool) (rows : List TRow) : (withT k y gv rows).1 = (withR k (fl y) gv (rows.map fl)).1 ∧ (withT k y gv rows).2.map fl = (withR k (fl y) gv (rows.map fl)).2 := by
  unfold withT withR
  by_cases h : y.rows = []
  · have h2 : (fl y).its = [] := by show y.rows.flatMap FRow.its = []; rw [h]; rfl
    rw [if_pos h, if_pos h2]
    exact ⟨rfl, erase_map _ _ _⟩
  · have h2 : (fl y).its ≠ [] := flat_ne h hf
    rw [if_neg h, if_neg h2]
    exact ⟨rfl, by rw [List.map_set]⟩
theorem inT_with {u : Int} {k : Nat} {r y : TRow} (ho : (rows.map TRow.id).Nodup) (hr : rows[k]? = some r) (hid : y.id = r.id) : inT u (withT k y gv rows).2 = if r.id = u then (if y.rows = [] then (false, []) else (y.gv, y.rows)) else inT u rows := by
  unfold withT
  by_cases h : y.rows = []
  · rw [if_pos h, if_pos h]
    exact inT_erase ho hr
  · rw [if_neg h, if_neg h]
    exact inT_set ho hr hid
theorem inT_at {k : Nat} {r : TRow} (ho : (rows.map TRow.id).Nodup) (hr : rows[k]? = some r) : inT r.id rows = (r.gv, r.rows) := by
  have h := inT_set (u := r.id) (y := r) ho hr rfl
  rw [if_pos rfl] at h
  rw [← h]
  congr 1
  exact (set_same hr).symm
/-- A tenant's row replaced, its inner ring having turned: what holds still. -/
theorem TOk.with {k : Nat} {r y : TRow} (h : TOk ws wi q C gv rows) (hr : rows[k]? = some r) (hid : y.id = r.id) (hwt : y.wt = r.wt) (hdf : 0 ≤ y.df ∧ y.df ≤ r.df) (hy : FOk (wi r.id) q C y.gv y.rows) (hids : ∀ z ∈ y.rows, 0 ≤ z.id ∧ z.id ≤ 2) (hsub : ∀ z ∈ y.rows, ∀ w ∈ z.its, ∃ z' ∈ r.rows, w ∈ z'.its) : TOk ws wi q C (withT k y gv rows).1 (withT k y gv rows).2 := by
  have hfull : ∀ z ∈ y.rows, z.its ≠ [] := fun z hz => (hy.low z hz).2
  obtain ⟨e1, e2⟩ := withT_fl (k := k) hfull gv rows
  have hm : ∀ z ∈ (withT k y gv rows).2, z ∈ rows ∨ (z = y ∧ y.rows ≠ []) := fun z hz => by
    unfold withT at hz
    split at hz
    · exact .inl (List.mem_of_mem_eraseIdx hz)
    · rename_i hne
      rcases mem_set hz with hz | hz
      · exact .inl hz
      · exact .inr ⟨hz, hne⟩
  refine ⟨?_, fun z hz => ?_, fun z hz => ?_⟩
  · rw [e1, e2]
    refine h.out.withR (r := fl r) (by rw [List.getElem?_map, hr]; rfl) hid hwt hdf (fun w hw => ?_)
    obtain ⟨z, hz, hw⟩ := List.mem_flatMap.1 hw
    obtain ⟨z', hz', hw'⟩ := hsub z hz w hw
    exact List.mem_flatMap.2 ⟨z', hz', hw'⟩
  · rcases hm z hz with hz | ⟨rfl, hne⟩
    · exact h.inn z hz
    · rw [hid]
      exact ⟨hy, hne⟩
  · rcases hm z hz with hz | ⟨rfl, hne⟩
    · exact h.ids z hz
    · rw [hid]
      exact ⟨(h.ids r (List.mem_of_getElem? hr)).1, hids⟩
end
end Go.Proofs.Ytohkchilogmneaa
