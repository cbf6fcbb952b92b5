/-
  Two tenants treated alike: Push, Take, Drop; the looks.
-/
import Derived.Test.YtohkchilogmneaaFairT2
namespace Go.Proofs.Ytohkchilogmneaa

section
variable {ws : Int → Int} {wi : Int → Int → Int} {q C C' : Int} {gv : Bool} {t d : Int → Int → Int} {rows : List TRow}
theorem step_items {id wt : Int} {x : It} {rows : List FRow} : ∀ z ∈ stepPush id wt x rows, (z.id = id ∨ ∃ r ∈ rows, z.id = r.id) := by
  intro z hz
  unfold stepPush at hz
  split at hz
  · unfold pushR at hz
    rcases find_at (id := id) (rows := rows) with ⟨h1, h2⟩ | ⟨k, r, h1, h2, h3, h4⟩
    · rw [h1] at hz
      simp only at hz
      rcases List.mem_append.1 hz with hz | hz
      · exact .inr ⟨z, hz, rfl⟩
      · rw [List.mem_singleton] at hz
        exact .inl (by rw [hz])
    · rw [h1] at hz
      simp only at hz
      rw [modify_set h2] at hz
      rcases mem_set hz with hz | hz
      · exact .inr ⟨z, hz, rfl⟩
      · exact .inl (by rw [hz]; exact h3)
  · exact .inr ⟨z, hz, rfl⟩
theorem step_nil {id wt : Int} {x : It} (h : pushE id wt x [] = 0) : stepPush id wt x [] = [⟨id, wt, 0, [x]⟩] := by
  unfold stepPush
  rw [if_pos h]
  rfl
/-- The greatest cost behind a Push. -/
def topC (C : Int) (ok : Bool) (c : Int) : Int := if ok then (if C < c then c else C) else C
theorem MidT.push (h : TOk ws wi q C gv rows) (hC1 : 1 ≤ C) (hC : C ≤ 64) (hq : ∀ u, 0 ≤ q * ws u) (hqi : ∀ u i, 0 ≤ q * wi u i) {E : Ent} (hten : 0 ≤ E.ten ∧ E.ten ≤ 2) (hinv : 0 ≤ E.inv ∧ E.inv ≤ 2) (hw : E.tw = ws E.ten) (hwi : E.iw = wi E.ten E.inv) :
    MidT ws wi q t d gv rows C t d gv (pushT E rows).2 (topC C (decide ((pushT E rows).1 = 0)) E.cost) := by
  have hbadC : ∀ {c : Int}, c ≠ 0 → MidT ws wi q t d gv rows C t d gv rows (topC C (decide (c = 0)) E.cost) := fun {c} hc => by
    unfold topC
    rw [decide_eq_false hc, if_neg (by decide)]
    exact MidT.none h (Int.le_refl _) hC
  have hinner : ∀ u, FOk (wi u) q C (inT u rows).1 (inT u rows).2 := h.inner
  rcases hfd : findT E.ten rows with _ | k
  · rw [pushT_none hfd]
    by_cases hb : argBad E.ten E.tw
    · rw [if_pos hb]
      exact hbadC (c := 1) (by decide)
    · rw [if_neg hb]
      by_cases h0 : pushE E.inv E.iw (itOf E) [] = 0
      · have hnew : ∀ x ∈ rows, x.id ≠ E.ten := fun x hx e => by
          have := List.findIdx?_eq_none_iff.1 hfd x hx
          simp [e] at this
        have hin := Mid.push (ws := wi E.ten) (q := q) (t := t E.ten) (d := d E.ten) (gv := false) (rows := []) (fok_nil' (C := C)) hC1 hC (hqi E.ten) (id := E.inv) (x := itOf E) ⟨hinv.1, by omega⟩
        rw [← hwi, if_pos h0] at hin
        simp only [if_pos h0]
        have hC' : C ≤ topC C (decide (pushE E.inv E.iw (itOf E) [] = 0)) E.cost ∧ topC C (decide (pushE E.inv E.iw (itOf E) [] = 0)) E.cost = if C < E.cost then E.cost else C := by
          unfold topC
          rw [decide_eq_true h0, if_pos rfl]
          refine ⟨?_, rfl⟩
          split <;> omega
        obtain ⟨K, hK⟩ : ∃ K, K = topC C (decide (pushE E.inv E.iw (itOf E) [] = 0)) E.cost := ⟨_, rfl⟩
        rw [← hK] at hC' ⊢
        have hin' : Mid (wi E.ten) q (t E.ten) (d E.ten) false [] C (t E.ten) (d E.ten) false (stepPush E.inv E.iw (itOf E) []) K := by rw [hC'.2]; exact hin
        have h64 := hin'.top
        rw [step_nil h0] at hin' ⊢
        have hx1 := hin'.ok.cost _ List.mem_cons_self (itOf E) List.mem_cons_self
        have hflnew : fl ⟨E.ten, E.tw, 0, false, [⟨E.inv, E.iw, 0, [itOf E]⟩]⟩ = ⟨E.ten, E.tw, 0, [itOf E]⟩ := rfl
        have hnew' : ∀ r ∈ rows.map fl, r.id ≠ E.ten := fun r hr => by
          obtain ⟨x, hx, rfl⟩ := List.mem_map.1 hr
          exact hnew x hx
        have hout := (h.out.more hC'.1).snoc (z := ⟨E.ten, E.tw, 0, [itOf E]⟩) hnew' ⟨hw, hten.1, by show E.ten ≤ 3; omega⟩ rfl (by simp) (fun y hy => by
          simp at hy
          subst hy
          exact hx1) (by omega) hq
        refine ⟨⟨?_, fun x hx => ?_, fun x hx => ?_⟩, ⟨hC'.1, h64, ?_, fun i => ⟨Int.le_refl _, by omega⟩, fun i j hij hi hj _ _ _ _ => ?_⟩, fun u => ?_⟩
        · rw [List.map_append]
          exact hout
        · rcases List.mem_append.1 hx with hx | hx
          · exact ⟨(h.inn x hx).1.more hC'.1, (h.inn x hx).2⟩
          · rw [List.mem_singleton] at hx
            subst hx
            exact ⟨hin'.ok, by simp⟩
        · rcases List.mem_append.1 hx with hx | hx
          · exact h.ids x hx
          · rw [List.mem_singleton] at hx
            subst hx
            refine ⟨hten, fun r hr => ?_⟩
            simp at hr
            subst hr
            exact hinv
        · rw [List.map_append]
          exact hout
        · rw [List.map_append, List.map_cons, List.map_nil, hflnew, phi_snoc hnew' hi hj]
        · rw [inT_snoc (by exact hnew)]
          by_cases e : E.ten = u
          · rw [if_pos e, ← e, inT_none hnew]
            exact hin'
          · rw [if_neg e]
            exact Mid.same' (hinner u) hC'.1 h64
      · simp only [if_neg h0]
        exact hbadC h0
  · obtain ⟨r, hr, hri⟩ := findT_at hfd
    rw [pushT_some hfd hr]
    by_cases hb : argBad E.ten E.tw ∨ r.wt ≠ E.tw
    · rw [if_pos hb]
      exact hbadC (c := 1) (by decide)
    · rw [if_neg hb]
      have hmem := List.mem_of_getElem? hr
      have hri' : inT E.ten rows = (r.gv, r.rows) := by rw [← hri]; exact inT_at h.once hr
      have hin := Mid.push (ws := wi E.ten) (q := q) (t := t E.ten) (d := d E.ten) (gv := r.gv) (rows := r.rows) (by have := hinner E.ten; rwa [hri'] at this) hC1 hC (hqi E.ten) (id := E.inv) (x := itOf E) ⟨hinv.1, by omega⟩
      rw [← hwi] at hin
      simp only
      have hCeq : topC C (decide (pushE E.inv E.iw (itOf E) r.rows = 0)) E.cost = if pushE E.inv E.iw (itOf E) r.rows = 0 then (if C < (itOf E).cost then (itOf E).cost else C) else C := by
        unfold topC
        by_cases h0 : pushE E.inv E.iw (itOf E) r.rows = 0
        · rw [decide_eq_true h0, if_pos rfl, if_pos h0]
          rfl
        · rw [decide_eq_false h0, if_neg (by decide), if_neg h0]
      rw [hCeq]
      obtain ⟨K, hK⟩ : ∃ K, K = if pushE E.inv E.iw (itOf E) r.rows = 0 then (if C < (itOf E).cost then (itOf E).cost else C) else C := ⟨_, rfl⟩
      rw [← hK] at hin ⊢
      have hg := hin.grow
      have h64 := hin.top
      have hfull : ∀ z ∈ stepPush E.inv E.iw (itOf E) r.rows, z.its ≠ [] := fun z hz => (hin.ok.low z hz).2
      have hne : stepPush E.inv E.iw (itOf E) r.rows ≠ [] := step_ne (.inl (h.inn r hmem).2)
      obtain ⟨y, hy⟩ : ∃ y : TRow, y = { r with rows := stepPush E.inv E.iw (itOf E) r.rows } := ⟨_, rfl⟩
      rw [← hy]
      have hyid : y.id = r.id := by rw [hy]
      have hyrows : y.rows = stepPush E.inv E.iw (itOf E) r.rows := by rw [hy]
      have hygv : y.gv = r.gv := by rw [hy]
      have hfr : (rows.map fl)[k]? = some (fl r) := by rw [List.getElem?_map, hr]; rfl
      have hmap : (rows.set k y).map fl = (rows.map fl).set k (fl y) := by rw [List.map_set]
      have hout : FOk ws q K gv ((rows.map fl).set k (fl y)) := by
        refine (h.out.more hg).set hfr hyid (by rw [hy]; rfl) ⟨by rw [hy]; exact (h.out.low (fl r) (List.mem_map_of_mem hmem)).1, by rw [hy]; exact Int.le_refl _⟩ ?_ (fun z hz => ?_)
        · exact flat_ne (by rw [hyrows]; exact hne) (by rw [hyrows]; exact hfull)
        · obtain ⟨w, hw, hz⟩ := List.mem_flatMap.1 hz
          rw [hyrows] at hw
          exact hin.ok.cost w hw z hz
      have hsm : ∀ x ∈ rows.set k y, x ∈ rows ∨ x = y := fun x hx => mem_set hx
      refine ⟨⟨by rw [hmap]; exact hout, fun x hx => ?_, fun x hx => ?_⟩, ⟨hg, h64, by rw [hmap]; exact hout, fun i => ⟨Int.le_refl _, by omega⟩, fun i j hij hi hj _ _ _ _ => ?_⟩, fun u => ?_⟩
      · rcases hsm x hx with hx | rfl
        · exact ⟨(h.inn x hx).1.more hg, (h.inn x hx).2⟩
        · rw [hyid, hygv, hyrows, hri]
          exact ⟨hin.ok, hne⟩
      · rcases hsm x hx with hx | rfl
        · exact h.ids x hx
        · rw [hyid, hyrows]
          refine ⟨(h.ids r hmem).1, fun z hz => ?_⟩
          rcases step_items z hz with e | ⟨z', hz', e⟩
          · rw [e]
            exact hinv
          · rw [e]
            exact (h.ids r hmem).2 z' hz'
      · rw [hmap, phi_key (key_set hfr hyid (by rw [hy]; rfl))]
      · rw [inT_set h.once hr hyid]
        by_cases e : r.id = u
        · rw [if_pos e, hygv, hyrows, ← e, hri, hri']
          exact hin
        · rw [if_neg e]
          exact Mid.same' (hinner u) hg h64
theorem MidT.take (h : TOk ws wi q C gv rows) (hC : C ≤ 64) (hq : ∀ u, 0 ≤ q * ws u) (hqi : ∀ u i, 0 ≤ q * wi u i) {row : TRow} {rest : List TRow} (hp : PicksT q gv rows (row :: rest)) :
    MidT ws wi q t d gv rows C (addL t row.id (firstF row.rows).id (headIt row.rows).cost) d (tookT row rest).1 (tookT row rest).2 C ∧ (0 ≤ row.id ∧ row.id ≤ 2) ∧ (0 ≤ (firstF row.rows).id ∧ (firstF row.rows).id ≤ 2) ∧ 1 ≤ (headIt row.rows).cost ∧ (headIt row.rows).cost ≤ C := by
  obtain ⟨h1, h2, h3, h4⟩ := picksT_fair hp hq hqi h
  obtain ⟨x', r', y, ys, he, hgv, hrw, hle1, hle2⟩ := hp.le
  rw [List.cons.injEq] at he
  obtain ⟨rfl, rfl⟩ := he
  have hx := h1.inn row List.mem_cons_self
  have hids := h1.ids row List.mem_cons_self
  have hymem : y ∈ row.rows := by rw [hrw]; exact List.mem_cons_self
  have hyl := hx.1.low y hymem
  obtain ⟨z, zs, hz⟩ : ∃ z zs, y.its = z :: zs := by
    cases hl : y.its with
    | nil => exact absurd hl hyl.2
    | cons z zs => exact ⟨z, zs, rfl⟩
  have hcz := hx.1.cost y hymem z (by rw [hz]; exact List.mem_cons_self)
  have hfirst : firstF row.rows = y := by rw [hrw]; rfl
  have hhead : headIt row.rows = z := by rw [hrw]; show y.its.headD ⟨0, 0⟩ = z; rw [hz]; rfl
  have hhc : headC y.its = z.cost := by rw [hz]; rfl
  rw [hfirst, hhead]
  -- the inner ring
  have hpin : PicksR q (inT row.id rows).1 (inT row.id rows).2 (y :: ys) := by
    have hi := h4 row.id
    rw [inT_cons, if_pos rfl, hgv, hrw] at hi
    rcases hi with e | ⟨-, hi⟩
    · rw [← e]
      exact picks_same hle1
    · exact hi
  obtain ⟨hin, -⟩ := Mid.take (t := t row.id) (d := d row.id) (h.inner row.id) hC (hqi row.id) hpin
  have hta : tookA (row.gv, row.rows) = tookR y ys := by unfold tookA; rw [hrw]
  obtain ⟨Y, hY⟩ : ∃ Y : TRow, Y = { row with df := row.df - (headIt row.rows).cost, gv := (tookA (row.gv, row.rows)).1, rows := (tookA (row.gv, row.rows)).2 } := ⟨_, rfl⟩
  have htook : tookT row rest = withT 0 Y true (row :: rest) := by unfold tookT; rw [hY]
  have hYid : Y.id = row.id := by rw [hY]
  have hYgv : Y.gv = (tookR y ys).1 := by rw [hY, ← hta]
  have hYrows : Y.rows = (tookR y ys).2 := by rw [hY, ← hta]
  have hYdf : Y.df = row.df - z.cost := by rw [hY, ← hhead]
  have hYwt : Y.wt = row.wt := by rw [hY]
  rw [htook]
  have hsub : ∀ z' ∈ Y.rows, (z' = { y with df := y.df - headC y.its, its := y.its.tail } ∨ z' ∈ row.rows) := fun z' hz' => by
    rw [hYrows] at hz'
    unfold tookR withR at hz'
    split at hz'
    · exact .inr (by rw [hrw]; exact List.mem_of_mem_eraseIdx hz')
    · rcases mem_set hz' with hz' | hz'
      · exact .inr (by rw [hrw]; exact hz')
      · exact .inl hz'
  have hok := h1.with (k := 0) (r := row) (y := Y) rfl hYid hYwt ⟨by rw [hYdf]; rw [hhead] at hle2; omega, by rw [hYdf]; omega⟩ (by rw [hYgv, hYrows]; exact hin.ok) (fun z' hz' => by
    rcases hsub z' hz' with rfl | hz'
    · exact hids.2 y hymem
    · exact hids.2 z' hz') (fun z' hz' w hw => by
    rcases hsub z' hz' with rfl | hz'
    · exact ⟨y, hymem, List.mem_of_mem_tail hw⟩
    · exact ⟨z', hz', hw⟩)
  have hYfull : ∀ z' ∈ Y.rows, z'.its ≠ [] := fun z' hz' => by
    rw [hYrows] at hz'
    exact (hin.ok.low z' hz').2
  obtain ⟨e1, e2⟩ := withT_fl (k := 0) hYfull true (row :: rest)
  have hout1 := h1.out
  rw [List.map_cons] at hout1
  refine ⟨⟨hok, ⟨Int.le_refl _, hC, hok.out, fun i => ?_, fun i j hij hi hj hi' hj' _ _ => ?_⟩, fun u => ?_⟩, hids.1, hids.2 y hymem, hcz⟩
  · rw [addL_3]
    by_cases e : i = row.id
    · rw [e, upd_same]
      omega
    · rw [upd_other _ e]
      omega
  · rw [e2] at hi' hj'; rw [e1, e2]
    have hphi := phi_took (rest := rest.map fl) (row := fl row) (y := fl Y) (c := z.cost) hij hout1 hYid hYdf hi' hj'
    have h2' := h2 i j hij hi hj
    rw [List.map_cons] at h2'
    rw [h2'] at hphi
    rw [List.map_cons, hphi, addL_3, addL_3]
    have hfid : (fl row).id = row.id := rfl
    rw [hfid]
    by_cases e1 : row.id = i
    · have e2 : row.id ≠ j := fun e => hij (e1.symm.trans e)
      rw [if_pos e1, if_neg e2, ← e1, upd_same, upd_other _ (Ne.symm e2), e1, Int.add_mul]
      omega
    · by_cases e2 : row.id = j
      · rw [if_neg e1, if_pos e2, ← e2, upd_same, upd_other _ (Ne.symm e1), e2, Int.add_mul]
        omega
      · rw [if_neg e1, if_neg e2, upd_other _ (Ne.symm e1), upd_other _ (Ne.symm e2)]
        omega
  · rw [inT_with h1.once (k := 0) (r := row) rfl hYid]
    by_cases e : row.id = u
    · rw [if_pos e, ← e]
      have hres : (if Y.rows = [] then (false, []) else (Y.gv, Y.rows)) = tookR y ys := by
        by_cases hn : Y.rows = []
        · rw [if_pos hn]
          rw [hYrows] at hn
          have := withR_nil (k := 0) (r := y) rfl hn
          exact Prod.ext this.symm hn.symm
        · rw [if_neg hn, hYgv, hYrows]
      rw [hres]
      refine hin.alt (no3 h row.id) (fun i hi => ?_) (fun i _ => rfl) ⟨?_, ?_⟩
      · by_cases e : i = y.id
        · rw [e, addL_in, upd_same, hhc]
        · rw [addL_other e hi, upd_other _ e]
      · rw [addL_top]
        omega
      · rw [addL_top]
        omega
    · rw [if_neg e]
      have hfar : addL t row.id y.id z.cost u = t u := by
        funext i
        exact addL_far (Ne.symm e)
      rw [hfar]
      have := Mid.pickd (t := t u) (d := d u) (h.inner u) hC (hqi u) (h4 u)
      exact this
theorem MidT.drop (h : TOk ws wi q C gv rows) (hC : C ≤ 64) {id inv i : Int} :
    MidT ws wi q t d gv rows C t (if (dropT id inv i gv rows).1 = true then addL d id inv 1 else d) (dropT id inv i gv rows).2.1 (dropT id inv i gv rows).2.2 C := by
  rcases hfd : findT id rows with _ | k
  · rw [dropT_none hfd]
    exact MidT.none h (Int.le_refl _) hC
  · obtain ⟨r, hr, hri⟩ := findT_at hfd
    rcases hd : (dropE inv i r.gv r.rows).1 with _ | _
    · rw [dropT_not hfd hr hd]
      exact MidT.none h (Int.le_refl _) hC
    · rw [dropT_some hfd hr hd]
      simp only [if_true]
      have hmem := List.mem_of_getElem? hr
      have hri' : inT id rows = (r.gv, r.rows) := by rw [← hri]; exact inT_at h.once hr
      obtain ⟨m, f, hm, hf, hhas⟩ : ∃ m f, findF inv r.rows = some m ∧ r.rows[m]? = some f ∧ dropE inv i r.gv r.rows = (true, withR m { f with its := dropIt f.its i } r.gv r.rows) := by
        rcases find_at (id := inv) (rows := r.rows) with ⟨h1, h2⟩ | ⟨m, f, h1, h2, h3, h4⟩
        · rw [dropE_none h1] at hd
          cases hd
        · rcases hh : hasIt i f.its with _ | _
          · rw [dropE_not h1 h4 hh] at hd
            cases hd
          · exact ⟨m, f, h1, h2, dropE_some h1 h4 hh⟩
      rw [hhas]
      simp only
      have hin := Mid.drop (t := t id) (d := d id) (d' := addL d id inv 1 id) (h.inner id) hC (by rw [hri']; exact hf) i
      rw [hri'] at hin
      obtain ⟨s, hs⟩ : ∃ s, s = withR m { f with its := dropIt f.its i } r.gv r.rows := ⟨_, rfl⟩
      have hse : s.2 = [] → s.1 = false := by rw [hs]; exact withR_nil hf
      have hsub0 : ∀ z' ∈ s.2, (z' = { f with its := dropIt f.its i } ∨ z' ∈ r.rows) := fun z' hz' => by
        rw [hs] at hz'
        unfold withR at hz'
        split at hz'
        · exact .inr (List.mem_of_mem_eraseIdx hz')
        · rcases mem_set hz' with hz' | hz'
          · exact .inr hz'
          · exact .inl hz'
      rw [← hs] at hin ⊢
      obtain ⟨Y, hY⟩ : ∃ Y : TRow, Y = { r with gv := s.1, rows := s.2 } := ⟨_, rfl⟩
      rw [← hY]
      have hYid : Y.id = r.id := by rw [hY]
      have hYgv : Y.gv = s.1 := by rw [hY]
      have hYrows : Y.rows = s.2 := by rw [hY]
      have hYdf : Y.df = r.df := by rw [hY]
      have hYwt : Y.wt = r.wt := by rw [hY]
      have hids := h.ids r hmem
      have hfmem := List.mem_of_getElem? hf
      have hsub : ∀ z' ∈ Y.rows, (z' = { f with its := dropIt f.its i } ∨ z' ∈ r.rows) := by rw [hYrows]; exact hsub0
      have hok := h.with (k := k) (r := r) (y := Y) hr hYid hYwt ⟨by rw [hYdf]; exact (h.out.low (fl r) (List.mem_map_of_mem hmem)).1, by rw [hYdf]; exact Int.le_refl _⟩ (by rw [hYgv, hYrows, hri]; exact hin.ok) (fun z' hz' => by
        rcases hsub z' hz' with rfl | hz'
        · exact hids.2 f hfmem
        · exact hids.2 z' hz') (fun z' hz' w hw => by
        rcases hsub z' hz' with rfl | hz'
        · exact ⟨f, hfmem, (List.mem_filter.1 hw).1⟩
        · exact ⟨z', hz', hw⟩)
      have hYfull : ∀ z' ∈ Y.rows, z'.its ≠ [] := fun z' hz' => by
        rw [hYrows] at hz'
        exact (hin.ok.low z' hz').2
      obtain ⟨e1, e2⟩ := withT_fl (k := k) hYfull gv rows
      have hfr : (rows.map fl)[k]? = some (fl r) := by rw [List.getElem?_map, hr]; rfl
      refine ⟨hok, ⟨Int.le_refl _, hC, hok.out, fun i => ⟨Int.le_refl _, by omega⟩, fun i j hij _ _ hi' hj' _ _ => ?_⟩, fun u => ?_⟩
      · rw [e2] at hi' hj'; rw [e1, e2]
        rw [phi_drop h.out hfr hYid hYdf hi' hj']
      · rw [inT_with h.once hr hYid]
        by_cases e : r.id = u
        · rw [if_pos e, ← e, hri, hri']
          have hres : (if Y.rows = [] then (false, []) else (Y.gv, Y.rows)) = s := by
            by_cases hn : Y.rows = []
            · rw [if_pos hn]
              rw [hYrows] at hn
              exact Prod.ext (hse hn).symm hn.symm
            · rw [if_neg hn, hYgv, hYrows]
          rw [hres]
          exact hin
        · rw [if_neg e]
          have hfar : addL d id inv 1 u = d u := by
            funext i
            exact addL_far (by rw [← hri]; exact Ne.symm e)
          rw [hfar]
          exact Mid.none (h.inner u) hC
end
end Go.Proofs.Ytohkchilogmneaa
