/-
  An evaluator for closed runs: the interpreter is right (6: guards, regions in their order, results).
-/
import Derived.Test.YtjfcjpbolokfcaaGreatDoorEv28
namespace Go.Proofs.YtjfcjpbolokfcaaGreatDoor.Ev
open Go

theorem Does.mono {P : Program} {o : Oper} {ev : Operand → Value} {w : World} {X Y : Value → World → Prop} (h : Does P o ev w X) (hy : ∀ u w', X u w' → Y u w') : Does P o ev w Y := by
  unfold Does at h ⊢
  split at h
  · exact hy _ _ h
  · exact hy _ _ h
  · refine Calls.mono h fun e w' he => ?_
    cases e with
    | returned u => exact hy _ _ he
    | panicked ch => exact he
    | outgrown => exact he
  · exact h.elim
theorem Does.wp {P : Program} {o : Oper} {a : Act} {w : World} {X : Value → World → Prop} {next : Act → World → Prop} {Q : Exit → Act → World → Prop} (h : Does P o a.eval w X) (hn : ∀ u w', X u w' → next (a.put o.dst u) w') : o.wp P a w next Q := by
  unfold Oper.wp
  unfold Does at h
  split at h
  · rename_i u w' hr
    rw [hr]
    exact hn _ _ h
  · rename_i w' hr
    rw [hr]
    exact hn _ _ h
  · rename_i g args w' hr
    rw [hr]
    refine Calls.mono h fun e w' he => ?_
    cases e with
    | returned u => exact hn _ _ he
    | panicked ch => exact he.elim
    | outgrown => exact he.elim
  · exact h.elim
/-- A frame as it is known to be. -/
structure Fits (ρ : Nat → Nm) (N nx : Nat) (f : T Value) (a : Act) : Prop where
  fr : FR ρ nx f a
  size : a.tmps.size = N
  defers : a.defers = []
theorem put_defers0 (a : Act) (d : Option Tmp) (u : Value) : (a.put d u).defers = a.defers := by cases d <;> rfl
theorem Fits.put {ρ ρ' : Nat → Nm} {N nx nx' : Nat} {f : T Value} {a : Act} (h : Fits ρ N nx f a) (hx : Ext ρ nx ρ' nx') (d : Option Tmp) {v u : Value} (hv : VR ρ' nx' v u) : Fits ρ' N nx' (put N d v f) (a.put d u) :=
  ⟨put_sound (h.fr.mono hx) h.size d hv, by rw [put_size]; exact h.size, by rw [put_defers0]; exact h.defers⟩
/-- How a piece of code ends. -/
def End (N : Nat) (ρ : Nat → Nm) (s : St) (w : World) (r : R) (e : Exit) (a : Act) (w' : World) : Prop := match r, e with
  | .normal f s', .normal => ∃ ρ', SStep ρ s w ρ' s' w' ∧ Fits ρ' N s'.nx f a
  | .ret f s', .ret => ∃ ρ', SStep ρ s w ρ' s' w' ∧ Fits ρ' N s'.nx f a
  | .exit i f s', .exit j => i = j ∧ ∃ ρ', SStep ρ s w ρ' s' w' ∧ Fits ρ' N s'.nx f a
  | _, _ => False
section
variable {P : Program} {cl : Cl} {N : Nat}
theorem guardR_or {ops : Array Oper} {o : Oper} {f : T Value} {yes no : R} {ρ : Nat → Nm} {nx : Nat} {a : Act} (hf : FR ρ nx f a) (h : (guardR ops o f yes no).ok) :
    (Region.wanted o (yielded ops a.tmps) = true ∧ guardR ops o f yes no = yes) ∨ (Region.wanted o (yielded ops a.tmps) = false ∧ guardR ops o f yes no = no) := by
  unfold guardR at h ⊢
  rcases hg : o.guard with _ | ⟨g, want⟩
  · refine .inl ⟨?_, rfl⟩
    unfold Region.wanted
    rw [hg]
  · rw [hg] at h
    have hw : Region.wanted o (yielded ops a.tmps) = (yielded ops a.tmps g == some want) := by
      unfold Region.wanted
      rw [hg]
    rw [hw]
    simp only at h ⊢
    rcases ho : ops[g]? with _ | og
    · rw [ho] at h
      exact h.elim
    · rw [ho] at h
      rcases hd : og.dst with _ | d
      · simp only [onO, hd] at h
        exact h.elim
      · simp only [onO, hd] at h ⊢
        rcases ha : acc (path d) f with _ | v
        · rw [ha] at h
          exact h.elim
        · rw [ha] at h
          obtain ⟨u, h1, h2⟩ := hf d v (acc_get ha)
          have hb : ∀ b, u = .bool b → yielded ops a.tmps g = some b := fun b hu => by
            unfold yielded
            simp only [ho, hd, Option.bind_some, h1, hu]
          have ht : ∀ x, u = .tuple x → yielded ops a.tmps g = none := fun x hu => by
            unfold yielded
            simp only [ho, hd, Option.bind_some, h1, hu]
          cases h2 with
          | bool b =>
            rw [hb b rfl]
            cases b <;> cases want
            · exact .inl ⟨rfl, rfl⟩
            · exact .inr ⟨rfl, rfl⟩
            · exact .inr ⟨rfl, rfl⟩
            · exact .inl ⟨rfl, rfl⟩
          | tuple x y =>
            rw [ht y rfl]
            exact .inr ⟨rfl, rfl⟩
          | _ => exact h.elim
theorem xOps_ok (hcl : ClOk P cl) {ops : Array Oper} {ρ0 : Nat → Nm} {s0 : St} {w0 : World} : ∀ (os : List Oper) (k n : Nat), os = ops.toList.drop k → os.length = n → ∀ (f : T Value) (s : St) (ρ : Nat → Nm) (w : World) (a : Act), SStep ρ0 s0 w0 ρ s w → Fits ρ N s.nx f a → (xOps P cl N ops os f s).ok →
    wpOps P ops (End N ρ0 s0 w0 (xOps P cl N ops os f s)) (List.range' k n) a w
  | [], k, n, _, hn, f, s, ρ, w, a, st, hf, _ => by
    subst hn
    exact ⟨ρ, st, hf⟩
  | o :: os, k, n, hd, hn, f, s, ρ, w, a, st, hf, hok => by
    subst hn
    have hk : ops[k]? = some o := by
      have : (ops.toList.drop k)[0]? = some o := by rw [← hd]; rfl
      simpa using this
    have hd2 : os = ops.toList.drop (k + 1) := by
      have : (ops.toList.drop k).drop 1 = os := by rw [← hd]; rfl
      rw [List.drop_drop] at this
      exact this.symm
    change (guardR ops o f (xOp P cl o f s (fun v s => xOps P cl N ops os (put N o.dst v f) s)) (xOps P cl N ops os (put N o.dst undef f) s)).ok at hok
    show wpOps P ops (End N ρ0 s0 w0 (guardR ops o f (xOp P cl o f s (fun v s => xOps P cl N ops os (put N o.dst v f) s)) (xOps P cl N ops os (put N o.dst undef f) s))) (k :: List.range' (k + 1) os.length) a w
    unfold wpOps
    rw [hk]
    simp only
    rcases guardR_or hf.fr hok with ⟨h1, h2⟩ | ⟨h1, h2⟩
    · rw [h2] at hok ⊢
      rw [if_pos h1]
      obtain ⟨v, s', h3, h4⟩ := xOp_v hcl hok
      rw [h3] at hok ⊢
      refine .inl ((h4 ρ w a st.hr hf.fr).wp fun u w' ⟨ρ', h5, h6⟩ => ?_)
      exact xOps_ok hcl os (k + 1) os.length hd2 rfl _ s' ρ' w' _ (st.trans h5) (hf.put h5.ext o.dst h6) hok
    · rw [h2] at hok ⊢
      rw [if_neg (by rw [h1]; decide)]
      exact xOps_ok hcl os (k + 1) os.length hd2 rfl _ s ρ w _ st (hf.put (Ext.refl _ _) o.dst undef_vr) hok
/-- A result, in the model. -/
noncomputable def resS (a : Act) : ResultVar → Sem Value
  | .tmp t => pure (a.tmps.getD t undef)
  | .cell c t => do loadVar t (← asAddr (a.tmps.getD c undef))
theorem resV_ok {f : T Value} {s : St} {r : ResultVar} {v : Value} (h : resV P f s r = some v) {ρ : Nat → Nm} {w : World} {a : Act} (hr : SR ρ s w) (hf : FR ρ s.nx f a) :
    ∃ u, (resS a r).run P w = .ok u w ∧ VR ρ s.nx v u := by
  cases r with
  | tmp t =>
    obtain ⟨u, h1, h2⟩ := hf t v (acc_get h)
    refine ⟨u, ?_, h2⟩
    have : a.tmps.getD t undef = u := by rw [Array.getD_eq_getD_getElem?, h1]; rfl
    show (pure (a.tmps.getD t undef) : Sem Value).run P w = _
    rw [this]
    rfl
  | cell c ty =>
    unfold resV at h
    simp only at h
    rcases hc : acc (path c) f with _ | p
    · rw [hc] at h
      cases h
    · rw [hc] at h
      simp only at h
      obtain ⟨u, h1, h2⟩ := hf c p (acc_get hc)
      have hg : a.tmps.getD c undef = u := by rw [Array.getD_eq_getD_getElem?, h1]; rfl
      split at h
      · rename_i n k d hu
        split at h
        · rename_i t m e sz fz hn
          cases h2
          split at h
          · rename_i hag
            split at h
            · rename_i hb
              obtain ⟨b, hb, hvb⟩ := hr.cell hn (Nat.le_of_ble_eq_true hb) h
              refine ⟨b, ?_, hvb⟩
              show (do loadVar ty (← asAddr (a.tmps.getD c undef)) : Sem Value).run P w = _
              simp only [hg, asAddr, loadVar, Sem.run_bind, Sem.run_pure, Result.andThen_ok, run_isAgg' hu, hag, Bool.false_eq_true, if_false]
              show Sem.run P (.load _ _ .pure) w = _
              unfold Sem.run
              rw [hb]
              rfl
            · cases h
          · rename_i hag
            split at h
            · rename_i i hi
              split at h
              · rename_i hb
                split at h
                · rename_i vs hvs
                  obtain rfl := Option.some.inj h
                  obtain ⟨us, h1, h2, h3⟩ := readF_sound hr hn i.size k vs (Nat.le_of_ble_eq_true hb) hvs
                  refine ⟨.agg us.toArray, ?_, .agg _ _ h3.1 h3.2⟩
                  show (do loadVar ty (← asAddr (a.tmps.getD c undef)) : Sem Value).run P w = _
                  simp only [hg, asAddr, loadVar, Sem.run_bind, Sem.run_pure, Result.andThen_ok, run_isAgg' hu, hag, if_true, run_siz hi]
                  rw [← h1, run_loadCells_list w _ us h2]
                  rfl
                · cases h
              · cases h
            · cases h
        · cases h
      · cases h
theorem resVs_ok {f : T Value} {s : St} {ρ : Nat → Nm} {w : World} {a : Act} (hr : SR ρ s w) (hf : FR ρ s.nx f a) : ∀ (rs : List ResultVar) (vs : List Value), resVs P f s rs = some vs →
    ∃ us : List Value, (rs.mapM (resS a)).run P w = .ok us w ∧ AR ρ s.nx vs.toArray us.toArray
  | [], vs, h => by
    obtain rfl := Option.some.inj (show some [] = some vs from h)
    exact ⟨[], rfl, rfl, fun i x y hx => by simp at hx⟩
  | r :: rs, vs, h => by
    change Option.rec (motive := fun _ => Option (List Value)) none (fun v => Option.rec (motive := fun _ => Option (List Value)) none (fun vs => some (v :: vs)) (resVs P f s rs)) (resV P f s r) = some vs at h
    rcases h1 : resV P f s r with _ | v
    · rw [h1] at h
      cases h
    · rw [h1] at h
      rcases h2 : resVs P f s rs with _ | vs'
      · rw [h2] at h
        cases h
      · rw [h2] at h
        obtain rfl := Option.some.inj (show some (v :: vs') = some vs from h)
        obtain ⟨u, h3, h4⟩ := resV_ok h1 hr hf
        obtain ⟨us, h5, h6⟩ := resVs_ok hr hf rs vs' h2
        refine ⟨u :: us, ?_, ?_⟩
        · rw [List.mapM_cons]
          simp only [Sem.run_bind, h3, h5, Result.andThen_ok, Sem.run_pure]
        · have := (AR.one h4).append h6
          simpa using this
theorem xRes_ok {fn : Func} {f : T Value} {s s' : St} {v : Value} (h : xRes P fn f s = .ok v s') {ρ : Nat → Nm} {w : World} {a : Act} (hr : SR ρ s w) (hf : FR ρ s.nx f a) : s' = s ∧ ∃ u, (results fn a.tmps).run P w = .ok u w ∧ VR ρ s.nx v u := by
  unfold xRes onOC at h
  rcases h1 : resVs P f s fn.results.toList with _ | vs
  · rw [h1] at h
    cases h
  · rw [h1] at h
    simp only [CR.ok.injEq] at h
    obtain ⟨rfl, rfl⟩ := h
    refine ⟨rfl, ?_⟩
    obtain ⟨us, h2, h3⟩ := resVs_ok hr hf _ _ h1
    have hrun : ∀ u, (if h : us.toArray.size = 1 then us.toArray[0] else .tuple us.toArray) = u → (results fn a.tmps).run P w = .ok u w := fun u hu => by
      have he : results fn a.tmps = (do
          let vs ← fn.results.mapM (resS a)
          pure (if h : vs.size = 1 then vs[0] else .tuple vs)) := by
        unfold results
        congr 1
      rw [he, Array.mapM_eq_mapM_toList]
      simp only [Sem.run_bind, Sem.run_map, h2, Result.andThen_ok, Sem.run_pure]
      rw [← hu]
    refine ⟨_, hrun _ rfl, ?_⟩
    unfold single
    split
    · rename_i v
      have hs : us.toArray.size = 1 := h3.1.symm
      rw [dif_pos hs]
      exact h3.2 0 v _ rfl (Array.getElem?_eq_getElem (by omega))
    · rename_i hne
      have hs : us.toArray.size ≠ 1 := fun e => by
        have h4 : vs.length = 1 := by have := h3.1; simp at this e; omega
        match vs, h4, hne with
        | [v], _, hne => exact hne v rfl
      rw [dif_neg hs]
      exact .tuple _ _ h3.1 h3.2
end
end Go.Proofs.YtjfcjpbolokfcaaGreatDoor.Ev
