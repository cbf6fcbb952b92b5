/-
  An evaluator for closed runs: the operations (2: loads, stores, new blocks, places).
-/
import Derived.Test.YtjfcjpbolokfcaaGreatDoorEv5
namespace Go.Proofs.YtjfcjpbolokfcaaGreatDoor.Ev
open Go

theorem at_add (m : Nm) (o j : Nat) : (m.at o).add j = m.at (o + j) := by
  unfold Addr.add Nm.at
  split
  · rename_i h
    rw [h]
    rfl
  · simp only [Nat.add_assoc]
/-- So many cells of a block. -/
noncomputable def readF (t : T Value) (o : Nat) (n : Nat) : Option (List Value) :=
  Nat.rec (motive := fun _ => Nat → Option (List Value)) (fun _ => some []) (fun _ ih o => match t.get o with
    | some v => match ih (o + 1) with
      | some vs => some (v :: vs)
      | none => none
    | none => none) n o
theorem readF_sound {ρ : Nat → Nm} {nx : Nat} {H : Nat → Option AO} {w : World} (h : HR ρ nx H w) {n k sz fz : Nat} {t : T Value} {e : TypeId} (hn : H n = some (.cells t k e sz fz)) : ∀ (c o : Nat) (vs : List Value), o + c ≤ k → readF t o c = some vs →
    ∃ us : List Value, us.length = c ∧ (∀ j u, us[j]? = some u → w.cell? (((ρ n).at o).add j) = some u) ∧ AR ρ nx vs.toArray us.toArray
  | 0, o, vs, _, hr => by
    obtain rfl := Option.some.inj (show some [] = some vs from hr)
    exact ⟨[], rfl, fun j u hu => by simp at hu, rfl, fun i x y hx => by simp at hx⟩
  | c + 1, o, vs, hc, hr => by
    have hr : (match t.get o with
      | some v => match readF t (o + 1) c with
        | some vs => some (v :: vs)
        | none => none
      | none => none) = some vs := hr
    split at hr
    · rename_i v hv
      split at hr
      · rename_i us hus
        obtain rfl := Option.some.inj hr
        obtain ⟨xs, h1, h2, h3⟩ := readF_sound h hn c (o + 1) us (by omega) hus
        obtain ⟨a, ha, hva⟩ := h.cell hn (o := o) (by omega) hv
        refine ⟨a :: xs, by simp [h1], fun j u hu => ?_, by have := h3.1; simp at this ⊢; exact this, fun i x y hx hy => ?_⟩
        · cases j with
          | zero =>
            simp at hu
            subst hu
            rw [at_add]
            exact ha
          | succ j =>
            have := h2 j u (by simpa using hu)
            rw [at_add] at this ⊢
            rw [show o + (j + 1) = o + 1 + j by omega]
            exact this
        · cases i with
          | zero =>
            simp at hx hy
            subst hx hy
            exact hva
          | succ i => exact h3.2 i x y (by simpa using hx) (by simpa using hy)
      · cases hr
    · cases hr
section
variable {P : Program} {o : Oper} {f : T Value} {s s' : St} {v : Value}
theorem load_run (ev : Operand → Value) {ty : TypeId} {x : Operand} (ho : o.op = .load ty x) : execOp ev o = (do pure (.value (← Instr.loadAt ty (ev x)))) := by unfold execOp; rw [ho]
theorem load_ok {ty : TypeId} {x : Operand} {d : TypeDesc} {n k m sz fz : Nat} {t : T Value} {e : TypeId} (ho : o.op = .load ty x) (hd : P.underlying ty = some d) (ha : isAggD d = false) (hx : evO f x = some (.pointer (some ⟨n, k, none⟩))) (hn : s.h.get n = some (.cells t m e sz fz)) (hk : k < m) (hv : t.get k = some v) : QOk P o f s v := by
  refine qOk_of (sem := fun ev => Instr.loadAt ty (ev x)) (fun ev => load_run ev ho) (fun ρ w a hr hf => ?_)
  have hp := evO_sound hf hx
  obtain ⟨u, hu⟩ : ∃ u, a.eval x = u := ⟨_, rfl⟩
  rw [hu] at hp
  cases hp
  obtain ⟨b, hb, hvb⟩ := hr.cell hn hk hv
  refine ⟨b, ?_, hvb⟩
  rw [hu]
  simp only [Instr.loadAt, Instr.sureAddr, loadVar, Sem.run_bind, Sem.run_pure, Result.andThen_ok, run_isAgg' hd, ha, Bool.false_eq_true, if_false]
  show Sem.run P (.load _ _ .pure) w = _
  unfold Sem.run
  rw [hb]
  rfl
theorem loadAgg_ok {ty : TypeId} {x : Operand} {d : TypeDesc} {i : TypeInfo} {n k m sz fz : Nat} {t : T Value} {e : TypeId} {vs : List Value} (ho : o.op = .load ty x) (hd : P.underlying ty = some d) (ha : isAggD d = true) (hi : P.info? ty = some i) (hx : evO f x = some (.pointer (some ⟨n, k, none⟩))) (hn : s.h.get n = some (.cells t m e sz fz)) (hk : k + i.size ≤ m) (hv : readF t k i.size = some vs) : QOk P o f s (.agg vs.toArray) := by
  refine qOk_of (sem := fun ev => Instr.loadAt ty (ev x)) (fun ev => load_run ev ho) (fun ρ w a hr hf => ?_)
  have hp := evO_sound hf hx
  obtain ⟨u, hu⟩ : ∃ u, a.eval x = u := ⟨_, rfl⟩
  rw [hu] at hp
  cases hp
  obtain ⟨us, h1, h2, h3⟩ := readF_sound hr hn i.size k vs hk hv
  refine ⟨.agg us.toArray, ?_, .agg _ _ h3.1 h3.2⟩
  rw [hu]
  simp only [Instr.loadAt, Instr.sureAddr, loadVar, Sem.run_bind, Sem.run_pure, Result.andThen_ok, run_isAgg' hd, ha, if_true, run_siz hi]
  rw [← h1, run_loadCells_list w _ us h2]
  rfl
end
theorem VR.one {ρ : Nat → Nm} {nx : Nat} {v u : Value} (h : VR ρ nx v u) : u.oneCell' = v.oneCell' := by cases h <;> rfl
theorem VR.cells {ρ : Nat → Nm} {nx : Nat} {v u : Value} (h : VR ρ nx v u) : AR ρ nx v.cells u.cells := by
  have one : ∀ {v u : Value}, VR ρ nx v u → AR ρ nx #[v] #[u] := fun {v u} h => ⟨rfl, fun i x y hx hy => by
    cases i with
    | zero => simp at hx hy; subst hx hy; exact h
    | succ i => simp at hx⟩
  cases h with
  | agg a a' h1 ha => exact ⟨h1, ha⟩
  | bool b => exact one (.bool b)
  | int k n => exact one (.int k n)
  | string s => exact one (.string s)
  | nilPtr => exact one .nilPtr
  | ptr n o h => exact one (.ptr n o h)
  | nilSl => exact one .nilSl
  | sl n o l c h => exact one (.sl n o l c h)
  | fx n o l c h => exact one (.fx n o l c h)
  | tl n o q h => exact one (.tl n o q h)
  | nilMap => exact one .nilMap
  | map n h => exact one (.map n h)
  | nilFunc => exact one .nilFunc
  | nilIface => exact one .nilIface
  | func f a b a' b' h1 h2 ha hb => exact one (.func f a b a' b' h1 h2 ha hb)
  | iface t v u h => exact one (.iface t v u h)
  | tuple a a' h1 ha => exact one (.tuple a a' h1 ha)
/-- Cells are written from a place on. -/
noncomputable def writeF (vs : List Value) : T Value → Nat → T Value := List.rec (motive := fun _ => T Value → Nat → T Value) (fun t _ => t) (fun v _ ih t o => ih (t.set v o) (o + 1)) vs
theorem storeCells_sim (P : Program) {ρ : Nat → Nm} {nx n k sz fz o : Nat} {e : TypeId} : ∀ (vs us : List Value) (i : Nat) (t : T Value) (H : Nat → Option AO) (w : World), HR ρ nx H w → H n = some (.cells t k e sz fz) → vs.length = us.length → (∀ (j : Nat) x y, vs[j]? = some x → us[j]? = some y → VR ρ nx x y) → (∀ x ∈ vs, x.oneCell' = true) → fz ≤ o + i → o + i + vs.length ≤ k →
    ∃ w', (storeCells ((ρ n).at o) us i).run P w = .ok () w' ∧ Step ρ nx H w ρ nx (updH H n (some (.cells (writeF vs t (o + i)) k e sz fz))) w'
  | [], [], i, t, H, w, h, hn, _, _, _, _, _ => ⟨w, rfl, (Step.refl h).less (fun m a hm => by
      rcases updH_get hm with ⟨rfl, e⟩ | ⟨_, hm⟩
      · exact hn.trans e
      · exact hm)⟩
  | [], _ :: _, _, _, _, _, _, _, hl, _, _, _, _ => by simp at hl
  | _ :: _, [], _, _, _, _, _, _, hl, _, _, _, _ => by simp at hl
  | v :: vs, u :: us, i, t, H, w, h, hn, hl, hv, h1, hz, hk => by
    have h0 := hv 0 v u rfl rfl
    have hk2 : o + i < k := by simp at hk; omega
    obtain ⟨⟨b, hb⟩, hfz⟩ := h.store_ok hn hk2 hz
    have st := h.store (o := o + i) hn h0
    obtain ⟨w', hr, st2⟩ := storeCells_sim P (n := n) (k := k) (sz := sz) (fz := fz) (o := o) (e := e) vs us (i + 1) (t.set v (o + i)) _ _ st.hr (updH_at _ _ _) (by simpa using hl) (fun j x y hx hy => hv (j + 1) x y (by simpa using hx) (by simpa using hy)) (fun x hx => h1 x (List.mem_cons_of_mem _ hx)) (by omega) (by simp at hk; omega)
    refine ⟨w', ?_, ?_⟩
    · have hone : u.oneCell' = true := by rw [h0.one]; exact h1 v List.mem_cons_self
      show (do store (((ρ n).at o).add i) u; storeCells ((ρ n).at o) us (i + 1) : Sem Unit).run P w = _
      rw [Sem.run_bind, run_store P w _ u _ hone, at_add, hb]
      simp only [hfz, Bool.false_eq_true, if_false, Result.andThen_ok]
      exact hr
    · have := st.trans st2
      rw [updH_twice] at this
      exact this
section
variable {P : Program} {o : Oper} {f : T Value} {s s' : St} {v : Value}
theorem store_ok {ty : TypeId} {x y : Operand} {i : TypeInfo} {n k m sz fz : Nat} {t : T Value} {e : TypeId} (ho : o.op = .store ty x y) (hi : P.info? ty = some i) (hx : evO f x = some (.pointer (some ⟨n, k, none⟩))) (hy : evO f y = some v) (hsz : v.cells.size = i.size) (h1 : v.cells.toList.all (·.oneCell') = true) (hn : s.h.get n = some (.cells t m e sz fz)) (hz : fz ≤ k) (hk : k + i.size ≤ m) :
    SkipOk P o f s ⟨s.h.set (.cells (writeF v.cells.toList t k) m e sz fz) n, s.nx⟩ := by
  refine skipOk_of (sem := fun ev => Instr.storeAt ty (ev x) (ev y)) (fun ev => by unfold execOp; rw [ho]) (fun ρ w a hr hf => ?_)
  have hp := evO_sound hf hx
  have hv := evO_sound hf hy
  obtain ⟨u, hu⟩ : ∃ u, a.eval x = u := ⟨_, rfl⟩
  rw [hu] at hp
  cases hp
  have hc := hv.cells
  obtain ⟨w', hw, st⟩ := storeCells_sim P (o := k) v.cells.toList (a.eval y).cells.toList 0 t s.h.get w hr hn (by simpa using hc.1) (fun j p q hp hq => hc.2 j p q (by simpa using hp) (by simpa using hq)) (fun p hp => List.all_eq_true.1 h1 p hp) (by omega) (by simp [hsz]; omega)
  refine ⟨ρ, w', ?_, st.less get_updH⟩
  rw [hu]
  simp only [Instr.storeAt, Instr.sureAddr, storeVar, Sem.run_bind, Sem.run_pure, Result.andThen_ok, run_siz hi]
  have he : ¬ (a.eval y).cells.size ≠ i.size := by rw [← hc.1, hsz]; simp
  rw [if_neg he]
  simpa using hw
end
end Go.Proofs.YtjfcjpbolokfcaaGreatDoor.Ev
