/-
  An evaluator for closed runs: regions that draw their order (4: the whole).
  An evaluator for closed runs: ranges over functions (1: a loop's record, and the marks among the deferred calls).
  An evaluator for closed runs: regions that draw their order (5: a map literal: entries in whatever order).
  An evaluator for closed runs: regions that draw their order (6: a map literal, checked).
-/
import Derived.Test.YthdjicolicokcaaGreatDoorDn05
namespace Go.Proofs.YthdjicolicokcaaGreatDoor.Ev
open Go
section
variable {P : Program} {cl : Cl} {N : Nat} {ds : List Deferred} {ro : Option Nat} {ops : Array Oper} {ρ0 : Nat → Nm} {s0 : St} {w0 : World}
variable {L : Array Bool} {D : List Nat} {f : T Value} {s : St} {a c : Act} {w : World} {ρ : Nat → Nm} {B : Nat → Nat}
theorem Rel.synced (R : Rel P N ds ops ρ0 s0 w0 L D f s a w ρ c B) (S : Slots P N ops) {j : Nat} {o : Oper} (ho : ops[j]? = some o) (hj : j ∉ D) (hr : j ∈ Region.ready .any ops L) {v u : Value} {s' : St} {ρ' : Nat → Nm} {w' : World} (h5 : SStep ρ s w ρ' s' w') (h6 : VR ρ' s'.nx v u)
    (hp : ∀ (i : Nat) (ok : Oper), ops[i]? = some ok → i ∈ D → ¬ li L i → quiet ok = true → Pend P N ops ρ' s' (c.put o.dst u) ok) : Rel P N ds ops ρ0 s0 w0 (L.setIfInBounds j true) (j :: D) (put N o.dst v f) s' (a.put o.dst u) w' ρ' (c.put o.dst u) B := by
  obtain ⟨hl, hb⟩ := (ready_iff R.lsz ho).1 hr
  have hlt : j < L.size := by rw [R.lsz]; exact (Array.getElem?_eq_some_iff.1 ho).1
  have hsz : a.tmps.size = c.tmps.size := R.asz.trans R.fits.size.symm
  have was : ∀ {i}, i ∉ j :: D → li (L.setIfInBounds j true) i → i ≠ j ∧ i ∉ D ∧ li L i := fun {i} h1 h2 => by
    have hij : i ≠ j := fun e => h1 (e ▸ List.mem_cons_self)
    exact ⟨hij, fun h => h1 (List.mem_cons_of_mem _ h), ((li_set hlt).1 h2).resolve_left hij⟩
  refine ⟨R.st.trans h5, R.fits.put h5.ext o.dst h6, by rw [put_size]; exact R.asz, by rw [put_defers0]; exact R.adf, by simp [R.lsz], fun i oi hi hli e he => ?_, fun t h1 h2 => ?_, fun i oi hi hiD hli => ?_, fun i oi hi hiD hli => ?_, fun i k oi ok hi hk hiD hkD hli hlk he => ?_⟩
  · rw [li_set hlt] at hli ⊢
    rcases hli with rfl | hli
    · obtain rfl := Option.some.inj (ho.symm.trans hi)
      exact .inr (hb e he)
    · exact .inr (R.lcl i oi hi hli e he)
  · refine put_both hsz o.dst u t ?_
    by_cases htd : o.dst = some t
    · exact .inl htd
    · refine .inr (R.agree t (fun i oi hi hiD hli he => ?_) (fun i oi hi hiD hli he => ?_))
      · exact h1 i oi hi (List.mem_cons_of_mem _ hiD) (fun h => by rcases (li_set hlt).1 h with h | h; exact hj (h ▸ hiD); exact hli h) he
      · refine h2 i oi hi (fun h => ?_) ((li_set hlt).2 (.inr hli)) he
        rcases List.mem_cons.1 h with h | h
        · exact hl (h ▸ hli)
        · exact hiD h
  · have hij : i ≠ j := fun e => hli ((li_set hlt).2 (.inl e))
    have hiD2 : i ∈ D := (List.mem_cons.1 hiD).resolve_left hij
    have hli2 : ¬ li L i := fun h => hli ((li_set hlt).2 (.inr h))
    have hq := (R.pend i oi hi hiD2 hli2).1
    exact ⟨hq, hp i oi hi hiD2 hli2 hq⟩
  · obtain ⟨hij, hiD2, hli2⟩ := was hiD hli
    obtain ⟨hA, ty, d, inf, z, g1, g2, g3, g4, g5, g6, g7, g8, g9⟩ := R.early i oi hi hiD2 hli2
    have hlt2 : B i < w.heap.size := by
      rcases Nat.lt_or_ge (B i) w.heap.size with h | h
      · exact h
      · rw [Array.getElem?_eq_none h] at g8
        cases g8
    refine ⟨hA, ty, d, inf, z, g1, g2, g3, g4, g5, ?_, g7, ?_, fun n x hn he => ?_⟩
    · rw [put_at a o.dst u d (fun h => S.one i j oi o d hi ho hij g2 (.inr hA) h)]
      exact g6
    · rw [h5.fr.block _ hlt2 g9]
      exact g8
    · rcases h5.liv n x hn with h1 | ⟨m, y, h1, h2⟩
      · omega
      · exact g9 m y h1 (h2.trans he)
  · obtain ⟨_, hiD2, hli2⟩ := was hiD hli
    obtain ⟨_, hkD2, hlk2⟩ := was hkD hlk
    exact R.dist i k oi ok hi hk hiD2 hkD2 hli2 hlk2 he
theorem step_adopt (h : SStep ρ0 s0 w0 ρ s w) {b : Nat} {ty : TypeId} {z : Value} (hz : flat z = true) (hb : w.heap[b]? = some (.cells z.cells ty (0, 0))) (h0 : w0.heap.size ≤ b) (hn : ∀ n x, s.h.get n = some x → (ρ n).b ≠ b) :
    SStep ρ0 s0 w0 (upd ρ s.nx ⟨b, 0, 0⟩) (s.new (.cells (ofL z.cells.toList) z.cells.size ty 0 0)) w := by
  have hx := upd_ext ρ s.nx ⟨b, 0, 0⟩
  have key : Step ρ0 s0.nx s0.h.get w0 (upd ρ s.nx ⟨b, 0, 0⟩) (s.nx + 1) (updH s.h.get s.nx (some (.cells (ofL z.cells.toList) z.cells.size ty 0 0))) w := by
    refine ⟨h.ext.trans hx, ⟨fun n o' hm => ?_, fun n m o1 o2 h1 h2 he => ?_⟩, h.fr, fun n o' hm => ?_⟩
    · rcases updH_get hm with ⟨rfl, e⟩ | ⟨hne, hm⟩
      · obtain rfl := Option.some.inj e
        refine ⟨Nat.lt_succ_self _, ?_⟩
        rw [upd_at]
        refine ⟨z.cells, (0, 0), fun _ => rfl, hb, by simp, fun i v hi hg => ?_, by simp⟩
        have hg2 := ofL_get hg
        obtain ⟨u, hu, hr⟩ := ((flat_vr (ρ := upd ρ s.nx ⟨b, 0, 0⟩) (nx := s.nx + 1) hz).cells).at (i := i) (x := v) (by simpa using hg2)
        exact ⟨u, by simpa using hu, hr⟩
      · have h1 := h.hr.obj n o' hm
        refine ⟨Nat.lt_succ_of_lt h1.1, ?_⟩
        rw [hx.2 n h1.1]
        exact h1.2.mono hx
    · rcases updH_get h1 with ⟨g1, _⟩ | ⟨hne, g1⟩ <;> rcases updH_get h2 with ⟨g2, _⟩ | ⟨hme, g2⟩
      · exact g1.trans g2.symm
      · rw [g1, upd_at, hx.2 m (h.hr.obj m _ g2).1] at he
        exact absurd he.symm (hn m _ g2)
      · rw [g2, upd_at, hx.2 n (h.hr.obj n _ g1).1] at he
        exact absurd he (hn n _ g1)
      · rw [hx.2 n (h.hr.obj n _ g1).1, hx.2 m (h.hr.obj m _ g2).1] at he
        exact h.hr.inj n m o1 o2 g1 g2 he
    · rcases updH_get hm with ⟨rfl, _⟩ | ⟨hne, hm⟩
      · exact .inl (by rw [upd_at]; exact h0)
      · rw [hx.2 n (h.hr.obj n _ hm).1]
        exact h.liv n o' hm
  exact key.less get_updH
theorem Rel.adopted (R : Rel P N ds ops ρ0 s0 w0 L D f s a w ρ c B) {j : Nat} {o : Oper} (ho : ops[j]? = some o) (hj : j ∉ D) (hl : li L j) {ty : TypeId} {inf : TypeInfo} {z : Value} (hop : o.op = .alloc ty) (hi : P.info? ty = some inf) (hz : inf.zero = some z) (hfz : flat z = true)
    (hp : ∀ (ρ' : Nat → Nm) (c' : Act), SR ρ' (s.new (.cells (ofL z.cells.toList) z.cells.size ty 0 0)) w → Fits ρ' N ds (s.nx + 1) (put N o.dst (.pointer (some ⟨s.nx, 0, none⟩)) f) c' → ∀ (i : Nat) (ok : Oper), ops[i]? = some ok → i ∈ D → ¬ li L i → quiet ok = true → Pend P N ops ρ' (s.new (.cells (ofL z.cells.toList) z.cells.size ty 0 0)) c' ok) :
    ∃ ρ' c', Rel P N ds ops ρ0 s0 w0 L (j :: D) (put N o.dst (.pointer (some ⟨s.nx, 0, none⟩)) f) (s.new (.cells (ofL z.cells.toList) z.cells.size ty 0 0)) a w ρ' c' B := by
  obtain ⟨hA, ty', d, inf', z', g1, g2, g3, g4, g5, g6, g7, g8, g9⟩ := R.early j o ho hj hl
  rw [hop] at g1
  obtain rfl : ty = ty' := by injection g1
  obtain rfl := Option.some.inj (hi.symm.trans g4)
  obtain rfl := Option.some.inj (hz.symm.trans g5)
  have st := step_adopt R.st hfz g8 g7 g9
  have ft := R.fits.put (upd_ext ρ s.nx ⟨B j, 0, 0⟩) o.dst (ptr_new ρ s.nx (B j))
  have hx := upd_ext ρ s.nx ⟨B j, 0, 0⟩
  refine ⟨_, _, st, ft, R.asz, R.adf, R.lsz, R.lcl, fun t h1 h2 => ?_, fun i oi hi hiD hli => ?_, fun i oi hi hiD hli => ?_, fun i k oi ok hi hk hiD hkD hli hlk he => R.dist i k oi ok hi hk (fun h => hiD (List.mem_cons_of_mem _ h)) (fun h => hkD (List.mem_cons_of_mem _ h)) hli hlk he⟩
  · by_cases htd : o.dst = some t
    · rw [g2] at htd
      obtain rfl := Option.some.inj htd
      rw [g2, put_self c d _ (by rw [R.fits.size]; exact g3)]
      exact g6
    · rw [put_at c o.dst _ t htd]
      refine R.agree t (fun i oi hi hiD hli => h1 i oi hi (List.mem_cons_of_mem _ hiD) hli) (fun i oi hi hiD hli => ?_)
      by_cases hij : i = j
      · subst hij
        obtain rfl := Option.some.inj (ho.symm.trans hi)
        exact htd
      · exact h2 i oi hi (fun h => by rcases List.mem_cons.1 h with h | h; exact hij h; exact hiD h) hli
  · have hij : i ≠ j := fun e => hli (e ▸ hl)
    have hiD2 : i ∈ D := (List.mem_cons.1 hiD).resolve_left hij
    have hq := (R.pend i oi hi hiD2 hli).1
    exact ⟨hq, hp _ _ st.hr ft i oi hi hiD2 hli hq⟩
  · have hij : i ≠ j := fun e => hiD (e ▸ List.mem_cons_self)
    have hiD2 : i ∉ D := fun h => hiD (List.mem_cons_of_mem _ h)
    obtain ⟨hA', ty', d', inf', z', k1, k2, k3, k4, k5, k6, k7, k8, k9⟩ := R.early i oi hi hiD2 hli
    refine ⟨hA', ty', d', inf', z', k1, k2, k3, k4, k5, k6, k7, k8, fun n x hn he => ?_⟩
    rcases updH_get (get_updH n x hn) with ⟨rfl, _⟩ | ⟨hne, hm⟩
    · rw [upd_at] at he
      exact hij (R.dist i j oi o hi ho hiD2 hj hli hl he.symm)
    · rw [hx.2 n (R.st.hr.obj n _ hm).1] at he
      exact k9 n x hm he
def Chain (ops : Array Oper) : List Nat → Prop
  | [] => True
  | i :: D => (∃ o, ops[i]? = some o ∧ ∀ e, bit (mask o) e = true → e ∈ D) ∧ Chain ops D
theorem Chain.closed {D : List Nat} (h : Chain ops D) (k : Nat) (ok : Oper) (hk : ops[k]? = some ok) (hm : k ∈ D) (e : Nat) (he : bit (mask ok) e = true) : e ∈ D := by
  induction D with
  | nil => cases hm
  | cons i D ih =>
    obtain ⟨⟨o, h1, h2⟩, h3⟩ := h
    rcases List.mem_cons.1 hm with rfl | hm
    · obtain rfl := Option.some.inj (h1.symm.trans hk)
      exact List.mem_cons_of_mem _ (h2 e he)
    · exact List.mem_cons_of_mem _ (ih h3 hm)
theorem Chain.first : ∀ {D : List Nat}, Chain ops D → (∃ i ∈ D, ¬ li L i) → ∃ i ∈ D, ¬ li L i ∧ ∃ o, ops[i]? = some o ∧ ∀ e, bit (mask o) e = true → li L e
  | [], _, ⟨i, hi, _⟩ => by cases hi
  | i :: D, ⟨⟨o, h1, h2⟩, h3⟩, ⟨k, hk, hl⟩ => by
    by_cases h : ∃ i ∈ D, ¬ li L i
    · obtain ⟨i', g1, g2⟩ := h3.first h
      exact ⟨i', List.mem_cons_of_mem _ g1, g2⟩
    · have all : ∀ e ∈ D, li L e := fun e he => Classical.byContradiction fun hn => h ⟨e, he, hn⟩
      rcases List.mem_cons.1 hk with rfl | hk
      · exact ⟨k, List.mem_cons_self, hl, o, h1, fun e he => all e (h2 e he)⟩
      · exact absurd (all k hk) hl
theorem clos_li : ∀ (D : List Nat) (m : Nat), (∀ (i : Nat) (o : Oper), ops[i]? = some o → li L i → ∀ e, bit (mask o) e = true → li L e) → (∀ e, bit m e = true → li L e) → ∀ e, bit (clos ops D m) e = true → li L e
  | [], m, _, hm, e, he => hm e he
  | i :: D, m, hl, hm, e, he => by
    change bit (Bool.rec (motive := fun _ => Nat) (clos ops D m) (Option.rec (motive := fun _ => Nat) (clos ops D m) (fun o => forceL (Nat.lor m (mask o)) (clos ops D)) (nth ops.toList i)) (bit m i)) e = true at he
    rcases hb : bit m i with _ | _
    · rw [hb] at he
      exact clos_li D m hl hm e he
    · rw [hb, nth_arr] at he
      rcases ho : ops[i]? with _ | o
      · rw [ho] at he
        exact clos_li D m hl hm e he
      · rw [ho] at he
        simp only [forceL_eq] at he
        refine clos_li D _ hl (fun x hx => ?_) e he
        rcases (bit_lor _ _ _).1 hx with hx | hx
        · exact hm x hx
        · exact hl i o ho (hm i hb) x hx
theorem behind_mem {m : Nat} (D : List Nat) (k : Nat) (o : Oper) (hk : k ∈ D) (ho : ops[k]? = some o) (hq : quiet o = true) (hb : ¬ bit m k = true) : k ∈ behind ops m D := by
  induction D with
  | nil => cases hk
  | cons i D ih =>
    show k ∈ Bool.rec (motive := fun _ => List Nat) (Option.rec (motive := fun _ => List Nat) (behind ops m D) (fun o => Bool.rec (motive := fun _ => List Nat) (behind ops m D) (i :: behind ops m D) (quiet o)) (nth ops.toList i)) (behind ops m D) (bit m i)
    rcases List.mem_cons.1 hk with rfl | hk
    · have hb0 : bit m k = false := by
        rcases h : bit m k with _ | _
        · rfl
        · exact absurd h hb
      rw [hb0, nth_arr, ho]
      simp only [hq]
      exact List.mem_cons_self
    · have ih := ih hk
      rcases bit m i with _ | _
      · rw [nth_arr]
        rcases ops[i]? with _ | oi
        · exact ih
        · simp only
          rcases quiet oi with _ | _
          · exact ih
          · exact List.mem_cons_of_mem _ ih
      · exact ih
theorem behind_quiet {m : Nat} : ∀ (D : List Nat) (k : Nat), k ∈ behind ops m D → ∀ o, ops[k]? = some o → quiet o = true
  | [], k, hk, _, _ => by cases hk
  | i :: D, k, hk, o, ho => by
    change k ∈ Bool.rec (motive := fun _ => List Nat) (Option.rec (motive := fun _ => List Nat) (behind ops m D) (fun o => Bool.rec (motive := fun _ => List Nat) (behind ops m D) (i :: behind ops m D) (quiet o)) (nth ops.toList i)) (behind ops m D) (bit m i) at hk
    rcases hb : bit m i with _ | _
    · rw [hb, nth_arr] at hk
      rcases hoi : ops[i]? with _ | oi
      · rw [hoi] at hk
        exact behind_quiet D k hk o ho
      · rw [hoi] at hk
        simp only at hk
        rcases hq : quiet oi with _ | _
        · rw [hq] at hk
          exact behind_quiet D k hk o ho
        · rw [hq] at hk
          rcases List.mem_cons.1 hk with rfl | hk
          · obtain rfl := Option.some.inj (ho.symm.trans hoi)
            exact hq
          · exact behind_quiet D k hk o ho
    · rw [hb] at hk
      exact behind_quiet D k hk o ho
theorem xOp_alloc {ty : TypeId} {o : Oper} {k : K} (ho : o.op = .alloc ty) (h : (xOp P cl o f s k).ok) : ∃ i z, P.info? ty = some i ∧ i.zero = some z ∧ flat z = true ∧ xOp P cl o f s k = k (.pointer (some ⟨s.nx, 0, none⟩)) (s.new (.cells (ofL z.cells.toList) z.cells.size ty 0 0)) := by
  have e : xOp P cl o f s k = xAlloc P ty s k := by unfold xOp xOpF xOpT; rw [ho]
  rw [e] at h ⊢
  have key : W (fun r => ∃ i z, P.info? ty = some i ∧ i.zero = some z ∧ flat z = true ∧ r = k (.pointer (some ⟨s.nx, 0, none⟩)) (s.new (.cells (ofL z.cells.toList) z.cells.size ty 0 0))) (xAlloc P ty s k) :=
    onO_w fun i hi => onO_w fun z hz => onB_w fun hf => newS_w (fun _ => ⟨i, z, hi, hz, hf, rfl⟩)
  exact key h
theorem xDr_quiet {i : Nat} {p : List Nat} {o : Oper} (ho : ops[i]? = some o) (hq : quiet o = true) : xDr P cl N ops (i :: p) D f s = guardR ops o f (xOp P cl o f s (fun v s => xDr P cl N ops p (i :: D) (put N o.dst v f) s)) (xDr P cl N ops p (i :: D) (put N o.dst undef f) s) := by
  show onO 203 (nth ops.toList i) _ = _
  rw [nth_arr, ho]
  show Bool.rec (motive := fun _ => R) _ _ (quiet o) = _
  rw [hq]
  rfl
theorem xDr_loud {i : Nat} {p : List Nat} {o : Oper} (ho : ops[i]? = some o) (hq : quiet o = false) : xDr P cl N ops (i :: p) D f s = guardR ops o f (xOp P cl o f s (fun v s => again P cl N ops (behind ops (clos ops D (mask o)) D) (put N o.dst v f) s (xDr P cl N ops p (i :: D) (put N o.dst v f) s))) (again P cl N ops (behind ops (clos ops D (mask o)) D) (put N o.dst undef f) s (xDr P cl N ops p (i :: D) (put N o.dst undef f) s)) := by
  show onO 203 (nth ops.toList i) _ = _
  rw [nth_arr, ho]
  show Bool.rec (motive := fun _ => R) _ _ (quiet o) = _
  rw [hq]
  rfl
theorem saturate (S : Slots P N ops) : ∀ (p D : List Nat) (f : T Value) (s : St) (c : Act) (ρ : Nat → Nm), Rel P N ds ops ρ0 s0 w0 L D f s a w ρ c B → OrdOk P N ops p D → Chain ops D → (xDr P cl N ops p D f s).ok →
    ∃ p' D' f' s' c' ρ', Rel P N ds ops ρ0 s0 w0 L D' f' s' a w ρ' c' B ∧ OrdOk P N ops p' D' ∧ Chain ops D' ∧ xDr P cl N ops p' D' f' s' = xDr P cl N ops p D f s ∧ ∀ i q, p' = i :: q → ∃ o, ops[i]? = some o ∧ quiet o = false ∧ (isA P N o = true → ¬ li L i)
  | [], D, f, s, c, ρ, R, hO, hC, hok => ⟨[], D, f, s, c, ρ, R, hO, hC, rfl, fun i q h => by cases h⟩
  | i :: p, D, f, s, c, ρ, R, hO, hC, hok => by
    obtain ⟨hi, o, ho, hm, _, hO2⟩ := hO
    have hC2 : Chain ops (i :: D) := ⟨⟨o, ho, hm⟩, hC⟩
    rcases hq : quiet o with _ | _
    · by_cases hA : isA P N o = true ∧ li L i
      · obtain ⟨hA, hl⟩ := hA
        obtain ⟨ty, d, inf, z, e1, e2, e3, e4, e5, e6⟩ := isA_is hA
        rw [xDr_loud ho hq] at hok ⊢
        have hg : ∀ x y : Ev.R, guardR ops o f x y = x := fun x y => by unfold guardR; rw [e3]
        rw [hg] at hok ⊢
        obtain ⟨inf', z', k1, k2, k3, k4⟩ := xOp_alloc e1 hok
        rw [k4] at hok
        obtain ⟨k5, k6, k7⟩ := again_is _ hok (behind_quiet _)
        rw [k4.trans k5]
        have hcl : ∀ (k : Nat), ¬ li L k → ¬ bit (clos ops D (mask o)) k = true := fun k hk hb => hk (clos_li D _ R.lcl (fun e he => R.lcl i o ho hl e he) k hb)
        obtain ⟨ρ', c', R'⟩ := R.adopted ho hi hl e1 k1 k2 k3 (fun ρ' c' hs hf k ok hk hkD hkL hkq => k7 ρ' w c' hs hf k ok (behind_mem D k ok hkD hk hkq (hcl k hkL)) hk)
        exact saturate S p (i :: D) _ _ c' ρ' R' hO2 hC2 k6
      · exact ⟨i :: p, D, f, s, c, ρ, R, ⟨hi, o, ho, hm, by assumption, hO2⟩, hC, rfl, fun j q e => by
          obtain ⟨rfl, rfl⟩ := List.cons.inj e
          exact ⟨o, ho, hq, fun h1 h2 => hA ⟨h1, h2⟩⟩⟩
    · rw [xDr_quiet ho hq] at hok ⊢
      rcases guardR_or R.fits.fr hok with ⟨h1, h2⟩ | ⟨h1, h2⟩
      · rw [h2] at hok ⊢
        obtain ⟨v, h3, h4⟩ := xOp_q hq hok
        rw [h3] at hok ⊢
        obtain ⟨u, _, h6⟩ := h4 ρ w c R.st.hr R.fits.fr
        exact saturate S p (i :: D) _ _ _ ρ (R.absorb S hC.closed ho hi hq (.inr ⟨h1, h4, h6⟩)) hO2 hC2 hok
      · rw [h2] at hok ⊢
        exact saturate S p (i :: D) _ _ _ ρ (R.absorb S hC.closed ho hi hq (.inl ⟨h1, rfl, rfl⟩)) hO2 hC2 hok
theorem Rel.over (R : Rel P N ds ops ρ0 s0 w0 L D f s a w ρ c B) {p : List Nat} (hO : OrdOk P N ops p D) (hC : Chain ops D) (hsat : ∀ i q, p = i :: q → ∃ o, ops[i]? = some o ∧ quiet o = false ∧ (isA P N o = true → ¬ li L i)) (hr : Region.ready .any ops L = []) : EndR N ds ρ0 s0 w0 (xDr P cl N ops p D f s) .normal a w := by
  have none : ∀ i o, ops[i]? = some o → ¬ li L i → (∀ e, bit (mask o) e = true → li L e) → False := fun i o ho hl hb => by
    have := (ready_iff R.lsz ho).2 ⟨hl, hb⟩
    rw [hr] at this
    cases this
  have allD : ∀ i ∈ D, li L i := fun i hi => Classical.byContradiction fun hl => by
    obtain ⟨k, _, hkl, o, ho, hb⟩ := hC.first ⟨i, hi, hl⟩
    exact none k o ho hkl hb
  cases p with
  | nil =>
    have hin : ∀ i o, ops[i]? = some o → i ∈ D := hO
    refine ⟨ρ, R.st, ?_⟩
    have e : a.tmps = c.tmps := by
      apply Array.ext
      · exact R.asz.trans R.fits.size.symm
      · intro t h1 h2
        have := R.agree t (fun i o hi hiD hl => absurd (allD i hiD) hl) (fun i o hi hiD _ => absurd (hin i o hi) hiD)
        rw [Array.getElem?_eq_getElem h1, Array.getElem?_eq_getElem h2] at this
        exact Option.some.inj this
    refine ⟨fun t v hv => ?_, R.asz, R.adf⟩
    rw [e]
    exact R.fits.fr t v hv
  | cons i q =>
    obtain ⟨o, ho, hq, hA⟩ := hsat i q rfl
    obtain ⟨hi, o', ho', hm, _, _⟩ := hO
    obtain rfl := Option.some.inj (ho.symm.trans ho')
    have hl : li L i := Classical.byContradiction fun hl => none i o ho hl (fun e he => allD e (hm e he))
    exact absurd hl (hA (R.early i o ho hi hl).1)
theorem count_set_lt {i : Nat} (hi : i < L.size) (hl : ¬ li L i) {n : Nat} (h : L.count false ≤ n + 1) : (L.setIfInBounds i true).count false ≤ n := by
  have hg : L[i] = false := by
    unfold li at hl
    simp [hi] at hl
    exact hl
  have e : L.setIfInBounds i true = L.set i true hi := by
    unfold Array.setIfInBounds
    rw [dif_pos hi]
  rw [e, Array.count_set hi, hg]
  simp
  omega
theorem val_wp {o : Oper} {u : Value} {w' : World} {next : Act → World → Prop} {Q : Exit → Act → World → Prop} (h : (execOp a.eval o).run P w = .ok (.value u) w') (hn : next (a.put o.dst u) w') : o.wpIn (fz ro) 0 P a w next Q :=
  Does.wp (X := fun x y => x = u ∧ y = w') ro (by unfold Does; rw [h]; exact ⟨rfl, rfl⟩) (fun x y ⟨e1, e2⟩ => by subst e1 e2; exact hn)
theorem drawn_any (hcl : ClOk P cl) (S : Slots P N ops) : ∀ (fuel : Nat) (L : Array Bool) (a : Act) (w : World) (p D : List Nat) (f : T Value) (s : St) (c : Act) (ρ : Nat → Nm) (B : Nat → Nat), Rel P N ds ops ρ0 s0 w0 L D f s a w ρ c B → OrdOk P N ops p D → Chain ops D → (xDr P cl N ops p D f s).ok → L.count false ≤ fuel →
    wpAnyIn (fz ro) 0 P .any ops (EndR N ds ρ0 s0 w0 (xDr P cl N ops p D f s)) fuel L a w
  | fuel, L, a, w, p, D, f, s, c, ρ, B, R, hO, hC, hok, hf => by
    obtain ⟨p', D', f', s', c', ρ', R', hO', hC', he, hsat⟩ := saturate S p D f s c ρ R hO hC hok
    rw [← he] at hok ⊢
    have fin : Region.ready .any ops L = [] → EndR N ds ρ0 s0 w0 (xDr P cl N ops p' D' f' s') .normal a w := fun hr => R'.over hO' hC' hsat hr
    cases fuel with
    | zero =>
      have hr : Region.ready .any ops L = [] := by
        rcases hrl : Region.ready .any ops L with _ | ⟨i, l⟩
        · rfl
        · exfalso
          have hi : i ∈ Region.ready .any ops L := by rw [hrl]; exact List.mem_cons_self
          obtain ⟨h1, o, ho, _⟩ := mem_ready.1 hi
          have hlt : i < L.size := by rw [R'.lsz]; exact (Array.getElem?_eq_some_iff.1 ho).1
          have hg : L[i] = false := by simpa [hlt] using h1
          have : 0 < L.count false := Array.count_pos_iff.2 (hg ▸ Array.getElem_mem hlt)
          omega
      exact ⟨hr, fin hr⟩
    | succ n =>
      refine ⟨fin, fun i hi => ?_⟩
      obtain ⟨_, o, ho, _⟩ := mem_ready.1 hi
      obtain ⟨hl, hb⟩ := (ready_iff R'.lsz ho).1 hi
      have hlt : i < L.size := by rw [R'.lsz]; exact (Array.getElem?_eq_some_iff.1 ho).1
      have hcnt := count_set_lt hlt hl hf
      unfold wpOpIn
      rw [ho]
      simp only
      by_cases hiD : i ∈ D'
      · obtain ⟨u, h1, R2⟩ := R'.pended S ho hiD hi (hC'.closed i o ho hiD)
        have next := drawn_any hcl S n _ _ _ p' D' f' s' c' ρ' B R2 hO' hC' hok hcnt
        rcases h1 with ⟨h1, h2⟩ | ⟨h1, rfl⟩
        · rw [if_pos h1]
          exact val_wp h2 next
        · rw [if_neg (by rw [h1]; decide)]
          exact ⟨fun _ _ => trivial, next⟩
      · by_cases hA : isA P N o = true
        · obtain ⟨h1, u, w', h2, B', R2⟩ := R'.laid S ho hiD hA hi
          have next := drawn_any hcl S n _ _ _ p' D' f' s' c' ρ' B' R2 hO' hC' hok hcnt
          rw [if_pos h1]
          exact val_wp h2 next
        · have hA : isA P N o = false := by simpa using hA
          cases p' with
          | nil => exact absurd (hO' i o ho) hiD
          | cons j q =>
            obtain ⟨oj, hoj, hqj, hAj⟩ := hsat j q rfl
            obtain ⟨hj, oj', hoj', hm, huniq, hO2⟩ := hO'
            obtain rfl := Option.some.inj (hoj.symm.trans hoj')
            have hij : i = j := Classical.byContradiction fun hne => by
              rcases huniq hqj i o ho hiD hne hA with h1 | ⟨e, h1, h2, h3⟩
              · have h4 := hb j h1
                exact hAj (R'.early j oj hoj hj h4).1 h4
              · have h4 := hb e h1
                have hlt2 : e < ops.size := by
                  rw [← R'.lsz]
                  rcases Nat.lt_or_ge e L.size with h | h
                  · exact h
                  · unfold li at h4
                    simp [h] at h4
                have h5 := (R'.early e ops[e] (Array.getElem?_eq_getElem hlt2) h2 h4).1
                rw [h3 _ (Array.getElem?_eq_getElem hlt2)] at h5
                cases h5
            subst hij
            obtain rfl := Option.some.inj (ho.symm.trans hoj)
            have hC2 : Chain ops (i :: D') := ⟨⟨o, ho, hm⟩, hC'⟩
            have hcl2 : ∀ (k : Nat), ¬ li L k → ¬ bit (clos ops D' (mask o)) k = true := fun k hk hbk => hk (clos_li D' _ R'.lcl hb k hbk)
            obtain ⟨hev, hwt⟩ := same_looks (R'.looks S ho hb hl hm (fun h => absurd h hiD))
            rw [xDr_loud ho hqj] at hok ⊢
            rcases guardR_or R'.fits.fr hok with ⟨h1, h2⟩ | ⟨h1, h2⟩
            · rw [h2] at hok ⊢
              obtain ⟨v, s2, h3, h4⟩ := xOp_v hcl hok
              rw [h3] at hok
              obtain ⟨k5, k6, k7⟩ := again_is _ hok (behind_quiet _)
              rw [h3.trans k5]
              rw [if_pos (by rw [hwt]; exact h1)]
              have hd := h4 ρ' w c' R'.st.hr R'.fits.fr
              have hd2 : Does P o a.eval w (fun u w' => ∃ ρ2, SStep ρ' s' w ρ2 s2 w' ∧ VR ρ2 s2.nx v u) := by
                unfold Does at hd ⊢
                rw [execOp_congr o (noSel S ho) hev]
                exact hd
              refine (hd2.wp ro fun u w' ⟨ρ2, h5, h6⟩ => ?_)
              have R2 := R'.synced S ho hiD hi h5 h6 (fun k ok hk hkD hkL hkq => k7 ρ2 w' _ h5.hr (R'.fits.put h5.ext o.dst h6) k ok (behind_mem D' k ok hkD hk hkq (hcl2 k hkL)) hk)
              exact drawn_any hcl S n _ _ _ q (i :: D') _ s2 _ ρ2 B R2 hO2 hC2 k6 hcnt
            · rw [h2] at hok ⊢
              obtain ⟨k5, k6, k7⟩ := again_is _ hok (behind_quiet _)
              rw [k5]
              rw [if_neg (by rw [hwt, h1]; decide)]
              have R2 := R'.synced S ho hiD hi (Step.refl R'.st.hr) undef_vr (fun k ok hk hkD hkL hkq => k7 ρ' w _ R'.st.hr (R'.fits.put (Ext.refl _ _) o.dst undef_vr) k ok (behind_mem D' k ok hkD hk hkq (hcl2 k hkL)) hk)
              exact ⟨fun _ _ => trivial, drawn_any hcl S n _ _ _ q (i :: D') _ s' _ ρ' B R2 hO2 hC2 k6 hcnt⟩
theorem xDrawn_ok (hcl : ClOk P cl) {id : Nat} (hm : P.follows .mixedOrders = true) {a : Act} (st : SStep ρ0 s0 w0 ρ s w) (hf : Fits ρ N ds s.nx f a) (hok : (xDrawn P cl N ops f s).ok) : (Code.region id ops true).wpIn (fz ro) 0 P (EndR N ds ρ0 s0 w0 (xDrawn P cl N ops f s)) a w := by
  refine wpIn_region_any hm ?_
  unfold xDrawn at hok ⊢
  rcases hd : okDraw P N ops with _ | _
  · rw [hd] at hok
    exact hok.elim
  · rw [hd] at hok
    change (xDr P cl N ops (order P N ops) [] f s).ok at hok
    show wpAnyIn (fz ro) 0 P .any ops (EndR N ds ρ0 s0 w0 (xDr P cl N ops (order P N ops) [] f s)) ops.size _ a _
    obtain ⟨S, hO⟩ := okDraw_is hd
    have st2 : SStep ρ0 s0 w0 ρ s { w with drawn := w.drawn + 1 } := ⟨st.ext, world_drawn st.hr _, ⟨st.fr.os, st.fr.tape, st.fr.output, st.fr.size, st.fr.block⟩, st.liv⟩
    have no : ∀ i, ¬ li (Array.replicate ops.size false) i := fun i h => by
      unfold li at h
      by_cases hi : i < ops.size
      · simp [hi] at h
      · simp [hi] at h
    refine drawn_any hcl S ops.size _ a _ (order P N ops) [] f s a ρ (fun _ => 0) ⟨st2, hf, hf.size, hf.defers, by simp, fun i o _ h => absurd h (no i), fun t _ _ => rfl, fun i o _ h => (by cases h), fun i o _ _ h => absurd h (no i), fun i j o p _ _ _ _ h => absurd h (no i)⟩ hO trivial hok (by simp)
end
end Go.Proofs.YthdjicolicokcaaGreatDoor.Ev
namespace Go.Proofs.YthdjicolicokcaaGreatDoor.Ev
open Go
def setH (w : World) (l : Nat) (o : Obj) : World := { w with heap := w.heap.setIfInBounds l o }
theorem setH_at {w : World} {l : Nat} {o p : Obj} (h : w.heap[l]? = some p) : (setH w l o).heap[l]? = some o := by
  have hlt : l < w.heap.size := (Array.getElem?_eq_some_iff.1 h).1
  exact Array.getElem?_setIfInBounds_self_of_lt hlt
theorem setH_not {w : World} {l k : Nat} {o : Obj} (h : k ≠ l) : (setH w l o).heap[k]? = w.heap[k]? := Array.getElem?_setIfInBounds_ne (Ne.symm h)
theorem setH_size (w : World) (l : Nat) (o : Obj) : (setH w l o).heap.size = w.heap.size := by simp [setH]
section
variable {P : Program} {w : World} {l : Nat} {r : Loop}
theorem run_setObj {o o' : Obj} (h : w.heap[l]? = some o) (hc : ∀ c e fr, o ≠ .cells c e fr) : (setObj l o').run P w = .ok () (setH w l o') := by
  show Sem.run P (.setObj _ _ (.pure ())) w = _
  unfold Sem.run
  rw [h]
  cases o <;> first | rfl | exact absurd rfl (hc _ _ _)
theorem run_getLoop (h : w.heap[l]? = some (.loop r)) : (Instr.getLoop l).run P w = .ok r w := by
  simp only [Instr.getLoop, Sem.run_bind, run_getObj P _ h (fun _ _ _ h => by cases h), Result.andThen_ok, Sem.run_pure]
theorem run_setLoop {o' : Obj} (h : w.heap[l]? = some (.loop r)) : (setObj l o').run P w = .ok () (setH w l o') := run_setObj h (fun _ _ _ h => by cases h)
theorem yield_run {us : Array Value} (h : w.heap[l]? = some (.loop r)) (hs : us.size = r.params.size) : (Instr.yield l us).run P w = .ok (.round l r.fn ((r.params.toList.zip us.toList).foldl (fun tmps p => tmps.setIfInBounds p.1 p.2) r.tmps) r.assign r.body) w := by
  simp only [Instr.yield, Sem.run_bind, run_getLoop h, Result.andThen_ok, hs, ne_eq, not_true_eq_false, if_false, Sem.run_pure]
  rw [← Array.foldl_toList, Array.toList_zip]
theorem beginRound_run (h : w.heap[l]? = some (.loop r)) (hs : r.state = .ready) : (Instr.beginRound l).run P w = .ok () (setH w l (.loop { r with state := .busy })) := by
  simp only [Instr.beginRound, Sem.run_bind, run_getLoop h, Result.andThen_ok, run_setLoop h, hs, Sem.run_pure]
theorem endRound_run (h : w.heap[l]? = some (.loop r)) : (Instr.endRound l none).run P w = .ok (.bool true) (setH w l (.loop { r with state := .ready, pending := none })) := by
  simp only [Instr.endRound, Sem.run_bind, run_getLoop h, Result.andThen_ok, Option.isNone_none, if_true, run_setLoop h, Sem.run_pure]
theorem endLoop_run (h : w.heap[l]? = some (.loop r)) (hs : r.state = .ready) : (Instr.endLoop l).run P w = .ok r.pending (setH w l (.loop { r with state := .exhausted })) := by
  have hb : (r.state == LoopState.busy) = false := by rw [hs]; rfl
  simp only [Instr.endLoop, Sem.run_bind, run_getLoop h, Result.andThen_ok, hb, Bool.false_eq_true, if_false, run_setLoop h, Sem.run_pure]
theorem takeDeferred_run (h : w.heap[l]? = some (.deferred (some []))) : (Instr.takeDeferred l).run P w = .ok [] (setH w l (.deferred none)) := by
  simp only [Instr.takeDeferred, Sem.run_bind, run_getObj P _ h (fun _ _ _ h => by cases h), Result.andThen_ok, run_setObj h (fun _ _ _ h => by cases h), Sem.run_pure]
def wa (w : World) : World := { w with heap := w.heap.push (.deferred (some [])) }
def wl (w : World) (fn : FuncId) (tmps : Array Value) (ps : Array Tmp) (asg bd : Code) : World := { wa w with heap := (wa w).heap.push (.loop { state := .ready, pending := none, fn := fn, tmps := tmps, params := ps, assign := asg, body := bd, defers := w.heap.size }) }
theorem enterLoop_run (fn : FuncId) (tmps : Array Value) (ps : Array Tmp) (asg bd : Code) : (Instr.enterLoop fn tmps ps asg bd none).run P w = .ok ((wa w).heap.size, [{ target := .collected w.heap.size, args := #[] }]) (wl w fn tmps ps asg bd) := rfl
end
section
variable {ρ ρ' : Nat → Nm} {nx nx' b0 : Nat} {H H' : Nat → Option AO} {w w' : World} {ds : List Deferred}
def Mk (b0 : Nat) (ρ : Nat → Nm) (H : Nat → Option AO) (w : World) : List Deferred → Prop
  | [] => True
  | d :: ds => (∃ r, d.target = .collected r ∧ b0 ≤ r ∧ w.heap[r]? = some (.deferred (some [])) ∧ (∀ n o, H n = some o → (ρ n).b ≠ r) ∧ ∀ e ∈ ds, e.target ≠ .collected r) ∧ Mk b0 ρ H w ds
theorem Mk.step : ∀ {ds : List Deferred}, Mk b0 ρ H w ds → Step ρ nx H w ρ' nx' H' w' → Mk b0 ρ' H' w' ds
  | [], _, _ => trivial
  | d :: ds, ⟨⟨r, h1, h2, h3, h4, h5⟩, h6⟩, st => by
    have hlt : r < w.heap.size := (Array.getElem?_eq_some_iff.1 h3).1
    refine ⟨⟨r, h1, h2, ?_, fun n o hn he => ?_, h5⟩, Mk.step h6 st⟩
    · rw [st.fr.block r hlt h4]
      exact h3
    · rcases st.liv n o hn with h7 | ⟨m, o', hm, e⟩
      · omega
      · exact h4 m o' hm (e.trans he)
theorem Mk.lt : ∀ {ds : List Deferred}, Mk b0 ρ H w ds → ∀ e ∈ ds, ∀ r, e.target = .collected r → r < w.heap.size
  | [], _, e, he, _, _ => by cases he
  | d :: ds, ⟨⟨r, h1, h2, h3, h4, h5⟩, h6⟩, e, he, q, hq => by
    rcases List.mem_cons.1 he with rfl | he
    · rw [h1] at hq
      cases hq
      exact (Array.getElem?_eq_some_iff.1 h3).1
    · exact Mk.lt h6 e he q hq
theorem Mk.shut {q : Nat} {o : Obj} : ∀ {ds : List Deferred}, Mk b0 ρ H w ds → (∀ e ∈ ds, e.target ≠ .collected q) → Mk b0 ρ H (setH w q o) ds
  | [], _, _ => trivial
  | d :: ds, ⟨⟨r, h1, h2, h3, h4, h5⟩, h6⟩, hq => by
    have hne : r ≠ q := fun e => hq d List.mem_cons_self (by rw [h1, e])
    exact ⟨⟨r, h1, h2, by rw [setH_not hne]; exact h3, h4, h5⟩, Mk.shut h6 (fun e he => hq e (List.mem_cons_of_mem _ he))⟩
theorem Step.shut {q : Nat} {o : Obj} (h : Step ρ nx H w ρ' nx' H' w') (hq : w.heap.size ≤ q) (hn : ∀ n o, H' n = some o → (ρ' n).b ≠ q) : Step ρ nx H w ρ' nx' H' (setH w' q o) := by
  refine ⟨h.ext, ⟨fun n x hx => ?_, h.hr.inj⟩, ⟨h.fr.os, h.fr.tape, h.fr.output, by rw [setH_size]; exact h.fr.size, fun k hk hkn => ?_⟩, h.liv⟩
  · have h1 := h.hr.obj n x hx
    refine ⟨h1.1, ?_⟩
    rw [setH_not (hn n x hx)]
    exact h1.2
  · rw [setH_not (by omega)]
    exact h.fr.block k hk hkn
theorem HR.drop (h : HR ρ nx H w) {n : Nat} {a : AO} (hn : H n = some a) (o : Obj) (hH : ∀ m x, H' m = some x → m ≠ n ∧ H m = some x) : Step ρ nx H w ρ nx H' (setH w (ρ n).b o) := by
  refine ⟨Ext.refl _ _, ⟨fun m x hm => ?_, fun m q x y hm hq he => h.inj m q x y (hH m x hm).2 (hH q y hq).2 he⟩, ⟨rfl, rfl, rfl, by rw [setH_size]; exact Nat.le_refl _, fun k _ hk => setH_not (Ne.symm (hk n a hn))⟩, fun m x hm => .inr ⟨m, x, (hH m x hm).2, rfl⟩⟩
  obtain ⟨h1, h2⟩ := hH m x hm
  have h3 := h.obj m x h2
  refine ⟨h3.1, ?_⟩
  rw [setH_not (fun e => h1 (h.inj m n x a h2 hn e))]
  exact h3.2
end
section
variable {ρ ρ1 ρ2 : Nat → Nm} {s s1 s2 : St} {w w1 w3 : World}
theorem loop_at {l : Nat} {f : T Value} {N : Nat} {ps : Array Tmp} {asg bd : Code} (h : SR ρ s w) (hl : s.h.get l = some (.loop f N ps asg bd)) :
    l < s.nx ∧ (ρ l).s = 0 ∧ ∃ r : Loop, w.heap[(ρ l).b]? = some (.loop r) ∧ r.state = .ready ∧ r.pending = none ∧ r.params = ps ∧ r.assign = asg ∧ r.body = bd ∧ r.tmps.size = N ∧ FR ρ s.nx f { tmps := r.tmps, defers := [] } := by
  obtain ⟨h0, h1, fn, tmps, q, h2, h3, h4⟩ := h.obj l _ hl
  exact ⟨h0, h1, _, h2, rfl, rfl, rfl, rfl, rfl, h3, h4⟩
theorem round_step {l : Nat} {f : T Value} {N : Nat} {ps : Array Tmp} {asg bd : Code} {r : Loop} (h1 : SR ρ1 s1 w1) (hl : s1.h.get l = some (.loop f N ps asg bd)) (hr : w1.heap[(ρ1 l).b]? = some (.loop r)) (hst : r.state = .ready) (hpe : r.pending = none)
    (st : SStep ρ1 ⟨s1.h.del l, s1.nx⟩ (setH w1 (ρ1 l).b (.loop { r with state := .busy })) ρ2 s2 w3) :
    w3.heap[(ρ1 l).b]? = some (.loop { r with state := .busy }) ∧ SStep ρ1 s1 w1 ρ2 ⟨s2.h.set (.loop f N ps asg bd) l, s2.nx⟩ (setH w3 (ρ1 l).b (.loop { r with state := .ready, pending := none })) := by
  obtain ⟨hlx, hs0, hobj⟩ := loop_at h1 hl
  have hlt := h1.old hl
  have hdel : ∀ n x, (s1.h.del l).get n = some x → (ρ1 n).b ≠ (ρ1 l).b := fun n x hx e => by
    obtain ⟨g1, g2⟩ := del_get hx
    exact g1 (h1.inj n l x _ g2 hl e)
  have hat : w3.heap[(ρ1 l).b]? = some (.loop { r with state := .busy }) := by
    rw [st.fr.block (ρ1 l).b (by rw [setH_size]; exact hlt) hdel]
    exact setH_at hr
  have hl2 : ρ2 l = ρ1 l := st.ext.2 l hlx
  have hnot : ∀ n x, s2.h.get n = some x → (ρ2 n).b ≠ (ρ1 l).b := fun n x hx e => by
    rcases st.liv n x hx with g | ⟨m, y, g1, g2⟩
    · rw [setH_size] at g
      omega
    · exact hdel m y g1 (g2.trans e)
  have hlast : ({ r with state := .ready, pending := none } : Loop) = r := by
    cases r
    cases hst
    cases hpe
    rfl
  have hor : OR ρ2 s2.nx (ρ1 l) (.loop f N ps asg bd) (some (.loop { r with state := .ready, pending := none })) := by
    have h5 := (h1.obj l _ hl).2
    rw [hr] at h5
    rw [hlast]
    exact h5.mono st.ext
  refine ⟨hat, ⟨st.ext, ⟨fun n x hn => ?_, fun n m x y hn hm he => ?_⟩, ⟨st.fr.os, st.fr.tape, st.fr.output, ?_, fun k hk hkn => ?_⟩, fun n x hn => ?_⟩⟩
  · rcases set_get hn with ⟨rfl, rfl⟩ | ⟨hne, hn⟩
    · refine ⟨Nat.lt_of_lt_of_le hlx st.ext.1, ?_⟩
      rw [hl2, setH_at hat]
      exact hor
    · have h5 := st.hr.obj n x hn
      refine ⟨h5.1, ?_⟩
      rw [setH_not (hnot n x hn)]
      exact h5.2
  · rcases set_get hn with ⟨e1, _⟩ | ⟨hne, hn⟩ <;> rcases set_get hm with ⟨e2, _⟩ | ⟨hme, hm⟩
    · exact e1.trans e2.symm
    · rw [e1, hl2] at he
      exact absurd he.symm (hnot m y hm)
    · rw [e2, hl2] at he
      exact absurd he (hnot n x hn)
    · exact st.hr.inj n m x y hn hm he
  · rw [setH_size]
    have := st.fr.size
    rw [setH_size] at this
    exact this
  · have hk1 : k ≠ (ρ1 l).b := fun e => hkn l _ hl e.symm
    rw [setH_not hk1, st.fr.block k (by rw [setH_size]; exact hk) (fun n o hn => hkn n o (del_get hn).2), setH_not hk1]
  · rcases set_get hn with ⟨rfl, rfl⟩ | ⟨hne, hn⟩
    · exact .inr ⟨n, _, hl, by rw [hl2]⟩
    · rcases st.liv n x hn with g | ⟨m, y, g1, g2⟩
      · rw [setH_size] at g
        exact .inl g
      · exact .inr ⟨m, y, (del_get g1).2, g2⟩
theorem putAll_ok {nx N : Nat} {ρ : Nat → Nm} : ∀ (ps : List Tmp) (vs us : List Value) (f : T Value) (tmps : Array Value), vs.length = us.length → (∀ (i : Nat) x y, vs[i]? = some x → us[i]? = some y → VR ρ nx x y) → tmps.size = N → FR ρ nx f { tmps := tmps, defers := [] } →
    ((ps.zip us).foldl (fun tmps p => tmps.setIfInBounds p.1 p.2) tmps).size = N ∧ FR ρ nx (putAll N ps vs f) { tmps := (ps.zip us).foldl (fun tmps p => tmps.setIfInBounds p.1 p.2) tmps, defers := [] }
  | [], vs, us, f, tmps, _, _, h1, h2 => ⟨h1, h2⟩
  | p :: ps, [], [], f, tmps, _, _, h1, h2 => ⟨h1, h2⟩
  | p :: ps, v :: vs, u :: us, f, tmps, hl, hv, h1, h2 => by
    have h3 := put_sound h2 h1 (some p) (hv 0 v u rfl rfl)
    exact putAll_ok ps vs us (put N (some p) v f) (tmps.setIfInBounds p u) (by simpa using hl) (fun i x y hx hy => hv (i + 1) x y (by simpa using hx) (by simpa using hy)) (by simpa using h1) h3
end
end Go.Proofs.YthdjicolicokcaaGreatDoor.Ev
namespace Go.Proofs.YthdjicolicokcaaGreatDoor.Ev
open Go
theorem isIns_is {P : Program} {d0 : Tmp} {kk : IntKind} {o : Oper} {z : Int} {x : Operand} (h : isIns P d0 kk o = some (z, x)) : ∃ t kt et j, o.op = .insert t (.tmp d0) (.const (.int kk z)) x ∧ o.dst = none ∧ o.guard = none ∧ P.underlying t = some (.map kt et) ∧ P.underlying kt = some (.int j) := by
  unfold isIns at h
  split at h
  · rename_i t d k z' x' h1 h2 h3
    split at h
    · rename_i ke hke
      split at h
      · rename_i j hj
        split at h
        · rename_i hb
          obtain ⟨b1, b2⟩ := band_eq hb
          obtain rfl := Nat.eq_of_beq_eq_true b1
          obtain rfl := kindEq b2
          simp only [Option.some.injEq, Prod.mk.injEq] at h
          obtain ⟨rfl, rfl⟩ := h
          exact ⟨t, ke.1, ke.2, j, h1, h2, h3, mapOf_eq hke, hj⟩
        · cases h
      · cases h
    · cases h
  · cases h
section
variable {P : Program} {cl : Cl} {N : Nat} {ds : List Deferred} {ro : Option Nat} {ops : Array Oper} {ρ0 : Nat → Nm} {s0 : St} {w0 : World}
variable {D : List Nat} {f : T Value} {s : St} {w : World} {ρ : Nat → Nm} {d0 : Tmp} {kk : IntKind} {m : Nat}
structure MapReg (P : Program) (N : Nat) (ops : Array Oper) (d0 : Tmp) (kk : IntKind) (m : Nat) (D : List Nat) : Prop where
  slots : Slots P N ops
  size : ops.size = m + 2
  head : ∃ o t, ops[0]? = some o ∧ o.op = .makeMap t none ∧ o.dst = some d0 ∧ o.guard = none ∧ ∀ e, ¬ bit (mask o) e = true
  d0N : d0 < N
  pos : 0 < m
  D0 : ∀ i : Nat, i ∈ D → 0 < i ∧ i < m
  kind : ∀ (i : Nat) (o : Oper), ops[i]? = some o → 0 < i → i < m → (i ∈ D ∧ quiet o = true ∧ o.guard = none ∧ d0 ∉ o.looksAt ops ∧ o.dst ≠ some d0 ∧ ∀ e, bit (mask o) e = true → e ∈ D) ∨ (i ∉ D ∧ bit (mask o) 0 = true ∧ (∀ e, bit (mask o) e = true → e < i) ∧ ∃ z x, isIns P d0 kk o = some (z, x) ∧ x ≠ .tmp d0)
  last : ∀ (i : Nat) (o : Oper), ops[i]? = some o → m ≤ i → ∀ e, e < m → bit (mask o) e = true
  one : ∀ (i j : Nat) (o p : Oper) (z : Int) (x : Operand) (z' : Int) (x' : Operand), ops[i]? = some o → ops[j]? = some p → isIns P d0 kk o = some (z, x) → isIns P d0 kk p = some (z', x') → z = z' → i = j
def Put (P : Program) (ops : Array Oper) (d0 : Tmp) (kk : IntKind) (m : Nat) (w0 : World) (ρ : Nat → Nm) (s : St) (f : T Value) (L : Array Bool) (a : Act) (w : World) (B : Nat) : Prop :=
  ∃ es clock, a.tmps[d0]? = some (.map (some B)) ∧ w0.heap.size ≤ B ∧ w.heap[B]? = some (.map es clock) ∧ (∀ n x, s.h.get n = some x → (ρ n).b ≠ B) ∧
    (∀ u ∈ es.toList, ∃ (j : Nat) (o : Oper) (z : Int) (x : Operand) (v : Value), ops[j]? = some o ∧ j < m ∧ isIns P d0 kk o = some (z, x) ∧ li L j ∧ ev x f = some v ∧ u.key = .int kk z ∧ VR ρ s.nx v u.val) ∧
    (∀ (j : Nat) (o : Oper) (z : Int) (x : Operand), ops[j]? = some o → j < m → isIns P d0 kk o = some (z, x) → li L j → ∃ u ∈ es.toList, u.key = .int kk z)
structure RelM (P : Program) (N : Nat) (ds : List Deferred) (ops : Array Oper) (ρ0 : Nat → Nm) (s0 : St) (w0 : World) (d0 : Tmp) (kk : IntKind) (m : Nat) (D : List Nat) (f : T Value) (s : St) (ρ : Nat → Nm) (c : Act) (L : Array Bool) (a : Act) (w : World) : Prop where
  st : SStep ρ0 s0 w0 ρ s w
  fits : Fits ρ N ds s.nx f c
  asz : a.tmps.size = N
  adf : a.defers = ds
  lsz : L.size = ops.size
  lcl : ∀ (i : Nat) (o : Oper), ops[i]? = some o → li L i → ∀ e, bit (mask o) e = true → li L e
  agree : ∀ t, t ≠ d0 → (∀ (i : Nat) (o : Oper), ops[i]? = some o → i ∈ D → ¬ li L i → o.dst ≠ some t) → a.tmps[t]? = c.tmps[t]?
  pend : ∀ (i : Nat) (o : Oper), ops[i]? = some o → i ∈ D → ¬ li L i → quiet o = true ∧ Pend P N ops ρ s c o
  last : ∀ i : Nat, m ≤ i → ¬ li L i
  map : li L 0 → ∃ B, Put P ops d0 kk m w0 ρ s f L a w B
variable {c a : Act} {L : Array Bool}
theorem RelM.looks (R : RelM P N ds ops ρ0 s0 w0 d0 kk m D f s ρ c L a w) (M : MapReg P N ops d0 kk m D) {j : Nat} {o : Oper} (ho : ops[j]? = some o) (hr : ∀ e, bit (mask o) e = true → li L e) (hl : ¬ li L j) (hs : j ∈ D → quiet o = true) : ∀ t ∈ o.looksAt ops, t ≠ d0 → a.tmps[t]? = c.tmps[t]? := fun t ht h0 => by
  refine R.agree t h0 (fun i oi hi hiD hiL he => ?_)
  have hq := (R.pend i oi hi hiD hiL).1
  by_cases hij : i = j
  · subst hij
    obtain rfl := Option.some.inj (ho.symm.trans hi)
    exact M.slots.self i o t hi he hq ht
  · rcases M.slots.see i j oi o t hi ho hij he (.inl hq) ht with h1 | ⟨h1, _⟩
    · exact hiL (hr i h1)
    · rw [quiet_notA hq] at h1
      cases h1
theorem RelM.pended (R : RelM P N ds ops ρ0 s0 w0 d0 kk m D f s ρ c L a w) (M : MapReg P N ops d0 kk m D) {j : Nat} {o : Oper} (ho : ops[j]? = some o) (hj : j ∈ D) (hr : j ∈ Region.ready .any ops L) :
    ∃ u, Region.wanted o (yielded ops a.tmps) = true ∧ (execOp a.eval o).run P w = .ok (.value u) w ∧ RelM P N ds ops ρ0 s0 w0 d0 kk m D f s ρ c (L.setIfInBounds j true) (a.put o.dst u) w := by
  obtain ⟨hl, hb⟩ := (ready_iff R.lsz ho).1 hr
  have hlt : j < L.size := by rw [R.lsz]; exact (Array.getElem?_eq_some_iff.1 ho).1
  obtain ⟨hq, hp⟩ := R.pend j o ho hj hl
  obtain ⟨hj0, hjm⟩ := M.D0 j hj
  rcases M.kind j o ho hj0 hjm with ⟨_, _, hg, hlook, hdst, hmask⟩ | ⟨hno, _⟩
  · obtain ⟨hev, hwt⟩ := same_looks (a := a) (c := c) (fun t ht => R.looks M ho hb hl (fun _ => hq) t ht (fun e => hlook (e ▸ ht)))
    have hw : Region.wanted o (yielded ops c.tmps) = true := by unfold Region.wanted; rw [hg]
    rcases hp with ⟨h1, _⟩ | ⟨h1, fk, ak, v, u, h2, h3, h4, h5, h6⟩
    · rw [hw] at h1
      cases h1
    · refine ⟨u, by rw [hwt]; exact hw, ?_, ?_⟩
      · obtain ⟨u', g1, g2⟩ := h2 ρ w ak R.st.hr h3
        obtain rfl := h5.det g2
        rw [execOp_congr o (noSel M.slots ho) (fun x hx => (hev x hx).trans (h4 x hx).symm)]
        exact g1
      · refine ⟨R.st, R.fits, by rw [put_size]; exact R.asz, by rw [put_defers0]; exact R.adf, by simp [R.lsz], fun i oi hi hli e he => ?_, fun t h0 h1 => ?_, fun i oi hi hiD hli => R.pend i oi hi hiD (fun h => hli ((li_set hlt).2 (.inr h))), fun i hi h => ?_, fun h => ?_⟩
        · rw [li_set hlt] at hli ⊢
          rcases hli with rfl | hli
          · obtain rfl := Option.some.inj (ho.symm.trans hi)
            exact .inr (hb e he)
          · exact .inr (R.lcl i oi hi hli e he)
        · by_cases htd : o.dst = some t
          · rw [htd]
            by_cases hN : t < N
            · rw [put_self a t u (by rw [R.asz]; exact hN), h6 t htd hN]
            · have e1 : (a.put (some t) u).tmps[t]? = none := Array.getElem?_eq_none (by rw [put_size, R.asz]; exact Nat.le_of_not_lt hN)
              have e2 : c.tmps[t]? = none := Array.getElem?_eq_none (by rw [R.fits.size]; exact Nat.le_of_not_lt hN)
              rw [e1, e2]
          · rw [put_at a o.dst u t htd]
            refine R.agree t h0 (fun i oi hi hiD hli he => ?_)
            by_cases hij : i = j
            · subst hij
              obtain rfl := Option.some.inj (ho.symm.trans hi)
              exact htd he
            · exact h1 i oi hi hiD (fun h => by rcases (li_set hlt).1 h with h | h; exact hij h; exact hli h) he
        · rcases (li_set hlt).1 h with h | h
          · omega
          · exact R.last i hi h
        · have h0 : li L 0 := by
            rcases (li_set hlt).1 h with h | h
            · omega
            · exact h
          obtain ⟨B, es, clock, g1, g2, g3, g4, g5, g6⟩ := R.map h0
          refine ⟨B, es, clock, by rw [put_at a o.dst u d0 hdst]; exact g1, g2, g3, g4, fun u hu => ?_, fun i oi z x hi him hz hli => ?_⟩
          · obtain ⟨i, oi, z, x, v, k1, k2, k3, k4, k5⟩ := g5 u hu
            exact ⟨i, oi, z, x, v, k1, k2, k3, (li_set hlt).2 (.inr k4), k5⟩
          · rcases (li_set hlt).1 hli with e | h
            · subst e
              obtain rfl := Option.some.inj (ho.symm.trans hi)
              obtain ⟨t, _, _, _, k1, _⟩ := isIns_is hz
              unfold quiet at hq
              rw [k1] at hq
              cases hq
            · exact g6 i oi z x hi him hz h
  · exact absurd hj hno
theorem RelM.listed (R : RelM P N ds ops ρ0 s0 w0 d0 kk m D f s ρ c L a w) {j : Nat} {o : Oper} (ho : ops[j]? = some o) (hj : j ∉ D) (hjm : j < m) (hr : j ∈ Region.ready .any ops L) {a' : Act} {w' : World} (st : SStep ρ0 s0 w0 ρ s w') (hsz : a'.tmps.size = a.tmps.size) (hdf : a'.defers = a.defers) (hat : ∀ t, t ≠ d0 → a'.tmps[t]? = a.tmps[t]?)
    (hm : ∃ B, Put P ops d0 kk m w0 ρ s f (L.setIfInBounds j true) a' w' B) : RelM P N ds ops ρ0 s0 w0 d0 kk m D f s ρ c (L.setIfInBounds j true) a' w' := by
  obtain ⟨hl, hb⟩ := (ready_iff R.lsz ho).1 hr
  have hlt : j < L.size := by rw [R.lsz]; exact (Array.getElem?_eq_some_iff.1 ho).1
  refine ⟨st, R.fits, hsz.trans R.asz, hdf.trans R.adf, by simp [R.lsz], fun i oi hi hli e he => ?_, fun t h0 h1 => ?_, fun i oi hi hiD hli => R.pend i oi hi hiD (fun h => hli ((li_set hlt).2 (.inr h))), fun i hi h => ?_, fun _ => hm⟩
  · rw [li_set hlt] at hli ⊢
    rcases hli with rfl | hli
    · obtain rfl := Option.some.inj (ho.symm.trans hi)
      exact .inr (hb e he)
    · exact .inr (R.lcl i oi hi hli e he)
  · rw [hat t h0]
    refine R.agree t h0 (fun i oi hi hiD hli => h1 i oi hi hiD (fun h => ?_))
    rcases (li_set hlt).1 h with h | h
    · exact hj (h ▸ hiD)
    · exact hli h
  · rcases (li_set hlt).1 h with h | h
    · omega
    · exact R.last i hi h
theorem RelM.made (R : RelM P N ds ops ρ0 s0 w0 d0 kk m D f s ρ c L a w) (M : MapReg P N ops d0 kk m D) {o : Oper} (ho : ops[0]? = some o) (hr : 0 ∈ Region.ready .any ops L) :
    ∃ u w', Region.wanted o (yielded ops a.tmps) = true ∧ (execOp a.eval o).run P w = .ok (.value u) w' ∧ RelM P N ds ops ρ0 s0 w0 d0 kk m D f s ρ c (L.setIfInBounds 0 true) (a.put o.dst u) w' := by
  obtain ⟨o', t, h1, h2, h3, h4, h5⟩ := M.head
  obtain rfl := Option.some.inj (ho.symm.trans h1)
  obtain ⟨hl, hb⟩ := (ready_iff R.lsz ho).1 hr
  have hlt : 0 < L.size := by rw [R.lsz]; exact (Array.getElem?_eq_some_iff.1 ho).1
  have hD : 0 ∉ D := fun h => by have := M.D0 0 h; omega
  refine ⟨.map (some w.heap.size), { w with heap := w.heap.push (.map #[] 0) }, by unfold Region.wanted; rw [h4], ?_, R.listed ho hD M.pos hr (step_push R.st _) (by rw [put_size]) (by rw [put_defers0]) (fun t ht => put_at a o.dst _ t (fun e => ht (by rw [h3] at e; exact (Option.some.inj e).symm))) ⟨w.heap.size, #[], 0, ?_, R.st.fr.size, ?_, fun n x hn he => ?_, fun u hu => (by simp at hu), fun j oj z x hj hjm hz hli => ?_⟩⟩
  · rw [makeMap_run h2 a.eval]
    rfl
  · rw [h3, put_self a d0 _ (by rw [R.asz]; exact M.d0N)]
  · simp
  · have := R.st.hr.old hn
    omega
  · exfalso
    by_cases hj0 : j = 0
    · subst hj0
      obtain rfl := Option.some.inj (ho.symm.trans hj)
      obtain ⟨t', _, _, _, k1, _⟩ := isIns_is hz
      rw [h2] at k1
      cases k1
    · have h6 : li L j := ((li_set hlt).1 hli).resolve_left hj0
      rcases M.kind j oj hj (by omega) hjm with ⟨_, hq, _⟩ | ⟨_, h7, _⟩
      · obtain ⟨t', _, _, _, k1, _⟩ := isIns_is hz
        unfold quiet at hq
        rw [k1] at hq
        cases hq
      · exact hl (R.lcl j oj hj h6 0 h7)
theorem RelM.put1 (R : RelM P N ds ops ρ0 s0 w0 d0 kk m D f s ρ c L a w) (M : MapReg P N ops d0 kk m D) {j : Nat} {o : Oper} (ho : ops[j]? = some o) (hjD : j ∉ D) (hjm : j < m) (hb0 : bit (mask o) 0 = true) {z : Int} {x : Operand} {v : Value} (hi : isIns P d0 kk o = some (z, x)) (hx0 : x ≠ .tmp d0) (hv : ev x f = some v) (hr : j ∈ Region.ready .any ops L) :
    ∃ w', Region.wanted o (yielded ops a.tmps) = true ∧ (execOp a.eval o).run P w = .ok .skip w' ∧ RelM P N ds ops ρ0 s0 w0 d0 kk m D f s ρ c (L.setIfInBounds j true) (a.put o.dst undef) w' := by
  obtain ⟨hl, hb⟩ := (ready_iff R.lsz ho).1 hr
  have hlt : j < L.size := by rw [R.lsz]; exact (Array.getElem?_eq_some_iff.1 ho).1
  obtain ⟨t, kt, et, jj, h1, h2, h3, h4, h5⟩ := isIns_is hi
  obtain ⟨B, es, clock, g1, g2, g3, g4, g5, g6⟩ := R.map (hb 0 hb0)
  have em : a.eval (.tmp d0) = .map (some B) := by simp [Act.eval, g1]
  have ex : a.eval x = c.eval x := by
    cases x with
    | tmp t =>
      have ht : t ∈ o.looksAt ops := List.mem_append_left _ (List.mem_filterMap.2 ⟨.tmp t, by rw [h1]; simp [Op.operands], rfl⟩)
      have := R.looks M ho hb hl (fun h => absurd h hjD) t ht (fun e => hx0 (by rw [e]))
      simp [Act.eval, this]
    | _ => rfl
  have hvr : VR ρ s.nx v (a.eval x) := by
    rw [ex]
    exact evO_sound R.fits.fr (ev_eq hv)
  obtain ⟨r, r1, r2⟩ := findNow_int (j := jj) (kk := kk) (z := z) es.toList 0 (fun u hu => by
    obtain ⟨_, _, z', _, _, _, _, _, _, _, k, _⟩ := g5 u hu
    exact ⟨z', k⟩)
  obtain rfl : r = none := by
    rcases r2 with ⟨h, _⟩ | ⟨_, u, _, hu, hk⟩
    · exact h
    · exfalso
      obtain ⟨i, oi, z', x', v', k1, k2, k3, k4, k5, k6, k7⟩ := g5 u hu
      rw [hk] at k6
      have : z = z' := by injection k6
      have hij := M.one j i o oi z x z' x' ho k1 hi k3 this
      subst hij
      exact hl k4
  refine ⟨setH w B (.map (es.push ⟨.int kk z, a.eval x, clock⟩) (clock + 1)), by unfold Region.wanted; rw [h3], ?_, R.listed ho hjD hjm hr (R.st.shut g2 g4) (by rw [put_size]) (by rw [put_defers0]) (fun t _ => by rw [h2]; rfl) ⟨B, es.push ⟨.int kk z, a.eval x, clock⟩, clock + 1, by rw [h2]; exact g1, g2, setH_at g3, g4, fun u hu => ?_, fun i oi z' x' hio him hz hli => ?_⟩⟩
  · rw [mapUpdate_run (.inr h1) a.eval, em]
    show (do Instr.mapUpdate t (.map (some B)) (.int kk z) (a.eval x); pure .skip : Sem Next).run P w = _
    simp only [Instr.mapUpdate, Sem.run_bind, run_und h4, Result.andThen_ok, run_getObj P _ g3 (fun _ _ _ h => by cases h), checkInt h5, findInt h5 r1, run_setObj g3 (fun _ _ _ h => by cases h), Sem.run_pure]
  · rw [Array.toList_push, List.mem_append] at hu
    rcases hu with hu | hu
    · obtain ⟨i, oi, z', x', v', k1, k2, k3, k4, k5⟩ := g5 u hu
      exact ⟨i, oi, z', x', v', k1, k2, k3, (li_set hlt).2 (.inr k4), k5⟩
    · obtain rfl := List.mem_singleton.1 hu
      exact ⟨j, o, z, x, v, ho, hjm, hi, (li_set hlt).2 (.inl rfl), hv, rfl, hvr⟩
  · rcases (li_set hlt).1 hli with e | h
    · subst e
      obtain rfl := Option.some.inj (ho.symm.trans hio)
      rw [hi] at hz
      simp only [Option.some.injEq, Prod.mk.injEq] at hz
      obtain ⟨rfl, rfl⟩ := hz
      exact ⟨_, by rw [Array.toList_push]; exact List.mem_append_right _ (List.mem_singleton.2 rfl), rfl⟩
    · obtain ⟨u, hu, hk⟩ := g6 i oi z' x' hio him hz h
      exact ⟨u, by rw [Array.toList_push]; exact List.mem_append_left _ hu, hk⟩
theorem step_named {s : St} {ρ : Nat → Nm} {w : World} (h : SStep ρ0 s0 w0 ρ s w) {a : AO} {n : Nm} (ho : OR (upd ρ s.nx n) (s.nx + 1) n a w.heap[n.b]?) (h0 : w0.heap.size ≤ n.b) (hn : ∀ q x, s.h.get q = some x → (ρ q).b ≠ n.b) : SStep ρ0 s0 w0 (upd ρ s.nx n) (s.new a) w := by
  have hx := upd_ext ρ s.nx n
  have key : Step ρ0 s0.nx s0.h.get w0 (upd ρ s.nx n) (s.nx + 1) (updH s.h.get s.nx (some a)) w := by
    refine ⟨h.ext.trans hx, ⟨fun q o' hm => ?_, fun q r o1 o2 h1 h2 he => ?_⟩, h.fr, fun q o' hm => ?_⟩
    · rcases updH_get hm with ⟨rfl, e⟩ | ⟨hne, hm⟩
      · obtain rfl := Option.some.inj e
        refine ⟨Nat.lt_succ_self _, ?_⟩
        rw [upd_at]
        exact ho
      · have h1 := h.hr.obj q o' hm
        refine ⟨Nat.lt_succ_of_lt h1.1, ?_⟩
        rw [hx.2 q h1.1]
        exact h1.2.mono hx
    · rcases updH_get h1 with ⟨g1, _⟩ | ⟨hne, g1⟩ <;> rcases updH_get h2 with ⟨g2, _⟩ | ⟨hme, g2⟩
      · exact g1.trans g2.symm
      · rw [g1, upd_at, hx.2 r (h.hr.obj r _ g2).1] at he
        exact absurd he.symm (hn r _ g2)
      · rw [g2, upd_at, hx.2 q (h.hr.obj q _ g1).1] at he
        exact absurd he (hn q _ g1)
      · rw [hx.2 q (h.hr.obj q _ g1).1, hx.2 r (h.hr.obj r _ g2).1] at he
        exact h.hr.inj q r o1 o2 g1 g2 he
    · rcases updH_get hm with ⟨rfl, _⟩ | ⟨hne, hm⟩
      · exact .inl (by rw [upd_at]; exact h0)
      · rw [hx.2 q (h.hr.obj q _ hm).1]
        exact h.liv q o' hm
  exact key.less get_updH
structure Told (P : Program) (ops : Array Oper) (d0 : Tmp) (kk : IntKind) (m : Nat) (f : T Value) (E : List MapEntry) : Prop where
  nodup : (E.map (·.key)).Nodup
  back : ∀ e ∈ E, ∃ (j : Nat) (o : Oper) (z : Int) (x : Operand), ops[j]? = some o ∧ j < m ∧ isIns P d0 kk o = some (z, x) ∧ e.key = .int kk z
  all : ∀ (j : Nat) (o : Oper) (z : Int) (x : Operand), ops[j]? = some o → j < m → isIns P d0 kk o = some (z, x) → ∃ e ∈ E, e.key = .int kk z ∧ ev x f = some e.val
theorem RelM.adopt (R : RelM P N ds ops ρ0 s0 w0 d0 kk m D f s ρ c L a w) (M : MapReg P N ops d0 kk m D) (hall : ∀ i, i < m → li L i) {E : List MapEntry} (hE : Told P ops d0 kk m f E) {D' : List Nat} (hD : ∀ i, i ∈ D' ↔ i < m) :
    ∃ ρ2 c2, Rel P N ds ops ρ0 s0 w0 L D' (put N (some d0) (.map (some s.nx)) f) (s.new (.pmap E)) a w ρ2 c2 (fun _ => 0) := by
  obtain ⟨B, es, clock, g1, g2, g3, g4, g5, g6⟩ := R.map (hall 0 M.pos)
  have hx := upd_ext ρ s.nx ⟨B, 0, 0⟩
  have st : SStep ρ0 s0 w0 (upd ρ s.nx ⟨B, 0, 0⟩) (s.new (.pmap E)) w := step_named R.st ⟨es, clock, g3, kk, hE.nodup, fun e he => (by
      obtain ⟨_, _, z, _, _, _, _, k⟩ := hE.back e he
      exact ⟨z, k⟩), fun u hu => (by
      obtain ⟨j, o, z, x, v, k1, k2, k3, k4, k5, k6, k7⟩ := g5 u hu
      obtain ⟨e, e1, e2, e3⟩ := hE.all j o z x k1 k2 k3
      obtain rfl := Option.some.inj (k5.symm.trans e3)
      exact ⟨e, e1, e2.trans k6.symm, k7.mono hx⟩), fun e he => (by
      obtain ⟨j, o, z, x, k1, k2, k3, k4⟩ := hE.back e he
      obtain ⟨u, u1, u2⟩ := g6 j o z x k1 k2 k3 (hall j k2)
      exact ⟨u, u1, u2.trans k4.symm⟩)⟩ g2 g4
  have hvm : VR (upd ρ s.nx ⟨B, 0, 0⟩) (s.nx + 1) (.map (some s.nx)) (.map (some B)) := by
    have h := VR.map (ρ := upd ρ s.nx ⟨B, 0, 0⟩) s.nx (Nat.lt_succ_self s.nx)
    rw [upd_at] at h
    exact h
  have ft := R.fits.put hx (some d0) hvm
  refine ⟨_, _, st, ft, R.asz, R.adf, R.lsz, R.lcl, fun t h1 h2 => ?_, fun i oi hi hiD hli => absurd (hall i ((hD i).1 hiD)) hli, fun i oi hi hiD hli => ?_, fun i k oi ok hi hk hiD hkD hli hlk he => ?_⟩
  · by_cases ht : t = d0
    · subst ht
      rw [put_self c t _ (by rw [R.fits.size]; exact M.d0N)]
      exact g1
    · rw [put_at c (some d0) _ t (fun e => ht (Option.some.inj e).symm)]
      exact R.agree t ht (fun i oi hi hiD hli => absurd (hall i (M.D0 i hiD).2) hli)
  · have : ¬ i < m := fun h => hiD ((hD i).2 h)
    exact absurd hli (R.last i (by omega))
  · have : ¬ i < m := fun h => hiD ((hD i).2 h)
    exact absurd hli (R.last i (by omega))
theorem skip_wp {o : Oper} {w' : World} {next : Act → World → Prop} {Q : Exit → Act → World → Prop} (h : (execOp a.eval o).run P w = .ok .skip w') (hn : next (a.put o.dst undef) w') : o.wpIn (fz ro) 0 P a w next Q :=
  Does.wp (X := fun x y => x = undef ∧ y = w') ro (by unfold Does; rw [h]; exact ⟨rfl, rfl⟩) (fun x y ⟨e1, e2⟩ => by subst e1 e2; exact hn)
theorem map_any (hcl : ClOk P cl) (M : MapReg P N ops d0 kk m D) {E : List MapEntry} (hE : Told P ops d0 kk m f E) {D' : List Nat} (hD : ∀ i, i ∈ D' ↔ i < m) {p : List Nat} (hO : OrdOk P N ops p D') (hC : Chain ops D')
    (hok : (xDr P cl N ops p D' (put N (some d0) (.map (some s.nx)) f) (s.new (.pmap E))).ok) : ∀ (fuel : Nat) (L : Array Bool) (a : Act) (w : World), RelM P N ds ops ρ0 s0 w0 d0 kk m D f s ρ c L a w → L.count false ≤ fuel →
    wpAnyIn (fz ro) 0 P .any ops (EndR N ds ρ0 s0 w0 (xDr P cl N ops p D' (put N (some d0) (.map (some s.nx)) f) (s.new (.pmap E)))) fuel L a w
  | fuel, L, a, w, R, hf => by
    by_cases hall : ∀ i, i < m → li L i
    · obtain ⟨ρ2, c2, R2⟩ := R.adopt M hall hE hD
      exact drawn_any hcl M.slots fuel L a w p D' _ _ c2 ρ2 _ R2 hO hC hok hf
    · obtain ⟨i0, hi0, hl0⟩ : ∃ i, i ∈ D' ∧ ¬ li L i := by
        apply Classical.byContradiction
        intro hn
        exact hall fun i hi => Classical.byContradiction fun hl => hn ⟨i, (hD i).2 hi, hl⟩
      obtain ⟨k, hk, hkl, ok, hok1, hkb⟩ := hC.first ⟨i0, hi0, hl0⟩
      have hkr : k ∈ Region.ready .any ops L := (ready_iff R.lsz hok1).2 ⟨hkl, hkb⟩
      have hklt : k < L.size := by rw [R.lsz]; exact (Array.getElem?_eq_some_iff.1 hok1).1
      cases fuel with
      | zero =>
        exfalso
        have hg : L[k] = false := by
          unfold li at hkl
          simp [hklt] at hkl
          exact hkl
        have : 0 < L.count false := Array.count_pos_iff.2 (hg ▸ Array.getElem_mem hklt)
        omega
      | succ n =>
        refine ⟨fun hr => (by rw [hr] at hkr; cases hkr), fun i hi => ?_⟩
        obtain ⟨_, o, ho, _⟩ := mem_ready.1 hi
        obtain ⟨hl, hb⟩ := (ready_iff R.lsz ho).1 hi
        have hlt : i < L.size := by rw [R.lsz]; exact (Array.getElem?_eq_some_iff.1 ho).1
        have hcnt := count_set_lt hlt hl hf
        unfold wpOpIn
        rw [ho]
        simp only
        by_cases him : i < m
        · by_cases hi00 : i = 0
          · subst hi00
            obtain ⟨u, w', h1, h2, R2⟩ := R.made M ho hi
            rw [if_pos h1]
            exact val_wp h2 (map_any hcl M hE hD hO hC hok n _ _ _ R2 hcnt)
          · rcases M.kind i o ho (by omega) him with ⟨hiD, _⟩ | ⟨hiD, hb0, _, z, x, hz, hx0⟩
            · obtain ⟨u, h1, h2, R2⟩ := R.pended M ho hiD hi
              rw [if_pos h1]
              exact val_wp h2 (map_any hcl M hE hD hO hC hok n _ _ _ R2 hcnt)
            · obtain ⟨e, _, _, hv⟩ := hE.all i o z x ho him hz
              obtain ⟨w', h1, h2, R2⟩ := R.put1 M ho hiD him hb0 hz hx0 hv hi
              rw [if_pos h1]
              exact skip_wp h2 (map_any hcl M hE hD hO hC hok n _ _ _ R2 hcnt)
        · exact absurd (fun e he => hb e (M.last i o ho (by omega) e he)) hall
end
end Go.Proofs.YthdjicolicokcaaGreatDoor.Ev
namespace Go.Proofs.YthdjicolicokcaaGreatDoor.Ev
open Go
theorem full_bit : ∀ (m i : Nat), bit (full m) i = true ↔ i < m
  | 0, i => by
    show bit 0 i = true ↔ _
    rw [bit_zero]
    exact ⟨fun h => h.elim, fun h => absurd h (Nat.not_lt_zero _)⟩
  | m + 1, i => by
    show bit (add1 (full m) m) i = true ↔ _
    rw [bit_add1, full_bit m i]
    omega
theorem down_mem : ∀ (m i : Nat), i ∈ downFrom m ↔ i < m
  | 0, i => by
    show i ∈ ([] : List Nat) ↔ _
    simp
  | m + 1, i => by
    show i ∈ m :: downFrom m ↔ _
    rw [List.mem_cons, down_mem m i]
    omega
theorem qList_mem (m : Nat) : ∀ (l : List (Nat × Oper)) (i : Nat), i ∈ qList m l ↔ ∃ o, (i, o) ∈ l ∧ 1 ≤ i ∧ i + 1 ≤ m ∧ quiet o = true
  | [], i => by
    show i ∈ ([] : List Nat) ↔ _
    simp
  | x :: l, i => by
    have ih := qList_mem m l i
    show i ∈ Bool.rec (motive := fun _ => List Nat) (qList m l) (x.1 :: qList m l) (band (Nat.ble 1 x.1) (band (Nat.ble (x.1 + 1) m) (quiet x.2))) ↔ _
    rcases hb : band (Nat.ble 1 x.1) (band (Nat.ble (x.1 + 1) m) (quiet x.2)) with _ | _
    · simp only [ih]
      constructor
      · rintro ⟨o, h1, h2⟩
        exact ⟨o, List.mem_cons_of_mem _ h1, h2⟩
      · rintro ⟨o, h1, h2, h3, h4⟩
        rcases List.mem_cons.1 h1 with e | h1
        · subst e
          rw [Nat.ble_eq_true_of_le h2, Nat.ble_eq_true_of_le h3, h4] at hb
          cases hb
        · exact ⟨o, h1, h2, h3, h4⟩
    · obtain ⟨b1, b2⟩ := bandT hb
      obtain ⟨b2, b3⟩ := bandT b2
      simp only [List.mem_cons, ih]
      constructor
      · rintro (e | ⟨o, h1, h2⟩)
        · subst e
          exact ⟨x.2, .inl rfl, Nat.le_of_ble_eq_true b1, Nat.le_of_ble_eq_true b2, b3⟩
        · exact ⟨o, .inr h1, h2⟩
      · rintro ⟨o, h1 | h1, h2⟩
        · exact .inl (congrArg Prod.fst h1)
        · exact .inr ⟨o, h1, h2⟩
section
variable {P : Program} {cl : Cl} {N : Nat} {ds : List Deferred} {ro : Option Nat} {ops : Array Oper} {ρ0 : Nat → Nm} {s0 : St} {w0 : World}
variable {f : T Value} {s : St} {w : World} {ρ : Nat → Nm} {d0 : Tmp} {kk : IntKind} {m : Nat} {L : Array Bool} {a : Act} {B : Nat → Nat}
theorem xQ_ok (S : Slots P N ops) (hno : ∀ i, ¬ li L i) {k : T Value → Ev.R} : ∀ (q D : List Nat) (d : Nat) (f : T Value) (c : Act), (∀ i, bit d i = true ↔ i ∈ D) → okQ ops q d = true → Chain ops D → Rel P N ds ops ρ0 s0 w0 L D f s a w ρ c B → (xQ P cl N ops q s k f).ok →
    ∃ D2 f2 c2, Rel P N ds ops ρ0 s0 w0 L D2 f2 s a w ρ c2 B ∧ Chain ops D2 ∧ (∀ i, i ∈ D2 ↔ i ∈ q ∨ i ∈ D) ∧ xQ P cl N ops q s k f = k f2
  | [], D, d, f, c, hd, h, hC, R, hok => ⟨D, f, c, R, hC, fun i => by simp, rfl⟩
  | i :: q, D, d, f, c, hd, h, hC, R, hok => by
    obtain ⟨h1, h2⟩ := bandT (show band (bnot (bit d i)) (Option.rec (motive := fun _ => Bool) false (fun o => band (sub (mask o) d) (forceL (add1 d i) (okQ ops q))) (nth ops.toList i)) = true from h)
    change (onO 203 (nth ops.toList i) (fun o => onB 235 (band (quiet o) (Option.isNone o.guard)) (xOp P cl o f s (fun v _ => xQ P cl N ops q s k (put N o.dst v f))))).ok at hok
    show ∃ D2 f2 c2, _ ∧ _ ∧ _ ∧ onO 203 (nth ops.toList i) (fun o => onB 235 (band (quiet o) (Option.isNone o.guard)) (xOp P cl o f s (fun v _ => xQ P cl N ops q s k (put N o.dst v f)))) = k f2
    rw [nth_arr] at h2 hok ⊢
    rcases ho : ops[i]? with _ | o
    · rw [ho] at h2
      cases h2
    · rw [ho] at h2 hok
      obtain ⟨h3, h4⟩ := bandT h2
      rw [forceL_eq] at h4
      change (onB 235 (band (quiet o) (Option.isNone o.guard)) (xOp P cl o f s (fun v _ => xQ P cl N ops q s k (put N o.dst v f)))).ok at hok
      show ∃ D2 f2 c2, _ ∧ _ ∧ _ ∧ onB 235 (band (quiet o) (Option.isNone o.guard)) (xOp P cl o f s (fun v _ => xQ P cl N ops q s k (put N o.dst v f))) = k f2
      rcases hb : band (quiet o) (Option.isNone o.guard) with _ | _
      · rw [hb] at hok
        exact hok.elim
      · rw [hb] at hok
        obtain ⟨hq, hg⟩ := bandT hb
        have hi : i ∉ D := fun hm => by
          rw [(hd i).2 hm] at h1
          cases h1
        have hm : ∀ e, bit (mask o) e = true → e ∈ D := fun e he => (hd e).1 ((sub_iff _ _).1 h3 e he)
        obtain ⟨v, e1, e2⟩ := xOp_q hq (show (xOp P cl o f s (fun v _ => xQ P cl N ops q s k (put N o.dst v f))).ok from hok)
        change (xOp P cl o f s (fun v _ => xQ P cl N ops q s k (put N o.dst v f))).ok at hok
        rw [e1] at hok
        obtain ⟨u, _, e3⟩ := e2 ρ w c R.st.hr R.fits.fr
        have hw : Region.wanted o (yielded ops c.tmps) = true := by
          unfold Region.wanted
          rw [Option.isNone_iff_eq_none.1 hg]
        have R2 := R.absorb S hC.closed ho hi hq (.inr ⟨hw, e2, e3⟩)
        obtain ⟨D2, f2, c2, g1, g2, g3, g4⟩ := xQ_ok S hno q (i :: D) (add1 d i) (put N o.dst v f) _ (fun j => by
          rw [bit_add1, hd j, List.mem_cons]
          constructor
          · rintro (h | h)
            · exact .inr h
            · exact .inl h.symm
          · rintro (h | h)
            · exact .inr h.symm
            · exact .inl h) h4 ⟨⟨o, ho, hm⟩, hC⟩ R2 hok
        refine ⟨D2, f2, c2, g1, g2, fun j => ?_, ?_⟩
        · rw [g3 j, List.mem_cons, List.mem_cons]
          constructor
          · rintro (h | h | h)
            · exact .inl (.inr h)
            · exact .inl (.inl h)
            · exact .inr h
          · rintro ((h | h) | h)
            · exact .inr (.inl h)
            · exact .inl h
            · exact .inr (.inr h)
        · show xOp P cl o f s (fun v _ => xQ P cl N ops q s k (put N o.dst v f)) = k f2
          rw [e1]
          exact g4
theorem memK_is {kk : IntKind} {z : Int} : ∀ {es : List MapEntry}, memK kk z es = false → ∀ e ∈ es, e.key ≠ .int kk z
  | [], _, e, he => by cases he
  | x :: es, h, e, he => by
    change Bool.rec (motive := fun _ => Bool) (memK kk z es) true (keyIs x.key kk z) = false at h
    rcases hb : keyIs x.key kk z with _ | _
    · rw [hb] at h
      rcases List.mem_cons.1 he with e1 | he
      · intro e2
        rw [e1] at e2
        rw [keyIs_is.2 e2] at hb
        cases hb
      · exact memK_is h e he
    · rw [hb] at h
      cases h
theorem nodupE_is : ∀ {es : List MapEntry}, nodupE es = true → (es.map (·.key)).Nodup
  | [], _ => List.nodup_nil
  | e :: es, h => by
    change nodS e es (nodupE es) = true at h
    unfold nodS at h
    split at h
    · rename_i kk z hk
      obtain ⟨h1, h2⟩ := bandT h
      rw [List.map_cons, List.nodup_cons]
      refine ⟨fun hm => ?_, nodupE_is h2⟩
      obtain ⟨u, hu, he⟩ := List.mem_map.1 hm
      exact memK_is (bnot_true h1) u hu (he.trans hk)
    · cases h
theorem entsE_is : ∀ {l : List (Nat × Oper)} {E : List MapEntry}, entsE P d0 kk m f l = some E →
    (∀ e ∈ E, ∃ (j : Nat) (o : Oper) (z : Int) (x : Operand), (j, o) ∈ l ∧ j < m ∧ isIns P d0 kk o = some (z, x) ∧ e.key = .int kk z) ∧
    ∀ (j : Nat) (o : Oper) (z : Int) (x : Operand), (j, o) ∈ l → j < m → isIns P d0 kk o = some (z, x) → ∃ e ∈ E, e.key = .int kk z ∧ ev x f = some e.val
  | [], E, h => by
    obtain rfl := Option.some.inj (show some [] = some E from h)
    exact ⟨fun e he => (by cases he), fun j o z x h => (by cases h)⟩
  | y :: l, E, h => by
    change Bool.rec (motive := fun _ => Option (List MapEntry)) (entsE P d0 kk m f l) (entS P d0 kk f y.2 (entsE P d0 kk m f l)) (Nat.ble (y.1 + 1) m) = some E at h
    have keep : ∀ {E'}, entsE P d0 kk m f l = some E' → (∀ e ∈ E', ∃ (j : Nat) (o : Oper) (z : Int) (x : Operand), (j, o) ∈ y :: l ∧ j < m ∧ isIns P d0 kk o = some (z, x) ∧ e.key = .int kk z) := fun h e he => by
      obtain ⟨j, o, z, x, h1, h2⟩ := (entsE_is h).1 e he
      exact ⟨j, o, z, x, List.mem_cons_of_mem _ h1, h2⟩
    rcases hb : Nat.ble (y.1 + 1) m with _ | _
    · rw [hb] at h
      refine ⟨keep h, fun j o z x hj hm hz => ?_⟩
      rcases List.mem_cons.1 hj with e | hj
      · subst e
        rw [Nat.ble_eq_true_of_le hm] at hb
        cases hb
      · exact (entsE_is h).2 j o z x hj hm hz
    · rw [hb] at h
      change entS P d0 kk f y.2 (entsE P d0 kk m f l) = some E at h
      unfold entS at h
      split at h
      · rename_i z x hz
        split at h
        · rename_i v E' hv hE'
          obtain rfl := Option.some.inj h
          refine ⟨fun e he => ?_, fun j o z' x' hj hm hz' => ?_⟩
          · rcases List.mem_cons.1 he with rfl | he
            · exact ⟨y.1, y.2, z, x, List.mem_cons_self, Nat.le_of_ble_eq_true hb, hz, rfl⟩
            · exact keep hE' e he
          · rcases List.mem_cons.1 hj with e | hj
            · subst e
              rw [hz] at hz'
              simp only [Option.some.injEq, Prod.mk.injEq] at hz'
              obtain ⟨rfl, rfl⟩ := hz'
              exact ⟨_, List.mem_cons_self, rfl, hv⟩
            · obtain ⟨e, g1, g2⟩ := (entsE_is hE').2 j o z' x' hj hm hz'
              exact ⟨e, List.mem_cons_of_mem _ g1, g2⟩
        · cases h
      · rename_i hz
        refine ⟨keep h, fun j o z' x' hj hm hz' => ?_⟩
        rcases List.mem_cons.1 hj with e | hj
        · subst e
          rw [hz] at hz'
          cases hz'
        · exact (entsE_is h).2 j o z' x' hj hm hz'
theorem mapHead_is {d0 : Tmp} (h : mapHead ops = some d0) : ∃ o t, ops[0]? = some o ∧ o.op = .makeMap t none ∧ o.dst = some d0 ∧ o.guard = none ∧ ∀ e, ¬ bit (mask o) e = true := by
  unfold mapHead at h
  split at h
  · rename_i o ho
    split at h
    · rename_i t d h1 h2 h3
      split at h
      · rename_i hm
        obtain rfl := Option.some.inj h
        refine ⟨o, t, ho, h1, h2, h3, fun e he => ?_⟩
        rw [Nat.eq_of_beq_eq_true hm, bit_zero] at he
        exact he
      · cases h
    · cases h
  · cases h
theorem okMap_is (h : okMap P N ops d0 kk m = true) (hh : mapHead ops = some d0) : ∃ D, (∀ i, i ∈ D ↔ i ∈ qList m (numb ops.toList 0)) ∧ okQ ops (qList m (numb ops.toList 0)) 0 = true ∧ okOrd P N (numb ops.toList 0) ops [m, m + 1] (full m) = true ∧ Chain ops (downFrom m) ∧
    ((∀ i o, ops[i]? = some o → i ∈ D → ∀ e, bit (mask o) e = true → e ∈ D) → MapReg P N ops d0 kk m D) := by
  unfold okMap at h
  obtain ⟨h1, h⟩ := bandT h
  obtain ⟨h2, h⟩ := bandT h
  obtain ⟨h3, h⟩ := bandT h
  obtain ⟨h4, h⟩ := bandT h
  obtain ⟨h5, h⟩ := bandT h
  obtain ⟨h6, h⟩ := bandT h
  obtain ⟨h7, h⟩ := bandT h
  obtain ⟨h8, h9⟩ := bandT h
  have hm : 1 ≤ m := Nat.le_of_ble_eq_true h4
  have hsz : ops.size = m + 2 := Nat.eq_of_beq_eq_true h3
  rw [allL_iff] at h6 h7
  have kd : ∀ (i : Nat) (o : Oper), ops[i]? = some o → 1 ≤ i → kindOk P ops d0 kk m (i, o) = true := fun i o ho _ => h6 (i, o) ((numb_at ops i o).2 ho)
  have low : ∀ (i : Nat) (o : Oper), ops[i]? = some o → 1 ≤ i → i < m → sub (mask o) (full i) = true ∧ Bool.rec (motive := fun _ => Bool) (band (bit (mask o) 0) (match isIns P d0 kk o with
          | some (_, y) => notTmp d0 y
          | none => false)) (band (Option.isNone o.guard) (band (bnot (memN d0 (o.looksAt ops))) (Option.rec (motive := fun _ => Bool) true (fun e => bnot (Nat.beq e d0)) o.dst))) (quiet o) = true := fun i o ho h0 him => by
    have h10 := kd i o ho h0
    unfold kindOk at h10
    simp only [Nat.ble_eq_true_of_le h0, Nat.ble_eq_true_of_le him] at h10
    exact bandT h10
  refine ⟨qList m (numb ops.toList 0), fun i => Iff.rfl, h8, h9, ?_, fun hcl => ⟨okSlots_is h2 h1, hsz, mapHead_is hh, Nat.le_of_ble_eq_true h5, hm, fun i hi => ?_, fun i o ho h0 him => ?_, fun i o ho him e he => ?_, fun i j o p z x z' x' ho hp hz hz' e => ?_⟩⟩
  · have key : ∀ n, n ≤ m → Chain ops (downFrom n) := by
      intro n
      induction n with
      | zero => exact fun _ => trivial
      | succ n ih =>
        intro hn
        have hlt : n < ops.size := by omega
        refine ⟨⟨ops[n], Array.getElem?_eq_getElem hlt, fun e he => (down_mem n e).2 ?_⟩, ih (by omega)⟩
        by_cases h0 : n = 0
        · subst h0
          obtain ⟨o, t, g1, _, _, _, g5⟩ := mapHead_is hh
          rw [Array.getElem?_eq_getElem hlt] at g1
          obtain rfl := Option.some.inj g1
          exact absurd he (g5 e)
        · have h10 := (low n _ (Array.getElem?_eq_getElem hlt) (by omega) (by omega)).1
          exact (full_bit n e).1 ((sub_iff _ _).1 h10 e he)
    exact key m (Nat.le_refl _)
  · obtain ⟨_, _, g1, g2, _⟩ := (qList_mem m _ i).1 hi
    omega
  · obtain ⟨l1, l2⟩ := low i o ho h0 him
    rcases hq : quiet o with _ | _
    · rw [hq] at l2
      obtain ⟨l3, l4⟩ := bandT l2
      refine .inr ⟨fun hi => ?_, l3, fun e he => (full_bit i e).1 ((sub_iff _ _).1 l1 e he), ?_⟩
      · obtain ⟨o', g1, _, _, g4⟩ := (qList_mem m _ i).1 hi
        obtain rfl := Option.some.inj (ho.symm.trans ((numb_at ops i o').1 g1))
        rw [hq] at g4
        cases g4
      · split at l4
        · rename_i z y hz
          refine ⟨z, y, hz, fun e => ?_⟩
          subst e
          have := bnot_true (show bnot (Nat.beq d0 d0) = true from l4)
          rw [Nat.beq_refl] at this
          cases this
        · cases l4
    · rw [hq] at l2
      obtain ⟨l3, l4⟩ := bandT l2
      obtain ⟨l4, l5⟩ := bandT l4
      have hi : i ∈ qList m (numb ops.toList 0) := (qList_mem m _ i).2 ⟨o, (numb_at ops i o).2 ho, h0, him, hq⟩
      refine .inl ⟨hi, rfl, Option.isNone_iff_eq_none.1 l3, fun hm => ?_, fun e => ?_, hcl i o ho hi⟩
      · rw [(memN_iff _ _).2 hm] at l4
        cases l4
      · rw [e] at l5
        have := bnot_true (show bnot (Nat.beq d0 d0) = true from l5)
        rw [Nat.beq_refl] at this
        cases this
  · have h10 := kd i o ho (by omega)
    unfold kindOk at h10
    have hb : Nat.ble (i + 1) m = false := by
      rcases hq : Nat.ble (i + 1) m with _ | _
      · rfl
      · have := Nat.le_of_ble_eq_true hq
        omega
    simp only [Nat.ble_eq_true_of_le (show 1 ≤ i by omega), hb] at h10
    exact (sub_iff _ _).1 h10 e ((full_bit m e).2 he)
  · have h10 := h7 (i, o) ((numb_at ops i o).2 ho)
    unfold oneOk at h10
    simp only [hz] at h10
    rw [allL_iff] at h10
    have h11 := h10 (j, p) ((numb_at ops j p).2 hp)
    simp only [hz'] at h11
    rcases hb : Nat.beq i j with _ | _
    · rw [hb] at h11
      have := bnot_true h11
      rw [e, int_refl] at this
      cases this
    · exact Nat.eq_of_beq_eq_true hb
theorem xMapLit_ok (hcl : ClOk P cl) {id : Nat} (hm : P.follows .mixedOrders = true) (st : SStep ρ0 s0 w0 ρ s w) (hf : Fits ρ N ds s.nx f a) (hok : (xMapLit P cl N ops f s).ok) : (Code.region id ops true).wpIn (fz ro) 0 P (EndR N ds ρ0 s0 w0 (xMapLit P cl N ops f s)) a w := by
  refine wpIn_region_any hm ?_
  have no : ∀ i, ¬ li (Array.replicate ops.size false) i := fun i h => by
    unfold li at h
    by_cases hi : i < ops.size
    · simp [hi] at h
    · simp [hi] at h
  have st2 : SStep ρ0 s0 w0 ρ s { w with drawn := w.drawn + 1 } := ⟨st.ext, world_drawn st.hr _, ⟨st.fr.os, st.fr.tape, st.fr.output, st.fr.size, st.fr.block⟩, st.liv⟩
  have key : W (fun r => wpAnyIn (fz ro) 0 P .any ops (EndR N ds ρ0 s0 w0 r) ops.size (Array.replicate ops.size false) a { w with drawn := w.drawn + 1 }) (xMapLit P cl N ops f s) := by
    refine onO_w fun d0 hd0 => onO_w fun kk _ => forceN_w (onB_w fun hmap => ?_)
    intro hok
    obtain ⟨D0, hD0, hq, hord, hch, hreg⟩ := okMap_is hmap hd0
    have S : Slots P N ops := by
      unfold okMap at hmap
      obtain ⟨h1, h⟩ := bandT hmap
      exact okSlots_is (bandT h).1 h1
    have R0 : Rel P N ds ops ρ0 s0 w0 (Array.replicate ops.size false) [] f s a { w with drawn := w.drawn + 1 } ρ a (fun _ => 0) := ⟨st2, hf, hf.size, hf.defers, by simp, fun i o _ h => absurd h (no i), fun t _ _ => rfl, fun i o _ h => (by cases h), fun i o _ _ h => absurd h (no i), fun i j o p _ _ _ _ h => absurd h (no i)⟩
    obtain ⟨D, f2, c2, R, hC, hD, he⟩ := xQ_ok S no _ [] 0 f a (fun i => by rw [bit_zero]; simp) hq trivial R0 hok
    rw [he] at hok ⊢
    have hDq : ∀ i, i ∈ D ↔ i ∈ D0 := fun i => by rw [hD i, hD0 i]; simp
    have M0 := hreg (fun i o ho hi e hb => (hDq e).1 (hC.closed i o ho ((hDq i).2 hi) e hb))
    refine onO_w (G := fun r => wpAnyIn (fz ro) 0 P .any ops (EndR N ds ρ0 s0 w0 r) ops.size (Array.replicate ops.size false) a { w with drawn := w.drawn + 1 }) (fun E hE => onB_w fun hn => newS_w fun hok => ?_) hok
    have hE2 := entsE_is hE
    have T : Told P ops d0 kk _ f2 E := ⟨nodupE_is hn, fun e he => (by
      obtain ⟨j, o, z, x, g1, g2⟩ := hE2.1 e he
      exact ⟨j, o, z, x, (numb_at ops j o).1 g1, g2⟩), fun j o z x hj hm hz => hE2.2 j o z x ((numb_at ops j o).2 hj) hm hz⟩
    refine map_any hcl M0 T (fun i => down_mem _ i) (okOrd_is _ _ _ (fun i => (full_bit _ i).trans (down_mem _ i).symm) hord) hch hok ops.size _ a _ ⟨R.st, R.fits, R.asz, R.adf, R.lsz, R.lcl, fun t _ h1 => R.agree t (fun i o hi hiD hl => h1 i o hi ((hDq i).1 hiD) hl) (fun i o _ _ h => absurd h (no i)), fun i o hi hiD hl => R.pend i o hi ((hDq i).2 hiD) hl, fun i _ => no i, fun h => absurd h (no 0)⟩ (by simp)
  exact key hok
theorem xDr_ok (hcl : ClOk P cl) {id : Nat} (hm : P.follows .mixedOrders = true) (st : SStep ρ0 s0 w0 ρ s w) (hf : Fits ρ N ds s.nx f a) (hd : okDraw P N ops = true) (hok : (xDr P cl N ops (order P N ops) [] f s).ok) : (Code.region id ops true).wpIn (fz ro) 0 P (EndR N ds ρ0 s0 w0 (xDr P cl N ops (order P N ops) [] f s)) a w := by
  have e : xDrawn P cl N ops f s = xDr P cl N ops (order P N ops) [] f s := by
    unfold xDrawn
    rw [hd]
    rfl
  have := xDrawn_ok (ro := ro) (id := id) hcl hm st hf (by rw [e]; exact hok)
  rw [e] at this
  exact this
theorem xDraw_ok (hcl : ClOk P cl) {id : Nat} (hm : P.follows .mixedOrders = true) (st : SStep ρ0 s0 w0 ρ s w) (hf : Fits ρ N ds s.nx f a) {chk : Bool} (hc : chk = false → drawOk P N ops = true) (hok : (xDraw P chk cl N ops f s).ok) : (Code.region id ops true).wpIn (fz ro) 0 P (EndR N ds ρ0 s0 w0 (xDraw P chk cl N ops f s)) a w := by
  unfold xDraw at hok ⊢
  cases chk with
  | true =>
    rcases hd : okDraw P N ops with _ | _
    · rw [hd] at hok
      exact xMapLit_ok hcl hm st hf hok
    · rw [hd] at hok
      exact xDr_ok hcl hm st hf hd hok
  | false =>
    have hc := hc rfl
    unfold drawOk at hc
    rcases hl : isLit ops with _ | _
    · rw [hl] at hok hc
      exact xDr_ok hcl hm st hf hc hok
    · rw [hl] at hok
      exact xMapLit_ok hcl hm st hf hok
end
end Go.Proofs.YthdjicolicokcaaGreatDoor.Ev
