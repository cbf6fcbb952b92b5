/-
  An evaluator for closed runs: regions that draw their order (4: the whole).
-/
import Derived.Test.YtjfcjpbolokfcaaGreatDoorEv32
namespace Go.Proofs.YtjfcjpbolokfcaaGreatDoor.Ev
open Go

section
variable {P : Program} {cl : Cl} {N : Nat} {ops : Array Oper} {ρ0 : Nat → Nm} {s0 : St} {w0 : World}
variable {L : Array Bool} {D : List Nat} {f : T Value} {s : St} {a c : Act} {w : World} {ρ : Nat → Nm} {B : Nat → Nat}
/-- An operation that turns something is done here and in the model. -/
theorem Rel.synced (R : Rel P N ops ρ0 s0 w0 L D f s a w ρ c B) (S : Slots P N ops) {j : Nat} {o : Oper} (ho : ops[j]? = some o) (hj : j ∉ D) (hr : j ∈ Region.ready .any ops L) {v u : Value} {s' : St} {ρ' : Nat → Nm} {w' : World} (h5 : SStep ρ s w ρ' s' w') (h6 : VR ρ' s'.nx v u)
    (hp : ∀ (i : Nat) (ok : Oper), ops[i]? = some ok → i ∈ D → ¬ li L i → quiet ok = true → Pend P N ops ρ' s' (c.put o.dst u) ok) : Rel P N ops ρ0 s0 w0 (L.setIfInBounds j true) (j :: D) (put N o.dst v f) s' (a.put o.dst u) w' ρ' (c.put o.dst u) B := by
  obtain ⟨hl, hb⟩ := (ready_iff R.lsz ho).1 hr
  have hlt : j < L.size := by rw [R.lsz]; exact (Array.getElem?_eq_some_iff.1 ho).1
  have hsz : a.tmps.size = c.tmps.size := R.asz.trans R.fits.size.symm
  have was : ∀ {i}, i ∉ j :: D → li (L.setIfInBounds j true) i → i ≠ j ∧ i ∉ D ∧ li L i := fun {i} h1 h2 => by
    have hij : i ≠ j := fun e => h1 (e ▸ List.mem_cons_self)
    exact ⟨hij, fun h => h1 (List.mem_cons_of_mem _ h), ((li_set hlt).1 h2).resolve_left hij⟩
  refine ⟨R.st.trans h5, R.fits.put h5.ext o.dst h6, by rw [put_size]; exact R.asz, by rw [put_defers0]; exact R.adf, by simp [R.lsz], fun i oi hi hli e he => ?_, fun t h1 h2 => ?_, fun i oi hi hiD hli => ?_, fun i oi hi hiD hli => ?_, fun i k oi ok hi hk hiD hkD hli hlk he => ?_⟩
  · rw [li_set hlt] at hli ⊢
    rcases hli with rfl | hli
    · obtain rfl := Option.some.inj (ho.symm.trans hi)
      exact .inr (hb e he)
    · exact .inr (R.lcl i oi hi hli e he)
  · refine put_both hsz o.dst u t ?_
    by_cases htd : o.dst = some t
    · exact .inl htd
    · refine .inr (R.agree t (fun i oi hi hiD hli he => ?_) (fun i oi hi hiD hli he => ?_))
      · exact h1 i oi hi (List.mem_cons_of_mem _ hiD) (fun h => by rcases (li_set hlt).1 h with h | h; exact hj (h ▸ hiD); exact hli h) he
      · refine h2 i oi hi (fun h => ?_) ((li_set hlt).2 (.inr hli)) he
        rcases List.mem_cons.1 h with h | h
        · exact hl (h ▸ hli)
        · exact hiD h
  · have hij : i ≠ j := fun e => hli ((li_set hlt).2 (.inl e))
    have hiD2 : i ∈ D := (List.mem_cons.1 hiD).resolve_left hij
    have hli2 : ¬ li L i := fun h => hli ((li_set hlt).2 (.inr h))
    have hq := (R.pend i oi hi hiD2 hli2).1
    exact ⟨hq, hp i oi hi hiD2 hli2 hq⟩
  · obtain ⟨hij, hiD2, hli2⟩ := was hiD hli
    obtain ⟨hA, ty, d, inf, z, g1, g2, g3, g4, g5, g6, g7, g8, g9⟩ := R.early i oi hi hiD2 hli2
    have hlt2 : B i < w.heap.size := by
      rcases Nat.lt_or_ge (B i) w.heap.size with h | h
      · exact h
      · rw [Array.getElem?_eq_none h] at g8
        cases g8
    refine ⟨hA, ty, d, inf, z, g1, g2, g3, g4, g5, ?_, g7, ?_, fun n x hn he => ?_⟩
    · rw [put_at a o.dst u d (fun h => S.one i j oi o d hi ho hij g2 (.inr hA) h)]
      exact g6
    · rw [h5.fr.block _ hlt2 g9]
      exact g8
    · rcases h5.liv n x hn with h1 | ⟨m, y, h1, h2⟩
      · omega
      · exact g9 m y h1 (h2.trans he)
  · obtain ⟨_, hiD2, hli2⟩ := was hiD hli
    obtain ⟨_, hkD2, hlk2⟩ := was hkD hlk
    exact R.dist i k oi ok hi hk hiD2 hkD2 hli2 hlk2 he
/-- A block that lies there already gets a name. -/
theorem step_adopt (h : SStep ρ0 s0 w0 ρ s w) {b : Nat} {ty : TypeId} {z : Value} (hz : flat z = true) (hb : w.heap[b]? = some (.cells z.cells ty (0, 0))) (h0 : w0.heap.size ≤ b) (hn : ∀ n x, s.h.get n = some x → (ρ n).b ≠ b) :
    SStep ρ0 s0 w0 (upd ρ s.nx ⟨b, 0, 0⟩) (s.new (.cells (ofL z.cells.toList) z.cells.size ty 0 0)) w := by
  have hx := upd_ext ρ s.nx ⟨b, 0, 0⟩
  have key : Step ρ0 s0.nx s0.h.get w0 (upd ρ s.nx ⟨b, 0, 0⟩) (s.nx + 1) (updH s.h.get s.nx (some (.cells (ofL z.cells.toList) z.cells.size ty 0 0))) w := by
    refine ⟨h.ext.trans hx, ⟨fun n o' hm => ?_, fun n m o1 o2 h1 h2 he => ?_⟩, h.fr, fun n o' hm => ?_⟩
    · rcases updH_get hm with ⟨rfl, e⟩ | ⟨hne, hm⟩
      · obtain rfl := Option.some.inj e
        refine ⟨Nat.lt_succ_self _, ?_⟩
        rw [upd_at]
        refine ⟨z.cells, (0, 0), hb, by simp, fun i v hi hg => ?_, fun j _ _ => by simp⟩
        have hg2 := ofL_get hg
        obtain ⟨u, hu, hr⟩ := ((flat_vr (ρ := upd ρ s.nx ⟨b, 0, 0⟩) (nx := s.nx + 1) hz).cells).at (i := i) (x := v) (by simpa using hg2)
        exact ⟨u, by simpa using hu, hr⟩
      · have h1 := h.hr.obj n o' hm
        refine ⟨Nat.lt_succ_of_lt h1.1, ?_⟩
        rw [hx.2 n h1.1]
        exact h1.2.mono hx
    · rcases updH_get h1 with ⟨g1, _⟩ | ⟨hne, g1⟩ <;> rcases updH_get h2 with ⟨g2, _⟩ | ⟨hme, g2⟩
      · exact g1.trans g2.symm
      · rw [g1, upd_at, hx.2 m (h.hr.obj m _ g2).1] at he
        exact absurd he.symm (hn m _ g2)
      · rw [g2, upd_at, hx.2 n (h.hr.obj n _ g1).1] at he
        exact absurd he (hn n _ g1)
      · rw [hx.2 n (h.hr.obj n _ g1).1, hx.2 m (h.hr.obj m _ g2).1] at he
        exact h.hr.inj n m o1 o2 g1 g2 he
    · rcases updH_get hm with ⟨rfl, _⟩ | ⟨hne, hm⟩
      · exact .inl (by rw [upd_at]; exact h0)
      · rw [hx.2 n (h.hr.obj n _ hm).1]
        exact h.liv n o' hm
  exact key.less get_updH
theorem Rel.adopted (R : Rel P N ops ρ0 s0 w0 L D f s a w ρ c B) {j : Nat} {o : Oper} (ho : ops[j]? = some o) (hj : j ∉ D) (hl : li L j) {ty : TypeId} {inf : TypeInfo} {z : Value} (hop : o.op = .alloc ty) (hi : P.info? ty = some inf) (hz : inf.zero = some z) (hfz : flat z = true)
    (hp : ∀ (ρ' : Nat → Nm) (c' : Act), SR ρ' (s.new (.cells (ofL z.cells.toList) z.cells.size ty 0 0)) w → Fits ρ' N (s.nx + 1) (put N o.dst (.pointer (some ⟨s.nx, 0, none⟩)) f) c' → ∀ (i : Nat) (ok : Oper), ops[i]? = some ok → i ∈ D → ¬ li L i → quiet ok = true → Pend P N ops ρ' (s.new (.cells (ofL z.cells.toList) z.cells.size ty 0 0)) c' ok) :
    ∃ ρ' c', Rel P N ops ρ0 s0 w0 L (j :: D) (put N o.dst (.pointer (some ⟨s.nx, 0, none⟩)) f) (s.new (.cells (ofL z.cells.toList) z.cells.size ty 0 0)) a w ρ' c' B := by
  obtain ⟨hA, ty', d, inf', z', g1, g2, g3, g4, g5, g6, g7, g8, g9⟩ := R.early j o ho hj hl
  rw [hop] at g1
  obtain rfl : ty = ty' := by injection g1
  obtain rfl := Option.some.inj (hi.symm.trans g4)
  obtain rfl := Option.some.inj (hz.symm.trans g5)
  have st := step_adopt R.st hfz g8 g7 g9
  have ft := R.fits.put (upd_ext ρ s.nx ⟨B j, 0, 0⟩) o.dst (ptr_new ρ s.nx (B j))
  have hx := upd_ext ρ s.nx ⟨B j, 0, 0⟩
  refine ⟨_, _, st, ft, R.asz, R.adf, R.lsz, R.lcl, fun t h1 h2 => ?_, fun i oi hi hiD hli => ?_, fun i oi hi hiD hli => ?_, fun i k oi ok hi hk hiD hkD hli hlk he => R.dist i k oi ok hi hk (fun h => hiD (List.mem_cons_of_mem _ h)) (fun h => hkD (List.mem_cons_of_mem _ h)) hli hlk he⟩
  · by_cases htd : o.dst = some t
    · rw [g2] at htd
      obtain rfl := Option.some.inj htd
      rw [g2, put_self c d _ (by rw [R.fits.size]; exact g3)]
      exact g6
    · rw [put_at c o.dst _ t htd]
      refine R.agree t (fun i oi hi hiD hli => h1 i oi hi (List.mem_cons_of_mem _ hiD) hli) (fun i oi hi hiD hli => ?_)
      by_cases hij : i = j
      · subst hij
        obtain rfl := Option.some.inj (ho.symm.trans hi)
        exact htd
      · exact h2 i oi hi (fun h => by rcases List.mem_cons.1 h with h | h; exact hij h; exact hiD h) hli
  · have hij : i ≠ j := fun e => hli (e ▸ hl)
    have hiD2 : i ∈ D := (List.mem_cons.1 hiD).resolve_left hij
    have hq := (R.pend i oi hi hiD2 hli).1
    exact ⟨hq, hp _ _ st.hr ft i oi hi hiD2 hli hq⟩
  · have hij : i ≠ j := fun e => hiD (e ▸ List.mem_cons_self)
    have hiD2 : i ∉ D := fun h => hiD (List.mem_cons_of_mem _ h)
    obtain ⟨hA', ty', d', inf', z', k1, k2, k3, k4, k5, k6, k7, k8, k9⟩ := R.early i oi hi hiD2 hli
    refine ⟨hA', ty', d', inf', z', k1, k2, k3, k4, k5, k6, k7, k8, fun n x hn he => ?_⟩
    rcases updH_get (get_updH n x hn) with ⟨rfl, _⟩ | ⟨hne, hm⟩
    · rw [upd_at] at he
      exact hij (R.dist i j oi o hi ho hiD2 hj hli hl he.symm)
    · rw [hx.2 n (R.st.hr.obj n _ hm).1] at he
      exact k9 n x hm he
/-- What was done stands in an order that serves. -/
def Chain (ops : Array Oper) : List Nat → Prop
  | [] => True
  | i :: D => (∃ o, ops[i]? = some o ∧ ∀ e, bit (mask o) e = true → e ∈ D) ∧ Chain ops D
theorem Chain.closed {D : List Nat} (h : Chain ops D) (k : Nat) (ok : Oper) (hk : ops[k]? = some ok) (hm : k ∈ D) (e : Nat) (he : bit (mask ok) e = true) : e ∈ D := by
  induction D with
  | nil => cases hm
  | cons i D ih =>
    obtain ⟨⟨o, h1, h2⟩, h3⟩ := h
    rcases List.mem_cons.1 hm with rfl | hm
    · obtain rfl := Option.some.inj (h1.symm.trans hk)
      exact List.mem_cons_of_mem _ (h2 e he)
    · exact List.mem_cons_of_mem _ (ih h3 hm)
theorem Chain.first : ∀ {D : List Nat}, Chain ops D → (∃ i ∈ D, ¬ li L i) → ∃ i ∈ D, ¬ li L i ∧ ∃ o, ops[i]? = some o ∧ ∀ e, bit (mask o) e = true → li L e
  | [], _, ⟨i, hi, _⟩ => by cases hi
  | i :: D, ⟨⟨o, h1, h2⟩, h3⟩, ⟨k, hk, hl⟩ => by
    by_cases h : ∃ i ∈ D, ¬ li L i
    · obtain ⟨i', g1, g2⟩ := h3.first h
      exact ⟨i', List.mem_cons_of_mem _ g1, g2⟩
    · have all : ∀ e ∈ D, li L e := fun e he => Classical.byContradiction fun hn => h ⟨e, he, hn⟩
      rcases List.mem_cons.1 hk with rfl | hk
      · exact ⟨k, List.mem_cons_self, hl, o, h1, fun e he => all e (h2 e he)⟩
      · exact absurd (all k hk) hl
theorem clos_li : ∀ (D : List Nat) (m : Nat), (∀ (i : Nat) (o : Oper), ops[i]? = some o → li L i → ∀ e, bit (mask o) e = true → li L e) → (∀ e, bit m e = true → li L e) → ∀ e, bit (clos ops D m) e = true → li L e
  | [], m, _, hm, e, he => hm e he
  | i :: D, m, hl, hm, e, he => by
    change bit (Bool.rec (motive := fun _ => Nat) (clos ops D m) (Option.rec (motive := fun _ => Nat) (clos ops D m) (fun o => forceL (Nat.lor m (mask o)) (clos ops D)) (nth ops.toList i)) (bit m i)) e = true at he
    rcases hb : bit m i with _ | _
    · rw [hb] at he
      exact clos_li D m hl hm e he
    · rw [hb, nth_arr] at he
      rcases ho : ops[i]? with _ | o
      · rw [ho] at he
        exact clos_li D m hl hm e he
      · rw [ho] at he
        simp only [forceL_eq] at he
        refine clos_li D _ hl (fun x hx => ?_) e he
        rcases (bit_lor _ _ _).1 hx with hx | hx
        · exact hm x hx
        · exact hl i o ho (hm i hb) x hx
theorem behind_mem {m : Nat} (D : List Nat) (k : Nat) (o : Oper) (hk : k ∈ D) (ho : ops[k]? = some o) (hq : quiet o = true) (hb : ¬ bit m k = true) : k ∈ behind ops m D := by
  induction D with
  | nil => cases hk
  | cons i D ih =>
    show k ∈ Bool.rec (motive := fun _ => List Nat) (Option.rec (motive := fun _ => List Nat) (behind ops m D) (fun o => Bool.rec (motive := fun _ => List Nat) (behind ops m D) (i :: behind ops m D) (quiet o)) (nth ops.toList i)) (behind ops m D) (bit m i)
    rcases List.mem_cons.1 hk with rfl | hk
    · have hb0 : bit m k = false := by
        rcases h : bit m k with _ | _
        · rfl
        · exact absurd h hb
      rw [hb0, nth_arr, ho]
      simp only [hq]
      exact List.mem_cons_self
    · have ih := ih hk
      rcases bit m i with _ | _
      · rw [nth_arr]
        rcases ops[i]? with _ | oi
        · exact ih
        · simp only
          rcases quiet oi with _ | _
          · exact ih
          · exact List.mem_cons_of_mem _ ih
      · exact ih
theorem behind_quiet {m : Nat} : ∀ (D : List Nat) (k : Nat), k ∈ behind ops m D → ∀ o, ops[k]? = some o → quiet o = true
  | [], k, hk, _, _ => by cases hk
  | i :: D, k, hk, o, ho => by
    change k ∈ Bool.rec (motive := fun _ => List Nat) (Option.rec (motive := fun _ => List Nat) (behind ops m D) (fun o => Bool.rec (motive := fun _ => List Nat) (behind ops m D) (i :: behind ops m D) (quiet o)) (nth ops.toList i)) (behind ops m D) (bit m i) at hk
    rcases hb : bit m i with _ | _
    · rw [hb, nth_arr] at hk
      rcases hoi : ops[i]? with _ | oi
      · rw [hoi] at hk
        exact behind_quiet D k hk o ho
      · rw [hoi] at hk
        simp only at hk
        rcases hq : quiet oi with _ | _
        · rw [hq] at hk
          exact behind_quiet D k hk o ho
        · rw [hq] at hk
          rcases List.mem_cons.1 hk with rfl | hk
          · obtain rfl := Option.some.inj (ho.symm.trans hoi)
            exact hq
          · exact behind_quiet D k hk o ho
    · rw [hb] at hk
      exact behind_quiet D k hk o ho
theorem xOp_alloc {ty : TypeId} {o : Oper} {k : K} (ho : o.op = .alloc ty) (h : (xOp P cl o f s k).ok) : ∃ i z, P.info? ty = some i ∧ i.zero = some z ∧ flat z = true ∧ xOp P cl o f s k = k (.pointer (some ⟨s.nx, 0, none⟩)) (s.new (.cells (ofL z.cells.toList) z.cells.size ty 0 0)) := by
  have e : xOp P cl o f s k = xAlloc P ty s k := by unfold xOp; rw [ho]
  rw [e] at h ⊢
  have key : W (fun r => ∃ i z, P.info? ty = some i ∧ i.zero = some z ∧ flat z = true ∧ r = k (.pointer (some ⟨s.nx, 0, none⟩)) (s.new (.cells (ofL z.cells.toList) z.cells.size ty 0 0))) (xAlloc P ty s k) :=
    onO_w fun i hi => onO_w fun z hz => onB_w fun hf => newS_w (fun _ => ⟨i, z, hi, hz, hf, rfl⟩)
  exact key h
theorem xDr_quiet {i : Nat} {p : List Nat} {o : Oper} (ho : ops[i]? = some o) (hq : quiet o = true) : xDr P cl N ops (i :: p) D f s = guardR ops o f (xOp P cl o f s (fun v s => xDr P cl N ops p (i :: D) (put N o.dst v f) s)) (xDr P cl N ops p (i :: D) (put N o.dst undef f) s) := by
  show onO 203 (nth ops.toList i) _ = _
  rw [nth_arr, ho]
  show Bool.rec (motive := fun _ => R) _ _ (quiet o) = _
  rw [hq]
  rfl
theorem xDr_loud {i : Nat} {p : List Nat} {o : Oper} (ho : ops[i]? = some o) (hq : quiet o = false) : xDr P cl N ops (i :: p) D f s = guardR ops o f (xOp P cl o f s (fun v s => again P cl N ops (behind ops (clos ops D (mask o)) D) (put N o.dst v f) s (xDr P cl N ops p (i :: D) (put N o.dst v f) s))) (again P cl N ops (behind ops (clos ops D (mask o)) D) (put N o.dst undef f) s (xDr P cl N ops p (i :: D) (put N o.dst undef f) s)) := by
  show onO 203 (nth ops.toList i) _ = _
  rw [nth_arr, ho]
  show Bool.rec (motive := fun _ => R) _ _ (quiet o) = _
  rw [hq]
  rfl
/-- All that is quiet is done here, and all blocks that lie there have names. -/
theorem saturate (S : Slots P N ops) : ∀ (p D : List Nat) (f : T Value) (s : St) (c : Act) (ρ : Nat → Nm), Rel P N ops ρ0 s0 w0 L D f s a w ρ c B → OrdOk P N ops p D → Chain ops D → (xDr P cl N ops p D f s).ok →
    ∃ p' D' f' s' c' ρ', Rel P N ops ρ0 s0 w0 L D' f' s' a w ρ' c' B ∧ OrdOk P N ops p' D' ∧ Chain ops D' ∧ xDr P cl N ops p' D' f' s' = xDr P cl N ops p D f s ∧ ∀ i q, p' = i :: q → ∃ o, ops[i]? = some o ∧ quiet o = false ∧ (isA P N o = true → ¬ li L i)
  | [], D, f, s, c, ρ, R, hO, hC, hok => ⟨[], D, f, s, c, ρ, R, hO, hC, rfl, fun i q h => by cases h⟩
  | i :: p, D, f, s, c, ρ, R, hO, hC, hok => by
    obtain ⟨hi, o, ho, hm, _, hO2⟩ := hO
    have hC2 : Chain ops (i :: D) := ⟨⟨o, ho, hm⟩, hC⟩
    rcases hq : quiet o with _ | _
    · by_cases hA : isA P N o = true ∧ li L i
      · obtain ⟨hA, hl⟩ := hA
        obtain ⟨ty, d, inf, z, e1, e2, e3, e4, e5, e6⟩ := isA_is hA
        rw [xDr_loud ho hq] at hok ⊢
        have hg : ∀ x y : Ev.R, guardR ops o f x y = x := fun x y => by unfold guardR; rw [e3]
        rw [hg] at hok ⊢
        obtain ⟨inf', z', k1, k2, k3, k4⟩ := xOp_alloc e1 hok
        rw [k4] at hok
        obtain ⟨k5, k6, k7⟩ := again_is _ hok (behind_quiet _)
        rw [k4.trans k5]
        have hcl : ∀ (k : Nat), ¬ li L k → ¬ bit (clos ops D (mask o)) k = true := fun k hk hb => hk (clos_li D _ R.lcl (fun e he => R.lcl i o ho hl e he) k hb)
        obtain ⟨ρ', c', R'⟩ := R.adopted ho hi hl e1 k1 k2 k3 (fun ρ' c' hs hf k ok hk hkD hkL hkq => k7 ρ' w c' hs hf k ok (behind_mem D k ok hkD hk hkq (hcl k hkL)) hk)
        exact saturate S p (i :: D) _ _ c' ρ' R' hO2 hC2 k6
      · exact ⟨i :: p, D, f, s, c, ρ, R, ⟨hi, o, ho, hm, by assumption, hO2⟩, hC, rfl, fun j q e => by
          obtain ⟨rfl, rfl⟩ := List.cons.inj e
          exact ⟨o, ho, hq, fun h1 h2 => hA ⟨h1, h2⟩⟩⟩
    · rw [xDr_quiet ho hq] at hok ⊢
      rcases guardR_or R.fits.fr hok with ⟨h1, h2⟩ | ⟨h1, h2⟩
      · rw [h2] at hok ⊢
        obtain ⟨v, h3, h4⟩ := xOp_q hq hok
        rw [h3] at hok ⊢
        obtain ⟨u, _, h6⟩ := h4 ρ w c R.st.hr R.fits.fr
        exact saturate S p (i :: D) _ _ _ ρ (R.absorb S hC.closed ho hi hq (.inr ⟨h1, h4, h6⟩)) hO2 hC2 hok
      · rw [h2] at hok ⊢
        exact saturate S p (i :: D) _ _ _ ρ (R.absorb S hC.closed ho hi hq (.inl ⟨h1, rfl, rfl⟩)) hO2 hC2 hok
/-- All is done. -/
theorem Rel.over (R : Rel P N ops ρ0 s0 w0 L D f s a w ρ c B) {p : List Nat} (hO : OrdOk P N ops p D) (hC : Chain ops D) (hsat : ∀ i q, p = i :: q → ∃ o, ops[i]? = some o ∧ quiet o = false ∧ (isA P N o = true → ¬ li L i)) (hr : Region.ready .any ops L = []) : End N ρ0 s0 w0 (xDr P cl N ops p D f s) .normal a w := by
  have none : ∀ i o, ops[i]? = some o → ¬ li L i → (∀ e, bit (mask o) e = true → li L e) → False := fun i o ho hl hb => by
    have := (ready_iff R.lsz ho).2 ⟨hl, hb⟩
    rw [hr] at this
    cases this
  have allD : ∀ i ∈ D, li L i := fun i hi => Classical.byContradiction fun hl => by
    obtain ⟨k, _, hkl, o, ho, hb⟩ := hC.first ⟨i, hi, hl⟩
    exact none k o ho hkl hb
  cases p with
  | nil =>
    have hin : ∀ i o, ops[i]? = some o → i ∈ D := hO
    refine ⟨ρ, R.st, ?_⟩
    have e : a.tmps = c.tmps := by
      apply Array.ext
      · exact R.asz.trans R.fits.size.symm
      · intro t h1 h2
        have := R.agree t (fun i o hi hiD hl => absurd (allD i hiD) hl) (fun i o hi hiD _ => absurd (hin i o hi) hiD)
        rw [Array.getElem?_eq_getElem h1, Array.getElem?_eq_getElem h2] at this
        exact Option.some.inj this
    refine ⟨fun t v hv => ?_, R.asz, R.adf⟩
    rw [e]
    exact R.fits.fr t v hv
  | cons i q =>
    obtain ⟨o, ho, hq, hA⟩ := hsat i q rfl
    obtain ⟨hi, o', ho', hm, _, _⟩ := hO
    obtain rfl := Option.some.inj (ho.symm.trans ho')
    have hl : li L i := Classical.byContradiction fun hl => none i o ho hl (fun e he => allD e (hm e he))
    exact absurd hl (hA (R.early i o ho hi hl).1)
theorem count_set_lt {i : Nat} (hi : i < L.size) (hl : ¬ li L i) {n : Nat} (h : L.count false ≤ n + 1) : (L.setIfInBounds i true).count false ≤ n := by
  have hg : L[i] = false := by
    unfold li at hl
    simp [hi] at hl
    exact hl
  have e : L.setIfInBounds i true = L.set i true hi := by
    unfold Array.setIfInBounds
    rw [dif_pos hi]
  rw [e, Array.count_set hi, hg]
  simp
  omega
/-- Whatever is drawn. -/
theorem drawn_any (hcl : ClOk P cl) (S : Slots P N ops) : ∀ (fuel : Nat) (L : Array Bool) (a : Act) (w : World) (p D : List Nat) (f : T Value) (s : St) (c : Act) (ρ : Nat → Nm) (B : Nat → Nat), Rel P N ops ρ0 s0 w0 L D f s a w ρ c B → OrdOk P N ops p D → Chain ops D → (xDr P cl N ops p D f s).ok → L.count false ≤ fuel →
    wpAny P .any ops (End N ρ0 s0 w0 (xDr P cl N ops p D f s)) fuel L a w
  | fuel, L, a, w, p, D, f, s, c, ρ, B, R, hO, hC, hok, hf => by
    obtain ⟨p', D', f', s', c', ρ', R', hO', hC', he, hsat⟩ := saturate S p D f s c ρ R hO hC hok
    rw [← he] at hok ⊢
    have fin : Region.ready .any ops L = [] → End N ρ0 s0 w0 (xDr P cl N ops p' D' f' s') .normal a w := fun hr => R'.over hO' hC' hsat hr
    cases fuel with
    | zero =>
      have hr : Region.ready .any ops L = [] := by
        rcases hrl : Region.ready .any ops L with _ | ⟨i, l⟩
        · rfl
        · exfalso
          have hi : i ∈ Region.ready .any ops L := by rw [hrl]; exact List.mem_cons_self
          obtain ⟨h1, o, ho, _⟩ := mem_ready.1 hi
          have hlt : i < L.size := by rw [R'.lsz]; exact (Array.getElem?_eq_some_iff.1 ho).1
          have hg : L[i] = false := by simpa [hlt] using h1
          have : 0 < L.count false := Array.count_pos_iff.2 (hg ▸ Array.getElem_mem hlt)
          omega
      exact ⟨hr, fin hr⟩
    | succ n =>
      refine ⟨fin, fun i hi => ?_⟩
      obtain ⟨_, o, ho, _⟩ := mem_ready.1 hi
      obtain ⟨hl, hb⟩ := (ready_iff R'.lsz ho).1 hi
      have hlt : i < L.size := by rw [R'.lsz]; exact (Array.getElem?_eq_some_iff.1 ho).1
      have hcnt := count_set_lt hlt hl hf
      unfold wpOp
      rw [ho]
      simp only
      by_cases hiD : i ∈ D'
      · obtain ⟨u, h1, R2⟩ := R'.pended S ho hiD hi (hC'.closed i o ho hiD)
        have next := drawn_any hcl S n _ _ _ p' D' f' s' c' ρ' B R2 hO' hC' hok hcnt
        rcases h1 with ⟨h1, h2⟩ | ⟨h1, rfl⟩
        · rw [if_pos h1]
          refine .inl ?_
          unfold Oper.wp
          rw [h2]
          exact next
        · rw [if_neg (by rw [h1]; decide)]
          exact next
      · by_cases hA : isA P N o = true
        · obtain ⟨h1, u, w', h2, B', R2⟩ := R'.laid S ho hiD hA hi
          have next := drawn_any hcl S n _ _ _ p' D' f' s' c' ρ' B' R2 hO' hC' hok hcnt
          rw [if_pos h1]
          refine .inl ?_
          unfold Oper.wp
          rw [h2]
          exact next
        · have hA : isA P N o = false := by simpa using hA
          cases p' with
          | nil => exact absurd (hO' i o ho) hiD
          | cons j q =>
            obtain ⟨oj, hoj, hqj, hAj⟩ := hsat j q rfl
            obtain ⟨hj, oj', hoj', hm, huniq, hO2⟩ := hO'
            obtain rfl := Option.some.inj (hoj.symm.trans hoj')
            have hij : i = j := Classical.byContradiction fun hne => by
              rcases huniq hqj i o ho hiD hne hA with h1 | ⟨e, h1, h2, h3⟩
              · have h4 := hb j h1
                exact hAj (R'.early j oj hoj hj h4).1 h4
              · have h4 := hb e h1
                have hlt2 : e < ops.size := by
                  rw [← R'.lsz]
                  rcases Nat.lt_or_ge e L.size with h | h
                  · exact h
                  · unfold li at h4
                    simp [h] at h4
                have h5 := (R'.early e ops[e] (Array.getElem?_eq_getElem hlt2) h2 h4).1
                rw [h3 _ (Array.getElem?_eq_getElem hlt2)] at h5
                cases h5
            subst hij
            obtain rfl := Option.some.inj (ho.symm.trans hoj)
            have hC2 : Chain ops (i :: D') := ⟨⟨o, ho, hm⟩, hC'⟩
            have hcl2 : ∀ (k : Nat), ¬ li L k → ¬ bit (clos ops D' (mask o)) k = true := fun k hk hbk => hk (clos_li D' _ R'.lcl hb k hbk)
            obtain ⟨hev, hwt⟩ := same_looks (R'.looks S ho hb hl hm (fun h => absurd h hiD))
            rw [xDr_loud ho hqj] at hok ⊢
            rcases guardR_or R'.fits.fr hok with ⟨h1, h2⟩ | ⟨h1, h2⟩
            · rw [h2] at hok ⊢
              obtain ⟨v, s2, h3, h4⟩ := xOp_v hcl hok
              rw [h3] at hok
              obtain ⟨k5, k6, k7⟩ := again_is _ hok (behind_quiet _)
              rw [h3.trans k5]
              rw [if_pos (by rw [hwt]; exact h1)]
              have hd := h4 ρ' w c' R'.st.hr R'.fits.fr
              have hd2 : Does P o a.eval w (fun u w' => ∃ ρ2, SStep ρ' s' w ρ2 s2 w' ∧ VR ρ2 s2.nx v u) := by
                unfold Does at hd ⊢
                rw [execOp_congr o (noSel S ho) hev]
                exact hd
              refine .inl (hd2.wp fun u w' ⟨ρ2, h5, h6⟩ => ?_)
              have R2 := R'.synced S ho hiD hi h5 h6 (fun k ok hk hkD hkL hkq => k7 ρ2 w' _ h5.hr (R'.fits.put h5.ext o.dst h6) k ok (behind_mem D' k ok hkD hk hkq (hcl2 k hkL)) hk)
              exact drawn_any hcl S n _ _ _ q (i :: D') _ s2 _ ρ2 B R2 hO2 hC2 k6 hcnt
            · rw [h2] at hok ⊢
              obtain ⟨k5, k6, k7⟩ := again_is _ hok (behind_quiet _)
              rw [k5]
              rw [if_neg (by rw [hwt, h1]; decide)]
              have R2 := R'.synced S ho hiD hi (Step.refl R'.st.hr) undef_vr (fun k ok hk hkD hkL hkq => k7 ρ' w _ R'.st.hr (R'.fits.put (Ext.refl _ _) o.dst undef_vr) k ok (behind_mem D' k ok hkD hk hkq (hcl2 k hkL)) hk)
              exact drawn_any hcl S n _ _ _ q (i :: D') _ s' _ ρ' B R2 hO2 hC2 k6 hcnt
theorem xDrawn_ok (hcl : ClOk P cl) {id : Nat} (hm : P.follows .mixedOrders = true) {a : Act} (st : SStep ρ0 s0 w0 ρ s w) (hf : Fits ρ N s.nx f a) (hok : (xDrawn P cl N ops f s).ok) : (Code.region id ops true).wp P (End N ρ0 s0 w0 (xDrawn P cl N ops f s)) a w := by
  refine wp_region_any hm ?_
  unfold xDrawn at hok ⊢
  rcases hd : okDraw P N ops with _ | _
  · rw [hd] at hok
    exact hok.elim
  · rw [hd] at hok
    change (xDr P cl N ops (order P N ops) [] f s).ok at hok
    show wpAny P .any ops (End N ρ0 s0 w0 (xDr P cl N ops (order P N ops) [] f s)) ops.size _ a _
    obtain ⟨S, hO⟩ := okDraw_is hd
    have st2 : SStep ρ0 s0 w0 ρ s { w with drawn := w.drawn + 1 } := ⟨st.ext, world_drawn st.hr _, ⟨st.fr.os, st.fr.tape, st.fr.output, st.fr.size, st.fr.block⟩, st.liv⟩
    have no : ∀ i, ¬ li (Array.replicate ops.size false) i := fun i h => by
      unfold li at h
      by_cases hi : i < ops.size
      · simp [hi] at h
      · simp [hi] at h
    refine drawn_any hcl S ops.size _ a _ (order P N ops) [] f s a ρ (fun _ => 0) ⟨st2, hf, hf.size, hf.defers, by simp, fun i o _ h => absurd h (no i), fun t _ _ => rfl, fun i o _ h => (by cases h), fun i o _ _ h => absurd h (no i), fun i j o p _ _ _ _ h => absurd h (no i)⟩ hO trivial hok (by simp)
end
end Go.Proofs.YtjfcjpbolokfcaaGreatDoor.Ev
