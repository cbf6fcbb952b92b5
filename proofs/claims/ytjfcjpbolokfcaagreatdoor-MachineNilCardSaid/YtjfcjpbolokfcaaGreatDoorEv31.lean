/-
  An evaluator for closed runs: regions that draw their order (2: each order comes to what the checked one comes to).
-/
import Derived.Test.YtjfcjpbolokfcaaGreatDoorEv30
namespace Go.Proofs.YtjfcjpbolokfcaaGreatDoor.Ev
open Go

/-- Is an operation behind us in the model? -/
def li (L : Array Bool) (i : Nat) : Prop := L.getD i false = true
theorem li_set {L : Array Bool} {i j : Nat} (hi : i < L.size) : li (L.setIfInBounds i true) j ↔ j = i ∨ li L j := by
  unfold li
  by_cases h : i = j
  · subst h
    simp [hi]
  · rw [getD_set_ne false h]
    constructor
    · exact .inr
    · rintro (e | e)
      · exact absurd e.symm h
      · exact e
theorem ready_iff {ops : Array Oper} {L : Array Bool} (hs : L.size = ops.size) {i : Nat} {o : Oper} (ho : ops[i]? = some o) : i ∈ Region.ready .any ops L ↔ ¬ li L i ∧ ∀ e, bit (mask o) e = true → li L e := by
  have hlt : i < L.size := by rw [hs]; exact (Array.getElem?_eq_some_iff.1 ho).1
  have hg : L.getD i true = L.getD i false := by simp [hlt]
  rw [mem_ready, hg]
  constructor
  · rintro ⟨h1, o', ho', h2⟩
    obtain rfl := Option.some.inj (ho.symm.trans ho')
    refine ⟨fun h => (by unfold li at h; rw [h1] at h; cases h), fun e he => ?_⟩
    obtain ⟨x, hx, hb, rfl⟩ := (mask_bit o e).1 he
    exact h2 x hx hb
  · rintro ⟨h1, h2⟩
    refine ⟨(by unfold li at h1; simpa using h1), o, ho, fun e he hb => h2 e.on ((mask_bit o e.on).2 ⟨e, he, hb, rfl⟩)⟩
theorem same_looks {ops : Array Oper} {o : Oper} {a c : Act} (h : ∀ t ∈ o.looksAt ops, a.tmps[t]? = c.tmps[t]?) : (∀ x ∈ o.op.operands, a.eval x = c.eval x) ∧ Region.wanted o (yielded ops a.tmps) = Region.wanted o (yielded ops c.tmps) := by
  refine ⟨fun x hx => ?_, ?_⟩
  · cases x with
    | tmp t =>
      have := h t (List.mem_append_left _ (List.mem_filterMap.2 ⟨.tmp t, by simpa using hx, rfl⟩))
      simp [Act.eval, this]
    | _ => rfl
  · unfold Region.wanted
    rcases hg : o.guard with _ | ⟨g, want⟩
    · rfl
    · have : yielded ops a.tmps g = yielded ops c.tmps g := by
        unfold yielded
        cases ht : (ops[g]?).bind (·.dst) with
        | none => rfl
        | some t =>
          have := h t (by simp [Oper.looksAt, hg, ht])
          simp only [Option.bind_some, this]
      simp only [this]
theorem put_at (a : Act) (d : Option Tmp) (u : Value) (t : Tmp) (h : d ≠ some t) : (a.put d u).tmps[t]? = a.tmps[t]? := by
  cases d with
  | none => rfl
  | some d =>
    show (a.tmps.setIfInBounds d u)[t]? = _
    rw [Array.getElem?_setIfInBounds_ne (fun e => h (congrArg some e))]
theorem put_self (a : Act) (d : Tmp) (u : Value) (h : d < a.tmps.size) : (a.put (some d) u).tmps[d]? = some u := by
  show (a.tmps.setIfInBounds d u)[d]? = _
  rw [Array.getElem?_setIfInBounds_self_of_lt h]
theorem put_both {a c : Act} (hs : a.tmps.size = c.tmps.size) (d : Option Tmp) (u : Value) (t : Tmp) (h : d = some t ∨ a.tmps[t]? = c.tmps[t]?) : (a.put d u).tmps[t]? = (c.put d u).tmps[t]? := by
  cases d with
  | none =>
    rcases h with h | h
    · cases h
    · exact h
  | some d =>
    show (a.tmps.setIfInBounds d u)[t]? = (c.tmps.setIfInBounds d u)[t]?
    rw [Array.getElem?_setIfInBounds, Array.getElem?_setIfInBounds, hs]
    by_cases he : d = t
    · rw [if_pos he, if_pos he]
    · rw [if_neg he, if_neg he]
      rcases h with h | h
      · exact absurd (Option.some.inj h) he
      · exact h
section
variable {P : Program} {cl : Cl} {N : Nat} {ops : Array Oper} {ρ0 : Nat → Nm} {s0 : St} {w0 : World}
/-- What was done here is there still to do, and comes to the same. -/
def Pend (P : Program) (N : Nat) (ops : Array Oper) (ρ : Nat → Nm) (s : St) (c : Act) (o : Oper) : Prop :=
  (Region.wanted o (yielded ops c.tmps) = false ∧ ∀ d, o.dst = some d → d < N → c.tmps[d]? = some undef) ∨
  (Region.wanted o (yielded ops c.tmps) = true ∧ ∃ fk ak v u, QOk P o fk s v ∧ FR ρ s.nx fk ak ∧ (∀ x ∈ o.op.operands, ak.eval x = c.eval x) ∧ VR ρ s.nx v u ∧ ∀ d, o.dst = some d → d < N → c.tmps[d]? = some u)
/-- A variable's block that lies there already. -/
def Early (P : Program) (N : Nat) (w0 : World) (s : St) (ρ : Nat → Nm) (a : Act) (w : World) (o : Oper) (b : Nat) : Prop :=
  ∃ ty d inf z, o.op = .alloc ty ∧ o.dst = some d ∧ d < N ∧ P.info? ty = some inf ∧ inf.zero = some z ∧ a.tmps[d]? = some (.pointer (some ⟨b, 0, none⟩)) ∧ w0.heap.size ≤ b ∧ w.heap[b]? = some (.cells z.cells ty (0, 0)) ∧ ∀ n x, s.h.get n = some x → (ρ n).b ≠ b
structure Rel (P : Program) (N : Nat) (ops : Array Oper) (ρ0 : Nat → Nm) (s0 : St) (w0 : World) (L : Array Bool) (D : List Nat) (f : T Value) (s : St) (a : Act) (w : World) (ρ : Nat → Nm) (c : Act) (B : Nat → Nat) : Prop where
  st : SStep ρ0 s0 w0 ρ s w
  fits : Fits ρ N s.nx f c
  asz : a.tmps.size = N
  adf : a.defers = []
  lsz : L.size = ops.size
  lcl : ∀ (i : Nat) (o : Oper), ops[i]? = some o → li L i → ∀ e, bit (mask o) e = true → li L e
  agree : ∀ t, (∀ (i : Nat) (o : Oper), ops[i]? = some o → i ∈ D → ¬ li L i → o.dst ≠ some t) → (∀ (i : Nat) (o : Oper), ops[i]? = some o → i ∉ D → li L i → o.dst ≠ some t) → a.tmps[t]? = c.tmps[t]?
  pend : ∀ (i : Nat) (o : Oper), ops[i]? = some o → i ∈ D → ¬ li L i → quiet o = true ∧ Pend P N ops ρ s c o
  early : ∀ (i : Nat) (o : Oper), ops[i]? = some o → i ∉ D → li L i → isA P N o = true ∧ Early P N w0 s ρ a w o (B i)
  dist : ∀ (i j : Nat) (o p : Oper), ops[i]? = some o → ops[j]? = some p → i ∉ D → j ∉ D → li L i → li L j → B i = B j → i = j
theorem quiet_notA {o : Oper} (h : quiet o = true) : isA P N o = false := by
  unfold quiet at h
  unfold isA
  split
  · rename_i ho _ _
    rw [ho] at h
    cases h
  · rfl
variable {L : Array Bool} {D : List Nat} {f : T Value} {s : St} {a c : Act} {w : World} {ρ : Nat → Nm} {B : Nat → Nat}
/-- Where an operation looks, the model's frame is ours. -/
theorem Rel.looks (R : Rel P N ops ρ0 s0 w0 L D f s a w ρ c B) (S : Slots P N ops) {j : Nat} {o : Oper} (ho : ops[j]? = some o) (hr : ∀ e, bit (mask o) e = true → li L e) (hl : ¬ li L j) (hd : ∀ e, bit (mask o) e = true → e ∈ D) (hs : j ∈ D → quiet o = true) : ∀ t ∈ o.looksAt ops, a.tmps[t]? = c.tmps[t]? := fun t ht => by
  refine R.agree t (fun i oi hi hiD hiL he => ?_) (fun i oi hi hiD hiL he => ?_)
  · have hq := (R.pend i oi hi hiD hiL).1
    by_cases hij : i = j
    · subst hij
      obtain rfl := Option.some.inj (ho.symm.trans hi)
      exact S.self i o t hi he hq ht
    · rcases S.see i j oi o t hi ho hij he (.inl hq) ht with h1 | ⟨h1, _⟩
      · exact hiL (hr i h1)
      · rw [quiet_notA hq] at h1
        cases h1
  · have hA := (R.early i oi hi hiD hiL).1
    by_cases hij : i = j
    · subst hij
      exact hl hiL
    · rcases S.see i j oi o t hi ho hij he (.inr hA) ht with h1 | ⟨_, h1⟩
      · exact hiD (hd i h1)
      · exact hl (R.lcl i oi hi hiL j h1)
theorem noSel (S : Slots P N ops) {j : Nat} {o : Oper} (ho : ops[j]? = some o) : ∀ cs b, o.op ≠ .select cs b := fun cs b => Region.noSelect_spec S.sel j o cs b ho
/-- What was read here is read in the model. -/
theorem Rel.pended (R : Rel P N ops ρ0 s0 w0 L D f s a w ρ c B) (S : Slots P N ops) {j : Nat} {o : Oper} (ho : ops[j]? = some o) (hj : j ∈ D) (hr : j ∈ Region.ready .any ops L) (hd : ∀ e, bit (mask o) e = true → e ∈ D) :
    ∃ u, ((Region.wanted o (yielded ops a.tmps) = true ∧ (execOp a.eval o).run P w = .ok (.value u) w) ∨ (Region.wanted o (yielded ops a.tmps) = false ∧ u = undef)) ∧ Rel P N ops ρ0 s0 w0 (L.setIfInBounds j true) D f s (a.put o.dst u) w ρ c B := by
  obtain ⟨hl, hb⟩ := (ready_iff R.lsz ho).1 hr
  have hlt : j < L.size := by rw [R.lsz]; exact (Array.getElem?_eq_some_iff.1 ho).1
  obtain ⟨hq, hp⟩ := R.pend j o ho hj hl
  obtain ⟨hev, hwt⟩ := same_looks (R.looks S ho hb hl hd (fun _ => hq))
  have hsz : a.tmps.size = c.tmps.size := R.asz.trans R.fits.size.symm
  have key : ∀ u, (∀ d, o.dst = some d → d < N → c.tmps[d]? = some u) → Rel P N ops ρ0 s0 w0 (L.setIfInBounds j true) D f s (a.put o.dst u) w ρ c B := fun u hu => by
    refine ⟨R.st, R.fits, by rw [put_size]; exact R.asz, by rw [put_defers0]; exact R.adf, by simp [R.lsz], fun i oi hi hli e he => ?_, fun t h1 h2 => ?_, fun i oi hi hiD hli => ?_, fun i oi hi hiD hli => ?_, fun i k oi ok hi hk hiD hkD hli hlk he => ?_⟩
    · rw [li_set hlt] at hli ⊢
      rcases hli with rfl | hli
      · obtain rfl := Option.some.inj (ho.symm.trans hi)
        exact .inr (hb e he)
      · exact .inr (R.lcl i oi hi hli e he)
    · by_cases htd : o.dst = some t
      · rw [htd]
        by_cases hN : t < N
        · rw [put_self a t u (by rw [R.asz]; exact hN), hu t htd hN]
        · have e1 : (a.put (some t) u).tmps[t]? = none := Array.getElem?_eq_none (by rw [put_size, R.asz]; exact Nat.le_of_not_lt hN)
          have e2 : c.tmps[t]? = none := Array.getElem?_eq_none (by rw [R.fits.size]; exact Nat.le_of_not_lt hN)
          rw [e1, e2]
      · rw [put_at a o.dst u t htd]
        refine R.agree t (fun i oi hi hiD hli he => ?_) (fun i oi hi hiD hli he => ?_)
        · by_cases hij : i = j
          · subst hij
            obtain rfl := Option.some.inj (ho.symm.trans hi)
            exact htd he
          · exact h1 i oi hi hiD (fun h => by rcases (li_set hlt).1 h with h | h; exact hij h; exact hli h) he
        · exact h2 i oi hi hiD ((li_set hlt).2 (.inr hli)) he
    · exact R.pend i oi hi hiD (fun h => hli ((li_set hlt).2 (.inr h)))
    · have hij : i ≠ j := fun e => hiD (e ▸ hj)
      have hli2 : li L i := ((li_set hlt).1 hli).resolve_left hij
      obtain ⟨hA, ty, d, inf, z, e1, e2, e3, e4, e5, e6, e7⟩ := R.early i oi hi hiD hli2
      refine ⟨hA, ty, d, inf, z, e1, e2, e3, e4, e5, ?_, e7⟩
      rw [put_at a o.dst u d (fun h => S.one i j oi o d hi ho hij e2 (.inr hA) h)]
      exact e6
    · have hij : i ≠ j := fun e => hiD (e ▸ hj)
      have hkj : k ≠ j := fun e => hkD (e ▸ hj)
      exact R.dist i k oi ok hi hk hiD hkD (((li_set hlt).1 hli).resolve_left hij) (((li_set hlt).1 hlk).resolve_left hkj) he
  rcases hp with ⟨h1, h2⟩ | ⟨h1, fk, ak, v, u, h2, h3, h4, h5, h6⟩
  · exact ⟨undef, .inr ⟨by rw [hwt]; exact h1, rfl⟩, key undef h2⟩
  · refine ⟨u, .inl ⟨by rw [hwt]; exact h1, ?_⟩, key u h6⟩
    obtain ⟨u', g1, g2⟩ := h2 ρ w ak R.st.hr h3
    obtain rfl := h5.det g2
    rw [execOp_congr o (noSel S ho) (fun x hx => (hev x hx).trans (h4 x hx).symm)]
    exact g1
theorem isA_is {o : Oper} (h : isA P N o = true) : ∃ ty d inf z, o.op = .alloc ty ∧ o.dst = some d ∧ o.guard = none ∧ d < N ∧ P.info? ty = some inf ∧ inf.zero = some z := by
  unfold isA at h
  split at h
  · rename_i t d h1 h2 h3
    split at h
    · rename_i i hi
      obtain ⟨h4, h5⟩ := band_eq h
      obtain ⟨z, hz⟩ := Option.isSome_iff_exists.1 h4
      exact ⟨t, d, i, z, h1, h2, h3, Nat.le_of_ble_eq_true h5, hi, hz⟩
    · cases h
  · cases h
theorem step_push {ρ' : Nat → Nm} {s' : St} (h : SStep ρ0 s0 w0 ρ' s' w) (o : Obj) : SStep ρ0 s0 w0 ρ' s' { w with heap := w.heap.push o } := by
  refine ⟨h.ext, ⟨fun n x hn => ?_, h.hr.inj⟩, ⟨h.fr.os, h.fr.tape, h.fr.output, by simp; have := h.fr.size; omega, fun k hk hn => ?_⟩, h.liv⟩
  · have h1 := h.hr.obj n x hn
    refine ⟨h1.1, ?_⟩
    show OR _ _ _ _ ((w.heap.push o)[(ρ' n).b]?)
    rw [push_old _ _ (h.hr.old hn)]
    exact h1.2
  · show (w.heap.push o)[k]? = _
    rw [push_old _ _ (Nat.lt_of_lt_of_le hk h.fr.size)]
    exact h.fr.block k hk hn
/-- A variable's block is laid in the model ahead of here. -/
theorem Rel.laid (R : Rel P N ops ρ0 s0 w0 L D f s a w ρ c B) (S : Slots P N ops) {j : Nat} {o : Oper} (ho : ops[j]? = some o) (hj : j ∉ D) (hA : isA P N o = true) (hr : j ∈ Region.ready .any ops L) :
    Region.wanted o (yielded ops a.tmps) = true ∧ ∃ u w', (execOp a.eval o).run P w = .ok (.value u) w' ∧ ∃ B', Rel P N ops ρ0 s0 w0 (L.setIfInBounds j true) D f s (a.put o.dst u) w' ρ c B' := by
  obtain ⟨hl, hb⟩ := (ready_iff R.lsz ho).1 hr
  have hlt : j < L.size := by rw [R.lsz]; exact (Array.getElem?_eq_some_iff.1 ho).1
  obtain ⟨ty, d, inf, z, e1, e2, e3, e4, e5, e6⟩ := isA_is hA
  refine ⟨by unfold Region.wanted; rw [e3], .pointer (some ⟨w.heap.size, 0, none⟩), { w with heap := w.heap.push (.cells z.cells ty) }, ?_, fun i => if i = j then w.heap.size else B i, ?_⟩
  · have : execOp a.eval o = (do pure (.value (← Instr.alloc ty true (.tuple #[])))) := by unfold execOp; rw [e1]
    rw [this]
    simp only [Instr.alloc, Sem.run_bind, run_zero e5 e6, Result.andThen_ok, run_newVar, Sem.run_pure]
  · have old : ∀ k, k < w.heap.size → (w.heap.push (.cells z.cells ty))[k]? = w.heap[k]? := fun k hk => push_old _ _ hk
    refine ⟨step_push R.st _, R.fits, by rw [put_size]; exact R.asz, by rw [put_defers0]; exact R.adf, by simp [R.lsz], fun i oi hi hli e he => ?_, fun t h1 h2 => ?_, fun i oi hi hiD hli => ?_, fun i oi hi hiD hli => ?_, fun i k oi ok hi hk hiD hkD hli hlk he => ?_⟩
    · rw [li_set hlt] at hli ⊢
      rcases hli with rfl | hli
      · obtain rfl := Option.some.inj (ho.symm.trans hi)
        exact .inr (hb e he)
      · exact .inr (R.lcl i oi hi hli e he)
    · have htd : o.dst ≠ some t := h2 j o ho hj ((li_set hlt).2 (.inl rfl))
      rw [put_at a o.dst _ t htd]
      exact R.agree t (fun i oi hi hiD hli he => h1 i oi hi hiD (fun h => by rcases (li_set hlt).1 h with h | h; exact hj (h ▸ hiD); exact hli h) he) (fun i oi hi hiD hli he => h2 i oi hi hiD ((li_set hlt).2 (.inr hli)) he)
    · exact R.pend i oi hi hiD (fun h => hli ((li_set hlt).2 (.inr h)))
    · rcases (li_set hlt).1 hli with rfl | hli2
      · obtain rfl := Option.some.inj (ho.symm.trans hi)
        refine ⟨hA, ty, d, inf, z, e1, e2, e4, e5, e6, ?_, ?_, ?_, fun n x hn he => ?_⟩
        · rw [if_pos rfl, e2, put_self a d _ (by rw [R.asz]; exact e4)]
        · rw [if_pos rfl]
          exact R.st.fr.size
        · rw [if_pos rfl]
          simp
        · rw [if_pos rfl] at he
          have := R.st.hr.old hn
          omega
      · have hij : i ≠ j := fun e => hl (e ▸ hli2)
        obtain ⟨hA', ty', d', inf', z', g1, g2, g3, g4, g5, g6, g7, g8, g9⟩ := R.early i oi hi hiD hli2
        refine ⟨hA', ty', d', inf', z', g1, g2, g3, g4, g5, ?_, ?_, ?_, ?_⟩
        · rw [if_neg hij, put_at a o.dst _ d' (fun h => S.one i j oi o d' hi ho hij g2 (.inr hA') h)]
          exact g6
        · rw [if_neg hij]
          exact g7
        · rw [if_neg hij]
          have hlt2 : B i < w.heap.size := by
            rcases Nat.lt_or_ge (B i) w.heap.size with h | h
            · exact h
            · rw [Array.getElem?_eq_none h] at g8
              cases g8
          show (w.heap.push _)[B i]? = _
          rw [old _ hlt2]
          exact g8
        · rw [if_neg hij]
          exact g9
    · have lt : ∀ (i : Nat) (oi : Oper), ops[i]? = some oi → i ∉ D → li L i → B i < w.heap.size := fun i oi hi hiD hli => by
        obtain ⟨_, _, _, _, _, _, _, _, _, _, _, _, g8, _⟩ := R.early i oi hi hiD hli
        rcases Nat.lt_or_ge (B i) w.heap.size with h | h
        · exact h
        · rw [Array.getElem?_eq_none h] at g8
          cases g8
      rcases (li_set hlt).1 hli with rfl | hli2 <;> rcases (li_set hlt).1 hlk with rfl | hlk2
      · rfl
      · have hkj : k ≠ i := fun e => hl (e ▸ hlk2)
        rw [if_pos rfl, if_neg hkj] at he
        have := lt k ok hk hkD hlk2
        omega
      · have hij : i ≠ k := fun e => hl (e ▸ hli2)
        rw [if_pos rfl, if_neg hij] at he
        have := lt i oi hi hiD hli2
        omega
      · have hij : i ≠ j := fun e => hl (e ▸ hli2)
        have hkj : k ≠ j := fun e => hl (e ▸ hlk2)
        rw [if_neg hij, if_neg hkj] at he
        exact R.dist i k oi ok hi hk hiD hkD hli2 hlk2 he
end
end Go.Proofs.YtjfcjpbolokfcaaGreatDoor.Ev
