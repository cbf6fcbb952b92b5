/-
  An evaluator for closed runs: regions that draw their order (5: a map literal: entries in whatever order).
  An evaluator for closed runs: regions that draw their order (6: a map literal, checked).
  An evaluator for closed runs: code and calls are right.
  An evaluator for closed runs: functions and rounds of loops are right; a closed run that comes to true.
  billetlaw42.live is one closed run.
  TraceSame: the walk.
-/
import Derived.Test.YtnjabndkaabogaaGreatDoorTm08
import Derived.Below
import Derived.Carry
import Derived.Test.YtnjabndkaabogaaGreatDoorTm01
import Derived.KernelRfl
import Derived.Test.YtnjabndkaabogaaGreatDoorTm02
namespace Go.Proofs.YtnjabndkaabogaaGreatDoor.Ev
open Go
theorem isIns_is {P : Program} {d0 : Tmp} {kk : IntKind} {o : Oper} {z : Int} {x : Operand} (h : isIns P d0 kk o = some (z, x)) : ∃ t kt et j, o.op = .insert t (.tmp d0) (.const (.int kk z)) x ∧ o.dst = none ∧ o.guard = none ∧ P.underlying t = some (.map kt et) ∧ P.underlying kt = some (.int j) := by
  unfold isIns at h
  split at h
  · rename_i t d k z' x' h1 h2 h3
    split at h
    · rename_i ke hke
      split at h
      · rename_i j hj
        split at h
        · rename_i hb
          obtain ⟨b1, b2⟩ := band_eq hb
          obtain rfl := Nat.eq_of_beq_eq_true b1
          obtain rfl := kindEq b2
          simp only [Option.some.injEq, Prod.mk.injEq] at h
          obtain ⟨rfl, rfl⟩ := h
          exact ⟨t, ke.1, ke.2, j, h1, h2, h3, mapOf_eq hke, hj⟩
        · cases h
      · cases h
    · cases h
  · cases h
section
variable {P : Program} {cl : Cl} {N : Nat} {ds : List Deferred} {ro : Option Nat} {ops : Array Oper} {ρ0 : Nat → Nm} {s0 : St} {w0 : World}
variable {D : List Nat} {f : T Value} {s : St} {w : World} {ρ : Nat → Nm} {d0 : Tmp} {kk : IntKind} {m : Nat}
structure MapReg (P : Program) (N : Nat) (ops : Array Oper) (d0 : Tmp) (kk : IntKind) (m : Nat) (D : List Nat) : Prop where
  slots : Slots P N ops
  size : ops.size = m + 2
  head : ∃ o t, ops[0]? = some o ∧ o.op = .makeMap t none ∧ o.dst = some d0 ∧ o.guard = none ∧ ∀ e, ¬ bit (mask o) e = true
  d0N : d0 < N
  pos : 0 < m
  D0 : ∀ i : Nat, i ∈ D → 0 < i ∧ i < m
  kind : ∀ (i : Nat) (o : Oper), ops[i]? = some o → 0 < i → i < m → (i ∈ D ∧ quiet o = true ∧ o.guard = none ∧ d0 ∉ o.looksAt ops ∧ o.dst ≠ some d0 ∧ ∀ e, bit (mask o) e = true → e ∈ D) ∨ (i ∉ D ∧ bit (mask o) 0 = true ∧ (∀ e, bit (mask o) e = true → e < i) ∧ ∃ z x, isIns P d0 kk o = some (z, x) ∧ x ≠ .tmp d0)
  last : ∀ (i : Nat) (o : Oper), ops[i]? = some o → m ≤ i → ∀ e, e < m → bit (mask o) e = true
  one : ∀ (i j : Nat) (o p : Oper) (z : Int) (x : Operand) (z' : Int) (x' : Operand), ops[i]? = some o → ops[j]? = some p → isIns P d0 kk o = some (z, x) → isIns P d0 kk p = some (z', x') → z = z' → i = j
def Put (P : Program) (ops : Array Oper) (d0 : Tmp) (kk : IntKind) (m : Nat) (w0 : World) (ρ : Nat → Nm) (s : St) (f : T Value) (L : Array Bool) (a : Act) (w : World) (B : Nat) : Prop :=
  ∃ es clock, a.tmps[d0]? = some (.map (some B)) ∧ w0.heap.size ≤ B ∧ w.heap[B]? = some (.map es clock) ∧ (∀ n x, s.h.get n = some x → (ρ n).b ≠ B) ∧
    (∀ u ∈ es.toList, ∃ (j : Nat) (o : Oper) (z : Int) (x : Operand) (v : Value), ops[j]? = some o ∧ j < m ∧ isIns P d0 kk o = some (z, x) ∧ li L j ∧ ev x f = some v ∧ u.key = .int kk z ∧ VR ρ s.nx v u.val) ∧
    (∀ (j : Nat) (o : Oper) (z : Int) (x : Operand), ops[j]? = some o → j < m → isIns P d0 kk o = some (z, x) → li L j → ∃ u ∈ es.toList, u.key = .int kk z)
structure RelM (P : Program) (N : Nat) (ds : List Deferred) (ops : Array Oper) (ρ0 : Nat → Nm) (s0 : St) (w0 : World) (d0 : Tmp) (kk : IntKind) (m : Nat) (D : List Nat) (f : T Value) (s : St) (ρ : Nat → Nm) (c : Act) (L : Array Bool) (a : Act) (w : World) : Prop where
  st : SStep ρ0 s0 w0 ρ s w
  fits : Fits ρ N ds s.nx f c
  asz : a.tmps.size = N
  adf : a.defers = ds
  lsz : L.size = ops.size
  lcl : ∀ (i : Nat) (o : Oper), ops[i]? = some o → li L i → ∀ e, bit (mask o) e = true → li L e
  agree : ∀ t, t ≠ d0 → (∀ (i : Nat) (o : Oper), ops[i]? = some o → i ∈ D → ¬ li L i → o.dst ≠ some t) → a.tmps[t]? = c.tmps[t]?
  pend : ∀ (i : Nat) (o : Oper), ops[i]? = some o → i ∈ D → ¬ li L i → quiet o = true ∧ Pend P N ops ρ s c o
  last : ∀ i : Nat, m ≤ i → ¬ li L i
  map : li L 0 → ∃ B, Put P ops d0 kk m w0 ρ s f L a w B
variable {c a : Act} {L : Array Bool}
theorem RelM.looks (R : RelM P N ds ops ρ0 s0 w0 d0 kk m D f s ρ c L a w) (M : MapReg P N ops d0 kk m D) {j : Nat} {o : Oper} (ho : ops[j]? = some o) (hr : ∀ e, bit (mask o) e = true → li L e) (hl : ¬ li L j) (hs : j ∈ D → quiet o = true) : ∀ t ∈ o.looksAt ops, t ≠ d0 → a.tmps[t]? = c.tmps[t]? := fun t ht h0 => by
  refine R.agree t h0 (fun i oi hi hiD hiL he => ?_)
  have hq := (R.pend i oi hi hiD hiL).1
  by_cases hij : i = j
  · subst hij
    obtain rfl := Option.some.inj (ho.symm.trans hi)
    exact M.slots.self i o t hi he hq ht
  · rcases M.slots.see i j oi o t hi ho hij he (.inl hq) ht with h1 | ⟨h1, _⟩
    · exact hiL (hr i h1)
    · rw [quiet_notA hq] at h1
      cases h1
theorem RelM.pended (R : RelM P N ds ops ρ0 s0 w0 d0 kk m D f s ρ c L a w) (M : MapReg P N ops d0 kk m D) {j : Nat} {o : Oper} (ho : ops[j]? = some o) (hj : j ∈ D) (hr : j ∈ Region.ready .any ops L) :
    ∃ u, Region.wanted o (yielded ops a.tmps) = true ∧ (execOp a.eval o).run P w = .ok (.value u) w ∧ RelM P N ds ops ρ0 s0 w0 d0 kk m D f s ρ c (L.setIfInBounds j true) (a.put o.dst u) w := by
  obtain ⟨hl, hb⟩ := (ready_iff R.lsz ho).1 hr
  have hlt : j < L.size := by rw [R.lsz]; exact (Array.getElem?_eq_some_iff.1 ho).1
  obtain ⟨hq, hp⟩ := R.pend j o ho hj hl
  obtain ⟨hj0, hjm⟩ := M.D0 j hj
  rcases M.kind j o ho hj0 hjm with ⟨_, _, hg, hlook, hdst, hmask⟩ | ⟨hno, _⟩
  · obtain ⟨hev, hwt⟩ := same_looks (a := a) (c := c) (fun t ht => R.looks M ho hb hl (fun _ => hq) t ht (fun e => hlook (e ▸ ht)))
    have hw : Region.wanted o (yielded ops c.tmps) = true := by unfold Region.wanted; rw [hg]
    rcases hp with ⟨h1, _⟩ | ⟨h1, fk, ak, v, u, h2, h3, h4, h5, h6⟩
    · rw [hw] at h1
      cases h1
    · refine ⟨u, by rw [hwt]; exact hw, ?_, ?_⟩
      · obtain ⟨u', g1, g2⟩ := h2 ρ w ak R.st.hr h3
        obtain rfl := h5.det g2
        rw [execOp_congr o (noSel M.slots ho) (fun x hx => (hev x hx).trans (h4 x hx).symm)]
        exact g1
      · refine ⟨R.st, R.fits, by rw [put_size]; exact R.asz, by rw [put_defers0]; exact R.adf, by simp [R.lsz], fun i oi hi hli e he => ?_, fun t h0 h1 => ?_, fun i oi hi hiD hli => R.pend i oi hi hiD (fun h => hli ((li_set hlt).2 (.inr h))), fun i hi h => ?_, fun h => ?_⟩
        · rw [li_set hlt] at hli ⊢
          rcases hli with rfl | hli
          · obtain rfl := Option.some.inj (ho.symm.trans hi)
            exact .inr (hb e he)
          · exact .inr (R.lcl i oi hi hli e he)
        · by_cases htd : o.dst = some t
          · rw [htd]
            by_cases hN : t < N
            · rw [put_self a t u (by rw [R.asz]; exact hN), h6 t htd hN]
            · have e1 : (a.put (some t) u).tmps[t]? = none := Array.getElem?_eq_none (by rw [put_size, R.asz]; exact Nat.le_of_not_lt hN)
              have e2 : c.tmps[t]? = none := Array.getElem?_eq_none (by rw [R.fits.size]; exact Nat.le_of_not_lt hN)
              rw [e1, e2]
          · rw [put_at a o.dst u t htd]
            refine R.agree t h0 (fun i oi hi hiD hli he => ?_)
            by_cases hij : i = j
            · subst hij
              obtain rfl := Option.some.inj (ho.symm.trans hi)
              exact htd he
            · exact h1 i oi hi hiD (fun h => by rcases (li_set hlt).1 h with h | h; exact hij h; exact hli h) he
        · rcases (li_set hlt).1 h with h | h
          · omega
          · exact R.last i hi h
        · have h0 : li L 0 := by
            rcases (li_set hlt).1 h with h | h
            · omega
            · exact h
          obtain ⟨B, es, clock, g1, g2, g3, g4, g5, g6⟩ := R.map h0
          refine ⟨B, es, clock, by rw [put_at a o.dst u d0 hdst]; exact g1, g2, g3, g4, fun u hu => ?_, fun i oi z x hi him hz hli => ?_⟩
          · obtain ⟨i, oi, z, x, v, k1, k2, k3, k4, k5⟩ := g5 u hu
            exact ⟨i, oi, z, x, v, k1, k2, k3, (li_set hlt).2 (.inr k4), k5⟩
          · rcases (li_set hlt).1 hli with e | h
            · subst e
              obtain rfl := Option.some.inj (ho.symm.trans hi)
              obtain ⟨t, _, _, _, k1, _⟩ := isIns_is hz
              unfold quiet at hq
              rw [k1] at hq
              cases hq
            · exact g6 i oi z x hi him hz h
  · exact absurd hj hno
theorem RelM.listed (R : RelM P N ds ops ρ0 s0 w0 d0 kk m D f s ρ c L a w) {j : Nat} {o : Oper} (ho : ops[j]? = some o) (hj : j ∉ D) (hjm : j < m) (hr : j ∈ Region.ready .any ops L) {a' : Act} {w' : World} (st : SStep ρ0 s0 w0 ρ s w') (hsz : a'.tmps.size = a.tmps.size) (hdf : a'.defers = a.defers) (hat : ∀ t, t ≠ d0 → a'.tmps[t]? = a.tmps[t]?)
    (hm : ∃ B, Put P ops d0 kk m w0 ρ s f (L.setIfInBounds j true) a' w' B) : RelM P N ds ops ρ0 s0 w0 d0 kk m D f s ρ c (L.setIfInBounds j true) a' w' := by
  obtain ⟨hl, hb⟩ := (ready_iff R.lsz ho).1 hr
  have hlt : j < L.size := by rw [R.lsz]; exact (Array.getElem?_eq_some_iff.1 ho).1
  refine ⟨st, R.fits, hsz.trans R.asz, hdf.trans R.adf, by simp [R.lsz], fun i oi hi hli e he => ?_, fun t h0 h1 => ?_, fun i oi hi hiD hli => R.pend i oi hi hiD (fun h => hli ((li_set hlt).2 (.inr h))), fun i hi h => ?_, fun _ => hm⟩
  · rw [li_set hlt] at hli ⊢
    rcases hli with rfl | hli
    · obtain rfl := Option.some.inj (ho.symm.trans hi)
      exact .inr (hb e he)
    · exact .inr (R.lcl i oi hi hli e he)
  · rw [hat t h0]
    refine R.agree t h0 (fun i oi hi hiD hli => h1 i oi hi hiD (fun h => ?_))
    rcases (li_set hlt).1 h with h | h
    · exact hj (h ▸ hiD)
    · exact hli h
  · rcases (li_set hlt).1 h with h | h
    · omega
    · exact R.last i hi h
theorem RelM.made (R : RelM P N ds ops ρ0 s0 w0 d0 kk m D f s ρ c L a w) (M : MapReg P N ops d0 kk m D) {o : Oper} (ho : ops[0]? = some o) (hr : 0 ∈ Region.ready .any ops L) :
    ∃ u w', Region.wanted o (yielded ops a.tmps) = true ∧ (execOp a.eval o).run P w = .ok (.value u) w' ∧ RelM P N ds ops ρ0 s0 w0 d0 kk m D f s ρ c (L.setIfInBounds 0 true) (a.put o.dst u) w' := by
  obtain ⟨o', t, h1, h2, h3, h4, h5⟩ := M.head
  obtain rfl := Option.some.inj (ho.symm.trans h1)
  obtain ⟨hl, hb⟩ := (ready_iff R.lsz ho).1 hr
  have hlt : 0 < L.size := by rw [R.lsz]; exact (Array.getElem?_eq_some_iff.1 ho).1
  have hD : 0 ∉ D := fun h => by have := M.D0 0 h; omega
  refine ⟨.map (some w.heap.size), { w with heap := w.heap.push (.map #[] 0) }, by unfold Region.wanted; rw [h4], ?_, R.listed ho hD M.pos hr (step_push R.st _) (by rw [put_size]) (by rw [put_defers0]) (fun t ht => put_at a o.dst _ t (fun e => ht (by rw [h3] at e; exact (Option.some.inj e).symm))) ⟨w.heap.size, #[], 0, ?_, R.st.fr.size, ?_, fun n x hn he => ?_, fun u hu => (by simp at hu), fun j oj z x hj hjm hz hli => ?_⟩⟩
  · rw [makeMap_run h2 a.eval]
    rfl
  · rw [h3, put_self a d0 _ (by rw [R.asz]; exact M.d0N)]
  · simp
  · have := R.st.hr.old hn
    omega
  · exfalso
    by_cases hj0 : j = 0
    · subst hj0
      obtain rfl := Option.some.inj (ho.symm.trans hj)
      obtain ⟨t', _, _, _, k1, _⟩ := isIns_is hz
      rw [h2] at k1
      cases k1
    · have h6 : li L j := ((li_set hlt).1 hli).resolve_left hj0
      rcases M.kind j oj hj (by omega) hjm with ⟨_, hq, _⟩ | ⟨_, h7, _⟩
      · obtain ⟨t', _, _, _, k1, _⟩ := isIns_is hz
        unfold quiet at hq
        rw [k1] at hq
        cases hq
      · exact hl (R.lcl j oj hj h6 0 h7)
theorem RelM.put1 (R : RelM P N ds ops ρ0 s0 w0 d0 kk m D f s ρ c L a w) (M : MapReg P N ops d0 kk m D) {j : Nat} {o : Oper} (ho : ops[j]? = some o) (hjD : j ∉ D) (hjm : j < m) (hb0 : bit (mask o) 0 = true) {z : Int} {x : Operand} {v : Value} (hi : isIns P d0 kk o = some (z, x)) (hx0 : x ≠ .tmp d0) (hv : ev x f = some v) (hr : j ∈ Region.ready .any ops L) :
    ∃ w', Region.wanted o (yielded ops a.tmps) = true ∧ (execOp a.eval o).run P w = .ok .skip w' ∧ RelM P N ds ops ρ0 s0 w0 d0 kk m D f s ρ c (L.setIfInBounds j true) (a.put o.dst undef) w' := by
  obtain ⟨hl, hb⟩ := (ready_iff R.lsz ho).1 hr
  have hlt : j < L.size := by rw [R.lsz]; exact (Array.getElem?_eq_some_iff.1 ho).1
  obtain ⟨t, kt, et, jj, h1, h2, h3, h4, h5⟩ := isIns_is hi
  obtain ⟨B, es, clock, g1, g2, g3, g4, g5, g6⟩ := R.map (hb 0 hb0)
  have em : a.eval (.tmp d0) = .map (some B) := by simp [Act.eval, g1]
  have ex : a.eval x = c.eval x := by
    cases x with
    | tmp t =>
      have ht : t ∈ o.looksAt ops := List.mem_append_left _ (List.mem_filterMap.2 ⟨.tmp t, by rw [h1]; simp [Op.operands], rfl⟩)
      have := R.looks M ho hb hl (fun h => absurd h hjD) t ht (fun e => hx0 (by rw [e]))
      simp [Act.eval, this]
    | _ => rfl
  have hvr : VR ρ s.nx v (a.eval x) := by
    rw [ex]
    exact evO_sound R.fits.fr (ev_eq hv)
  obtain ⟨r, r1, r2⟩ := findNow_int (j := jj) (kk := kk) (z := z) es.toList 0 (fun u hu => by
    obtain ⟨_, _, z', _, _, _, _, _, _, _, k, _⟩ := g5 u hu
    exact ⟨z', k⟩)
  obtain rfl : r = none := by
    rcases r2 with ⟨h, _⟩ | ⟨_, u, _, hu, hk⟩
    · exact h
    · exfalso
      obtain ⟨i, oi, z', x', v', k1, k2, k3, k4, k5, k6, k7⟩ := g5 u hu
      rw [hk] at k6
      have : z = z' := by injection k6
      have hij := M.one j i o oi z x z' x' ho k1 hi k3 this
      subst hij
      exact hl k4
  refine ⟨setH w B (.map (es.push ⟨.int kk z, a.eval x, clock⟩) (clock + 1)), by unfold Region.wanted; rw [h3], ?_, R.listed ho hjD hjm hr (R.st.shut g2 g4) (by rw [put_size]) (by rw [put_defers0]) (fun t _ => by rw [h2]; rfl) ⟨B, es.push ⟨.int kk z, a.eval x, clock⟩, clock + 1, by rw [h2]; exact g1, g2, setH_at g3, g4, fun u hu => ?_, fun i oi z' x' hio him hz hli => ?_⟩⟩
  · rw [mapUpdate_run (.inr h1) a.eval, em]
    show (do Instr.mapUpdate t (.map (some B)) (.int kk z) (a.eval x); pure .skip : Sem Next).run P w = _
    simp only [Instr.mapUpdate, Sem.run_bind, run_und h4, Result.andThen_ok, run_getObj P _ g3 (fun _ _ _ h => by cases h), checkInt h5, findInt h5 r1, run_setObj g3 (fun _ _ _ h => by cases h), Sem.run_pure]
  · rw [Array.toList_push, List.mem_append] at hu
    rcases hu with hu | hu
    · obtain ⟨i, oi, z', x', v', k1, k2, k3, k4, k5⟩ := g5 u hu
      exact ⟨i, oi, z', x', v', k1, k2, k3, (li_set hlt).2 (.inr k4), k5⟩
    · obtain rfl := List.mem_singleton.1 hu
      exact ⟨j, o, z, x, v, ho, hjm, hi, (li_set hlt).2 (.inl rfl), hv, rfl, hvr⟩
  · rcases (li_set hlt).1 hli with e | h
    · subst e
      obtain rfl := Option.some.inj (ho.symm.trans hio)
      rw [hi] at hz
      simp only [Option.some.injEq, Prod.mk.injEq] at hz
      obtain ⟨rfl, rfl⟩ := hz
      exact ⟨_, by rw [Array.toList_push]; exact List.mem_append_right _ (List.mem_singleton.2 rfl), rfl⟩
    · obtain ⟨u, hu, hk⟩ := g6 i oi z' x' hio him hz h
      exact ⟨u, by rw [Array.toList_push]; exact List.mem_append_left _ hu, hk⟩
theorem step_named {s : St} {ρ : Nat → Nm} {w : World} (h : SStep ρ0 s0 w0 ρ s w) {a : AO} {n : Nm} (ho : OR (upd ρ s.nx n) (s.nx + 1) n a w.heap[n.b]?) (h0 : w0.heap.size ≤ n.b) (hn : ∀ q x, s.h.get q = some x → (ρ q).b ≠ n.b) : SStep ρ0 s0 w0 (upd ρ s.nx n) (s.new a) w := by
  have hx := upd_ext ρ s.nx n
  have key : Step ρ0 s0.nx s0.h.get w0 (upd ρ s.nx n) (s.nx + 1) (updH s.h.get s.nx (some a)) w := by
    refine ⟨h.ext.trans hx, ⟨fun q o' hm => ?_, fun q r o1 o2 h1 h2 he => ?_⟩, h.fr, fun q o' hm => ?_⟩
    · rcases updH_get hm with ⟨rfl, e⟩ | ⟨hne, hm⟩
      · obtain rfl := Option.some.inj e
        refine ⟨Nat.lt_succ_self _, ?_⟩
        rw [upd_at]
        exact ho
      · have h1 := h.hr.obj q o' hm
        refine ⟨Nat.lt_succ_of_lt h1.1, ?_⟩
        rw [hx.2 q h1.1]
        exact h1.2.mono hx
    · rcases updH_get h1 with ⟨g1, _⟩ | ⟨hne, g1⟩ <;> rcases updH_get h2 with ⟨g2, _⟩ | ⟨hme, g2⟩
      · exact g1.trans g2.symm
      · rw [g1, upd_at, hx.2 r (h.hr.obj r _ g2).1] at he
        exact absurd he.symm (hn r _ g2)
      · rw [g2, upd_at, hx.2 q (h.hr.obj q _ g1).1] at he
        exact absurd he (hn q _ g1)
      · rw [hx.2 q (h.hr.obj q _ g1).1, hx.2 r (h.hr.obj r _ g2).1] at he
        exact h.hr.inj q r o1 o2 g1 g2 he
    · rcases updH_get hm with ⟨rfl, _⟩ | ⟨hne, hm⟩
      · exact .inl (by rw [upd_at]; exact h0)
      · rw [hx.2 q (h.hr.obj q _ hm).1]
        exact h.liv q o' hm
  exact key.less get_updH
structure Told (P : Program) (ops : Array Oper) (d0 : Tmp) (kk : IntKind) (m : Nat) (f : T Value) (E : List MapEntry) : Prop where
  nodup : (E.map (·.key)).Nodup
  back : ∀ e ∈ E, ∃ (j : Nat) (o : Oper) (z : Int) (x : Operand), ops[j]? = some o ∧ j < m ∧ isIns P d0 kk o = some (z, x) ∧ e.key = .int kk z
  all : ∀ (j : Nat) (o : Oper) (z : Int) (x : Operand), ops[j]? = some o → j < m → isIns P d0 kk o = some (z, x) → ∃ e ∈ E, e.key = .int kk z ∧ ev x f = some e.val
theorem RelM.adopt (R : RelM P N ds ops ρ0 s0 w0 d0 kk m D f s ρ c L a w) (M : MapReg P N ops d0 kk m D) (hall : ∀ i, i < m → li L i) {E : List MapEntry} (hE : Told P ops d0 kk m f E) {D' : List Nat} (hD : ∀ i, i ∈ D' ↔ i < m) :
    ∃ ρ2 c2, Rel P N ds ops ρ0 s0 w0 L D' (put N (some d0) (.map (some s.nx)) f) (s.new (.pmap E)) a w ρ2 c2 (fun _ => 0) := by
  obtain ⟨B, es, clock, g1, g2, g3, g4, g5, g6⟩ := R.map (hall 0 M.pos)
  have hx := upd_ext ρ s.nx ⟨B, 0, 0⟩
  have st : SStep ρ0 s0 w0 (upd ρ s.nx ⟨B, 0, 0⟩) (s.new (.pmap E)) w := step_named R.st ⟨es, clock, g3, kk, hE.nodup, fun e he => (by
      obtain ⟨_, _, z, _, _, _, _, k⟩ := hE.back e he
      exact ⟨z, k⟩), fun u hu => (by
      obtain ⟨j, o, z, x, v, k1, k2, k3, k4, k5, k6, k7⟩ := g5 u hu
      obtain ⟨e, e1, e2, e3⟩ := hE.all j o z x k1 k2 k3
      obtain rfl := Option.some.inj (k5.symm.trans e3)
      exact ⟨e, e1, e2.trans k6.symm, k7.mono hx⟩), fun e he => (by
      obtain ⟨j, o, z, x, k1, k2, k3, k4⟩ := hE.back e he
      obtain ⟨u, u1, u2⟩ := g6 j o z x k1 k2 k3 (hall j k2)
      exact ⟨u, u1, u2.trans k4.symm⟩)⟩ g2 g4
  have hvm : VR (upd ρ s.nx ⟨B, 0, 0⟩) (s.nx + 1) (.map (some s.nx)) (.map (some B)) := by
    have h := VR.map (ρ := upd ρ s.nx ⟨B, 0, 0⟩) s.nx (Nat.lt_succ_self s.nx)
    rw [upd_at] at h
    exact h
  have ft := R.fits.put hx (some d0) hvm
  refine ⟨_, _, st, ft, R.asz, R.adf, R.lsz, R.lcl, fun t h1 h2 => ?_, fun i oi hi hiD hli => absurd (hall i ((hD i).1 hiD)) hli, fun i oi hi hiD hli => ?_, fun i k oi ok hi hk hiD hkD hli hlk he => ?_⟩
  · by_cases ht : t = d0
    · subst ht
      rw [put_self c t _ (by rw [R.fits.size]; exact M.d0N)]
      exact g1
    · rw [put_at c (some d0) _ t (fun e => ht (Option.some.inj e).symm)]
      exact R.agree t ht (fun i oi hi hiD hli => absurd (hall i (M.D0 i hiD).2) hli)
  · have : ¬ i < m := fun h => hiD ((hD i).2 h)
    exact absurd hli (R.last i (by omega))
  · have : ¬ i < m := fun h => hiD ((hD i).2 h)
    exact absurd hli (R.last i (by omega))
theorem skip_wp {o : Oper} {w' : World} {next : Act → World → Prop} {Q : Exit → Act → World → Prop} (h : (execOp a.eval o).run P w = .ok .skip w') (hn : next (a.put o.dst undef) w') : o.wpIn (fz ro) 0 P a w next Q :=
  Does.wp (X := fun x y => x = undef ∧ y = w') ro (by unfold Does; rw [h]; exact ⟨rfl, rfl⟩) (fun x y ⟨e1, e2⟩ => by subst e1 e2; exact hn)
theorem map_any (hcl : ClOk P cl) (M : MapReg P N ops d0 kk m D) {E : List MapEntry} (hE : Told P ops d0 kk m f E) {D' : List Nat} (hD : ∀ i, i ∈ D' ↔ i < m) {p : List Nat} (hO : OrdOk P N ops p D') (hC : Chain ops D')
    (hok : (xDr P cl N ops p D' (put N (some d0) (.map (some s.nx)) f) (s.new (.pmap E))).ok) : ∀ (fuel : Nat) (L : Array Bool) (a : Act) (w : World), RelM P N ds ops ρ0 s0 w0 d0 kk m D f s ρ c L a w → L.count false ≤ fuel →
    wpAnyIn (fz ro) 0 P .any ops (EndR N ds ρ0 s0 w0 (xDr P cl N ops p D' (put N (some d0) (.map (some s.nx)) f) (s.new (.pmap E)))) fuel L a w
  | fuel, L, a, w, R, hf => by
    by_cases hall : ∀ i, i < m → li L i
    · obtain ⟨ρ2, c2, R2⟩ := R.adopt M hall hE hD
      exact drawn_any hcl M.slots fuel L a w p D' _ _ c2 ρ2 _ R2 hO hC hok hf
    · obtain ⟨i0, hi0, hl0⟩ : ∃ i, i ∈ D' ∧ ¬ li L i := by
        apply Classical.byContradiction
        intro hn
        exact hall fun i hi => Classical.byContradiction fun hl => hn ⟨i, (hD i).2 hi, hl⟩
      obtain ⟨k, hk, hkl, ok, hok1, hkb⟩ := hC.first ⟨i0, hi0, hl0⟩
      have hkr : k ∈ Region.ready .any ops L := (ready_iff R.lsz hok1).2 ⟨hkl, hkb⟩
      have hklt : k < L.size := by rw [R.lsz]; exact (Array.getElem?_eq_some_iff.1 hok1).1
      cases fuel with
      | zero =>
        exfalso
        have hg : L[k] = false := by
          unfold li at hkl
          simp [hklt] at hkl
          exact hkl
        have : 0 < L.count false := Array.count_pos_iff.2 (hg ▸ Array.getElem_mem hklt)
        omega
      | succ n =>
        refine ⟨fun hr => (by rw [hr] at hkr; cases hkr), fun i hi => ?_⟩
        obtain ⟨_, o, ho, _⟩ := mem_ready.1 hi
        obtain ⟨hl, hb⟩ := (ready_iff R.lsz ho).1 hi
        have hlt : i < L.size := by rw [R.lsz]; exact (Array.getElem?_eq_some_iff.1 ho).1
        have hcnt := count_set_lt hlt hl hf
        unfold wpOpIn
        rw [ho]
        simp only
        by_cases him : i < m
        · by_cases hi00 : i = 0
          · subst hi00
            obtain ⟨u, w', h1, h2, R2⟩ := R.made M ho hi
            rw [if_pos h1]
            exact val_wp h2 (map_any hcl M hE hD hO hC hok n _ _ _ R2 hcnt)
          · rcases M.kind i o ho (by omega) him with ⟨hiD, _⟩ | ⟨hiD, hb0, _, z, x, hz, hx0⟩
            · obtain ⟨u, h1, h2, R2⟩ := R.pended M ho hiD hi
              rw [if_pos h1]
              exact val_wp h2 (map_any hcl M hE hD hO hC hok n _ _ _ R2 hcnt)
            · obtain ⟨e, _, _, hv⟩ := hE.all i o z x ho him hz
              obtain ⟨w', h1, h2, R2⟩ := R.put1 M ho hiD him hb0 hz hx0 hv hi
              rw [if_pos h1]
              exact skip_wp h2 (map_any hcl M hE hD hO hC hok n _ _ _ R2 hcnt)
        · exact absurd (fun e he => hb e (M.last i o ho (by omega) e he)) hall
end
end Go.Proofs.YtnjabndkaabogaaGreatDoor.Ev
namespace Go.Proofs.YtnjabndkaabogaaGreatDoor.Ev
open Go
theorem full_bit : ∀ (m i : Nat), bit (full m) i = true ↔ i < m
  | 0, i => by
    show bit 0 i = true ↔ _
    rw [bit_zero]
    exact ⟨fun h => h.elim, fun h => absurd h (Nat.not_lt_zero _)⟩
  | m + 1, i => by
    show bit (add1 (full m) m) i = true ↔ _
    rw [bit_add1, full_bit m i]
    omega
theorem down_mem : ∀ (m i : Nat), i ∈ downFrom m ↔ i < m
  | 0, i => by
    show i ∈ ([] : List Nat) ↔ _
    simp
  | m + 1, i => by
    show i ∈ m :: downFrom m ↔ _
    rw [List.mem_cons, down_mem m i]
    omega
theorem qList_mem (m : Nat) : ∀ (l : List (Nat × Oper)) (i : Nat), i ∈ qList m l ↔ ∃ o, (i, o) ∈ l ∧ 1 ≤ i ∧ i + 1 ≤ m ∧ quiet o = true
  | [], i => by
    show i ∈ ([] : List Nat) ↔ _
    simp
  | x :: l, i => by
    have ih := qList_mem m l i
    show i ∈ Bool.rec (motive := fun _ => List Nat) (qList m l) (x.1 :: qList m l) (band (Nat.ble 1 x.1) (band (Nat.ble (x.1 + 1) m) (quiet x.2))) ↔ _
    rcases hb : band (Nat.ble 1 x.1) (band (Nat.ble (x.1 + 1) m) (quiet x.2)) with _ | _
    · simp only [ih]
      constructor
      · rintro ⟨o, h1, h2⟩
        exact ⟨o, List.mem_cons_of_mem _ h1, h2⟩
      · rintro ⟨o, h1, h2, h3, h4⟩
        rcases List.mem_cons.1 h1 with e | h1
        · subst e
          rw [Nat.ble_eq_true_of_le h2, Nat.ble_eq_true_of_le h3, h4] at hb
          cases hb
        · exact ⟨o, h1, h2, h3, h4⟩
    · obtain ⟨b1, b2⟩ := bandT hb
      obtain ⟨b2, b3⟩ := bandT b2
      simp only [List.mem_cons, ih]
      constructor
      · rintro (e | ⟨o, h1, h2⟩)
        · subst e
          exact ⟨x.2, .inl rfl, Nat.le_of_ble_eq_true b1, Nat.le_of_ble_eq_true b2, b3⟩
        · exact ⟨o, .inr h1, h2⟩
      · rintro ⟨o, h1 | h1, h2⟩
        · exact .inl (congrArg Prod.fst h1)
        · exact .inr ⟨o, h1, h2⟩
section
variable {P : Program} {cl : Cl} {N : Nat} {ds : List Deferred} {ro : Option Nat} {ops : Array Oper} {ρ0 : Nat → Nm} {s0 : St} {w0 : World}
variable {f : T Value} {s : St} {w : World} {ρ : Nat → Nm} {d0 : Tmp} {kk : IntKind} {m : Nat} {L : Array Bool} {a : Act} {B : Nat → Nat}
theorem xQ_ok (S : Slots P N ops) (hno : ∀ i, ¬ li L i) {k : T Value → Ev.R} : ∀ (q D : List Nat) (d : Nat) (f : T Value) (c : Act), (∀ i, bit d i = true ↔ i ∈ D) → okQ ops q d = true → Chain ops D → Rel P N ds ops ρ0 s0 w0 L D f s a w ρ c B → (xQ P cl N ops q s k f).ok →
    ∃ D2 f2 c2, Rel P N ds ops ρ0 s0 w0 L D2 f2 s a w ρ c2 B ∧ Chain ops D2 ∧ (∀ i, i ∈ D2 ↔ i ∈ q ∨ i ∈ D) ∧ xQ P cl N ops q s k f = k f2
  | [], D, d, f, c, hd, h, hC, R, hok => ⟨D, f, c, R, hC, fun i => by simp, rfl⟩
  | i :: q, D, d, f, c, hd, h, hC, R, hok => by
    obtain ⟨h1, h2⟩ := bandT (show band (bnot (bit d i)) (Option.rec (motive := fun _ => Bool) false (fun o => band (sub (mask o) d) (forceL (add1 d i) (okQ ops q))) (nth ops.toList i)) = true from h)
    change (onO 203 (nth ops.toList i) (fun o => onB 235 (band (quiet o) (Option.isNone o.guard)) (xOp P cl o f s (fun v _ => xQ P cl N ops q s k (put N o.dst v f))))).ok at hok
    show ∃ D2 f2 c2, _ ∧ _ ∧ _ ∧ onO 203 (nth ops.toList i) (fun o => onB 235 (band (quiet o) (Option.isNone o.guard)) (xOp P cl o f s (fun v _ => xQ P cl N ops q s k (put N o.dst v f)))) = k f2
    rw [nth_arr] at h2 hok ⊢
    rcases ho : ops[i]? with _ | o
    · rw [ho] at h2
      cases h2
    · rw [ho] at h2 hok
      obtain ⟨h3, h4⟩ := bandT h2
      rw [forceL_eq] at h4
      change (onB 235 (band (quiet o) (Option.isNone o.guard)) (xOp P cl o f s (fun v _ => xQ P cl N ops q s k (put N o.dst v f)))).ok at hok
      show ∃ D2 f2 c2, _ ∧ _ ∧ _ ∧ onB 235 (band (quiet o) (Option.isNone o.guard)) (xOp P cl o f s (fun v _ => xQ P cl N ops q s k (put N o.dst v f))) = k f2
      rcases hb : band (quiet o) (Option.isNone o.guard) with _ | _
      · rw [hb] at hok
        exact hok.elim
      · rw [hb] at hok
        obtain ⟨hq, hg⟩ := bandT hb
        have hi : i ∉ D := fun hm => by
          rw [(hd i).2 hm] at h1
          cases h1
        have hm : ∀ e, bit (mask o) e = true → e ∈ D := fun e he => (hd e).1 ((sub_iff _ _).1 h3 e he)
        obtain ⟨v, e1, e2⟩ := xOp_q hq (show (xOp P cl o f s (fun v _ => xQ P cl N ops q s k (put N o.dst v f))).ok from hok)
        change (xOp P cl o f s (fun v _ => xQ P cl N ops q s k (put N o.dst v f))).ok at hok
        rw [e1] at hok
        obtain ⟨u, _, e3⟩ := e2 ρ w c R.st.hr R.fits.fr
        have hw : Region.wanted o (yielded ops c.tmps) = true := by
          unfold Region.wanted
          rw [Option.isNone_iff_eq_none.1 hg]
        have R2 := R.absorb S hC.closed ho hi hq (.inr ⟨hw, e2, e3⟩)
        obtain ⟨D2, f2, c2, g1, g2, g3, g4⟩ := xQ_ok S hno q (i :: D) (add1 d i) (put N o.dst v f) _ (fun j => by
          rw [bit_add1, hd j, List.mem_cons]
          constructor
          · rintro (h | h)
            · exact .inr h
            · exact .inl h.symm
          · rintro (h | h)
            · exact .inr h.symm
            · exact .inl h) h4 ⟨⟨o, ho, hm⟩, hC⟩ R2 hok
        refine ⟨D2, f2, c2, g1, g2, fun j => ?_, ?_⟩
        · rw [g3 j, List.mem_cons, List.mem_cons]
          constructor
          · rintro (h | h | h)
            · exact .inl (.inr h)
            · exact .inl (.inl h)
            · exact .inr h
          · rintro ((h | h) | h)
            · exact .inr (.inl h)
            · exact .inl h
            · exact .inr (.inr h)
        · show xOp P cl o f s (fun v _ => xQ P cl N ops q s k (put N o.dst v f)) = k f2
          rw [e1]
          exact g4
theorem memK_is {kk : IntKind} {z : Int} : ∀ {es : List MapEntry}, memK kk z es = false → ∀ e ∈ es, e.key ≠ .int kk z
  | [], _, e, he => by cases he
  | x :: es, h, e, he => by
    change Bool.rec (motive := fun _ => Bool) (memK kk z es) true (keyIs x.key kk z) = false at h
    rcases hb : keyIs x.key kk z with _ | _
    · rw [hb] at h
      rcases List.mem_cons.1 he with e1 | he
      · intro e2
        rw [e1] at e2
        rw [keyIs_is.2 e2] at hb
        cases hb
      · exact memK_is h e he
    · rw [hb] at h
      cases h
theorem nodupE_is : ∀ {es : List MapEntry}, nodupE es = true → (es.map (·.key)).Nodup
  | [], _ => List.nodup_nil
  | e :: es, h => by
    change nodS e es (nodupE es) = true at h
    unfold nodS at h
    split at h
    · rename_i kk z hk
      obtain ⟨h1, h2⟩ := bandT h
      rw [List.map_cons, List.nodup_cons]
      refine ⟨fun hm => ?_, nodupE_is h2⟩
      obtain ⟨u, hu, he⟩ := List.mem_map.1 hm
      exact memK_is (bnot_true h1) u hu (he.trans hk)
    · cases h
theorem entsE_is : ∀ {l : List (Nat × Oper)} {E : List MapEntry}, entsE P d0 kk m f l = some E →
    (∀ e ∈ E, ∃ (j : Nat) (o : Oper) (z : Int) (x : Operand), (j, o) ∈ l ∧ j < m ∧ isIns P d0 kk o = some (z, x) ∧ e.key = .int kk z) ∧
    ∀ (j : Nat) (o : Oper) (z : Int) (x : Operand), (j, o) ∈ l → j < m → isIns P d0 kk o = some (z, x) → ∃ e ∈ E, e.key = .int kk z ∧ ev x f = some e.val
  | [], E, h => by
    obtain rfl := Option.some.inj (show some [] = some E from h)
    exact ⟨fun e he => (by cases he), fun j o z x h => (by cases h)⟩
  | y :: l, E, h => by
    change Bool.rec (motive := fun _ => Option (List MapEntry)) (entsE P d0 kk m f l) (entS P d0 kk f y.2 (entsE P d0 kk m f l)) (Nat.ble (y.1 + 1) m) = some E at h
    have keep : ∀ {E'}, entsE P d0 kk m f l = some E' → (∀ e ∈ E', ∃ (j : Nat) (o : Oper) (z : Int) (x : Operand), (j, o) ∈ y :: l ∧ j < m ∧ isIns P d0 kk o = some (z, x) ∧ e.key = .int kk z) := fun h e he => by
      obtain ⟨j, o, z, x, h1, h2⟩ := (entsE_is h).1 e he
      exact ⟨j, o, z, x, List.mem_cons_of_mem _ h1, h2⟩
    rcases hb : Nat.ble (y.1 + 1) m with _ | _
    · rw [hb] at h
      refine ⟨keep h, fun j o z x hj hm hz => ?_⟩
      rcases List.mem_cons.1 hj with e | hj
      · subst e
        rw [Nat.ble_eq_true_of_le hm] at hb
        cases hb
      · exact (entsE_is h).2 j o z x hj hm hz
    · rw [hb] at h
      change entS P d0 kk f y.2 (entsE P d0 kk m f l) = some E at h
      unfold entS at h
      split at h
      · rename_i z x hz
        split at h
        · rename_i v E' hv hE'
          obtain rfl := Option.some.inj h
          refine ⟨fun e he => ?_, fun j o z' x' hj hm hz' => ?_⟩
          · rcases List.mem_cons.1 he with rfl | he
            · exact ⟨y.1, y.2, z, x, List.mem_cons_self, Nat.le_of_ble_eq_true hb, hz, rfl⟩
            · exact keep hE' e he
          · rcases List.mem_cons.1 hj with e | hj
            · subst e
              rw [hz] at hz'
              simp only [Option.some.injEq, Prod.mk.injEq] at hz'
              obtain ⟨rfl, rfl⟩ := hz'
              exact ⟨_, List.mem_cons_self, rfl, hv⟩
            · obtain ⟨e, g1, g2⟩ := (entsE_is hE').2 j o z' x' hj hm hz'
              exact ⟨e, List.mem_cons_of_mem _ g1, g2⟩
        · cases h
      · rename_i hz
        refine ⟨keep h, fun j o z' x' hj hm hz' => ?_⟩
        rcases List.mem_cons.1 hj with e | hj
        · subst e
          rw [hz] at hz'
          cases hz'
        · exact (entsE_is h).2 j o z' x' hj hm hz'
theorem mapHead_is {d0 : Tmp} (h : mapHead ops = some d0) : ∃ o t, ops[0]? = some o ∧ o.op = .makeMap t none ∧ o.dst = some d0 ∧ o.guard = none ∧ ∀ e, ¬ bit (mask o) e = true := by
  unfold mapHead at h
  split at h
  · rename_i o ho
    split at h
    · rename_i t d h1 h2 h3
      split at h
      · rename_i hm
        obtain rfl := Option.some.inj h
        refine ⟨o, t, ho, h1, h2, h3, fun e he => ?_⟩
        rw [Nat.eq_of_beq_eq_true hm, bit_zero] at he
        exact he
      · cases h
    · cases h
  · cases h
theorem okMap_is (h : okMap P N ops d0 kk m = true) (hh : mapHead ops = some d0) : ∃ D, (∀ i, i ∈ D ↔ i ∈ qList m (numb ops.toList 0)) ∧ okQ ops (qList m (numb ops.toList 0)) 0 = true ∧ okOrd P N (numb ops.toList 0) ops [m, m + 1] (full m) = true ∧ Chain ops (downFrom m) ∧
    ((∀ i o, ops[i]? = some o → i ∈ D → ∀ e, bit (mask o) e = true → e ∈ D) → MapReg P N ops d0 kk m D) := by
  unfold okMap at h
  obtain ⟨h1, h⟩ := bandT h
  obtain ⟨h2, h⟩ := bandT h
  obtain ⟨h3, h⟩ := bandT h
  obtain ⟨h4, h⟩ := bandT h
  obtain ⟨h5, h⟩ := bandT h
  obtain ⟨h6, h⟩ := bandT h
  obtain ⟨h7, h⟩ := bandT h
  obtain ⟨h8, h9⟩ := bandT h
  have hm : 1 ≤ m := Nat.le_of_ble_eq_true h4
  have hsz : ops.size = m + 2 := Nat.eq_of_beq_eq_true h3
  rw [allL_iff] at h6 h7
  have kd : ∀ (i : Nat) (o : Oper), ops[i]? = some o → 1 ≤ i → kindOk P ops d0 kk m (i, o) = true := fun i o ho _ => h6 (i, o) ((numb_at ops i o).2 ho)
  have low : ∀ (i : Nat) (o : Oper), ops[i]? = some o → 1 ≤ i → i < m → sub (mask o) (full i) = true ∧ Bool.rec (motive := fun _ => Bool) (band (bit (mask o) 0) (match isIns P d0 kk o with
          | some (_, y) => notTmp d0 y
          | none => false)) (band (Option.isNone o.guard) (band (bnot (memN d0 (o.looksAt ops))) (Option.rec (motive := fun _ => Bool) true (fun e => bnot (Nat.beq e d0)) o.dst))) (quiet o) = true := fun i o ho h0 him => by
    have h10 := kd i o ho h0
    unfold kindOk at h10
    simp only [Nat.ble_eq_true_of_le h0, Nat.ble_eq_true_of_le him] at h10
    exact bandT h10
  refine ⟨qList m (numb ops.toList 0), fun i => Iff.rfl, h8, h9, ?_, fun hcl => ⟨okSlots_is h2 h1, hsz, mapHead_is hh, Nat.le_of_ble_eq_true h5, hm, fun i hi => ?_, fun i o ho h0 him => ?_, fun i o ho him e he => ?_, fun i j o p z x z' x' ho hp hz hz' e => ?_⟩⟩
  · have key : ∀ n, n ≤ m → Chain ops (downFrom n) := by
      intro n
      induction n with
      | zero => exact fun _ => trivial
      | succ n ih =>
        intro hn
        have hlt : n < ops.size := by omega
        refine ⟨⟨ops[n], Array.getElem?_eq_getElem hlt, fun e he => (down_mem n e).2 ?_⟩, ih (by omega)⟩
        by_cases h0 : n = 0
        · subst h0
          obtain ⟨o, t, g1, _, _, _, g5⟩ := mapHead_is hh
          rw [Array.getElem?_eq_getElem hlt] at g1
          obtain rfl := Option.some.inj g1
          exact absurd he (g5 e)
        · have h10 := (low n _ (Array.getElem?_eq_getElem hlt) (by omega) (by omega)).1
          exact (full_bit n e).1 ((sub_iff _ _).1 h10 e he)
    exact key m (Nat.le_refl _)
  · obtain ⟨_, _, g1, g2, _⟩ := (qList_mem m _ i).1 hi
    omega
  · obtain ⟨l1, l2⟩ := low i o ho h0 him
    rcases hq : quiet o with _ | _
    · rw [hq] at l2
      obtain ⟨l3, l4⟩ := bandT l2
      refine .inr ⟨fun hi => ?_, l3, fun e he => (full_bit i e).1 ((sub_iff _ _).1 l1 e he), ?_⟩
      · obtain ⟨o', g1, _, _, g4⟩ := (qList_mem m _ i).1 hi
        obtain rfl := Option.some.inj (ho.symm.trans ((numb_at ops i o').1 g1))
        rw [hq] at g4
        cases g4
      · split at l4
        · rename_i z y hz
          refine ⟨z, y, hz, fun e => ?_⟩
          subst e
          have := bnot_true (show bnot (Nat.beq d0 d0) = true from l4)
          rw [Nat.beq_refl] at this
          cases this
        · cases l4
    · rw [hq] at l2
      obtain ⟨l3, l4⟩ := bandT l2
      obtain ⟨l4, l5⟩ := bandT l4
      have hi : i ∈ qList m (numb ops.toList 0) := (qList_mem m _ i).2 ⟨o, (numb_at ops i o).2 ho, h0, him, hq⟩
      refine .inl ⟨hi, rfl, Option.isNone_iff_eq_none.1 l3, fun hm => ?_, fun e => ?_, hcl i o ho hi⟩
      · rw [(memN_iff _ _).2 hm] at l4
        cases l4
      · rw [e] at l5
        have := bnot_true (show bnot (Nat.beq d0 d0) = true from l5)
        rw [Nat.beq_refl] at this
        cases this
  · have h10 := kd i o ho (by omega)
    unfold kindOk at h10
    have hb : Nat.ble (i + 1) m = false := by
      rcases hq : Nat.ble (i + 1) m with _ | _
      · rfl
      · have := Nat.le_of_ble_eq_true hq
        omega
    simp only [Nat.ble_eq_true_of_le (show 1 ≤ i by omega), hb] at h10
    exact (sub_iff _ _).1 h10 e ((full_bit m e).2 he)
  · have h10 := h7 (i, o) ((numb_at ops i o).2 ho)
    unfold oneOk at h10
    simp only [hz] at h10
    rw [allL_iff] at h10
    have h11 := h10 (j, p) ((numb_at ops j p).2 hp)
    simp only [hz'] at h11
    rcases hb : Nat.beq i j with _ | _
    · rw [hb] at h11
      have := bnot_true h11
      rw [e, int_refl] at this
      cases this
    · exact Nat.eq_of_beq_eq_true hb
theorem xMapLit_ok (hcl : ClOk P cl) {id : Nat} (hm : P.follows .mixedOrders = true) (st : SStep ρ0 s0 w0 ρ s w) (hf : Fits ρ N ds s.nx f a) (hok : (xMapLit P cl N ops f s).ok) : (Code.region id ops true).wpIn (fz ro) 0 P (EndR N ds ρ0 s0 w0 (xMapLit P cl N ops f s)) a w := by
  refine wpIn_region_any hm ?_
  have no : ∀ i, ¬ li (Array.replicate ops.size false) i := fun i h => by
    unfold li at h
    by_cases hi : i < ops.size
    · simp [hi] at h
    · simp [hi] at h
  have st2 : SStep ρ0 s0 w0 ρ s { w with drawn := w.drawn + 1 } := ⟨st.ext, world_drawn st.hr _, ⟨st.fr.os, st.fr.tape, st.fr.output, st.fr.size, st.fr.block⟩, st.liv⟩
  have key : W (fun r => wpAnyIn (fz ro) 0 P .any ops (EndR N ds ρ0 s0 w0 r) ops.size (Array.replicate ops.size false) a { w with drawn := w.drawn + 1 }) (xMapLit P cl N ops f s) := by
    refine onO_w fun d0 hd0 => onO_w fun kk _ => forceN_w (onB_w fun hmap => ?_)
    intro hok
    obtain ⟨D0, hD0, hq, hord, hch, hreg⟩ := okMap_is hmap hd0
    have S : Slots P N ops := by
      unfold okMap at hmap
      obtain ⟨h1, h⟩ := bandT hmap
      exact okSlots_is (bandT h).1 h1
    have R0 : Rel P N ds ops ρ0 s0 w0 (Array.replicate ops.size false) [] f s a { w with drawn := w.drawn + 1 } ρ a (fun _ => 0) := ⟨st2, hf, hf.size, hf.defers, by simp, fun i o _ h => absurd h (no i), fun t _ _ => rfl, fun i o _ h => (by cases h), fun i o _ _ h => absurd h (no i), fun i j o p _ _ _ _ h => absurd h (no i)⟩
    obtain ⟨D, f2, c2, R, hC, hD, he⟩ := xQ_ok S no _ [] 0 f a (fun i => by rw [bit_zero]; simp) hq trivial R0 hok
    rw [he] at hok ⊢
    have hDq : ∀ i, i ∈ D ↔ i ∈ D0 := fun i => by rw [hD i, hD0 i]; simp
    have M0 := hreg (fun i o ho hi e hb => (hDq e).1 (hC.closed i o ho ((hDq i).2 hi) e hb))
    refine onO_w (G := fun r => wpAnyIn (fz ro) 0 P .any ops (EndR N ds ρ0 s0 w0 r) ops.size (Array.replicate ops.size false) a { w with drawn := w.drawn + 1 }) (fun E hE => onB_w fun hn => newS_w fun hok => ?_) hok
    have hE2 := entsE_is hE
    have T : Told P ops d0 kk _ f2 E := ⟨nodupE_is hn, fun e he => (by
      obtain ⟨j, o, z, x, g1, g2⟩ := hE2.1 e he
      exact ⟨j, o, z, x, (numb_at ops j o).1 g1, g2⟩), fun j o z x hj hm hz => hE2.2 j o z x ((numb_at ops j o).2 hj) hm hz⟩
    refine map_any hcl M0 T (fun i => down_mem _ i) (okOrd_is _ _ _ (fun i => (full_bit _ i).trans (down_mem _ i).symm) hord) hch hok ops.size _ a _ ⟨R.st, R.fits, R.asz, R.adf, R.lsz, R.lcl, fun t _ h1 => R.agree t (fun i o hi hiD hl => h1 i o hi ((hDq i).1 hiD) hl) (fun i o _ _ h => absurd h (no i)), fun i o hi hiD hl => R.pend i o hi ((hDq i).2 hiD) hl, fun i _ => no i, fun h => absurd h (no 0)⟩ (by simp)
  exact key hok
theorem xDr_ok (hcl : ClOk P cl) {id : Nat} (hm : P.follows .mixedOrders = true) (st : SStep ρ0 s0 w0 ρ s w) (hf : Fits ρ N ds s.nx f a) (hd : okDraw P N ops = true) (hok : (xDr P cl N ops (order P N ops) [] f s).ok) : (Code.region id ops true).wpIn (fz ro) 0 P (EndR N ds ρ0 s0 w0 (xDr P cl N ops (order P N ops) [] f s)) a w := by
  have e : xDrawn P cl N ops f s = xDr P cl N ops (order P N ops) [] f s := by
    unfold xDrawn
    rw [hd]
    rfl
  have := xDrawn_ok (ro := ro) (id := id) hcl hm st hf (by rw [e]; exact hok)
  rw [e] at this
  exact this
theorem xDraw_ok (hcl : ClOk P cl) {id : Nat} (hm : P.follows .mixedOrders = true) (st : SStep ρ0 s0 w0 ρ s w) (hf : Fits ρ N ds s.nx f a) {chk : Bool} (hc : chk = false → drawOk P N ops = true) (hok : (xDraw P chk cl N ops f s).ok) : (Code.region id ops true).wpIn (fz ro) 0 P (EndR N ds ρ0 s0 w0 (xDraw P chk cl N ops f s)) a w := by
  unfold xDraw at hok ⊢
  cases chk with
  | true =>
    rcases hd : okDraw P N ops with _ | _
    · rw [hd] at hok
      exact xMapLit_ok hcl hm st hf hok
    · rw [hd] at hok
      exact xDr_ok hcl hm st hf hd hok
  | false =>
    have hc := hc rfl
    unfold drawOk at hc
    rcases hl : isLit ops with _ | _
    · rw [hl] at hok hc
      exact xDr_ok hcl hm st hf hc hok
    · rw [hl] at hok
      exact xMapLit_ok hcl hm st hf hok
end
end Go.Proofs.YtnjabndkaabogaaGreatDoor.Ev
namespace Go.Proofs.YtnjabndkaabogaaGreatDoor.Ev
open Go
def End (N b0 : Nat) (ρ : Nat → Nm) (s : St) (w : World) (r : R) (e : Exit) (a : Act) (w' : World) : Prop := match r, e with
  | .normal f s', .normal => ∃ ρ' ds, SStep ρ s w ρ' s' w' ∧ Fits ρ' N ds s'.nx f a ∧ Mk b0 ρ' s'.h.get w' ds
  | .ret f s', .ret => ∃ ρ' ds, SStep ρ s w ρ' s' w' ∧ Fits ρ' N ds s'.nx f a ∧ Mk b0 ρ' s'.h.get w' ds
  | .exit i f s', .exit j => i = j ∧ ∃ ρ' ds, SStep ρ s w ρ' s' w' ∧ Fits ρ' N ds s'.nx f a ∧ Mk b0 ρ' s'.h.get w' ds
  | _, _ => False
section
variable {P : Program} {cl : Cl} {N fuel b0 : Nat} {ro : Option Nat} {ρ0 : Nat → Nm} {s0 : St} {w0 : World}
theorem End.back {ρ : Nat → Nm} {s : St} {w : World} {r : R} {e : Exit} {a : Act} {w' : World} (st : SStep ρ0 s0 w0 ρ s w) (h : End N b0 ρ s w r e a w') : End N b0 ρ0 s0 w0 r e a w' := by
  unfold End at h ⊢
  split at h
  · obtain ⟨ρ', ds, h1, h2⟩ := h
    exact ⟨ρ', ds, st.trans h1, h2⟩
  · obtain ⟨ρ', ds, h1, h2⟩ := h
    exact ⟨ρ', ds, st.trans h1, h2⟩
  · obtain ⟨h0, ρ', ds, h1, h2⟩ := h
    exact ⟨h0, ρ', ds, st.trans h1, h2⟩
  · exact h.elim
theorem EndR.whole {ds : List Deferred} {ρ : Nat → Nm} {s : St} {w : World} {r : R} {e : Exit} {a : Act} {w' : World} (hm : Mk b0 ρ s.h.get w ds) (h : EndR N ds ρ s w r e a w') : End N b0 ρ s w r e a w' := by
  unfold EndR at h
  split at h
  · obtain ⟨ρ', h1, h2⟩ := h
    exact ⟨ρ', ds, h1, h2, hm.step h1⟩
  · exact h.elim
def KOk (P : Program) (ro : Option Nat) (N b0 : Nat) (c : Code) (k : T Value → St → R) : Prop :=
  ∀ (f : T Value) (s : St) (ρ : Nat → Nm) (w : World) (a : Act) (ds : List Deferred), SR ρ s w → Fits ρ N ds s.nx f a → Mk b0 ρ s.h.get w ds → b0 ≤ w.heap.size → (k f s).ok → c.wpIn (fz ro) 0 P (End N b0 ρ s w (k f s)) a w
theorem seq_ok {x y : Code} {kx ky : T Value → St → R} (hx : KOk P ro N b0 x kx) (hy : KOk P ro N b0 y ky) : KOk P ro N b0 (.seq x y) (fun f s => R.rec (motive := fun _ => R) (fun n => .fail n) ky (fun f s => .ret f s) (fun i f s => .exit i f s) (kx f s)) := fun f s ρ w a ds hr hf hmk hb0 hok => by
  refine wpIn_seq ?_
  rcases h1 : kx f s with n | ⟨f1, s1⟩ | ⟨f1, s1⟩ | ⟨i, f1, s1⟩
  · simp only [h1] at hok
    exact hok.elim
  · have hok1 : (kx f s).ok := by rw [h1]; trivial
    simp only [h1] at hok ⊢
    refine wpIn_mono (hx f s ρ w a ds hr hf hmk hb0 hok1) fun e a1 w1 he => ?_
    rw [h1] at he
    cases e with
    | normal =>
      obtain ⟨ρ1, ds1, st, hf1, hmk1⟩ := he
      exact wpIn_mono (hy f1 s1 ρ1 w1 a1 ds1 st.hr hf1 hmk1 (Nat.le_trans hb0 st.fr.size) hok) fun e2 a2 w2 he2 => he2.back st
    | _ => exact he.elim
  · have hok1 : (kx f s).ok := by rw [h1]; trivial
    simp only [h1] at hok ⊢
    refine wpIn_mono (hx f s ρ w a ds hr hf hmk hb0 hok1) fun e a1 w1 he => ?_
    rw [h1] at he
    cases e with
    | ret => exact he
    | _ => exact he.elim
  · have hok1 : (kx f s).ok := by rw [h1]; trivial
    simp only [h1] at hok ⊢
    refine wpIn_mono (hx f s ρ w a ds hr hf hmk hb0 hok1) fun e a1 w1 he => ?_
    rw [h1] at he
    cases e with
    | exit j => exact he
    | _ => exact he.elim
theorem cond_ok {c : Operand} {x y : Code} {kx ky : T Value → St → R} (hx : KOk P ro N b0 x kx) (hy : KOk P ro N b0 y ky) : KOk P ro N b0 (.cond c x y) (fun f s => onO 153 (ev c f) (fun v => onBool v (fun b => Bool.rec (motive := fun _ => R) (ky f s) (kx f s) b))) := fun f s ρ w a ds hr hf hmk hb0 hok => by
  rcases hc : ev c f with _ | v
  · simp only [hc] at hok
    exact hok.elim
  · simp only [hc] at hok ⊢
    cases v with
    | bool b =>
      have hv := evO_sound hf.fr (ev_eq hc)
      obtain ⟨u, hu⟩ : ∃ u, a.eval c = u := ⟨_, rfl⟩
      rw [hu] at hv
      cases hv
      cases b
      · exact wpIn_cond hu (hy f s ρ w a ds hr hf hmk hb0 hok)
      · exact wpIn_cond hu (hx f s ρ w a ds hr hf hmk hb0 hok)
    | _ => exact hok.elim
theorem block_ok {id : Nat} {x : Code} {kx : T Value → St → R} (hx : KOk P ro N b0 x kx) : KOk P ro N b0 (.block id x) (fun f s => R.rec (motive := fun _ => R) (fun n => .fail n) (fun f s => .normal f s) (fun f s => .ret f s) (fun i f s => Bool.rec (motive := fun _ => R) (.exit i f s) (.normal f s) (Nat.beq i id)) (kx f s)) := fun f s ρ w a ds hr hf hmk hb0 hok => by
  refine wpIn_block ?_
  rcases h1 : kx f s with n | ⟨f1, s1⟩ | ⟨f1, s1⟩ | ⟨i, f1, s1⟩
  · simp only [h1] at hok
    exact hok.elim
  · have hok1 : (kx f s).ok := by rw [h1]; trivial
    simp only [h1] at hok ⊢
    refine wpIn_mono (hx f s ρ w a ds hr hf hmk hb0 hok1) fun e a1 w1 he => ?_
    rw [h1] at he
    cases e with
    | normal => exact he
    | _ => exact he.elim
  · have hok1 : (kx f s).ok := by rw [h1]; trivial
    simp only [h1] at hok ⊢
    refine wpIn_mono (hx f s ρ w a ds hr hf hmk hb0 hok1) fun e a1 w1 he => ?_
    rw [h1] at he
    cases e with
    | ret => exact he
    | _ => exact he.elim
  · have hok1 : (kx f s).ok := by rw [h1]; trivial
    simp only [h1] at hok ⊢
    refine wpIn_mono (hx f s ρ w a ds hr hf hmk hb0 hok1) fun e a1 w1 he => ?_
    rw [h1] at he
    cases e with
    | exit j =>
      obtain ⟨rfl, he⟩ := he
      show (if i = id then _ else _ : Prop)
      rcases hb : Nat.beq i id with _ | _
      · rw [if_neg (fun e => by rw [e, Nat.beq_refl] at hb; cases hb)]
        exact ⟨rfl, he⟩
      · rw [if_pos (Nat.eq_of_beq_eq_true hb)]
        exact he
    | _ => exact he.elim
noncomputable def rounds (kx : T Value → St → R) (n : Nat) : T Value → St → R := Nat.rec (motive := fun _ => T Value → St → R) (fun _ _ => .fail 154) (fun _ lp f s => R.rec (motive := fun _ => R) (fun n => .fail n) lp (fun f s => .ret f s) (fun i f s => .exit i f s) (kx f s)) n
theorem rounds_ok {x : Code} {kx : T Value → St → R} (hx : KOk P ro N b0 x kx) : ∀ (n : Nat) (f : T Value) (s : St) (ρ : Nat → Nm) (w : World) (a : Act) (ds : List Deferred), SR ρ s w → Fits ρ N ds s.nx f a → Mk b0 ρ s.h.get w ds → b0 ≤ w.heap.size → (rounds kx n f s).ok → ∀ (b : Frame) (k : List Item) (cs : List Frame), b.roundOf = (fz ro).round →
    ∃ e a' w', End N b0 ρ s w (rounds kx n f s) e a' w' ∧ ArrivesIn (Machine.fenced P (fz ro)) P (lone (b.atR a (.code x :: .inLoop x :: k)) cs w) b k cs e a' w'
  | 0, f, s, ρ, w, a, ds, hr, hf, hmk, hb0, hok, b, k, cs, hro => hok.elim
  | n + 1, f, s, ρ, w, a, ds, hr, hf, hmk, hb0, hok, b, k, cs, hro => by
    have hroom : (fz ro).room (cs.length + 1 + 0) := room_wide _
    change (R.rec (motive := fun _ => R) (fun n => .fail n) (rounds kx n) (fun f s => .ret f s) (fun i f s => .exit i f s) (kx f s)).ok at hok
    show ∃ e a' w', End N b0 ρ s w (R.rec (motive := fun _ => R) (fun n => .fail n) (rounds kx n) (fun f s => .ret f s) (fun i f s => .exit i f s) (kx f s)) e a' w' ∧ _
    rcases h1 : kx f s with m | ⟨f1, s1⟩ | ⟨f1, s1⟩ | ⟨i, f1, s1⟩
    · rw [h1] at hok
      exact hok.elim
    · have hok1 : (kx f s).ok := by rw [h1]; trivial
      obtain ⟨e1, a1, w1, he, harr⟩ := hx f s ρ w a ds hr hf hmk hb0 hok1 b (.inLoop x :: k) cs hro trivial hroom
      rw [h1] at hok he
      cases e1 with
      | normal =>
        obtain ⟨ρ1, ds1, st, hf1, hmk1⟩ := he
        obtain ⟨e2, a2, w2, he2, harr2⟩ := rounds_ok hx n f1 s1 ρ1 w1 a1 ds1 st.hr hf1 hmk1 (Nat.le_trans hb0 st.fr.size) hok b k cs hro
        exact ⟨e2, a2, w2, he2.back st, .of_steps (StepsIn.trans harr (.one (fenced_calm (F := fz ro) (n := 0) trivial hroom rfl) stepR_inLoop)) harr2⟩
      | _ => exact he.elim
    · have hok1 : (kx f s).ok := by rw [h1]; trivial
      obtain ⟨e1, a1, w1, he, harr⟩ := hx f s ρ w a ds hr hf hmk hb0 hok1 b (.inLoop x :: k) cs hro trivial hroom
      rw [h1] at he
      cases e1 with
      | ret => exact ⟨.ret, a1, w1, he, .pass (x := .inLoop x) rfl (fun _ _ => .inl (by simp)) harr⟩
      | _ => exact he.elim
    · have hok1 : (kx f s).ok := by rw [h1]; trivial
      obtain ⟨e1, a1, w1, he, harr⟩ := hx f s ρ w a ds hr hf hmk hb0 hok1 b (.inLoop x :: k) cs hro trivial hroom
      rw [h1] at he
      cases e1 with
      | exit j => exact ⟨.exit j, a1, w1, he, .pass (x := .inLoop x) rfl (fun _ _ => .inl (by simp)) harr⟩
      | _ => exact he.elim
theorem loop_ok {x : Code} {kx : T Value → St → R} (hx : KOk P ro N b0 x kx) (n : Nat) : KOk P ro N b0 (.loop x) (rounds kx n) := fun f s ρ w a ds hr hf hmk hb0 hok b k cs hro hb hroom => by
  obtain ⟨e, a', w', h1, h2⟩ := rounds_ok hx n f s ρ w a ds hr hf hmk hb0 hok b k cs hro
  exact ⟨e, a', w', h1, .of_steps (.one (fenced_calm hb hroom rfl) stepR_loop) h2⟩
theorem rangeF_ok (hcl : ClOk P cl) {g : Operand} {ps : Array Tmp} {asg bd : Code} : KOk P none N b0 (.rangeFunc g ps asg bd) (xRangeF P cl N g ps asg bd) := fun f s ρ w a ds hr hf hmk hb0 hok => by
  have key : W (fun r => (Code.rangeFunc g ps asg bd).wpIn (fz none) 0 P (End N b0 ρ s w r) a w) (xRangeF P cl N g ps asg bd f s) := by
    refine onO_w fun v hv => onFun_w (fun G fs cs hg => newS_w (onB_w fun hen => ?_)) (fun _ _ _ _ => W.fail 212)
    subst hg
    intro hok
    unfold onCR at hok ⊢
    rcases hc : cl false G (app fs.toList (.func (.yield s.nx) #[] #[] :: cs.toList)) (s.new (.loop f N ps asg bd)) with n | ⟨u, s2⟩
    · rw [hc] at hok
      exact hok.elim
    · rw [hc] at hok
      refine onLoop_w (G := fun r => (Code.rangeFunc g ps asg bd).wpIn (fz none) 0 P (End N b0 ρ s w r) a w) (fun f2 N2 ps2 as2 bd2 hl _ => ?_) hok
      have hq := evO_sound hf.fr (ev_eq hv)
      obtain ⟨y, hy⟩ : ∃ y, a.eval g = y := ⟨_, rfl⟩
      rw [hy] at hq
      cases hq with
      | func _ _ _ fs' cs' _ z1 z2 hfa hca =>
        have ha0 : (wa w).heap.size = w.heap.size + 1 := by simp [wa]
        refine wpIn_rangeFunc fun fn _ => ?_
        have sta : SStep ρ s w ρ s (wa w) := step_push (Step.refl hr) _
        have hx := upd_ext ρ s.nx ⟨(wa w).heap.size, 0, 0⟩
        have st1 : SStep ρ s w (upd ρ s.nx ⟨(wa w).heap.size, 0, 0⟩) (s.new (.loop f N ps asg bd)) (wl w fn a.tmps ps asg bd) :=
          (sta.trans (sta.hr.new _ (.loop f N ps asg bd) ⟨rfl, fn, a.tmps, w.heap.size, rfl, hf.size, fun t v hv => by
            obtain ⟨u, g1, g2⟩ := hf.fr t v hv
            exact ⟨u, g1, g2.mono hx⟩⟩)).less get_updH
        have hyv : VR (upd ρ s.nx ⟨(wa w).heap.size, 0, 0⟩) (s.nx + 1) (.func (.yield s.nx) #[] #[]) (.func (.yield (wa w).heap.size) #[] #[]) := by
          have := VR.yieldF (ρ := upd ρ s.nx ⟨(wa w).heap.size, 0, 0⟩) (nx := s.nx + 1) s.nx (Nat.lt_succ_self _)
          rw [upd_at] at this
          exact this
        have hmk1 : Mk b0 (upd ρ s.nx ⟨(wa w).heap.size, 0, 0⟩) (s.new (.loop f N ps asg bd)).h.get (wl w fn a.tmps ps asg bd) ({ target := .collected w.heap.size, args := #[] } :: ds) := by
          refine ⟨⟨w.heap.size, rfl, hb0, ?_, fun n o hn he => ?_, fun e he hte => ?_⟩, hmk.step st1⟩
          · show ((wa w).heap.push _)[w.heap.size]? = _
            rw [push_old _ _ (by omega)]
            show (w.heap.push (.deferred (some [])))[w.heap.size]? = _
            rw [Array.getElem?_push, if_pos rfl]
          · rcases updH_get (get_updH n o hn) with ⟨rfl, _⟩ | ⟨_, hn⟩
            · rw [upd_at] at he
              simp only at he
              omega
            · rw [hx.2 n (hr.obj n o hn).1] at he
              have := hr.old hn
              omega
          · have := hmk.lt e he _ hte
            omega
        refine ⟨(wa w).heap.size, _, wl w fn a.tmps ps asg bd, { target := .fn (.func G) cs', args := fs' ++ #[.func (.yield (wa w).heap.size) #[] #[]] }, wl w fn a.tmps ps asg bd, G, fs' ++ #[.func (.yield (wa w).heap.size) #[] #[]] ++ cs', wl w fn a.tmps ps asg bd, enterLoop_run fn a.tmps ps asg bd, ?_, fun _ _ => trivial, ?_, fun h => (by cases h), ?_⟩
        · unfold resolve
          simp only [hy]
          rw [show Array.map a.eval #[Operand.const (Value.func (Fn.yield (wa w).heap.size) #[] #[])] = #[Value.func (Fn.yield (wa w).heap.size) #[] #[]] from by simp [Act.eval]]
          rfl
        · exact callFunc_run hen (fs' ++ #[.func (.yield (wa w).heap.size) #[] #[]] ++ cs') _
        · have har : AR (upd ρ s.nx ⟨(wa w).heap.size, 0, 0⟩) (s.nx + 1) (app fs.toList (.func (.yield s.nx) #[] #[] :: cs.toList)).toArray (fs' ++ #[.func (.yield (wa w).heap.size) #[] #[]] ++ cs') := by
            have h5 := ((AR.mono hx ⟨z1, hfa⟩).append (AR.one hyv)).append (AR.mono hx ⟨z2, hca⟩)
            have e : (app fs.toList (.func (.yield s.nx) #[] #[] :: cs.toList)).toArray = fs ++ #[.func (.yield s.nx) #[] #[]] ++ cs := by
              rw [app_eq]
              apply Array.ext'
              simp
            rw [e]
            exact h5
          have hcall := hcl.calls G _ _ _ _ hc _ _ _ st1.hr har
          have h2 : CallsIn (fz none) (0 - 1) P G _ _ _ := callsIn_wide.2 hcall
          refine CallsIn.mono h2 fun e w3 he => ?_
          cases e with
          | returned u' =>
            obtain ⟨ρ2, st2, _⟩ := he
            obtain ⟨hlx, hs0, r, hr1, hr2, hr3, _⟩ := loop_at st2.hr hl
            have hl2 : ρ2 s.nx = ⟨(wa w).heap.size, 0, 0⟩ := (st2.ext.2 s.nx (Nat.lt_succ_self _)).trans (upd_at _ _ _)
            have hr1' : w3.heap[(wa w).heap.size]? = some (.loop r) := by rw [hl2] at hr1; exact hr1
            refine ⟨none, _, by rw [← hr3]; exact endLoop_run hr1' hr2, ?_⟩
            have std := st2.hr.drop hl (.loop { r with state := .exhausted }) (H' := (s2.h.del s.nx).get) (fun m x hm => del_get hm)
            rw [hl2] at std
            have st3 : SStep _ (s.new (.loop f N ps asg bd)) _ ρ2 ⟨s2.h.del s.nx, s2.nx⟩ _ := st2.trans std
            exact ⟨ρ2, { target := .collected w.heap.size, args := #[] } :: ds, st1.trans st3, ⟨hf.fr.mono (st1.trans st3).ext, hf.size, congrArg (fun l => ({ target := .collected w.heap.size, args := #[] } : Deferred) :: l) hf.defers⟩, hmk1.step st3⟩
          | panicked ch => exact he.elim
          | outgrown => exact he.elim
  exact key hok
theorem band_true {a b : Bool} (h : band a b = true) : a = true ∧ b = true := by
  cases a
  · cases h
  · exact ⟨rfl, h⟩
theorem xCode_ok (hcl : ClOk P cl) (hm : P.follows .mixedOrders = true) {rnd chk : Bool} (hrnd : rnd = false → ro = none) (c : Code) (hch : chk = false → drawsOk P N c = true) : KOk P ro N b0 c (xCode P chk cl N fuel rnd c) := by
  induction c with
  | skip => exact fun f s ρ w a ds hr hf hmk hb0 _ => wpIn_skip ⟨ρ, ds, Step.refl hr, hf, hmk⟩
  | region id ops draw =>
    intro f s ρ w a ds hr hf hmk hb0 hok
    cases draw with
    | false =>
      change (xOps P cl N ops ops.toList f s).ok at hok
      have := xOps_ok hcl (ro := ro) (ds := ds) (ρ0 := ρ) (s0 := s) (w0 := w) ops.toList 0 ops.size (by simp) (by simp) f s ρ w a (Step.refl hr) hf hok
      rw [← List.range_eq_range'] at this
      exact wpIn_mono (wpIn_region this) fun e a w he => EndR.whole hmk he
    | true => exact wpIn_mono (xDraw_ok hcl hm (Step.refl hr) hf hch hok) fun e a w he => EndR.whole hmk he
  | seq x y hx hy => exact seq_ok (hx fun h => (band_true (hch h)).1) (hy fun h => (band_true (hch h)).2)
  | cond c x y hx hy => exact cond_ok (hx fun h => (band_true (hch h)).1) (hy fun h => (band_true (hch h)).2)
  | block id x hx => exact block_ok (hx hch)
  | loop x hx => exact loop_ok (hx hch) fuel
  | rangeFunc c ps x y =>
    cases rnd with
    | false =>
      obtain rfl := hrnd rfl
      exact rangeF_ok hcl
    | true => exact fun f s ρ w a ds hr hf hmk hb0 hok => hok.elim
  | exit id => exact fun f s ρ w a ds hr hf hmk hb0 _ => wpIn_exit ⟨rfl, ρ, ds, Step.refl hr, hf, hmk⟩
  | scope x hx => exact fun f s ρ w a ds hr hf hmk hb0 hok => hok.elim
  | label l => exact fun f s ρ w a ds hr hf hmk hb0 _ => wpIn_label ⟨ρ, ds, Step.refl hr, hf, hmk⟩
  | goto l => exact fun f s ρ w a ds hr hf hmk hb0 hok => hok.elim
  | ret => exact fun f s ρ w a ds hr hf hmk hb0 _ => wpIn_ret ⟨ρ, ds, Step.refl hr, hf, hmk⟩
  | refuse why => exact fun f s ρ w a ds hr hf hmk hb0 hok => hok.elim
end
end Go.Proofs.YtnjabndkaabogaaGreatDoor.Ev
namespace Go.Proofs.YtnjabndkaabogaaGreatDoor.Ev
open Go Go.RowKit
section
variable {P : Program} {cl : Cl} {N fuel : Nat} {bad : List Nat}
theorem drawsF_at : ∀ (l : List Func) (k : Nat), drawsF P bad l k = true → ∀ (g : Nat) (fn : Func) (c : Code), l[g]? = some fn → fn.body = some c → memN (k + g) bad = false → drawsOk P fn.ntmps c = true
  | [], _, _, g, fn, c, h, _, _ => by simp at h
  | f0 :: l, k, h, g, fn, c, hg, hb, hm => by
    change band _ (forceL (Nat.succ k) (drawsF P bad l)) = true at h
    obtain ⟨h1, h2⟩ := band_true h
    cases g with
    | zero =>
      obtain rfl := Option.some.inj (show some f0 = some fn by simpa using hg)
      rw [show memN k bad = false from hm, hb] at h1
      exact h1
    | succ g =>
      have h3 : drawsF P bad l (k + 1) = true := h2
      exact drawsF_at l (k + 1) h3 g fn c (by simpa using hg) hb (by rw [show k + 1 + g = k + (g + 1) by omega]; exact hm)
def Draws (P : Program) (bad : List Nat) : Prop := ∀ (g : Nat) (fn : Func) (c : Code), P.funcs[g]? = some fn → fn.body = some c → memN g bad = false → drawsOk P fn.ntmps c = true
theorem draws_of (h : drawsAll P bad = true) : Draws P bad := fun g fn c hg hb hm => drawsF_at P.funcs.toList 0 h g fn c (by rw [Array.getElem?_toList]; exact hg) hb (by rw [Nat.zero_add]; exact hm)
theorem leave_ok {fn : Func} {f : T Value} {s s1 s' : St} {v : Value} {ρ ρ1 : Nat → Nm} {w : World} {tmps : Array Value} (hx : xRes P fn f s1 = .ok v s') (hf : FR ρ1 s1.nx f { tmps := tmps, defers := [] }) :
    ∀ (ds : List Deferred) (w1 : World), SStep ρ s w ρ1 s1 w1 → Mk w.heap.size ρ1 s1.h.get w1 ds → LeavesInM Fence.wide 0 P fn tmps (Gives ρ s w v s') ds .returning w1
  | [], w1, st, _ => by
    obtain ⟨e, u, h1, h2⟩ := xRes_ok hx st.hr hf
    subst e
    exact ⟨u, h1, ρ1, st, h2⟩
  | d :: ds, w1, st, ⟨⟨r, h1, h2, h3, h4, h5⟩, h6⟩ =>
    ⟨by simp, .inl ⟨r, _, h1, takeDeferred_run h3, leave_ok hx hf ds _ (st.shut h2 h4) (h6.shut h5)⟩⟩
theorem xBody_ok (hdr : Draws P bad) (hcl : ClOk P cl) (hm : P.follows .mixedOrders = true) : ∀ g vs s v s', xBody P bad cl fuel g vs s = .ok v s' → ∀ (ρ : Nat → Nm) (w : World) (us : Array Value), SR ρ s w → AR ρ s.nx vs.toArray us → Calls P g us w (Gives ρ s w v s') := fun g vs s v s' h ρ w us hr hv => by
  unfold xBody onOC at h
  rcases hfn : nth P.funcs.toList g with _ | fn
  · rw [hfn] at h
    cases h
  · rw [hfn] at h
    have hfn := fn_get hfn
    simp only at h
    rcases hb : fn.body with _ | c
    · rw [hb] at h
      cases h
    · rw [hb] at h
      simp only at h
      rcases hn : Nat.ble vs.length fn.ntmps with _ | _
      · rw [hn] at h
        cases h
      · rw [hn] at h
        simp only at h
        have hle := Nat.le_of_ble_eq_true hn
        have hsz : us.size = vs.length := by simpa using hv.1.symm
        have hf : Fits ρ fn.ntmps [] s.nx (ofL vs) { tmps := us ++ Array.replicate (fn.ntmps - us.size) undef, defers := [] } := by
          refine ⟨fun t x hx => ?_, by simp; omega, rfl⟩
          have h1 := ofL_get hx
          obtain ⟨u, hu, hvu⟩ := hv.at (i := t) (x := x) (by simpa using h1)
          refine ⟨u, ?_, hvu⟩
          show (us ++ Array.replicate (fn.ntmps - us.size) undef)[t]? = some u
          rw [Array.getElem?_append, if_pos (arr_lt hu)]
          exact hu
        refine callsIn_wide.1 (callsIn_of_wp_marks (F := Fence.wide) (n := 0) hfn hb trivial ?_)
        have hcode : (xCode P (memN g bad) cl fn.ntmps fuel false c (ofL vs) s).ok → c.wpIn Fence.wide 0 P _ _ w := fun hok => xCode_ok hcl hm (ro := none) (b0 := w.heap.size) (fuel := fuel) (rnd := false) (fun _ => rfl) c (hdr g fn c hfn hb) (ofL vs) s ρ w _ [] hr hf trivial (Nat.le_refl _) hok
        rcases h1 : xCode P (memN g bad) cl fn.ntmps fuel false c (ofL vs) s with m | ⟨f1, s1⟩ | ⟨f1, s1⟩ | ⟨i, f1, s1⟩
        · rw [h1] at h
          cases h
        · rw [h1] at h
          refine wpIn_mono (hcode (by rw [h1]; trivial)) fun e a1 w1 he => ?_
          rw [h1] at he
          cases e with
          | normal =>
            obtain ⟨ρ1, ds, st, hf1, hmk⟩ := he
            show LeavesInM Fence.wide 0 P fn a1.tmps (Gives ρ s w v s') a1.defers .returning w1
            rw [hf1.defers]
            exact leave_ok h hf1.fr ds w1 st hmk
          | _ => exact he.elim
        · rw [h1] at h
          refine wpIn_mono (hcode (by rw [h1]; trivial)) fun e a1 w1 he => ?_
          rw [h1] at he
          cases e with
          | ret =>
            obtain ⟨ρ1, ds, st, hf1, hmk⟩ := he
            show LeavesInM Fence.wide 0 P fn a1.tmps (Gives ρ s w v s') a1.defers .returning w1
            rw [hf1.defers]
            exact leave_ok h hf1.fr ds w1 st hmk
          | _ => exact he.elim
        · rw [h1] at h
          cases h
theorem onLoopC_ok {s s' : St} {n : Nat} {k : T Value → Nat → Array Tmp → Code → Code → CR} {v : Value} (h : onLoopC s n k = .ok v s') : ∃ f N ps asg bd, s.h.get n = some (.loop f N ps asg bd) ∧ k f N ps asg bd = .ok v s' := by
  unfold onLoopC onOC at h
  rcases ha : s.h.get n with _ | a
  · rw [ha] at h
    cases h
  · rw [ha] at h
    cases a with
    | loop f N ps asg bd => exact ⟨f, N, ps, asg, bd, rfl, h⟩
    | _ => cases h
theorem onNormal_ok {r : R} {k : T Value → St → CR} {v : Value} {s' : St} (h : onNormal r k = .ok v s') : ∃ f s, r = .normal f s ∧ k f s = .ok v s' := by
  cases r with
  | normal f s => exact ⟨f, s, rfl, h⟩
  | _ => cases h
theorem xYield_ok (hcl : ClOk P cl) (hm : P.follows .mixedOrders = true) : ∀ l vs s v s', xYield P cl fuel l vs s = .ok v s' → ∀ (ρ : Nat → Nm) (w : World) (us : Array Value), SR ρ s w → AR ρ s.nx vs.toArray us →
    ∃ g tmps asg bd, (Instr.yield (ρ l).b us).run P w = .ok (.round (ρ l).b g tmps asg bd) w ∧ RoundIn Fence.wide 0 P (ρ l).b g tmps asg bd w (Gives ρ s w v s') := fun l vs s v s' h ρ w us hr hv => by
  unfold xYield at h
  obtain ⟨f, N, ps, asg, bd, hl, h⟩ := onLoopC_ok h
  rcases hn : Nat.beq vs.length ps.size with _ | _
  · rw [hn] at h
    cases h
  · rw [hn] at h
    have hlen := Nat.eq_of_beq_eq_true hn
    obtain ⟨f1, s1, e1, h⟩ := onNormal_ok h
    obtain ⟨f2, N2, ps2, as2, bd2, hl1, h⟩ := onLoopC_ok h
    obtain ⟨f3, s2, e2, h⟩ := onNormal_ok h
    simp only [CR.ok.injEq] at h
    obtain ⟨rfl, rfl⟩ := h
    obtain ⟨hlx, hs0, r, q1, q2, q3, q4, q5, q6, q7, q8⟩ := loop_at hr hl
    have hus : us.size = vs.length := by simpa using hv.1.symm
    subst q4 q5 q6
    refine ⟨r.fn, _, r.assign, r.body, yield_run q1 (by omega), ?_⟩
    obtain ⟨p1, p2⟩ := putAll_ok r.params.toList vs us.toList f r.tmps (by simpa using hus.symm) (fun i x y hx hy => hv.2 i x y (by simpa using hx) (by simpa using hy)) q7 q8
    refine roundIn_of_wpIn (F := Fence.wide) (n := 0) trivial ?_
    have k1 := xCode_ok hcl hm (ro := some (ρ l).b) (N := N) (b0 := 0) (fuel := fuel) (rnd := true) (chk := true) (fun h => by cases h) r.assign (fun h => by cases h) (putAll N r.params.toList vs f) s ρ w _ [] hr ⟨p2, p1, rfl⟩ trivial (Nat.zero_le _) (by rw [e1]; trivial)
    refine wpIn_mono k1 fun e a1 w1 he => ?_
    rw [e1] at he
    cases e with
    | normal =>
      obtain ⟨ρ1, ds1, st1, hf1, hmk1⟩ := he
      have hl2 : ρ1 l = ρ l := st1.ext.2 l hlx
      obtain ⟨_, _, r1, z1, z2, z3, _⟩ := loop_at st1.hr hl1
      have z1' : w1.heap[(ρ l).b]? = some (.loop r1) := by rw [← hl2]; exact z1
      refine ⟨_, beginRound_run z1' z2, ?_⟩
      have std := st1.hr.drop hl1 (.loop { r1 with state := .busy }) (H' := (s1.h.del l).get) (fun m x hm => del_get hm)
      rw [hl2] at std
      have k2 := xCode_ok hcl hm (ro := some (ρ l).b) (N := N) (b0 := 0) (fuel := fuel) (rnd := true) (chk := true) (fun h => by cases h) r.body (fun h => by cases h) f1 ⟨s1.h.del l, s1.nx⟩ ρ1 _ a1 ds1 std.hr ⟨hf1.fr, hf1.size, hf1.defers⟩ (hmk1.step std) (Nat.zero_le _) (by rw [e2]; trivial)
      refine wpIn_mono k2 fun e a2 w3 he => ?_
      rw [e2] at he
      cases e with
      | normal =>
        obtain ⟨ρ2, ds2, st2, hf2, _⟩ := he
        have hb : (ρ1 l).b = (ρ l).b := congrArg Nm.b hl2
        rw [← hb] at st2
        obtain ⟨g1, g2⟩ := round_step st1.hr hl1 z1 z2 z3 st2
        rw [hb] at g1 g2
        exact ⟨_, _, endRound_run g1, ρ2, st1.trans g2, .bool true⟩
      | _ => exact he.elim
    | _ => exact he.elim
theorem xCl_ok (hdr : Draws P bad) {hook : Cl → Cl} (hh : ∀ cl, ClOk P cl → ClOk P (hook cl)) (hm : P.follows .mixedOrders = true) : ∀ n, ClOk P (xCl P bad hook fuel n)
  | 0 => ⟨fun g vs s v s' h => (by cases h), fun g vs s v s' h => (by cases h)⟩
  | n + 1 => hh _ ⟨xBody_ok hdr (xCl_ok hdr hh hm n) hm, xYield_ok (xCl_ok hdr hh hm n) hm⟩
noncomputable def boolV (v : Value) : Bool := match v with
  | .bool b => b
  | _ => false
noncomputable def isTrue (c : CR) : Bool := CR.rec (motive := fun _ => Bool) (fun _ => false) (fun v _ => boolV v) c
noncomputable def start : St := ⟨.leaf, 0⟩
theorem start_sr (ρ : Nat → Nm) (w : World) : SR ρ start w := ⟨fun n o h => (by cases h), fun n m o o' h => (by cases h)⟩
theorem run_true (hcl : ClOk P cl) {g : FuncId} {vs : List Value} (h : isTrue (cl false g vs start) = true) {us : Array Value} {w : World} (hv : AR (fun _ => ⟨0, 0, 0⟩) 0 vs.toArray us) : Calls P g us w (fun e w' => e = .returned (.bool true) ∧ Below w.heap.size w w') := by
  rcases hc : cl false g vs start with n | ⟨v, s'⟩
  · rw [hc] at h
    cases h
  · rw [hc] at h
    refine Calls.mono (hcl.calls g vs start v s' hc _ w us (start_sr _ w) hv) fun e w' he => ?_
    cases e with
    | returned u =>
      obtain ⟨ρ', st, hu⟩ := he
      have hb : v = .bool true := by
        change boolV v = true at h
        unfold boolV at h
        split at h
        · rw [h]
        · cases h
      subst hb
      cases hu
      exact ⟨rfl, st.fr.os, st.fr.tape, st.fr.output, st.fr.size, fun k hk => st.fr.block k hk (fun n o hn => by cases hn)⟩
    | panicked ch => exact he.elim
    | outgrown => exact he.elim
end
end Go.Proofs.YtnjabndkaabogaaGreatDoor.Ev
namespace Go.Proofs.YtnjabndkaabogaaGreatDoor.Ev
open Go Go.RowKit Go.Proofs
theorem mixed : Tryz.prog.follows .mixedOrders = true := by kernel_rfl
theorem draws : drawsAll Tryz.prog [] = true := by kernel_rfl
theorem live42_run : isTrue (xCl Tryz.prog [] (fun c => c) 20000 120 false 5 [] start) = true := by kernel_rfl
theorem live42_any (w : World) : Calls Tryz.prog 5 #[] w (TrueBelow w) :=
  (run_true (xCl_ok (P := Tryz.prog) (draws_of draws) (fun _ h => h) mixed 120) live42_run (us := #[]) ⟨rfl, fun i x y hx hy => by simp at hx⟩).mono fun e w' h => h
end Go.Proofs.YtnjabndkaabogaaGreatDoor.Ev
namespace Go.Proofs.YtnjabndkaabogaaGreatDoor
open Go.RowKit
set_option maxRecDepth 100000 in
set_option maxHeartbeats 4000000 in
theorem lanes_any (v : Value) (l : List Mk) (w : World) (h : MksAt w v l) (hn : l.length ≤ 140737488351232) (hls : ∀ x ∈ l, x.ls.length ≤ 140737488351232) : Calls Tryz.prog 4 #[v] w fun e w' => ∃ r : Bool, e = .returned (.bool r) ∧ (r = false → l.length ≤ 200 ∧ ∀ x ∈ l, x.ls.length ≤ 40) ∧ Below w.heap.size w w' := by
  have H := Lib.hid h
  have HLS := Lib.hid hls
  obtain ⟨a, cap, rfl, -⟩ := h.1.form
  clear h hls
  go_enter Tryz.func4, Tryz.ntmps4
  go_wp2_with fail
  go_loopg [3] l.length (fun g i wr => ∃ k : Nat, g = l.length - k ∧ i = .int .i64 k ∧ k ≤ l.length ∧ (∀ (t : Nat) x, t < k → l[t]? = some x → x.ls.length ≤ 40) ∧ wr = w)
  case atStart => exact ⟨0, rfl, rfl, Nat.zero_le _, fun t x ht => by omega, rfl⟩
  case round =>
    obtain ⟨k, hg, rfl, hk, hok, rfl⟩ := hrel
    have HG := Lib.hid hg
    have HOK := Lib.hid hok
    clear hg hok
    by_cases hlt : k < l.length
    · obtain ⟨x, hx⟩ : ∃ x, l[k]? = some x := ⟨_, List.getElem?_eq_getElem hlt⟩
      have HX := Lib.hid hx
      have hmem := List.mem_of_getElem? hx
      obtain ⟨ax, cx, hvx, -⟩ := (H.out.2 x hmem).form
      have hxl : x.ls.length ≤ 140737488351232 := HLS.out x hmem
      obtain ⟨g, off, cap', hv, -, hc⟩ := H.out.1.at encMk_len (by decide) hx
      cases hv
      have c7 : wr.cell? ⟨g, off + k * 8 + 2 + 5, none⟩ = some (.slice ax x.ls.length cx) := by
        have := hc 7 _ rfl
        rw [hvx] at this
        exact this
      have c7' : wr.cell? ⟨g, off + k * 8 + 7, none⟩ = some (.slice ax x.ls.length cx) := c7
      have hkl : (k : Int) < (l.length : Int) := by omega
      clear hx hc hmem c7 hvx
      by_cases h40 : 40 < (x.ls.length : Int)
      · go_wp2_with fail
        go_ret
        exact ⟨true, rfl, (fun h => absurd h (by decide)), Below.refl _ _⟩
      · have H40 := Lib.hid (show x.ls.length ≤ 40 by omega)
        go_wp2_with fail
        go_roundg (l.length - (k + 1))
        case rel =>
          refine ⟨k + 1, rfl, by go_num, by omega, fun t z ht hz => ?_, rfl⟩
          rcases Nat.lt_or_ge t k with h | h
          · exact HOK.out t z h hz
          · obtain rfl : t = k := by omega
            obtain rfl := Option.some.inj (HX.out.symm.trans hz)
            exact H40.out
        case measure => have := HG.out; omega
    · have hl : (decide ((200 : Int) < l.length)) = false → l.length ≤ 200 := by simp; omega
      have HL := Lib.hid hl
      have HK := Lib.hid (show ∀ x ∈ l, x.ls.length ≤ 40 from fun x hx => by
        obtain ⟨t, ht⟩ : ∃ t : Nat, l[t]? = some x := List.getElem?_of_mem hx
        exact HOK.out t x (by have := (List.getElem?_eq_some_iff.1 ht).1; omega) ht)
      clear hl
      go_wp2_with fail
      go_ret
      exact ⟨_, rfl, fun h => ⟨HL.out h, HK.out⟩, Below.refl _ _⟩
set_option maxRecDepth 100000 in
set_option maxHeartbeats 4000000 in
theorem traceSame_any (v1 v2 : Value) (l m : List Mk) (w : World) (h1 : MksAt w v1 l) (h2 : MksAt w v2 m) (hn : l.length ≤ 140737488351232) (hm : m.length ≤ 140737488351232) (hl : ∀ x ∈ l, x.ls.length ≤ 140737488351232) (hml : ∀ x ∈ m, x.ls.length ≤ 140737488351232) : Calls Tryz.prog 3 #[v1, v2] w (TrueBelow w) := by
  have H1 := Lib.hid h1
  have H2 := Lib.hid h2
  have HLA := Lib.hid (lanes_any v1 l w h1 hn hl)
  have HLB := Lib.hid fun w' (hb : Below w.heap.size w w') => lanes_any v2 m w' (h2.below hb) hm hml
  clear h1 h2 hl hml hn hm
  go_enter Tryz.func3, Tryz.ntmps3
  go_wp2_with fail
  refine HLA.out.mono ?_
  rintro e w3 ⟨r, rfl, hr, hb3⟩
  have HB3 := Lib.hid hb3
  have HR3 := Lib.hid hr
  clear hb3 hr
  rcases r with _ | _
  rotate_left 1
  · go_wp2_with fail
    refine (Ev.live42_any _).mono ?_
    rintro e w5 ⟨rfl, hb5⟩
    go_wp2_with fail
    go_ret
    exact ⟨rfl, HB3.out.trans (hb5.mono HB3.out.size)⟩
  go_wp2_with fail
  refine (HLB.out _ HB3.out).mono ?_
  rintro e w4 ⟨r, rfl, hr, hb4⟩
  have HB4 := Lib.hid (HB3.out.trans (hb4.mono HB3.out.size))
  have HR4 := Lib.hid hr
  clear hb4 hr
  rcases r with _ | _
  rotate_left 1
  · go_wp2_with fail
    refine (Ev.live42_any _).mono ?_
    rintro e w5 ⟨rfl, hb5⟩
    go_wp2_with fail
    go_ret
    exact ⟨rfl, HB4.out.trans (hb5.mono HB4.out.size)⟩
  have hn : l.length ≤ 1000000 := by have := (HR3.out trivial).1; omega
  have hls : ∀ x ∈ l, x.ls.length ≤ 1000000 := fun x hx => by have := (HR3.out trivial).2 x hx; omega
  have HN := Lib.hid hn
  have HLS := Lib.hid hls
  have HQ1 := Lib.hid (trSame_any _ _ l m _ (H1.out.below HB4.out) (H2.out.below HB4.out) hn hls)
  have HQ2 := Lib.hid (show ∀ w', Below w4.heap.size w4 w' → Calls Tryz.prog 7 #[v1, v2] w' (BoolPost (eqL eqMk l m) w') from fun w' hb => docSame_any _ _ l m _ ((H1.out.below HB4.out).below hb) ((H2.out.below HB4.out).below hb) hn hls)
  generalize eqL eqMk l m = q at HQ1 HQ2
  clear hn hls
  go_wp2_with fail
  refine HQ1.out.mono ?_
  rintro e w5 ⟨rfl, hb5⟩
  have HB5 := Lib.hid (HB4.out.trans (hb5.mono HB4.out.size))
  have HQ3 := Lib.hid (HQ2.out _ hb5)
  clear hb5
  go_wp2_with fail
  refine HQ3.out.mono ?_
  rintro e w6 ⟨rfl, hb6⟩
  have HB6 := Lib.hid (HB5.out.trans (hb6.mono HB5.out.size))
  clear hb6
  rcases q with _ | _ <;>
  · go_wp2_with fail
    refine (trSame_any _ _ l l _ (H1.out.below HB6.out) (H1.out.below HB6.out) HN.out HLS.out).mono ?_
    rintro e w7 ⟨rfl, hb7⟩
    rw [eqL_self eqMk_self]
    have HB7 := Lib.hid (HB6.out.trans (hb7.mono HB6.out.size))
    clear hb7
    go_wp2_with fail
    refine (Ev.live42_any _).mono ?_
    rintro e w8 ⟨rfl, hb8⟩
    go_wp2_with fail
    go_ret
    exact ⟨rfl, HB7.out.trans (hb8.mono HB7.out.size)⟩
end Go.Proofs.YtnjabndkaabogaaGreatDoor
