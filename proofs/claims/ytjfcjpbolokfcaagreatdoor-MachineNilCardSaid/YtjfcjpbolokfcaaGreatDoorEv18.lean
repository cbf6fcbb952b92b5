/-
  An evaluator for closed runs: the operations (14: iterators, asserted types, rows made and cleared).
-/
import Derived.Test.YtjfcjpbolokfcaaGreatDoorEv17
namespace Go.Proofs.YtjfcjpbolokfcaaGreatDoor.Ev
open Go

/-- A block that is none of cells is turned. -/
theorem HR.setO {ρ : Nat → Nm} {nx : Nat} {H : Nat → Option AO} {w : World} (h : HR ρ nx H w) {n : Nat} {a a' : AO} {o o' : Obj} (hn : H n = some a) (ho : w.heap[(ρ n).b]? = some o) (hc : ∀ c e fr, o ≠ .cells c e fr) (ha : OR ρ nx (ρ n) a' (some o')) (P : Program) :
    ∃ w', (setObj (ρ n).b o').run P w = .ok () w' ∧ Step ρ nx H w ρ nx (updH H n (some a')) w' := by
  have hnx := (h.obj n _ hn).1
  have hlt := h.old hn
  refine ⟨{ w with heap := w.heap.setIfInBounds (ρ n).b o' }, ?_, ?_⟩
  · show Sem.run P (.setObj _ _ (.pure ())) w = _
    unfold Sem.run
    rw [ho]
    cases o <;> first | rfl | exact absurd rfl (hc _ _ _)
  · have hat : (w.heap.setIfInBounds (ρ n).b o')[(ρ n).b]? = some o' := Array.getElem?_setIfInBounds_self_of_lt hlt
    have hne : ∀ k, k ≠ (ρ n).b → (w.heap.setIfInBounds (ρ n).b o')[k]? = w.heap[k]? := fun k hk => Array.getElem?_setIfInBounds_ne (Ne.symm hk)
    have back : ∀ {m q}, updH H n (some a') m = some q → ∃ o2, H m = some o2 := fun {m q} hm => by
      rcases updH_get hm with ⟨rfl, _⟩ | ⟨_, hm⟩
      · exact ⟨_, hn⟩
      · exact ⟨_, hm⟩
    refine ⟨Ext.refl _ _, ⟨fun m q hm2 => ?_, fun m m' o1 o2 hm1 hm2 he => ?_⟩, ⟨rfl, rfl, rfl, by simp, fun j _ hj => hne j (fun e => hj n _ hn e.symm)⟩, fun m q hm2 => ?_⟩
    · rcases updH_get hm2 with ⟨rfl, e0⟩ | ⟨hne2, hm2⟩
      · obtain rfl := Option.some.inj e0
        refine ⟨hnx, ?_⟩
        show OR _ _ _ _ (w.heap.setIfInBounds (ρ m).b o')[(ρ m).b]?
        rw [hat]
        exact ha
      · have h5 := h.obj m _ hm2
        refine ⟨h5.1, ?_⟩
        show OR _ _ _ _ (w.heap.setIfInBounds (ρ n).b o')[(ρ m).b]?
        rw [hne _ (fun e => hne2 (h.inj m n _ _ hm2 hn e))]
        exact h5.2
    · obtain ⟨p1, hp1⟩ := back hm1
      obtain ⟨p2, hp2⟩ := back hm2
      exact h.inj _ _ _ _ hp1 hp2 he
    · rcases updH_get hm2 with ⟨rfl, _⟩ | ⟨_, hm2⟩
      · exact .inr ⟨m, _, hn, rfl⟩
      · exact .inr ⟨m, _, hm2, rfl⟩
section
variable {P : Program} {o : Oper} {f : T Value} {s s' : St} {v : Value}
theorem rangeStr_ok {t : TypeId} {x : Operand} {b : ByteArray} (ho : o.op = .range t x) (hu : P.underlying t = some .string) (hx : evO f x = some (.string b)) : ValOk P o f s (.pointer (some ⟨s.nx, 0, none⟩)) (s.new (.iter b 0)) := by
  refine valOk_of (sem := fun ev => Instr.range t (ev x)) (fun ev => by unfold execOp; rw [ho]) (fun ρ w a hr hf => ?_)
  have hp := evO_sound hf hx
  obtain ⟨u, hu2⟩ : ∃ u, a.eval x = u := ⟨_, rfl⟩
  rw [hu2] at hp
  cases hp
  refine ⟨_, _, .pointer (some ⟨w.heap.size, 0, none⟩), ?_, (hr.new (.stringIter b 0) (.iter b 0) ⟨rfl, rfl⟩).less get_updH, ptr_new _ _ _⟩
  simp only [hu2, Instr.range, Sem.run_bind, run_und hu, Result.andThen_ok, Sem.run_pure]
  rfl
theorem rangeMap_ok {t k e : TypeId} {x : Operand} {n clock : Nat} {es : List MapEntry} (ho : o.op = .range t x) (hu : P.underlying t = some (.map k e)) (hx : evO f x = some (.map (some n))) (hn : s.h.get n = some (.map es clock)) : ValOk P o f s (.pointer (some ⟨s.nx, 0, none⟩)) (s.new (.mapIter n clock [] clock)) := by
  refine valOk_of (sem := fun ev => Instr.range t (ev x)) (fun ev => by unfold execOp; rw [ho]) (fun ρ w a hr hf => ?_)
  have hp := evO_sound hf hx
  obtain ⟨u, hu2⟩ : ∃ u, a.eval x = u := ⟨_, rfl⟩
  rw [hu2] at hp
  cases hp
  rename_i hlt
  obtain ⟨_, es', h1, h2⟩ := hr.obj n _ hn
  have hx2 := upd_ext ρ s.nx ⟨w.heap.size, 0, 0⟩
  refine ⟨_, _, .pointer (some ⟨w.heap.size, 0, none⟩), ?_, (hr.new (.mapIter (some (ρ n).b) clock #[] clock) (.mapIter n clock [] clock) ⟨Nat.lt_succ_of_lt hlt, rfl, by rw [hx2.2 n hlt]⟩).less get_updH, ptr_new _ _ _⟩
  simp only [hu2, Instr.range, Sem.run_bind, run_und hu, Result.andThen_ok, run_getObj P _ h1 (fun _ _ _ h => by cases h), Sem.run_pure]
  rfl
theorem next_run {it : Operand} {b : Bool} (ho : o.op = .next it b) (ev : Operand → Value) : execOp ev o = (do pure (.value (← Instr.next (ev it) b o.type))) := by unfold execOp; rw [ho]
theorem tup1 {ρ : Nat → Nm} {nx : Nat} {a c : Value} (h1 : VR ρ nx a c) : VR ρ nx (.tuple #[a]) (.tuple #[c]) := .tuple _ _ rfl (fun i x y hx hy => by
  match i with
  | 0 =>
    simp at hx hy
    subst hx hy
    exact h1
  | i + 1 => simp at hx)
theorem tup3 {ρ : Nat → Nm} {nx : Nat} {a b c a' b' c' : Value} (h1 : VR ρ nx a a') (h2 : VR ρ nx b b') (h3 : VR ρ nx c c') : VR ρ nx (.tuple #[a, b, c]) (.tuple #[a', b', c']) := .tuple _ _ rfl (fun i x y hx hy => by
  match i with
  | 0 =>
    simp at hx hy
    subst hx hy
    exact h1
  | 1 =>
    simp at hx hy
    subst hx hy
    exact h2
  | 2 =>
    simp at hx hy
    subst hx hy
    exact h3
  | i + 3 => simp at hx)
theorem it_eval {it : Operand} {n : Nat} {ρ : Nat → Nm} {nx : Nat} {a : Act} (hf : FR ρ nx f a) (hx : evO f it = some (.pointer (some ⟨n, 0, none⟩))) (h0 : (ρ n).s = 0) : a.eval it = .pointer (some ⟨(ρ n).b, 0, none⟩) := by
  have hp := evO_sound hf hx
  obtain ⟨u, hu2⟩ : ∃ u, a.eval it = u := ⟨_, rfl⟩
  rw [hu2] at hp ⊢
  cases hp
  unfold Nm.at
  rw [h0]
/-- What a step along a string answers, and how far it goes then. -/
noncomputable def nextS (b : ByteArray) (pos : Nat) : Value × Nat := match Nat.ble (pos + 1) b.size with
  | true => (.tuple #[.bool true, .int .i64 pos, .int .i32 (Utf8.decode b pos).1], pos + (Utf8.decode b pos).2)
  | false => (.tuple #[.bool false], pos)
theorem nextStr_ok {it : Operand} {n pos : Nat} {b : ByteArray} (ho : o.op = .next it true) (hx : evO f it = some (.pointer (some ⟨n, 0, none⟩))) (hn : s.h.get n = some (.iter b pos)) : ValOk P o f s (nextS b pos).1 ⟨s.h.set (.iter b (nextS b pos).2) n, s.nx⟩ := by
  refine valOk_of (sem := fun ev => Instr.next (ev it) true o.type) (fun ev => next_run ho ev) (fun ρ w a hr hf => ?_)
  obtain ⟨_, h0, h1⟩ := hr.obj n _ hn
  have he := it_eval hf hx h0
  unfold nextS
  rcases hq : Nat.ble (pos + 1) b.size with _ | _
  · have hlt : ¬ pos < b.size := fun h => by
      have := Nat.ble_eq_true_of_le h
      rw [hq] at this
      cases this
    refine ⟨ρ, w, .tuple #[.bool false], ?_, (Step.refl hr).less (fun m q hm => ?_), tup1 (.bool _)⟩
    · simp only [he, Instr.next, Sem.run_bind, run_getObj P _ h1 (fun _ _ _ h => by cases h), Result.andThen_ok, if_neg hlt, Sem.run_pure]
    · rcases updH_get (get_updH m q hm) with ⟨rfl, e⟩ | ⟨_, e⟩
      · rw [hn]
        exact e
      · exact e
  · have hlt : pos < b.size := Nat.le_of_ble_eq_true hq
    obtain ⟨w', hw, st⟩ := hr.setO (a' := .iter b (pos + (Utf8.decode b pos).2)) (o' := .stringIter b (pos + (Utf8.decode b pos).2)) hn h1 (fun _ _ _ h => by cases h) ⟨h0, rfl⟩ P
    refine ⟨ρ, w', .tuple #[.bool true, .int .i64 pos, .int .i32 (Utf8.decode b pos).1], ?_, st.less get_updH, tup3 (.bool _) (.int _ _) (.int _ _)⟩
    simp only [he, Instr.next, Sem.run_bind, run_getObj P _ h1 (fun _ _ _ h => by cases h), Result.andThen_ok, if_pos hlt, hw, Sem.run_pure]
    rfl
end
end Go.Proofs.YtjfcjpbolokfcaaGreatDoor.Ev
