/-
  An evaluator for closed runs: the operations (15: steps along maps; asserted types; rows made and cleared).
-/
import Derived.Test.YtjfcjpbolokfcaaGreatDoorEv18
namespace Go.Proofs.YtjfcjpbolokfcaaGreatDoor.Ev
open Go

theorem MR.none {ρ : Nat → Nm} {nx : Nat} {m : Array MapEntry} (h : MR ρ nx [] m.toList) : m = #[] := by
  cases m with
  | mk l =>
    cases h
    rfl
theorem MR.single {ρ : Nat → Nm} {nx : Nat} {e : MapEntry} {m : Array MapEntry} (h : MR ρ nx [e] m.toList) : ∃ u, m = #[⟨e.key, u, e.born⟩] ∧ flat e.key = true ∧ VR ρ nx e.val u := by
  cases m with
  | mk l =>
    generalize hl : (Array.mk l).toList = l' at h
    cases h with
    | cons k v u b _ m2 hk hv hr =>
      cases hr
      simp only at hl
      subst hl
      exact ⟨u, rfl, hk, hv⟩
section
variable {P : Program} {o : Oper} {f : T Value} {s s' : St} {v : Value}
theorem nextOver_ok {it : Operand} {n q since last clock : Nat} {seen : List Nat} (ho : o.op = .next it false) (hx : evO f it = some (.pointer (some ⟨n, 0, none⟩))) (hn : s.h.get n = some (.mapIter q since seen last)) (hm : s.h.get q = some (.map [] clock)) : QOk P o f s (.tuple #[.bool false]) := by
  refine qOk_of (sem := fun ev => Instr.next (ev it) false o.type) (fun ev => next_run ho ev) (fun ρ w a hr hf => ?_)
  obtain ⟨_, _, h0, h1⟩ := hr.obj n _ hn
  obtain ⟨_, es', g1, g2⟩ := hr.obj q _ hm
  obtain rfl := g2.none
  have he := it_eval hf hx h0
  refine ⟨.tuple #[.bool false], ?_, tup1 (.bool _)⟩
  have hf0 : ∀ g : MapEntry → Bool, (#[] : Array MapEntry).filter g = #[] := fun g => by simp
  simp only [he, Instr.next, Sem.run_bind, run_getObj P _ h1 (fun _ _ _ h => by cases h), run_getObj P _ g1 (fun _ _ _ h => by cases h), Result.andThen_ok, show (#[] : Array MapEntry).isEmpty = true from rfl, Bool.not_true, Bool.and_false, Bool.false_and, Bool.false_eq_true, if_false, hf0]
  have hc : ((if True then #[Option.none] else #[]) ++ Array.map some ((#[] : Array MapEntry) ++ #[])) = #[Option.none] := by simp
  rw [hc]
  rfl
theorem nextOne_ok {it : Operand} {n q since last clock : Nat} {e : MapEntry} (ho : o.op = .next it false) (hx : evO f it = some (.pointer (some ⟨n, 0, none⟩))) (hn : s.h.get n = some (.mapIter q since [] last)) (hm : s.h.get q = some (.map [e] clock)) (hb : e.born < since) : ValOk P o f s (.tuple #[.bool true, e.key, e.val]) ⟨s.h.set (.mapIter q since [e.born] clock) n, s.nx⟩ := by
  refine valOk_of (sem := fun ev => Instr.next (ev it) false o.type) (fun ev => next_run ho ev) (fun ρ w a hr hf => ?_)
  obtain ⟨_, hq, h0, h1⟩ := hr.obj n _ hn
  obtain ⟨_, es', g1, g2⟩ := hr.obj q _ hm
  obtain ⟨u, rfl, hk, hv⟩ := g2.single
  have he := it_eval hf hx h0
  obtain ⟨w', hw, st⟩ := hr.setO (a' := .mapIter q since [e.born] clock) (o' := .mapIter (some (ρ q).b) since #[e.born] clock) hn h1 (fun _ _ _ h => by cases h) ⟨hq, h0, rfl⟩ P
  refine ⟨ρ, w', .tuple #[.bool true, e.key, u], ?_, st.less get_updH, tup3 (.bool _) (flat_vr hk) hv⟩
  have hfil : (#[(⟨e.key, u, e.born⟩ : MapEntry)]).filter (fun e => !(#[] : Array Nat).contains e.born) = #[⟨e.key, u, e.born⟩] := by simp
  have hold : (#[(⟨e.key, u, e.born⟩ : MapEntry)]).filter (fun e => decide (e.born < since)) = #[⟨e.key, u, e.born⟩] := by simp [hb]
  have hnew : (#[(⟨e.key, u, e.born⟩ : MapEntry)]).filter (fun e => decide (e.born ≥ since)) = #[] := by
    have : ¬ since ≤ e.born := by omega
    simp [this]
  simp only [he, Instr.next, Sem.run_bind, run_getObj P _ h1 (fun _ _ _ h => by cases h), run_getObj P _ g1 (fun _ _ _ h => by cases h), Result.andThen_ok, show ([] : List Nat).toArray.isEmpty = true from rfl, Bool.not_true, Bool.false_and, Bool.false_eq_true, if_false, hfil, hold, hnew]
  have hc : ((if (#[(⟨e.key, u, e.born⟩ : MapEntry)]).isEmpty = true then #[Option.none] else #[]) ++ Array.map some (#[(⟨e.key, u, e.born⟩ : MapEntry)] ++ #[])) = #[some ⟨e.key, u, e.born⟩] := by simp
  rw [hc]
  have hch : (choose (.mapNext 1)).run P w = .ok 0 w := rfl
  have hw' : (setObj (ρ n).b (.mapIter (some (ρ q).b) since (([] : List Nat).toArray.push e.born) clock)).run P w = .ok () w' := hw
  show (Sem.run P (choose (.mapNext 1)) w).andThen _ = _
  rw [hch]
  simp only [Result.andThen_ok]
  show Sem.run P (do setObj (ρ n).b (.mapIter (some (ρ q).b) since (([] : List Nat).toArray.push e.born) clock); pure (Value.tuple #[.bool true, e.key, u]) : Sem Value) w = _
  simp only [Sem.run_bind, hw', Result.andThen_ok, Sem.run_pure]
theorem nextDone_ok {it : Operand} {n q since last clock : Nat} {e : MapEntry} (ho : o.op = .next it false) (hx : evO f it = some (.pointer (some ⟨n, 0, none⟩))) (hn : s.h.get n = some (.mapIter q since [e.born] last)) (hm : s.h.get q = some (.map [e] clock)) (hb : e.born < last) : QOk P o f s (.tuple #[.bool false]) := by
  refine qOk_of (sem := fun ev => Instr.next (ev it) false o.type) (fun ev => next_run ho ev) (fun ρ w a hr hf => ?_)
  obtain ⟨_, hq, h0, h1⟩ := hr.obj n _ hn
  obtain ⟨_, es', g1, g2⟩ := hr.obj q _ hm
  obtain ⟨u, rfl, hk, hv⟩ := g2.single
  have he := it_eval hf hx h0
  refine ⟨.tuple #[.bool false], ?_, tup1 (.bool _)⟩
  have hfil : (#[(⟨e.key, u, e.born⟩ : MapEntry)]).filter (fun x => !([e.born] : List Nat).toArray.contains x.born) = #[] := by simp
  have hall : (#[(⟨e.key, u, e.born⟩ : MapEntry)]).all (fun x => decide (x.born ≥ last)) = false := by
    have : ¬ last ≤ e.born := by omega
    simp [this]
  simp only [he, Instr.next, Sem.run_bind, run_getObj P _ h1 (fun _ _ _ h => by cases h), run_getObj P _ g1 (fun _ _ _ h => by cases h), Result.andThen_ok, hall, Bool.and_false, Bool.false_eq_true, if_false, hfil]
  have hf0 : ∀ g : MapEntry → Bool, (#[] : Array MapEntry).filter g = #[] := fun g => by simp
  simp only [hf0]
  have hc : ((if (#[] : Array MapEntry).isEmpty = true then #[Option.none] else #[]) ++ Array.map some ((#[] : Array MapEntry) ++ #[])) = #[Option.none] := by simp
  rw [hc]
  rfl
end
end Go.Proofs.YtjfcjpbolokfcaaGreatDoor.Ev
