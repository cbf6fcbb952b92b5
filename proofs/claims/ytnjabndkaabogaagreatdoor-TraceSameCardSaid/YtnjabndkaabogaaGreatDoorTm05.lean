/-
  An evaluator for closed runs: the operations (14: iterators, asserted types, rows made and cleared).
  An evaluator for closed runs: the operations (15: steps along maps; asserted types; rows made and cleared).
  An evaluator for closed runs: the operations (16: asserted types; places of a row of a room of its own).
  An evaluator for closed runs: the operations (16: what the library's Builder asks: places seen without their type, bytes that are a string, rows of whatever bytes; copies).
  An evaluator for closed runs: the operations (17: strings over bytes; rows of whatever bytes; copies; slices of arrays).
  An evaluator for closed runs: the interpreter (1: what a run comes to, slots, and how it goes on).
-/
import Derived.Test.YtnjabndkaabogaaGreatDoorTm04
import Derived.Lib.Builder
import Derived.Lib.UnsafeStr
import Derived.Lib.MakeNoZero
import Derived.Laws.Externs
import Derived.Laws.BytesString
import Derived.KernelRfl
namespace Go.Proofs.YtnjabndkaabogaaGreatDoor.Ev
open Go
theorem HR.setO {ρ : Nat → Nm} {nx : Nat} {H : Nat → Option AO} {w : World} (h : HR ρ nx H w) {n : Nat} {a a' : AO} {o o' : Obj} (hn : H n = some a) (ho : w.heap[(ρ n).b]? = some o) (hc : ∀ c e fr, o ≠ .cells c e fr) (ha : OR ρ nx (ρ n) a' (some o')) (P : Program) :
    ∃ w', (setObj (ρ n).b o').run P w = .ok () w' ∧ Step ρ nx H w ρ nx (updH H n (some a')) w' := by
  have hnx := (h.obj n _ hn).1
  have hlt := h.old hn
  refine ⟨{ w with heap := w.heap.setIfInBounds (ρ n).b o' }, ?_, ?_⟩
  · show Sem.run P (.setObj _ _ (.pure ())) w = _
    unfold Sem.run
    rw [ho]
    cases o <;> first | rfl | exact absurd rfl (hc _ _ _)
  · have hat : (w.heap.setIfInBounds (ρ n).b o')[(ρ n).b]? = some o' := Array.getElem?_setIfInBounds_self_of_lt hlt
    have hne : ∀ k, k ≠ (ρ n).b → (w.heap.setIfInBounds (ρ n).b o')[k]? = w.heap[k]? := fun k hk => Array.getElem?_setIfInBounds_ne (Ne.symm hk)
    have back : ∀ {m q}, updH H n (some a') m = some q → ∃ o2, H m = some o2 := fun {m q} hm => by
      rcases updH_get hm with ⟨rfl, _⟩ | ⟨_, hm⟩
      · exact ⟨_, hn⟩
      · exact ⟨_, hm⟩
    refine ⟨Ext.refl _ _, ⟨fun m q hm2 => ?_, fun m m' o1 o2 hm1 hm2 he => ?_⟩, ⟨rfl, rfl, rfl, by simp, fun j _ hj => hne j (fun e => hj n _ hn e.symm)⟩, fun m q hm2 => ?_⟩
    · rcases updH_get hm2 with ⟨rfl, e0⟩ | ⟨hne2, hm2⟩
      · obtain rfl := Option.some.inj e0
        refine ⟨hnx, ?_⟩
        show OR _ _ _ _ (w.heap.setIfInBounds (ρ m).b o')[(ρ m).b]?
        rw [hat]
        exact ha
      · have h5 := h.obj m _ hm2
        refine ⟨h5.1, ?_⟩
        show OR _ _ _ _ (w.heap.setIfInBounds (ρ n).b o')[(ρ m).b]?
        rw [hne _ (fun e => hne2 (h.inj m n _ _ hm2 hn e))]
        exact h5.2
    · obtain ⟨p1, hp1⟩ := back hm1
      obtain ⟨p2, hp2⟩ := back hm2
      exact h.inj _ _ _ _ hp1 hp2 he
    · rcases updH_get hm2 with ⟨rfl, _⟩ | ⟨_, hm2⟩
      · exact .inr ⟨m, _, hn, rfl⟩
      · exact .inr ⟨m, _, hm2, rfl⟩
section
variable {P : Program} {o : Oper} {f : T Value} {s s' : St} {v : Value}
theorem rangeStr_ok {t : TypeId} {x : Operand} {b : ByteArray} (ho : o.op = .range t x) (hu : P.underlying t = some .string) (hx : evO f x = some (.string b)) : ValOk P o f s (.pointer (some ⟨s.nx, 0, none⟩)) (s.new (.iter b 0)) := by
  refine valOk_of (sem := fun ev => Instr.range t (ev x)) (fun ev => by unfold execOp; rw [ho]) (fun ρ w a hr hf => ?_)
  have hp := evO_sound hf hx
  obtain ⟨u, hu2⟩ : ∃ u, a.eval x = u := ⟨_, rfl⟩
  rw [hu2] at hp
  cases hp
  refine ⟨_, _, .pointer (some ⟨w.heap.size, 0, none⟩), ?_, (hr.new (.stringIter b 0) (.iter b 0) ⟨rfl, rfl⟩).less get_updH, ptr_new _ _ _⟩
  simp only [hu2, Instr.range, Sem.run_bind, run_und hu, Result.andThen_ok, Sem.run_pure]
  rfl
theorem rangeMap_ok {t k e : TypeId} {x : Operand} {n clock : Nat} {es : List MapEntry} (ho : o.op = .range t x) (hu : P.underlying t = some (.map k e)) (hx : evO f x = some (.map (some n))) (hn : s.h.get n = some (.map es clock)) : ValOk P o f s (.pointer (some ⟨s.nx, 0, none⟩)) (s.new (.mapIter n clock [] clock)) := by
  refine valOk_of (sem := fun ev => Instr.range t (ev x)) (fun ev => by unfold execOp; rw [ho]) (fun ρ w a hr hf => ?_)
  have hp := evO_sound hf hx
  obtain ⟨u, hu2⟩ : ∃ u, a.eval x = u := ⟨_, rfl⟩
  rw [hu2] at hp
  cases hp
  rename_i hlt
  obtain ⟨_, es', h1, h2⟩ := hr.obj n _ hn
  have hx2 := upd_ext ρ s.nx ⟨w.heap.size, 0, 0⟩
  refine ⟨_, _, .pointer (some ⟨w.heap.size, 0, none⟩), ?_, (hr.new (.mapIter (some (ρ n).b) clock #[] clock) (.mapIter n clock [] clock) ⟨Nat.lt_succ_of_lt hlt, rfl, by rw [hx2.2 n hlt]⟩).less get_updH, ptr_new _ _ _⟩
  simp only [hu2, Instr.range, Sem.run_bind, run_und hu, Result.andThen_ok, run_getObj P _ h1 (fun _ _ _ h => by cases h), Sem.run_pure]
  rfl
theorem next_run {it : Operand} {b : Bool} (ho : o.op = .next it b) (ev : Operand → Value) : execOp ev o = (do pure (.value (← Instr.next (ev it) b o.type))) := by unfold execOp; rw [ho]
theorem tup1 {ρ : Nat → Nm} {nx : Nat} {a c : Value} (h1 : VR ρ nx a c) : VR ρ nx (.tuple #[a]) (.tuple #[c]) := .tuple _ _ rfl (fun i x y hx hy => by
  match i with
  | 0 =>
    simp at hx hy
    subst hx hy
    exact h1
  | i + 1 => simp at hx)
theorem tup3 {ρ : Nat → Nm} {nx : Nat} {a b c a' b' c' : Value} (h1 : VR ρ nx a a') (h2 : VR ρ nx b b') (h3 : VR ρ nx c c') : VR ρ nx (.tuple #[a, b, c]) (.tuple #[a', b', c']) := .tuple _ _ rfl (fun i x y hx hy => by
  match i with
  | 0 =>
    simp at hx hy
    subst hx hy
    exact h1
  | 1 =>
    simp at hx hy
    subst hx hy
    exact h2
  | 2 =>
    simp at hx hy
    subst hx hy
    exact h3
  | i + 3 => simp at hx)
theorem it_eval {it : Operand} {n : Nat} {ρ : Nat → Nm} {nx : Nat} {a : Act} (hf : FR ρ nx f a) (hx : evO f it = some (.pointer (some ⟨n, 0, none⟩))) (h0 : (ρ n).s = 0) : a.eval it = .pointer (some ⟨(ρ n).b, 0, none⟩) := by
  have hp := evO_sound hf hx
  obtain ⟨u, hu2⟩ : ∃ u, a.eval it = u := ⟨_, rfl⟩
  rw [hu2] at hp ⊢
  cases hp
  unfold Nm.at
  rw [h0]
noncomputable def nextS (b : ByteArray) (pos : Nat) : Value × Nat := match Nat.ble (pos + 1) b.size with
  | true => (.tuple #[.bool true, .int .i64 pos, .int .i32 (Utf8.decode b pos).1], pos + (Utf8.decode b pos).2)
  | false => (.tuple #[.bool false], pos)
theorem nextStr_ok {it : Operand} {n pos : Nat} {b : ByteArray} (ho : o.op = .next it true) (hx : evO f it = some (.pointer (some ⟨n, 0, none⟩))) (hn : s.h.get n = some (.iter b pos)) : ValOk P o f s (nextS b pos).1 ⟨s.h.set (.iter b (nextS b pos).2) n, s.nx⟩ := by
  refine valOk_of (sem := fun ev => Instr.next (ev it) true o.type) (fun ev => next_run ho ev) (fun ρ w a hr hf => ?_)
  obtain ⟨_, h0, h1⟩ := hr.obj n _ hn
  have he := it_eval hf hx h0
  unfold nextS
  rcases hq : Nat.ble (pos + 1) b.size with _ | _
  · have hlt : ¬ pos < b.size := fun h => by
      have := Nat.ble_eq_true_of_le h
      rw [hq] at this
      cases this
    refine ⟨ρ, w, .tuple #[.bool false], ?_, (Step.refl hr).less (fun m q hm => ?_), tup1 (.bool _)⟩
    · simp only [he, Instr.next, Sem.run_bind, run_getObj P _ h1 (fun _ _ _ h => by cases h), Result.andThen_ok, if_neg hlt, Sem.run_pure]
    · rcases updH_get (get_updH m q hm) with ⟨rfl, e⟩ | ⟨_, e⟩
      · rw [hn]
        exact e
      · exact e
  · have hlt : pos < b.size := Nat.le_of_ble_eq_true hq
    obtain ⟨w', hw, st⟩ := hr.setO (a' := .iter b (pos + (Utf8.decode b pos).2)) (o' := .stringIter b (pos + (Utf8.decode b pos).2)) hn h1 (fun _ _ _ h => by cases h) ⟨h0, rfl⟩ P
    refine ⟨ρ, w', .tuple #[.bool true, .int .i64 pos, .int .i32 (Utf8.decode b pos).1], ?_, st.less get_updH, tup3 (.bool _) (.int _ _) (.int _ _)⟩
    simp only [he, Instr.next, Sem.run_bind, run_getObj P _ h1 (fun _ _ _ h => by cases h), Result.andThen_ok, if_pos hlt, hw, Sem.run_pure]
    rfl
end
end Go.Proofs.YtnjabndkaabogaaGreatDoor.Ev
namespace Go.Proofs.YtnjabndkaabogaaGreatDoor.Ev
open Go
theorem MR.none {ρ : Nat → Nm} {nx : Nat} {m : Array MapEntry} (h : MR ρ nx [] m.toList) : m = #[] := by
  cases m with
  | mk l =>
    cases h
    rfl
theorem MR.single {ρ : Nat → Nm} {nx : Nat} {e : MapEntry} {m : Array MapEntry} (h : MR ρ nx [e] m.toList) : ∃ u, m = #[⟨e.key, u, e.born⟩] ∧ flat e.key = true ∧ VR ρ nx e.val u := by
  cases m with
  | mk l =>
    generalize hl : (Array.mk l).toList = l' at h
    cases h with
    | cons k v u b _ m2 hk hv hr =>
      cases hr
      simp only at hl
      subst hl
      exact ⟨u, rfl, hk, hv⟩
section
variable {P : Program} {o : Oper} {f : T Value} {s s' : St} {v : Value}
theorem nextOver_ok {it : Operand} {n q since last clock : Nat} {seen : List Nat} (ho : o.op = .next it false) (hx : evO f it = some (.pointer (some ⟨n, 0, none⟩))) (hn : s.h.get n = some (.mapIter q since seen last)) (hm : s.h.get q = some (.map [] clock)) : QOk P o f s (.tuple #[.bool false]) := by
  refine qOk_of (sem := fun ev => Instr.next (ev it) false o.type) (fun ev => next_run ho ev) (fun ρ w a hr hf => ?_)
  obtain ⟨_, _, h0, h1⟩ := hr.obj n _ hn
  obtain ⟨_, es', g1, g2⟩ := hr.obj q _ hm
  obtain rfl := g2.none
  have he := it_eval hf hx h0
  refine ⟨.tuple #[.bool false], ?_, tup1 (.bool _)⟩
  have hf0 : ∀ g : MapEntry → Bool, (#[] : Array MapEntry).filter g = #[] := fun g => by simp
  simp only [he, Instr.next, Sem.run_bind, run_getObj P _ h1 (fun _ _ _ h => by cases h), run_getObj P _ g1 (fun _ _ _ h => by cases h), Result.andThen_ok, show (#[] : Array MapEntry).isEmpty = true from rfl, Bool.not_true, Bool.and_false, Bool.false_and, Bool.false_eq_true, if_false, hf0]
  have hc : ((if True then #[Option.none] else #[]) ++ Array.map some ((#[] : Array MapEntry) ++ #[])) = #[Option.none] := by simp
  rw [hc]
  rfl
theorem nextOne_ok {it : Operand} {n q since last clock : Nat} {e : MapEntry} (ho : o.op = .next it false) (hx : evO f it = some (.pointer (some ⟨n, 0, none⟩))) (hn : s.h.get n = some (.mapIter q since [] last)) (hm : s.h.get q = some (.map [e] clock)) (hb : e.born < since) : ValOk P o f s (.tuple #[.bool true, e.key, e.val]) ⟨s.h.set (.mapIter q since [e.born] clock) n, s.nx⟩ := by
  refine valOk_of (sem := fun ev => Instr.next (ev it) false o.type) (fun ev => next_run ho ev) (fun ρ w a hr hf => ?_)
  obtain ⟨_, hq, h0, h1⟩ := hr.obj n _ hn
  obtain ⟨_, es', g1, g2⟩ := hr.obj q _ hm
  obtain ⟨u, rfl, hk, hv⟩ := g2.single
  have he := it_eval hf hx h0
  obtain ⟨w', hw, st⟩ := hr.setO (a' := .mapIter q since [e.born] clock) (o' := .mapIter (some (ρ q).b) since #[e.born] clock) hn h1 (fun _ _ _ h => by cases h) ⟨hq, h0, rfl⟩ P
  refine ⟨ρ, w', .tuple #[.bool true, e.key, u], ?_, st.less get_updH, tup3 (.bool _) (flat_vr hk) hv⟩
  have hfil : (#[(⟨e.key, u, e.born⟩ : MapEntry)]).filter (fun e => !(#[] : Array Nat).contains e.born) = #[⟨e.key, u, e.born⟩] := by simp
  have hold : (#[(⟨e.key, u, e.born⟩ : MapEntry)]).filter (fun e => decide (e.born < since)) = #[⟨e.key, u, e.born⟩] := by simp [hb]
  have hnew : (#[(⟨e.key, u, e.born⟩ : MapEntry)]).filter (fun e => decide (e.born ≥ since)) = #[] := by
    have : ¬ since ≤ e.born := by omega
    simp [this]
  simp only [he, Instr.next, Sem.run_bind, run_getObj P _ h1 (fun _ _ _ h => by cases h), run_getObj P _ g1 (fun _ _ _ h => by cases h), Result.andThen_ok, show ([] : List Nat).toArray.isEmpty = true from rfl, Bool.not_true, Bool.false_and, Bool.false_eq_true, if_false, hfil, hold, hnew]
  have hc : ((if (#[(⟨e.key, u, e.born⟩ : MapEntry)]).isEmpty = true then #[Option.none] else #[]) ++ Array.map some (#[(⟨e.key, u, e.born⟩ : MapEntry)] ++ #[])) = #[some ⟨e.key, u, e.born⟩] := by simp
  rw [hc]
  have hch : (choose (.mapNext 1)).run P w = .ok 0 w := rfl
  have hw' : (setObj (ρ n).b (.mapIter (some (ρ q).b) since (([] : List Nat).toArray.push e.born) clock)).run P w = .ok () w' := hw
  show (Sem.run P (choose (.mapNext 1)) w).andThen _ = _
  rw [hch]
  simp only [Result.andThen_ok]
  show Sem.run P (do setObj (ρ n).b (.mapIter (some (ρ q).b) since (([] : List Nat).toArray.push e.born) clock); pure (Value.tuple #[.bool true, e.key, u]) : Sem Value) w = _
  simp only [Sem.run_bind, hw', Result.andThen_ok, Sem.run_pure]
theorem nextDone_ok {it : Operand} {n q since last clock : Nat} {e : MapEntry} (ho : o.op = .next it false) (hx : evO f it = some (.pointer (some ⟨n, 0, none⟩))) (hn : s.h.get n = some (.mapIter q since [e.born] last)) (hm : s.h.get q = some (.map [e] clock)) (hb : e.born < last) : QOk P o f s (.tuple #[.bool false]) := by
  refine qOk_of (sem := fun ev => Instr.next (ev it) false o.type) (fun ev => next_run ho ev) (fun ρ w a hr hf => ?_)
  obtain ⟨_, hq, h0, h1⟩ := hr.obj n _ hn
  obtain ⟨_, es', g1, g2⟩ := hr.obj q _ hm
  obtain ⟨u, rfl, hk, hv⟩ := g2.single
  have he := it_eval hf hx h0
  refine ⟨.tuple #[.bool false], ?_, tup1 (.bool _)⟩
  have hfil : (#[(⟨e.key, u, e.born⟩ : MapEntry)]).filter (fun x => !([e.born] : List Nat).toArray.contains x.born) = #[] := by simp
  have hall : (#[(⟨e.key, u, e.born⟩ : MapEntry)]).all (fun x => decide (x.born ≥ last)) = false := by
    have : ¬ last ≤ e.born := by omega
    simp [this]
  simp only [he, Instr.next, Sem.run_bind, run_getObj P _ h1 (fun _ _ _ h => by cases h), run_getObj P _ g1 (fun _ _ _ h => by cases h), Result.andThen_ok, hall, Bool.and_false, Bool.false_eq_true, if_false, hfil]
  have hf0 : ∀ g : MapEntry → Bool, (#[] : Array MapEntry).filter g = #[] := fun g => by simp
  simp only [hf0]
  have hc : ((if (#[] : Array MapEntry).isEmpty = true then #[Option.none] else #[]) ++ Array.map some ((#[] : Array MapEntry) ++ #[])) = #[Option.none] := by simp
  rw [hc]
  rfl
theorem entry_ok {it : Operand} {n q since last : Nat} {e : MapEntry} (ho : o.op = .entry it) (hx : evO f it = some (.pointer (some ⟨n, 0, none⟩))) (hn : s.h.get n = some (.mapIter q since [e.born] last)) (hm : s.h.get q = some (.map [e] last)) : QOk P o f s (.tuple #[e.key, e.val]) := by
  refine qOk_of (sem := fun ev => Instr.entry (ev it)) (fun ev => by unfold execOp; rw [ho]) (fun ρ w a hr hf => ?_)
  obtain ⟨_, hq, h0, h1⟩ := hr.obj n _ hn
  obtain ⟨_, es', g1, g2⟩ := hr.obj q _ hm
  obtain ⟨u, rfl, hk, hv⟩ := g2.single
  have he := it_eval hf hx h0
  refine ⟨.tuple #[e.key, u], ?_, pair_vr (flat_vr hk) hv⟩
  have hfi : (#[(⟨e.key, u, e.born⟩ : MapEntry)]).find? (fun x => x.born == e.born) = some ⟨e.key, u, e.born⟩ := by simp
  have hb : ([e.born] : List Nat).toArray.back? = some e.born := by simp
  simp only [he, Instr.entry, Sem.run_bind, run_getObj P _ h1 (fun _ _ _ h => by cases h), run_getObj P _ g1 (fun _ _ _ h => by cases h), Result.andThen_ok, hb, bne_self_eq_false, Bool.false_eq_true, if_false, hfi, Sem.run_pure]
end
end Go.Proofs.YtnjabndkaabogaaGreatDoor.Ev
namespace Go.Proofs.YtnjabndkaabogaaGreatDoor.Ev
open Go
section
variable {P : Program} {o : Oper} {f : T Value} {s s' : St} {v : Value}
def isIfaceD : TypeDesc → Bool
  | .interface _ => true
  | _ => false
theorem assert_run {x : Operand} {xt t : TypeId} {ok : Bool} (ho : o.op = .typeAssert x xt t ok) (ev : Operand → Value) : execOp ev o = (do pure (.value (← Instr.typeAssert (ev x) xt t ok))) := by unfold execOp; rw [ho]
theorem assert_ok {x : Operand} {xt t : TypeId} {d : TypeDesc} {ok : Bool} (ho : o.op = .typeAssert x xt t ok) (hu : P.underlying t = some d) (hd : isIfaceD d = false) (hx : evO f x = some (.iface t v)) : QOk P o f s (match ok with | true => .tuple #[v, .bool true] | false => v) := by
  refine qOk_of (sem := fun ev => Instr.typeAssert (ev x) xt t ok) (fun ev => assert_run ho ev) (fun ρ w a hr hf => ?_)
  have hp := evO_sound hf hx
  obtain ⟨u, hu2⟩ : ∃ u, a.eval x = u := ⟨_, rfl⟩
  rw [hu2] at hp
  cases hp with
  | iface _ _ z hz =>
    refine ⟨match ok with | true => .tuple #[z, .bool true] | false => z, ?_, ?_⟩
    · simp only [hu2, Instr.typeAssert, Sem.run_bind, run_und hu, Result.andThen_ok]
      cases d <;> first
        | (cases hd; done)
        | (simp only [if_true]
           cases ok <;> rfl)
    · cases ok
      · exact hz
      · exact pair_vr hz (.bool _)
theorem indexFx_ok {ty e : TypeId} {x y : Operand} {n k l c : Nat} {kk : IntKind} {i : Int} {inf : TypeInfo} (ho : o.op = .indexAddr ty x y) (hu : P.underlying ty = some (.slice e)) (hi : P.info? e = some inf) (hx : evO f x = some (.slice (some ⟨n, k, some 0⟩) l c)) (hy : evO f y = some (.int kk i)) (h0 : 0 ≤ i) (hl : i < l) :
    QOk P o f s (.pointer (some ⟨n, k + i.toNat * inf.size, none⟩)) := by
  refine qOk_of (sem := fun ev => Instr.indexAt ty (ev x) (ev y)) (fun ev => by unfold execOp; rw [ho]) (fun ρ w a hr hf => ?_)
  have hp := evO_sound hf hx
  have hq := evO_sound hf hy
  obtain ⟨u, hu2⟩ : ∃ u, a.eval x = u := ⟨_, rfl⟩
  obtain ⟨z, hz2⟩ : ∃ z, a.eval y = z := ⟨_, rfl⟩
  rw [hu2] at hp
  rw [hz2] at hq
  cases hp
  cases hq
  rename_i hn
  refine ⟨_, ?_, .ptr n (k + i.toNat * inf.size) hn⟩
  rw [hu2, hz2]
  simp only [Instr.indexAt, Sem.run_bind, asIntOf_run, run_und hu, Result.andThen_ok, Sem.run_pure]
  rw [if_pos ⟨h0, hl⟩]
  simp only [Sem.run_bind, run_siz hi, Sem.run_pure, Result.andThen_ok, at_add]
theorem clear_run {c : Call} {x : Operand} (ho : o.op = .call c) (hc : c.callee = .builtin .clear) (ha : c.args = #[x]) (ev : Operand → Value) : execOp ev o = (do pure (.value (← Builtin.clear_ c.argTypes o.type #[ev x]))) := by
  rw [builtin_run ho hc ev, ha, map1 ev]
  rfl
theorem clear_ok {c : Call} {x : Operand} {t elem : TypeId} {inf : TypeInfo} {z : Value} {n k l cp m e2 sz fz : Nat} {tr : Go.Proofs.YtnjabndkaabogaaGreatDoor.Ev.T Value} (ho : o.op = .call c) (hc : c.callee = .builtin .clear) (ha : c.args = #[x]) (ht : c.argTypes[0]? = some t) (hu : P.underlying t = some (.slice elem)) (hi : P.info? elem = some inf) (hz : inf.zero = some z) (hx : evO f x = some (.slice (some ⟨n, k, none⟩) (l + 1) cp)) (hn : s.h.get n = some (.cells tr m e2 sz fz))
    (hfl : (Builtin.zeroCells z.cells (l + 1)).toList.all flat = true) (h1 : (Builtin.zeroCells z.cells (l + 1)).toList.all (·.oneCell') = true) (hfz : fz ≤ k) (hk : k + (Builtin.zeroCells z.cells (l + 1)).toList.length ≤ m) :
    ValOk P o f s (.tuple #[]) ⟨s.h.set (.cells (writeF (Builtin.zeroCells z.cells (l + 1)).toList tr k) m e2 sz fz) n, s.nx⟩ := by
  refine valOk_of (sem := fun ev => Builtin.clear_ c.argTypes o.type #[ev x]) (fun ev => clear_run ho hc ha ev) (fun ρ w a hr hf => ?_)
  have hp := evO_sound hf hx
  obtain ⟨u, hu2⟩ : ∃ u, a.eval x = u := ⟨_, rfl⟩
  rw [hu2] at hp
  cases hp
  obtain ⟨w', hw, st⟩ := storeCells_sim P (o := k) (Builtin.zeroCells z.cells (l + 1)).toList (Builtin.zeroCells z.cells (l + 1)).toList 0 tr s.h.get w hr hn rfl (fun j p q hp hq => by
    obtain rfl := Option.some.inj (hp.symm.trans hq)
    exact flat_vr (List.all_eq_true.1 hfl p (List.mem_of_getElem? hp))) (fun p hp => List.all_eq_true.1 h1 p hp) (by omega) (by omega)
  refine ⟨ρ, w', .tuple #[], ?_, st.less get_updH, .tuple _ _ rfl (fun i x y hx => by simp at hx)⟩
  have e0 : (#[Value.slice (some ((ρ n).at k)) (l + 1) (cp + (ρ n).e)] : Array Value)[0]? = some (.slice (some ((ρ n).at k)) (l + 1) (cp + (ρ n).e)) := rfl
  simp only [hu2, Builtin.clear_, ht, e0, Sem.run_bind, run_und hu, Result.andThen_ok, run_zero hi hz, hw, Sem.run_pure]
end
end Go.Proofs.YtnjabndkaabogaaGreatDoor.Ev
namespace Go.Proofs.YtnjabndkaabogaaGreatDoor.Ev
open Go
noncomputable def bytesS (v : Value) (r : Option (List UInt8)) : Option (List UInt8) := match v with
  | .int .u8 (.ofNat n) => match Nat.ble n 255 with
    | true => Option.rec (motive := fun _ => Option (List UInt8)) none (fun l => some (UInt8.ofNat n :: l)) r
    | false => none
  | _ => none
noncomputable def bytesV (vs : List Value) : Option (List UInt8) := List.rec (motive := fun _ => Option (List UInt8)) (some []) (fun v _ ih => bytesS v ih) vs
theorem bytesV_is : ∀ {vs : List Value} {l : List UInt8}, bytesV vs = some l → vs = l.map fun x => .int .u8 x.toNat
  | [], l, h => by
    obtain rfl := Option.some.inj (show some [] = some l from h)
    rfl
  | v :: vs, l, h => by
    change bytesS v (bytesV vs) = some l at h
    unfold bytesS at h
    split at h
    · rename_i n
      split at h
      · rename_i hn
        have hn := Nat.le_of_ble_eq_true hn
        rcases hb : bytesV vs with _ | r
        · rw [hb] at h
          cases h
        · rw [hb] at h
          obtain rfl := Option.some.inj (show some (UInt8.ofNat n :: r) = some l from h)
          rw [bytesV_is hb, List.map_cons]
          congr 2
          have : (UInt8.ofNat n).toNat = n := by
            rw [UInt8.toNat_ofNat']
            exact Nat.mod_eq_of_lt (by omega)
          rw [this]
          rfl
      · cases h
    · cases h
theorem rowAt_mono (P : Program) (fits : TypeId → Bool) : ∀ (d : Nat) (e : TypeId) (c c' off n : Nat), c ≤ c' → rowAt P fits d e c off n = true → rowAt P fits d e c' off n = true
  | 0, _, _, _, _, _, _, h => h
  | d + 1, e, c, c', off, n, hc, h => by
    unfold rowAt at h ⊢
    by_cases hs : P.cellsOf e = 0
    · simp [hs] at h
    · simp only [hs, if_false] at h ⊢
      rw [Bool.or_eq_true] at h ⊢
      rcases h with h | h
      · refine .inl ?_
        simp only [Bool.and_eq_true, decide_eq_true_iff] at h ⊢
        exact ⟨⟨h.1.1, by omega⟩, h.2⟩
      · refine .inr ?_
        simp only [Bool.and_eq_true, decide_eq_true_iff] at h ⊢
        exact ⟨by omega, h.2⟩
theorem liesAt_mono (P : Program) : ∀ (d : Nat) (e : TypeId) (c c' off : Nat) (u : TypeId) (n : Nat), c ≤ c' → liesAt P d e c off u n = true → liesAt P d e c' off u n = true
  | 0, _, _, _, _, _, _, _, h => h
  | d + 1, e, c, c', off, u, n, hc, h => by
    unfold liesAt at h ⊢
    rw [Bool.or_eq_true] at h ⊢
    rcases h with h | h
    · exact .inl (rowAt_mono P _ _ e c c' off n hc h)
    · refine .inr ?_
      split at h
      · exact liesAt_mono P d e c c' off _ _ hc h
      · cases h
theorem lies_bytes {P : Program} {e : TypeId} (hc : P.cellsOf e = 1) (count off n : Nat) (hn : off + n ≤ count) : liesAt P P.depth e count off e n = true := by
  have hd : P.depth = (2 * (P.types.size + Made.depth) + 1) + 1 := rfl
  rw [hd]
  simp only [liesAt, Bool.or_eq_true]
  left
  rw [hd]
  simp [rowAt, hc, hn, sameLayout, Nat.mod_one]
theorem shape_cells {w : World} {b : Nat} {cs : Array Value} {e : TypeId} {fr : Nat × Nat} (h : w.heap[b]? = some (.cells cs e fr)) : w.shape? b = some (e, cs.size) := by simp [World.shape?, h]
section
variable {P : Program} {o : Oper} {f : T Value} {s s' : St} {v : Value}
theorem conv_run {a b : TypeId} {x : Operand} (ho : o.op = .convert a b x) (ev : Operand → Value) : execOp ev o = (do pure (.value (← convert a b (ev x)))) := by unfold execOp; rw [ho]
theorem toUnsafe_ok {a b t : TypeId} {x : Operand} {j : TypeInfo} {n k m sz fz : Nat} {tr : T Value} {e : TypeId} (ho : o.op = .convert a b x) (hs : P.underlying a = some (.pointer t)) (hd : P.underlying b = some .unsafePointer) (ht : P.info? t = some j) (hj : j.size ≠ 0) (hx : evO f x = some (.pointer (some ⟨n, k, none⟩))) (hn : s.h.get n = some (.cells tr m e sz fz)) (hk : k < m) :
    QOk P o f s (.pointer (some ⟨n, k, none⟩)) := by
  refine qOk_of (sem := fun ev => convert a b (ev x)) (conv_run ho) (fun ρ w c hr hf => ?_)
  have hp := evO_sound hf hx
  obtain ⟨u, hu2⟩ : ∃ u, c.eval x = u := ⟨_, rfl⟩
  rw [hu2] at hp
  cases hp
  rename_i hlt
  obtain ⟨_, cs, fr, _, h1, h2, _, _⟩ := hr.obj n _ hn
  refine ⟨.pointer (some ((ρ n).at k)), ?_, .ptr n k hlt⟩
  rw [hu2]
  exact Lib.run_to_unsafe w ((ρ n).at k) hs hd ht hj (shape_cells (b := ((ρ n).at k).block) h1) (by show (ρ n).s + k < cs.size; omega)
theorem fromUnsafe_ok {a b t : TypeId} {x : Operand} {j : TypeInfo} {n k m fz : Nat} {tr : T Value} {e : TypeId} (ho : o.op = .convert a b x) (hs : P.underlying a = some .unsafePointer) (hd : P.underlying b = some (.pointer t)) (ht : P.info? t = some j) (hx : evO f x = some (.pointer (some ⟨n, k, none⟩))) (hn : s.h.get n = some (.cells tr m e 0 fz)) (hl : liesAt P P.depth e (m / P.cellsOf e) k t 1 = true) :
    QOk P o f s (.pointer (some ⟨n, k, none⟩)) := by
  refine qOk_of (sem := fun ev => convert a b (ev x)) (conv_run ho) (fun ρ w c hr hf => ?_)
  have hp := evO_sound hf hx
  obtain ⟨u, hu2⟩ : ∃ u, c.eval x = u := ⟨_, rfl⟩
  rw [hu2] at hp
  cases hp
  rename_i hlt
  obtain ⟨_, cs, fr, hs0, h1, h2, _, _⟩ := hr.obj n _ hn
  have h0 := hs0 rfl
  refine ⟨.pointer (some ((ρ n).at k)), ?_, .ptr n k hlt⟩
  rw [hu2]
  refine Lib.run_from_unsafe w ((ρ n).at k) hs hd ht (shape_cells (b := ((ρ n).at k).block) h1) ?_
  show liesAt P P.depth e (cs.size / P.cellsOf e) ((ρ n).s + k) t 1 = true
  rw [h0, Nat.zero_add]
  exact liesAt_mono P _ e _ _ _ _ _ (Nat.div_le_div_right (by omega)) hl
theorem bytes_read {ρ : Nat → Nm} {w : World} (hr : SR ρ s w) {n k m sz fz l : Nat} {tr : T Value} {e : TypeId} {vs : List Value} {bs : List UInt8} (hn : s.h.get n = some (.cells tr m e sz fz)) (hk : k + l ≤ m) (hv : readF tr k l = some vs) (hb : bytesV vs = some bs) :
    bs.length = l ∧ (∀ (j : Nat) (x : UInt8), bs[j]? = some x → w.cell? (((ρ n).at k).add j) = some (.int .u8 x.toNat)) := by
  obtain ⟨us, h1, h2, h3⟩ := readF_sound hr hn l k vs hk hv
  have e1 := bytesV_is hb
  have hl : vs.length = l := (readF_get _ _ _ _ hv).1
  refine ⟨by rw [e1, List.length_map] at hl; exact hl, fun j x hx => ?_⟩
  have h4 : vs.toArray[j]? = some (.int .u8 x.toNat) := by
    rw [e1]
    simp [hx]
  obtain ⟨u, hu, hvu⟩ := h3.at h4
  have : u = .int .u8 x.toNat := by cases hvu; rfl
  subst this
  exact h2 j _ (by simpa using hu)
theorem push_bytes : ∀ (bs : List UInt8) (r : ByteArray), (bs.map fun x => (x.toNat : Int)).foldl (fun r n => r.push (UInt8.ofNat n.toNat)) r = ⟨r.data ++ bs.toArray⟩
  | [], r => by
    apply ByteArray.ext
    simp
  | x :: bs, r => by
    rw [List.map_cons, List.foldl_cons, push_bytes bs]
    apply ByteArray.ext
    simp [ByteArray.push]
theorem bytesStr_ok {a b t : TypeId} {x : Operand} {n k m sz fz l cp : Nat} {sp : Option Nat} {tr : T Value} {e : TypeId} {vs : List Value} {bs : List UInt8} (ho : o.op = .convert a b x) (hs : P.underlying a = some (.slice t)) (hd : P.underlying b = some .string) (ht : P.underlying t = some (.int .u8)) (hx : evO f x = some (.slice (some ⟨n, k, sp⟩) l cp)) (hsp : sp = none ∨ sp = some 0) (hn : s.h.get n = some (.cells tr m e sz fz)) (hk : k + l ≤ m) (hv : readF tr k l = some vs) (hb : bytesV vs = some bs) :
    QOk P o f s (.string ⟨bs.toArray⟩) := by
  refine qOk_of (sem := fun ev => convert a b (ev x)) (conv_run ho) (fun ρ w c hr hf => ?_)
  have hp := evO_sound hf hx
  obtain ⟨u, hu2⟩ : ∃ u, c.eval x = u := ⟨_, rfl⟩
  rw [hu2] at hp
  obtain ⟨hl, hc⟩ := bytes_read hr hn hk hv hb
  have hrun : ∀ c', (convert a b (.slice (some ((ρ n).at k)) l c')).run P w = .ok (.string ⟨bs.toArray⟩) w := fun c' => by
    have h1 : (convert a b (.slice (some ((ρ n).at k)) l c')).run P w = (Conv.bytesToString (.slice (some ((ρ n).at k)) l c')).run P w := by
      simp only [convert, Sem.run_bind, run_und hs, run_und hd, run_und ht, Result.andThen_ok]
    rw [h1]
    have h2 : (loadCells ((ρ n).at k) l).run P w = .ok ((bs.map fun x => (x.toNat : Int)).map (Value.int .u8)).toArray w := by
      have := run_loadCells_list (P := P) w ((ρ n).at k) (bs.map fun x => Value.int .u8 x.toNat) (fun j u hu => by
        rw [List.getElem?_map] at hu
        rcases hx : bs[j]? with _ | y
        · rw [hx] at hu
          cases hu
        · rw [hx] at hu
          obtain rfl := Option.some.inj hu
          exact hc j y hx)
      rw [List.length_map, hl] at this
      rw [this, List.map_map]
      rfl
    rw [run_bytesToString w _ l c' _ h2, push_bytes]
    simp
  refine ⟨.string ⟨bs.toArray⟩, ?_, .string _⟩
  rw [hu2]
  rcases hsp with rfl | rfl
  · cases hp
    exact hrun _
  · cases hp
    exact hrun _
theorem sliceData_ok {c : Call} {x : Operand} {n k l cp : Nat} (ho : o.op = .call c) (hc : c.callee = .builtin .unsafeSliceData) (ha : c.args = #[x]) (hx : evO f x = some (.slice (some ⟨n, k, none⟩) l (cp + 1))) : QOk P o f s (.pointer (some ⟨n, k, none⟩)) := by
  refine qOk_of (sem := fun ev => Builtin.unsafeSliceData_ c.argTypes o.type #[ev x]) (fun ev => ?_) (fun ρ w a hr hf => ?_)
  · rw [builtin_run ho hc ev, ha, map1 ev]
    rfl
  · have hp := evO_sound hf hx
    obtain ⟨u, hu2⟩ : ∃ u, a.eval x = u := ⟨_, rfl⟩
    rw [hu2] at hp
    cases hp
    rename_i hlt
    refine ⟨.pointer (some ((ρ n).at k)), ?_, .ptr n k hlt⟩
    rw [hu2]
    exact Lib.run_unsafeSliceData_row w _ _ _ _ _ (by omega)
end
end Go.Proofs.YtnjabndkaabogaaGreatDoor.Ev
namespace Go.Proofs.YtnjabndkaabogaaGreatDoor.Ev
open Go
section
variable {P : Program}
theorem run_unsafeString_at (w : World) {ats : Array TypeId} {pt ty e : TypeId} (ht : ats[0]? = some pt) (hp : P.underlying pt = some (.pointer e)) (hc : P.cellsOf e = 1) (a : Addr) (cells : Nat) (hsh : w.shape? a.block = some (e, cells)) (l : List UInt8) (h0 : l ≠ []) (hn : a.off + l.length ≤ cells) (h63 : l.length ≤ 9223372036854775807)
    (hcell : ∀ (j : Nat) (x : UInt8), l[j]? = some x → w.cell? (a.add j) = some (.int .u8 x.toNat)) :
    (Builtin.unsafeString_ ats ty #[.pointer (some a), .int .i64 l.length]).run P w = .ok (.string ⟨l.toArray⟩) (w.freeze a l.length) := by
  have hl : l.length ≠ 0 := by simpa using h0
  have hlb := Lib.run_loadBytes (P := P) w l a .empty hcell
  have hlies := lies_bytes (P := P) hc (cells / P.cellsOf e) a.off l.length (by rw [hc]; simpa using hn)
  have h63' : ¬ (9223372036854775807 : Int) < (l.length : Int) := by omega
  have hdef : Builtin.unsafeString_ ats ty #[.pointer (some a), .int .i64 l.length] =
      (do
        let n ← asInt (.int .i64 l.length)
        let some pt := ats[0]? | stuck "unsafe.String: no argument types"
        if n < 0 then runtimePanic (.error "unsafe.String: len out of range")
        if n > IntKind.i64.max then unsupported (.unsafePointer "String: a length above the largest int")
        if n = 0 then pure (.string .empty)
        else if ← variablesAt a (← elemOf pt) n.toNat then do
          let s ← loadBytes a .empty n.toNat
          freeze a n.toNat
          pure (.string s)
        else unsupported (.unsafePointer "String: not so many bytes at ptr")) := rfl
  rw [hdef]
  have hmax : IntKind.i64.max = 9223372036854775807 := rfl
  have hneg : ¬ (l.length : Int) < 0 := by omega
  simp [ht, asInt, asIntOf, hmax, h63', hneg, hl, variablesAt, hsh, elemOf, run_underlying hp, hlies, hlb]
theorem freeze_at {w : World} {a : Addr} {n : Nat} {cs : Array Value} {e : TypeId} {fr : Nat × Nat} (h : w.heap[a.block]? = some (.cells cs e fr)) (hn : n ≠ 0) : (w.freeze a n).heap[a.block]? = some (.cells cs e (if fr.1 == fr.2 then (a.off, a.off + n) else (min fr.1 a.off, max fr.2 (a.off + n)))) := by
  unfold World.freeze
  rw [if_neg hn]
  simp only [Array.getElem?_modify, h]
  rfl
theorem freeze_not {w : World} {a : Addr} {n k : Nat} (h : k ≠ a.block) : (w.freeze a n).heap[k]? = w.heap[k]? := by
  unfold World.freeze
  split
  · rfl
  · simp only [Array.getElem?_modify]
    rw [if_neg (Ne.symm h)]
theorem freeze_size (w : World) (a : Addr) (n : Nat) : (w.freeze a n).heap.size = w.heap.size := by
  unfold World.freeze
  split
  · rfl
  · simp
theorem freeze_rest (w : World) (a : Addr) (n : Nat) : (w.freeze a n).os = w.os ∧ (w.freeze a n).tape = w.tape ∧ (w.freeze a n).output = w.output := by
  unfold World.freeze
  split <;> exact ⟨rfl, rfl, rfl⟩
theorem HR.freeze {ρ : Nat → Nm} {nx : Nat} {H : Nat → Option AO} {w : World} (h : HR ρ nx H w) {n k m sz fz l : Nat} {t : Go.Proofs.YtnjabndkaabogaaGreatDoor.Ev.T Value} {e : TypeId} (hn : H n = some (.cells t m e sz fz)) (hl : l ≠ 0) :
    Step ρ nx H w ρ nx (updH H n (some (.cells t m e sz (max fz (k + l))))) (w.freeze ((ρ n).at k) l) := by
  obtain ⟨hnx, cs, fr, hs0, h1, h2, h3, h4⟩ := h.obj n _ hn
  have hat := freeze_at (a := (ρ n).at k) h1 hl
  obtain ⟨f1, f2, f3⟩ := freeze_rest w ((ρ n).at k) l
  refine ⟨Ext.refl _ _, ⟨fun q o' hq => ?_, fun q q' o1 o2 hq hq' he => ?_⟩, ⟨f1, f2, f3, Nat.le_of_eq (freeze_size _ _ _).symm, fun j _ hj => freeze_not (fun e => hj n _ hn e.symm)⟩, fun q o' hq => ?_⟩
  · rcases updH_get hq with ⟨rfl, e0⟩ | ⟨hne, hq⟩
    · obtain rfl := Option.some.inj e0
      refine ⟨hnx, cs, _, hs0, hat, h2, h3, ?_⟩
      by_cases hf : (fr.1 == fr.2) = true
      · rw [if_pos hf]
        show (ρ q).s + k + l ≤ _
        omega
      · rw [if_neg hf]
        show max fr.2 ((ρ q).s + k + l) ≤ _
        omega
    · have h5 := h.obj q _ hq
      refine ⟨h5.1, ?_⟩
      rw [freeze_not (fun e => hne (h.inj q n _ _ hq hn e))]
      exact h5.2
  · have back : ∀ {m' o'}, updH H n (some (.cells t m e sz (max fz (k + l)))) m' = some o' → ∃ o2, H m' = some o2 := fun {m' o'} hm => by
      rcases updH_get hm with ⟨rfl, _⟩ | ⟨_, hm⟩
      · exact ⟨_, hn⟩
      · exact ⟨_, hm⟩
    obtain ⟨p1, hp1⟩ := back hq
    obtain ⟨p2, hp2⟩ := back hq'
    exact h.inj _ _ _ _ hp1 hp2 he
  · rcases updH_get hq with ⟨rfl, _⟩ | ⟨_, hq⟩
    · exact .inr ⟨q, _, hn, rfl⟩
    · exact .inr ⟨q, _, hq, rfl⟩
end
section
variable {P : Program} {o : Oper} {f : T Value} {s s' : St} {v : Value}
theorem unsafeStr_ok {c : Call} {x y : Operand} {pt e : TypeId} {n k m sz fz l : Nat} {tr : T Value} {vs : List Value} {bs : List UInt8} (ho : o.op = .call c) (hc : c.callee = .builtin .unsafeString) (ha : c.args = #[x, y]) (ht : c.argTypes[0]? = some pt) (hp : P.underlying pt = some (.pointer e)) (h1 : P.cellsOf e = 1) (hx : evO f x = some (.pointer (some ⟨n, k, none⟩))) (hy : evO f y = some (.int .i64 (.ofNat l)))
    (hn : s.h.get n = some (.cells tr m e sz fz)) (h0 : l ≠ 0) (hl : l ≤ 1048576) (hk : k + l ≤ m) (hv : readF tr k l = some vs) (hb : bytesV vs = some bs) : ValOk P o f s (.string ⟨bs.toArray⟩) ⟨s.h.set (.cells tr m e sz (max fz (k + l))) n, s.nx⟩ := by
  refine valOk_of (sem := fun ev => Builtin.unsafeString_ c.argTypes o.type #[ev x, ev y]) (fun ev => ?_) (fun ρ w a hr hf => ?_)
  · rw [builtin_run ho hc ev, ha, map2 ev]
    rfl
  · have hp1 := evO_sound hf hx
    have hp2 := evO_sound hf hy
    obtain ⟨u, hu2⟩ : ∃ u, a.eval x = u := ⟨_, rfl⟩
    obtain ⟨z, hz2⟩ : ∃ u, a.eval y = u := ⟨_, rfl⟩
    rw [hu2] at hp1
    rw [hz2] at hp2
    cases hp1
    cases hp2
    obtain ⟨hlen, hcell⟩ := bytes_read hr hn hk hv hb
    obtain ⟨_, cs, fr, hs0, g1, g2, g3, g4⟩ := hr.obj n _ hn
    subst hlen
    refine ⟨ρ, w.freeze ((ρ n).at k) bs.length, .string ⟨bs.toArray⟩, ?_, (hr.freeze (k := k) hn h0).less get_updH, .string _⟩
    rw [hu2, hz2]
    exact run_unsafeString_at w ht hp h1 ((ρ n).at k) cs.size (shape_cells (b := ((ρ n).at k).block) g1) bs (fun e => h0 (by rw [e]; rfl)) (by show (ρ n).s + k + bs.length ≤ cs.size; omega) (by omega) hcell
theorem unsafeStr0_ok {c : Call} {x y : Operand} {pt : TypeId} {p : Option Addr} (ho : o.op = .call c) (hc : c.callee = .builtin .unsafeString) (ha : c.args = #[x, y]) (ht : c.argTypes[0]? = some pt) (hx : evO f x = some (.pointer p)) (hy : evO f y = some (.int .i64 0)) : QOk P o f s (.string .empty) := by
  refine qOk_of (sem := fun ev => Builtin.unsafeString_ c.argTypes o.type #[ev x, ev y]) (fun ev => ?_) (fun ρ w a hr hf => ?_)
  · rw [builtin_run ho hc ev, ha, map2 ev]
    rfl
  · have hp1 := evO_sound hf hx
    have hp2 := evO_sound hf hy
    obtain ⟨u, hu2⟩ : ∃ u, a.eval x = u := ⟨_, rfl⟩
    obtain ⟨z, hz2⟩ : ∃ u, a.eval y = u := ⟨_, rfl⟩
    rw [hu2] at hp1
    rw [hz2] at hp2
    refine ⟨.string .empty, ?_, .string _⟩
    rw [hu2, hz2]
    have hmax : IntKind.i64.max = 9223372036854775807 := rfl
    cases hp2
    have key : ∀ p : Option Addr, (Builtin.unsafeString_ c.argTypes o.type #[.pointer p, .int .i64 0]).run P w = .ok (.string .empty) w := fun p => by
      cases p with
      | none =>
        have hdef : Builtin.unsafeString_ c.argTypes o.type #[.pointer none, .int .i64 0] =
            (do
              let n ← asInt (.int .i64 0)
              let some pt := c.argTypes[0]? | stuck "unsafe.String: no argument types"
              if n < 0 then runtimePanic (.error "unsafe.String: len out of range")
              if n > IntKind.i64.max then unsupported (.unsafePointer "String: a length above the largest int")
              if n = 0 then pure (.string .empty)
              else runtimePanic (.error "unsafe.String: ptr is nil and len is not zero")) := rfl
        rw [hdef]
        simp [ht, asInt, asIntOf, hmax]
      | some a =>
        have hdef : Builtin.unsafeString_ c.argTypes o.type #[.pointer (some a), .int .i64 0] =
            (do
              let n ← asInt (.int .i64 0)
              let some pt := c.argTypes[0]? | stuck "unsafe.String: no argument types"
              if n < 0 then runtimePanic (.error "unsafe.String: len out of range")
              if n > IntKind.i64.max then unsupported (.unsafePointer "String: a length above the largest int")
              if n = 0 then pure (.string .empty)
              else if ← variablesAt a (← elemOf pt) n.toNat then do
                let s ← loadBytes a .empty n.toNat
                freeze a n.toNat
                pure (.string s)
              else unsupported (.unsafePointer "String: not so many bytes at ptr")) := rfl
        rw [hdef]
        simp [ht, asInt, asIntOf, hmax]
    cases hp1 with
    | nilPtr => exact key _
    | ptr => exact key _
theorem find_noEscape (fn : Func) (h1 : fn.name = "internal/abi.NoEscape") (h2 : fn.origin = "") : Extern.findNext fn = none ∧ Extern.find fn = some Extern.AbiNoEscape.same := by
  have a1 : Extern.allNextRows.lookup "internal/abi.NoEscape" = none := by kernel_rfl
  have a2 : Extern.allNextRows.lookup "" = none := by kernel_rfl
  have a3 : Extern.allGenericRows.lookup "internal/abi.NoEscape" = none := by kernel_rfl
  have a4 : Extern.allTypedRows.lookup "internal/abi.NoEscape" = none := by kernel_rfl
  have a5 : Extern.allRows.lookup "internal/abi.NoEscape" = some Extern.AbiNoEscape.same := by kernel_rfl
  constructor
  · simp only [Extern.findNext, h1, h2, a1, a2]
    rfl
  · simp only [Extern.find, h1, a3, a4, a5]
    rfl
theorem find_makeNZ (fn : Func) (h1 : fn.name = "internal/bytealg.MakeNoZero") (h2 : fn.origin = "") : Extern.findNext fn = none ∧ Extern.find fn = some (Extern.BytealgMakeNoZero.makeNoZero fn.params fn.resultTypes) := by
  have a1 : Extern.allNextRows.lookup "internal/bytealg.MakeNoZero" = none := by kernel_rfl
  have a2 : Extern.allNextRows.lookup "" = none := by kernel_rfl
  have a3 : Extern.allGenericRows.lookup "internal/bytealg.MakeNoZero" = none := by kernel_rfl
  have a4 : Extern.allTypedRows.lookup "internal/bytealg.MakeNoZero" = some Extern.BytealgMakeNoZero.makeNoZero := by kernel_rfl
  constructor
  · simp only [Extern.findNext, h1, h2, a1, a2]
    rfl
  · simp only [Extern.find, h1, a3, a4]
    rfl
noncomputable def extIs (P : Program) (g : FuncId) (name : String) : Option Func := match nth P.funcs.toList g with
  | some fn => match fn.name == name && fn.origin == "" && fn.body.isNone with
    | true => some fn
    | false => none
  | none => none
theorem extIs_is {g : FuncId} {name : String} {fn : Func} (h : extIs P g name = some fn) : P.funcs[g]? = some fn ∧ fn.name = name ∧ fn.origin = "" ∧ fn.body.isNone = true := by
  unfold extIs at h
  split at h
  · rename_i fn' hfn
    have hfn := fn_get hfn
    split at h
    · rename_i hc
      obtain rfl := Option.some.inj h
      simp only [Bool.and_eq_true, beq_iff_eq] at hc
      exact ⟨hfn, hc.1.1, hc.1.2, hc.2⟩
    · cases h
  · cases h
theorem callExt_run {c : Call} {x : Operand} {g : FuncId} {fs cs : Array Value} (ho : o.op = .call c) (hc : c.callee = .value x) {a : Act} (hx : a.eval x = .func (.func g) fs cs) (w : World) : (execOp a.eval o).run P w = (callFunc g (fs ++ c.args.map a.eval ++ cs)).run P w := by
  rw [call_run a.eval ho]
  have hres : resolve a.eval c o.type = pure { target := .fn (.func g) cs, args := fs ++ c.args.map a.eval } := by
    unfold resolve
    rw [hc]
    simp only [hx]
    rfl
  rw [hres]
  rfl
theorem func_nil {ρ : Nat → Nm} {nx : Nat} {g : FuncId} {u : Value} (h : VR ρ nx (.func (.func g) #[] #[]) u) : u = .func (.func g) #[] #[] := by
  cases h with
  | func _ _ _ a' b' _ h1 h2 =>
    rw [Array.eq_empty_of_size_eq_zero h1.symm, Array.eq_empty_of_size_eq_zero h2.symm]
theorem noEscape_ok {c : Call} {x y : Operand} {g : FuncId} {fn : Func} (ho : o.op = .call c) (hc : c.callee = .value x) (ha : c.args = #[y]) (hx : evO f x = some (.func (.func g) #[] #[])) (hg : extIs P g "internal/abi.NoEscape" = some fn) (hy : evO f y = some v) : QOk P o f s v := fun ρ w a hr hf => by
  have hq := func_nil (evO_sound hf hx)
  obtain ⟨e1, e2, e3, e4⟩ := extIs_is hg
  obtain ⟨n1, n2⟩ := find_noEscape fn e2 e3
  refine ⟨a.eval y, ?_, evO_sound hf hy⟩
  rw [callExt_run ho hc hq, ha, map1, Array.empty_append, Array.append_empty, run_callFunc_extern e1 (by rw [e2]; kernel_rfl) e4 n1 n2]
  rfl
theorem makeNZ_ok {c : Call} {x y : Operand} {g : FuncId} {fn : Func} {t elem : TypeId} {l : Nat} (ho : o.op = .call c) (hc : c.callee = .value x) (ha : c.args = #[y]) (hx : evO f x = some (.func (.func g) #[] #[])) (hg : extIs P g "internal/bytealg.MakeNoZero" = some fn) (hr1 : fn.resultTypes = #[t]) (hu : P.underlying t = some (.slice elem)) (hl : l ≤ 1048576) (hy : evO f y = some (.int .i64 (.ofNat l))) :
    ValOk P o f s (.slice (some ⟨s.nx, 0, none⟩) l l) (s.new (.cells .leaf l elem 1 0)) := fun ρ w a hr hf => by
  have hq := func_nil (evO_sound hf hx)
  have hp2 := evO_sound hf hy
  obtain ⟨z, hz2⟩ : ∃ u, a.eval y = u := ⟨_, rfl⟩
  rw [hz2] at hp2
  cases hp2
  obtain ⟨e1, e2, e3, e4⟩ := extIs_is hg
  obtain ⟨n1, n2⟩ := find_makeNZ fn e2 e3
  obtain ⟨cs, hrun, hle, _⟩ := Lib.run_makeNoZero (P := P) w fn.params t elem hu l (by omega)
  have hO : OR (upd ρ s.nx ⟨w.heap.size, 0, cs.size - l⟩) (s.nx + 1) ⟨w.heap.size, 0, cs.size - l⟩ (.cells .leaf l elem 1 0) (some (.cells cs elem)) := ⟨cs, (0, 0), fun _ => rfl, rfl, by simp only; omega, fun i v _ hv => (by cases hv), Nat.zero_le _⟩
  have st := newAt hr _ _ ⟨w.heap.size, 0, cs.size - l⟩ rfl hO (w.drawn + 2)
  have hsl := sl_at (ρ := ρ) (nx := s.nx) (l := l) (c := l) (b := w.heap.size) (s := 0) (e := cs.size - l)
  rw [show l + (cs.size - l) = cs.size by omega] at hsl
  refine ⟨_, _, _, ?_, st.less get_updH, hsl⟩
  rw [callExt_run ho hc hq, ha, map1, Array.empty_append, Array.append_empty, run_callFunc_extern e1 (by rw [e2]; kernel_rfl) e4 n1 n2, hr1, hz2]
  show ((Extern.BytealgMakeNoZero.makeNoZero fn.params #[t] #[.int .i64 l]).run P w).andThen _ = _
  rw [hrun]
  rfl
noncomputable def extFlat (P : Program) (g : FuncId) (vs : List Value) : Option Value := match nth P.funcs.toList g with
  | some fn => match !(fn.name == "runtime.NumGoroutine") && (fn.body.isNone && ((Extern.findNext fn).isNone && vs.all flat)), Extern.find fn with
    | true, some e => match runPure P (e vs.toArray) with
      | some v => match flat v with
        | true => some v
        | false => none
      | none => none
    | _, _ => none
  | none => none
theorem extFlat_ok {c : Call} {x : Operand} {g : FuncId} {vs : List Value} (ho : o.op = .call c) (hc : c.callee = .value x) (hx : evO f x = some (.func (.func g) #[] #[])) (ha : evAll f c.args.toList = some vs) (hg : extFlat P g vs = some v) : QOk P o f s v := fun ρ w a hr hf => by
  have hq := func_nil (evO_sound hf hx)
  have har := evAll_ar hf ha
  unfold extFlat at hg
  split at hg
  · rename_i fn hfn
    have hfn := fn_get hfn
    split at hg
    · rename_i e hcond hfind
      simp only [Bool.and_eq_true, Bool.not_eq_true', List.all_eq_true] at hcond
      obtain ⟨c1, c2, c3, c4⟩ := hcond
      split at hg
      · rename_i u hu
        split at hg
        · rename_i hfl
          obtain rfl := Option.some.inj hg
          refine ⟨u, ?_, flat_vr hfl⟩
          have hargs : c.args.map a.eval = vs.toArray := by
            have h1 := har.1
            apply Array.ext
            · exact h1.symm
            · intro i hi1 hi2
              have h2 := har.2 i vs.toArray[i] (c.args.map a.eval)[i] (Array.getElem?_eq_getElem hi2) (Array.getElem?_eq_getElem hi1)
              exact flat_eq (c4 _ (by simp)) h2
          have hn : Extern.findNext fn = none := by simpa using c3
          rw [callExt_run ho hc hq, hargs, Array.empty_append, Array.append_empty, run_callFunc_extern hfn c1 c2 hn hfind, runPure_run _ _ hu w]
          rfl
        · cases hg
      · cases hg
    · cases hg
  · cases hg
theorem copy_ok {c : Call} {x y : Operand} {t elem : TypeId} {inf : TypeInfo} {n k m e sz fz q dl dc : Nat} {sp : Option Nat} {tr : T Value} {u : Value} {vs : List Value} (ho : o.op = .call c) (hc : c.callee = .builtin .copy) (ha : c.args = #[x, y]) (ht : c.argTypes[0]? = some t) (hu : P.underlying t = some (.slice elem)) (hi : P.info? elem = some inf) (hx : evO f x = some (.slice (some ⟨n, k, sp⟩) dl dc)) (hsp : sp = none ∨ sp = some 0) (hy : evO f y = some u) (hs : srcA s inf.size u = some (q, vs)) (hq : q ≤ dl)
    (hn : s.h.get n = some (.cells tr m e sz fz)) (h1 : vs.all (·.oneCell') = true) (hz : fz ≤ k) (hk : k + q * inf.size ≤ m) : ValOk P o f s (.int .i64 q) ⟨s.h.set (.cells (writeF vs tr k) m e sz fz) n, s.nx⟩ := by
  refine valOk_of (sem := fun ev => Builtin.copy_ c.argTypes o.type #[ev x, ev y]) (fun ev => ?_) (fun ρ w a hr hf => ?_)
  · rw [builtin_run ho hc ev, ha, map2 ev]
    rfl
  · have hp := evO_sound hf hx
    have hv := evO_sound hf hy
    obtain ⟨b, hb⟩ : ∃ b, a.eval x = b := ⟨_, rfl⟩
    obtain ⟨g, hg⟩ : ∃ g, a.eval y = g := ⟨_, rfl⟩
    rw [hb] at hp
    rw [hg] at hv
    obtain ⟨r1, us, r2, r3, r4, r5⟩ := srcA_sim P hr hs hv
    obtain ⟨w', hw, st⟩ := storeCells_sim P (o := k) vs us 0 tr s.h.get w hr hn r2.symm (fun j p q hp hq => r5.2 j p q (by simpa using hp) (by simpa using hq)) (fun p hp => List.all_eq_true.1 h1 p hp) (by omega) (by omega)
    refine ⟨ρ, w', .int .i64 q, ?_, st.less get_updH, .int _ _⟩
    have hrun : ∀ cc, (Builtin.copy_ c.argTypes o.type #[.slice (some ((ρ n).at k)) dl cc, g]).run P w = .ok (.int .i64 q) w' := fun cc => by
      have e0 : (#[Value.slice (some ((ρ n).at k)) dl cc, g] : Array Value)[0]? = some (.slice (some ((ρ n).at k)) dl cc) := rfl
      have e1 : (#[Value.slice (some ((ρ n).at k)) dl cc, g] : Array Value)[1]? = some g := rfl
      have hmin : Nat.min q dl = q := Nat.min_eq_left hq
      simp only [Builtin.copy_, ht, e0, e1, Sem.run_bind, run_und hu, Result.andThen_ok, r1, hmin, run_siz hi, r4, hw, Sem.run_pure]
      rfl
    rw [hb, hg]
    rcases hsp with rfl | rfl
    · cases hp
      exact hrun _
    · cases hp
      exact hrun _
theorem sliceArr_ok {t e : TypeId} {N : Nat} {inf : TypeInfo} {x : Operand} {lo hi mx : Option Operand} {n k l h m : Nat} (ho : o.op = .slice t x lo hi mx) (hu : P.underlying t = some (.array N e)) (hi2 : P.info? e = some inf) (hx : evO f x = some (.pointer (some ⟨n, k, none⟩))) (hl : idxA f lo 0 = some l) (hh : idxA f hi N = some h) (hm : idxA f mx N = some m) (h1 : l ≤ h) (h2 : h ≤ m) (h3 : m ≤ N) (h4 : mx.isSome = true → hi.isSome = true) :
    QOk P o f s (cutFx n k inf.size l h m) := by
  refine qOk_of (sem := fun ev => Instr.sliceAt t (ev x) (lo.map ev) (hi.map ev) (mx.map ev)) (fun ev => slice_run ho ev) (fun ρ w a hr hf => ?_)
  have hp := evO_sound hf hx
  obtain ⟨u, hu2⟩ : ∃ u, a.eval x = u := ⟨_, rfl⟩
  rw [hu2] at hp
  cases hp
  rename_i hn
  have hb := bounds_run P hf (b := false) (len := N) (cap := N) hl hh hm h1 h2 h3 h4 w
  refine ⟨.slice (some (if m = l then (ρ n).at k else ((ρ n).at k).add (l * inf.size))) (h - l) (m - l), ?_, ?_⟩
  · simp only [hu2, Instr.sliceAt, Sem.run_bind, run_und hu, Result.andThen_ok, Instr.sureAddr, Sem.run_pure, hb, run_siz hi2]
  · unfold cutFx
    rcases hq : Nat.beq l m with _ | _
    · have hne : l ≠ m := Nat.ne_of_beq_eq_false hq
      rw [if_neg (by omega)]
      simp only [at_add]
      exact VR.fx n (k + l * inf.size) (h - l) (m - l) hn
    · obtain rfl := Nat.eq_of_beq_eq_true hq
      obtain rfl : l = h := by omega
      rw [if_pos rfl, Nat.sub_self]
      exact VR.fx n k 0 0 hn
end
end Go.Proofs.YtnjabndkaabogaaGreatDoor.Ev
namespace Go.Proofs.YtnjabndkaabogaaGreatDoor.Ev
open Go
inductive R where
  | fail (why : Nat)
  | normal (f : T Value) (s : St)
  | ret (f : T Value) (s : St)
  | exit (id : Nat) (f : T Value) (s : St)
inductive CR where
  | fail (why : Nat)
  | ok (v : Value) (s : St)
abbrev Cl := Bool → Nat → List Value → St → CR
abbrev K := Value → St → R
inductive Path where
  | bad
  | e
  | p0 (p : Path)
  | p1 (p : Path)
  | p2 (p : Path)
  | p3 (p : Path)
noncomputable def pathF (fuel : Nat) : Nat → Path :=
  Nat.rec (motive := fun _ => Nat → Path) (fun _ => .bad) (fun _ ih n => Nat.casesOn n .e (fun m => pick4 (Nat.mod m 4) (.p0 (ih (Nat.div m 4))) (.p1 (ih (Nat.div m 4))) (.p2 (ih (Nat.div m 4))) (.p3 (ih (Nat.div m 4))))) fuel
noncomputable def path (n : Nat) : Path := pathF 9 n
noncomputable def acc (p : Path) : T Value → Option Value :=
  Path.rec (motive := fun _ => T Value → Option Value) (fun _ => none) (fun t => T.rec (motive := fun _ => Option Value) none (fun o _ _ _ _ _ _ _ _ => o) t)
    (fun _ ih t => T.rec (motive := fun _ => Option Value) none (fun _ a _ _ _ _ _ _ _ => ih a) t)
    (fun _ ih t => T.rec (motive := fun _ => Option Value) none (fun _ _ b _ _ _ _ _ _ => ih b) t)
    (fun _ ih t => T.rec (motive := fun _ => Option Value) none (fun _ _ _ c _ _ _ _ _ => ih c) t)
    (fun _ ih t => T.rec (motive := fun _ => Option Value) none (fun _ _ _ _ d _ _ _ _ => ih d) t) p
noncomputable def putP (p : Path) (x : Value) : T Value → T Value :=
  Path.rec (motive := fun _ => T Value → T Value) (fun _ => .leaf) (fun t => T.rec (motive := fun _ => T Value) (.node (some x) .leaf .leaf .leaf .leaf) (fun _ a b c d _ _ _ _ => .node (some x) a b c d) t)
    (fun _ ih t => T.rec (motive := fun _ => T Value) (.node none (ih .leaf) .leaf .leaf .leaf) (fun o a b c d _ _ _ _ => .node o (ih a) b c d) t)
    (fun _ ih t => T.rec (motive := fun _ => T Value) (.node none .leaf (ih .leaf) .leaf .leaf) (fun o a b c d _ _ _ _ => .node o a (ih b) c d) t)
    (fun _ ih t => T.rec (motive := fun _ => T Value) (.node none .leaf .leaf (ih .leaf) .leaf) (fun o a b c d _ _ _ _ => .node o a b (ih c) d) t)
    (fun _ ih t => T.rec (motive := fun _ => T Value) (.node none .leaf .leaf .leaf (ih .leaf)) (fun o a b c d _ _ _ _ => .node o a b c (ih d)) t) p
noncomputable def ev (x : Operand) : T Value → Option Value :=
  Operand.rec (motive := fun _ => T Value → Option Value) (fun t => acc (path t)) (fun v _ => Bool.rec (motive := fun _ => Option Value) none (some v) (flat v)) (fun _ _ => none) (fun g _ => some (.func (.func g) #[] #[])) x
noncomputable def put (N : Nat) (d : Option Tmp) (v : Value) (f : T Value) : T Value :=
  Option.rec (motive := fun _ => T Value) f (fun d => Bool.rec (motive := fun _ => T Value) f (putP (path d) v f) (Nat.ble (Nat.succ d) N)) d
noncomputable def onO {α : Type} (why : Nat) (o : Option α) (k : α → R) : R := Option.rec (motive := fun _ => R) (.fail why) k o
noncomputable def onB (why : Nat) (b : Bool) (r : R) : R := Bool.rec (motive := fun _ => R) (.fail why) r b
noncomputable def onPtr (v : Value) (k : Nat → Nat → R) : R :=
  Value.casesOn (motive_1 := fun _ => R) v (fun _ => .fail 3) (fun _ _ => .fail 3) (fun _ _ => .fail 3) (fun _ _ _ => .fail 3) (fun _ => .fail 3)
    (fun a => Option.rec (motive := fun _ => R) (.fail 4) (fun a => Addr.rec (motive := fun _ => R) (fun n o q => Option.rec (motive := fun _ => R) (k n o) (fun _ => .fail 5) q) a) a)
    (fun _ _ _ => .fail 3) (fun _ => .fail 3) (fun _ => .fail 3) (fun _ _ _ => .fail 3) (.fail 3) (fun _ _ => .fail 3) (.fail 3) (fun _ => .fail 3) (fun _ => .fail 3)
noncomputable def onInt (v : Value) (k : IntKind → Int → R) : R :=
  Value.casesOn (motive_1 := fun _ => R) v (fun _ => .fail 6) k (fun _ _ => .fail 6) (fun _ _ _ => .fail 6) (fun _ => .fail 6) (fun _ => .fail 6)
    (fun _ _ _ => .fail 6) (fun _ => .fail 6) (fun _ => .fail 6) (fun _ _ _ => .fail 6) (.fail 6) (fun _ _ => .fail 6) (.fail 6) (fun _ => .fail 6) (fun _ => .fail 6)
noncomputable def onBool (v : Value) (k : Bool → R) : R :=
  Value.casesOn (motive_1 := fun _ => R) v k (fun _ _ => .fail 7) (fun _ _ => .fail 7) (fun _ _ _ => .fail 7) (fun _ => .fail 7) (fun _ => .fail 7)
    (fun _ _ _ => .fail 7) (fun _ => .fail 7) (fun _ => .fail 7) (fun _ _ _ => .fail 7) (.fail 7) (fun _ _ => .fail 7) (.fail 7) (fun _ => .fail 7) (fun _ => .fail 7)
noncomputable def onSl (v : Value) (k : Option Addr → Nat → Nat → R) : R :=
  Value.casesOn (motive_1 := fun _ => R) v (fun _ => .fail 8) (fun _ _ => .fail 8) (fun _ _ => .fail 8) (fun _ _ _ => .fail 8) (fun _ => .fail 8) (fun _ => .fail 8)
    k (fun _ => .fail 8) (fun _ => .fail 8) (fun _ _ _ => .fail 8) (.fail 8) (fun _ _ => .fail 8) (.fail 8) (fun _ => .fail 8) (fun _ => .fail 8)
noncomputable def onMap (v : Value) (k : Option Nat → R) : R :=
  Value.casesOn (motive_1 := fun _ => R) v (fun _ => .fail 9) (fun _ _ => .fail 9) (fun _ _ => .fail 9) (fun _ _ _ => .fail 9) (fun _ => .fail 9) (fun _ => .fail 9)
    (fun _ _ _ => .fail 9) k (fun _ => .fail 9) (fun _ _ _ => .fail 9) (.fail 9) (fun _ _ => .fail 9) (.fail 9) (fun _ => .fail 9) (fun _ => .fail 9)
noncomputable def onAgg (v : Value) (k : Array Value → R) : R :=
  Value.casesOn (motive_1 := fun _ => R) v (fun _ => .fail 10) (fun _ _ => .fail 10) (fun _ _ => .fail 10) (fun _ _ _ => .fail 10) (fun _ => .fail 10) (fun _ => .fail 10)
    (fun _ _ _ => .fail 10) (fun _ => .fail 10) (fun _ => .fail 10) (fun _ _ _ => .fail 10) (.fail 10) (fun _ _ => .fail 10) (.fail 10) k (fun _ => .fail 10)
noncomputable def onTup (v : Value) (k : Array Value → R) : R :=
  Value.casesOn (motive_1 := fun _ => R) v (fun _ => .fail 11) (fun _ _ => .fail 11) (fun _ _ => .fail 11) (fun _ _ _ => .fail 11) (fun _ => .fail 11) (fun _ => .fail 11)
    (fun _ _ _ => .fail 11) (fun _ => .fail 11) (fun _ => .fail 11) (fun _ _ _ => .fail 11) (.fail 11) (fun _ _ => .fail 11) (.fail 11) (fun _ => .fail 11) k
noncomputable def onFun (v : Value) (k : FuncId → Array Value → Array Value → R) (ky : Nat → R) : R :=
  Value.casesOn (motive_1 := fun _ => R) v (fun _ => .fail 12) (fun _ _ => .fail 12) (fun _ _ => .fail 12) (fun _ _ _ => .fail 12) (fun _ => .fail 12) (fun _ => .fail 12)
    (fun _ _ _ => .fail 12) (fun _ => .fail 12) (fun _ => .fail 12) (fun g a b => Fn.rec (motive := fun _ => R) (fun g => k g a b) (fun _ => .fail 12) (fun _ _ => .fail 12) (fun _ _ _ _ => .fail 12) ky g) (.fail 12) (fun _ _ => .fail 12) (.fail 12) (fun _ => .fail 12) (fun _ => .fail 12)
noncomputable def onIface (v : Value) (k : TypeId → Value → R) : R :=
  Value.casesOn (motive_1 := fun _ => R) v (fun _ => .fail 13) (fun _ _ => .fail 13) (fun _ _ => .fail 13) (fun _ _ _ => .fail 13) (fun _ => .fail 13) (fun _ => .fail 13)
    (fun _ _ _ => .fail 13) (fun _ => .fail 13) (fun _ => .fail 13) (fun _ _ _ => .fail 13) (.fail 13) k (.fail 13) (fun _ => .fail 13) (fun _ => .fail 13)
noncomputable def onCells (s : St) (n : Nat) (k : T Value → Nat → TypeId → Nat → Nat → R) : R :=
  onO 14 (s.h.get n) (fun a => AO.rec (motive := fun _ => R) k (fun _ _ => .fail 15) (fun _ _ => .fail 15) (fun _ _ _ _ => .fail 15) (fun _ _ _ _ _ => .fail 15) (fun _ => .fail 15) a)
noncomputable def onEnts (s : St) (n : Nat) (k : List MapEntry → Nat → R) : R :=
  onO 16 (s.h.get n) (fun a => AO.rec (motive := fun _ => R) (fun _ _ _ _ _ => .fail 17) k (fun _ _ => .fail 17) (fun _ _ _ _ => .fail 17) (fun _ _ _ _ _ => .fail 17) (fun _ => .fail 17) a)
noncomputable def onEntsP (s : St) (n : Nat) (k : List MapEntry → Nat → R) (kp : List MapEntry → R) : R :=
  onO 16 (s.h.get n) (fun a => AO.rec (motive := fun _ => R) (fun _ _ _ _ _ => .fail 17) k (fun _ _ => .fail 17) (fun _ _ _ _ => .fail 17) (fun _ _ _ _ _ => .fail 17) kp a)
noncomputable def onLoop (s : St) (n : Nat) (k : T Value → Nat → Array Tmp → Code → Code → R) : R :=
  onO 18 (s.h.get n) (fun a => AO.rec (motive := fun _ => R) (fun _ _ _ _ _ => .fail 19) (fun _ _ => .fail 19) (fun _ _ => .fail 19) (fun _ _ _ _ => .fail 19) k (fun _ => .fail 19) a)
noncomputable def forceN (n : Nat) (k : Nat → R) : R := Nat.rec (motive := fun _ => R) (k 0) (fun m _ => k (Nat.succ m)) n
noncomputable def forceT (t : T AO) (k : T AO → R) : R := T.rec (motive := fun _ => R) (k .leaf) (fun o a b c d _ _ _ _ => k (.node o a b c d)) t
noncomputable def newS (s : St) (a : AO) (k : Nat → St → R) : R :=
  St.rec (motive := fun _ => R) (fun h nx => forceN nx (fun nx => forceT (h.set a nx) (fun h => forceN (Nat.succ nx) (fun m => k nx ⟨h, m⟩)))) s
noncomputable def setS (s : St) (n : Nat) (a : AO) (k : St → R) : R :=
  St.rec (motive := fun _ => R) (fun h nx => forceT (h.set a n) (fun h => k ⟨h, nx⟩)) s
end Go.Proofs.YtnjabndkaabogaaGreatDoor.Ev
