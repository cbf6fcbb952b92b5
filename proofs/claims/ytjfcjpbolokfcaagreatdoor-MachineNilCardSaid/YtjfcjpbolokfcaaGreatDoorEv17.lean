/-
  An evaluator for closed runs: the operations (13: maps turned).
-/
import Derived.Test.YtjfcjpbolokfcaaGreatDoorEv16
namespace Go.Proofs.YtjfcjpbolokfcaaGreatDoor.Ev
open Go

section
variable {P : Program} {o : Oper} {f : T Value} {s s' : St} {v : Value}
theorem mapUpdate_run {t : TypeId} {m k x : Operand} (ho : o.op = .mapUpdate t m k x ∨ o.op = .insert t m k x) (ev : Operand → Value) : execOp ev o = (do Instr.mapUpdate t (ev m) (ev k) (ev x); pure .skip) := by
  unfold execOp
  rcases ho with ho | ho <;> rw [ho]
/-- A map's place in the model, its entries, and what its key is there. -/
structure MapT (P : Program) (f : T Value) (s : St) (t : TypeId) (m k : Operand) (kt et : TypeId) (kd : TypeDesc) (n clock : Nat) (es : List MapEntry) (kv : Value) (r : Option (Nat × Value)) : Prop where
  und : P.underlying t = some (.map kt et)
  kind : P.underlying kt = some kd
  evm : evO f m = some (.map (some n))
  here : s.h.get n = some (.map es clock)
  evk : evO f k = some kv
  flat : flat kv = true
  found : runPure P (Instr.findKey kt kv es) = some r
theorem MapT.sim {t : TypeId} {m k : Operand} {kt et : TypeId} {kd : TypeDesc} {n clock : Nat} {es : List MapEntry} {kv : Value} {r : Option (Nat × Value)} (T : MapT P f s t m k kt et kd n clock es kv r) {ρ : Nat → Nm} {w : World} {a : Act} (hr : SR ρ s w) (hf : FR ρ s.nx f a) :
    a.eval m = .map (some (ρ n).b) ∧ a.eval k = kv ∧ ∃ es' r', w.heap[(ρ n).b]? = some (.map es' clock) ∧ MR ρ s.nx es es'.toList ∧ es'.isEmpty = es.isEmpty ∧ (∀ w, (Instr.findKey kt kv es'.toList).run P w = .ok r' w) ∧ FoundR ρ s.nx r r' := by
  have hkv := flat_eq T.flat (evO_sound hf T.evk)
  have hp := evO_sound hf T.evm
  obtain ⟨u, hu2⟩ : ∃ u, a.eval m = u := ⟨_, rfl⟩
  rw [hu2] at hp
  cases hp
  obtain ⟨_, es', h1, h2⟩ := hr.obj n _ T.here
  obtain ⟨r', h3, h4⟩ := findKey_sim T.kind h2 T.found
  exact ⟨hu2, hkv, es', r', h1, h2, by rw [arr_empty, h2.empty], h3, h4⟩
theorem updateNew_ok {t : TypeId} {m k x : Operand} {kt et : TypeId} {kd : TypeDesc} {n clock : Nat} {es : List MapEntry} {kv : Value} (ho : o.op = .mapUpdate t m k x ∨ o.op = .insert t m k x) (T : MapT P f s t m k kt et kd n clock es kv none) (hck : runPure P (Instr.checkKey false 10000 kt kv) = some ()) (hx : evO f x = some v) :
    SkipOk P o f s ⟨s.h.set (.map (es ++ [⟨kv, v, clock⟩]) (clock + 1)) n, s.nx⟩ := by
  refine skipOk_of (sem := fun ev => Instr.mapUpdate t (ev m) (ev k) (ev x)) (fun ev => mapUpdate_run ho ev) (fun ρ w a hr hf => ?_)
  obtain ⟨hm, hk, es', r', h1, h2, h3, h4, h5⟩ := T.sim hr hf
  obtain rfl := h5
  obtain ⟨w', hw, st⟩ := hr.setMap (us := es'.push ⟨kv, a.eval x, clock⟩) (c' := clock + 1) (es' := es ++ [⟨kv, v, clock⟩]) T.here (by rw [Array.toList_push]; exact h2.push clock T.flat (evO_sound hf hx)) P
  refine ⟨ρ, w', ?_, st.less get_updH⟩
  simp only [hm, hk, Instr.mapUpdate, Sem.run_bind, run_und T.und, Result.andThen_ok, run_getObj P _ h1 (fun _ _ _ h => by cases h), runPure_run _ _ hck w, h4 w, hw]
theorem updateOld_ok {t : TypeId} {m k x : Operand} {kt et : TypeId} {kd : TypeDesc} {n clock i : Nat} {es : List MapEntry} {kv v0 : Value} {e0 : MapEntry} (ho : o.op = .mapUpdate t m k x ∨ o.op = .insert t m k x) (T : MapT P f s t m k kt et kd n clock es kv (some (i, v0))) (hck : runPure P (Instr.checkKey false 10000 kt kv) = some ()) (hx : evO f x = some v) (hi : es[i]? = some e0) (hb : Instr.sameBits 10000 e0.key kv = true) :
    SkipOk P o f s ⟨s.h.set (.map (setE kv v es i) clock) n, s.nx⟩ := by
  refine skipOk_of (sem := fun ev => Instr.mapUpdate t (ev m) (ev k) (ev x)) (fun ev => mapUpdate_run ho ev) (fun ρ w a hr hf => ?_)
  obtain ⟨hm, hk, es', r', h1, h2, h3, h4, h5⟩ := T.sim hr hf
  obtain ⟨u, rfl, hvu⟩ := h5
  obtain ⟨e', he, hke, _⟩ := h2.at i e0 hi
  obtain ⟨w', hw, st⟩ := hr.setMap (us := es'.modify i fun e => { e with key := kv, val := a.eval x }) (c' := clock) (es' := setE kv v es i) T.here (by rw [Array.toList_modify, ← setE_modify]; exact h2.setE T.flat (evO_sound hf hx) i) P
  refine ⟨ρ, w', ?_, st.less get_updH⟩
  have hstay : (Instr.keyThatStays (((es'[i]?).map (·.key)).getD kv) kv).run P w = .ok kv w := by
    have : es'[i]? = some e' := by simpa using he
    rw [this]
    show (Instr.keyThatStays e'.key kv).run P w = _
    rw [hke]
    unfold Instr.keyThatStays
    rw [if_pos hb]
    rfl
  simp only [hm, hk, Instr.mapUpdate, Sem.run_bind, run_und T.und, Result.andThen_ok, run_getObj P _ h1 (fun _ _ _ h => by cases h), runPure_run _ _ hck w, h4 w, hstay, hw]
theorem delete_run {c : Call} {m k : Operand} (ho : o.op = .call c) (hc : c.callee = .builtin .delete) (ha : c.args = #[m, k]) (ev : Operand → Value) : execOp ev o = (do pure (.value (← Builtin.delete_ c.argTypes o.type #[ev m, ev k]))) := by
  rw [builtin_run ho hc ev, ha, map2 ev]
  rfl
/-- What is left where an entry was found, or none. -/
noncomputable def leftE (es : List MapEntry) (r : Option (Nat × Value)) : List MapEntry := match r with
  | some (i, _) => es.eraseIdx i
  | none => es
theorem delete_ok {t : TypeId} {c : Call} {m k : Operand} {kt et : TypeId} {kd : TypeDesc} {n clock : Nat} {es : List MapEntry} {kv : Value} {r : Option (Nat × Value)} (ho : o.op = .call c) (hc : c.callee = .builtin .delete) (ha : c.args = #[m, k]) (ht : c.argTypes[0]? = some t) (T : MapT P f s t m k kt et kd n clock es kv r) (hck : runPure P (Instr.checkKey es.isEmpty 10000 kt kv) = some ()) :
    ValOk P o f s (.tuple #[]) ⟨s.h.set (.map (leftE es r) clock) n, s.nx⟩ := by
  refine valOk_of (sem := fun ev => Builtin.delete_ c.argTypes o.type #[ev m, ev k]) (fun ev => delete_run ho hc ha ev) (fun ρ w a hr hf => ?_)
  obtain ⟨hm, hk, es', r', h1, h2, h3, h4, h5⟩ := T.sim hr hf
  have e0 : (#[a.eval m, a.eval k] : Array Value)[0]? = some (a.eval m) := rfl
  have e1 : (#[a.eval m, a.eval k] : Array Value)[1]? = some (a.eval k) := rfl
  have hck' : (Instr.checkKey es'.isEmpty 10000 kt kv).run P w = .ok () w := by rw [h3]; exact runPure_run _ _ hck w
  have nil : VR ρ s.nx (.tuple #[]) (.tuple #[]) := .tuple _ _ rfl (fun i x y hx => by simp at hx)
  cases r with
  | none =>
    obtain rfl := h5
    obtain ⟨w', hw, st⟩ := hr.setMap (us := es') (c' := clock) (es' := es) T.here h2 P
    refine ⟨ρ, w', _, ?_, st.less get_updH, nil⟩
    simp only [Builtin.delete_, ht, e0, e1]
    simp only [hm, hk, Sem.run_bind, run_und T.und, Result.andThen_ok, run_getObj P _ h1 (fun _ _ _ h => by cases h), hck', h4 w, hw, Sem.run_pure]
  | some p =>
    obtain ⟨i, v0⟩ := p
    obtain ⟨u, rfl, _⟩ := h5
    obtain ⟨w', hw, st⟩ := hr.setMap (us := es'.eraseIdxIfInBounds i) (c' := clock) (es' := es.eraseIdx i) T.here (by rw [Array.toList_eraseIdxIfInBounds]; exact h2.erase i) P
    refine ⟨ρ, w', _, ?_, st.less get_updH, nil⟩
    simp only [Builtin.delete_, ht, e0, e1]
    simp only [hm, hk, Sem.run_bind, run_und T.und, Result.andThen_ok, run_getObj P _ h1 (fun _ _ _ h => by cases h), hck', h4 w, hw, Sem.run_pure]
end
end Go.Proofs.YtjfcjpbolokfcaaGreatDoor.Ev
