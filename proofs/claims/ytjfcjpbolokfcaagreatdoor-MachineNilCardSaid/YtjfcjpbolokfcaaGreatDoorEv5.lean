/-
  An evaluator for closed runs: the operations, each with what it is in the model (1: values, loads, stores, new blocks).
-/
import Derived.Test.YtjfcjpbolokfcaaGreatDoorEv4
import Derived.Laws.Cells
import Derived.Laws.Sem
namespace Go.Proofs.YtjfcjpbolokfcaaGreatDoor.Ev
open Go

theorem run_und {P : Program} {t : TypeId} {d : TypeDesc} (h : P.underlying t = some d) (w : World) : (underlying t).run P w = .ok d w := by
  have : (underlying t).run P w = Sem.run P (match P.underlying t with | some d => pure d | none => stuck "no such type") w := rfl
  rw [this, h]
  rfl
theorem run_inf {P : Program} {t : TypeId} {i : TypeInfo} (h : P.info? t = some i) (w : World) : (typeInfo t).run P w = .ok i w := by
  have : (typeInfo t).run P w = Sem.run P (match P.info? t with | some i => pure i | none => stuck "no such type") w := rfl
  rw [this, h]
  rfl
theorem run_siz {P : Program} {t : TypeId} {i : TypeInfo} (h : P.info? t = some i) (w : World) : (sizeOf t).run P w = .ok i.size w := by
  simp only [sizeOf, Sem.run_bind, run_inf h, Result.andThen_ok, Sem.run_pure]
theorem run_zero {P : Program} {t : TypeId} {i : TypeInfo} {z : Value} (h : P.info? t = some i) (hz : i.zero = some z) (w : World) : (zeroValue t).run P w = .ok z w := by
  simp only [zeroValue, Sem.run_bind, run_inf h, Result.andThen_ok, hz, Sem.run_pure]
/-- Is a type of more cells than one? -/
def isAggD : TypeDesc → Bool
  | .struct _ | .array _ _ => true
  | _ => false
theorem run_isAgg' {P : Program} {t : TypeId} {d : TypeDesc} (h : P.underlying t = some d) (w : World) : (isAgg t).run P w = .ok (isAggD d) w := by
  simp only [isAgg, Sem.run_bind, run_und h, Result.andThen_ok]
  cases d <;> rfl
/-- An operation that yields a value. -/
def ValOk (P : Program) (o : Oper) (f : T Value) (s : St) (v : Value) (s' : St) : Prop :=
  ∀ (ρ : Nat → Nm) (w : World) (a : Act), SR ρ s w → FR ρ s.nx f a → ∃ ρ' w' u, (execOp a.eval o).run P w = .ok (.value u) w' ∧ SStep ρ s w ρ' s' w' ∧ VR ρ' s'.nx v u
/-- An operation that yields a value, and turns nothing. -/
def QOk (P : Program) (o : Oper) (f : T Value) (s : St) (v : Value) : Prop :=
  ∀ (ρ : Nat → Nm) (w : World) (a : Act), SR ρ s w → FR ρ s.nx f a → ∃ u, (execOp a.eval o).run P w = .ok (.value u) w ∧ VR ρ s.nx v u
/-- An operation that yields none. -/
def SkipOk (P : Program) (o : Oper) (f : T Value) (s : St) (s' : St) : Prop :=
  ∀ (ρ : Nat → Nm) (w : World) (a : Act), SR ρ s w → FR ρ s.nx f a → ∃ ρ' w', (execOp a.eval o).run P w = .ok .skip w' ∧ SStep ρ s w ρ' s' w'
section
variable {P : Program} {o : Oper} {f : T Value} {s s' : St} {v : Value}
theorem valOk_of {sem : (Operand → Value) → Sem Value} (ho : ∀ ev, execOp ev o = (do pure (.value (← sem ev))))
    (h : ∀ (ρ : Nat → Nm) (w : World) (a : Act), SR ρ s w → FR ρ s.nx f a → ∃ ρ' w' u, (sem a.eval).run P w = .ok u w' ∧ SStep ρ s w ρ' s' w' ∧ VR ρ' s'.nx v u) : ValOk P o f s v s' := fun ρ w a hr hf => by
  obtain ⟨ρ', w', u, h1, h2, h3⟩ := h ρ w a hr hf
  refine ⟨ρ', w', u, ?_, h2, h3⟩
  rw [ho]
  simp only [Sem.run_bind, h1, Result.andThen_ok, Sem.run_pure]
theorem valOk_pure {g : (Operand → Value) → Value} (ho : ∀ ev, execOp ev o = pure (.value (g ev))) (h : ∀ (ρ : Nat → Nm) (a : Act), FR ρ s.nx f a → VR ρ s.nx v (g a.eval)) : ValOk P o f s v s := fun ρ w a hr hf =>
  ⟨ρ, w, g a.eval, by rw [ho]; rfl, Step.refl hr, h ρ a hf⟩
theorem QOk.val (h : QOk P o f s v) : ValOk P o f s v s := fun ρ w a hr hf => by
  obtain ⟨u, h1, h2⟩ := h ρ w a hr hf
  exact ⟨ρ, w, u, h1, Step.refl hr, h2⟩
theorem qOk_of {sem : (Operand → Value) → Sem Value} (ho : ∀ ev, execOp ev o = (do pure (.value (← sem ev))))
    (h : ∀ (ρ : Nat → Nm) (w : World) (a : Act), SR ρ s w → FR ρ s.nx f a → ∃ u, (sem a.eval).run P w = .ok u w ∧ VR ρ s.nx v u) : QOk P o f s v := fun ρ w a hr hf => by
  obtain ⟨u, h1, h3⟩ := h ρ w a hr hf
  refine ⟨u, ?_, h3⟩
  rw [ho]
  simp only [Sem.run_bind, h1, Result.andThen_ok, Sem.run_pure]
theorem qOk_pure {g : (Operand → Value) → Value} (ho : ∀ ev, execOp ev o = pure (.value (g ev))) (h : ∀ (ρ : Nat → Nm) (a : Act), FR ρ s.nx f a → VR ρ s.nx v (g a.eval)) : QOk P o f s v := fun ρ w a hr hf =>
  ⟨g a.eval, by rw [ho]; rfl, h ρ a hf⟩
theorem skipOk_of {sem : (Operand → Value) → Sem Unit} (ho : ∀ ev, execOp ev o = (do sem ev; pure .skip))
    (h : ∀ (ρ : Nat → Nm) (w : World) (a : Act), SR ρ s w → FR ρ s.nx f a → ∃ ρ' w', (sem a.eval).run P w = .ok () w' ∧ SStep ρ s w ρ' s' w') : SkipOk P o f s s' := fun ρ w a hr hf => by
  obtain ⟨ρ', w', h1, h2⟩ := h ρ w a hr hf
  refine ⟨ρ', w', ?_, h2⟩
  rw [ho]
  simp only [Sem.run_bind, h1, Result.andThen_ok, Sem.run_pure]
/-- All operands name no block. -/
noncomputable def flatArg (f : T Value) (x : Operand) : Bool := match evO f x with
  | some v => flat v
  | none => false
noncomputable def flatOp (P : Program) (o : Oper) (f : T Value) : Option Value :=
  match (match o.op with | .select .. => false | _ => true) && o.op.operands.toList.all (flatArg f) with
  | true => match runPure P (execOp (fun x => (evO f x).getD undef) o) with
    | some (.value v) => match flat v with
      | true => some v
      | false => none
    | _ => none
  | false => none
theorem flatOp_ok (h : flatOp P o f = some v) : QOk P o f s v := by
  unfold flatOp at h
  split at h
  · rename_i hc
    simp only [Bool.and_eq_true, List.all_eq_true] at hc
    split at h
    · rename_i u hu
      split at h
      · rename_i hfl
        obtain rfl := Option.some.inj h
        intro ρ w a hr hf
        refine ⟨u, ?_, flat_vr hfl⟩
        have hs : ∀ cs b, o.op ≠ .select cs b := fun cs b he => by
          rw [he] at hc
          exact Bool.false_ne_true hc.1
        rw [execOp_congr (ρ := a.eval) (ρ' := fun x => (evO f x).getD undef) o hs (fun x hx => ?_)]
        · exact runPure_run _ _ hu w
        · have hx2 := hc.2 x (by simpa using hx)
          unfold flatArg at hx2
          split at hx2
          · rename_i z hz
            show a.eval x = (evO f x).getD undef
            rw [hz]
            exact flat_eq hx2 (evO_sound hf hz)
          · cases hx2
      · cases h
    · cases h
  · cases h
/-- A value is handed on. -/
theorem move_ok {x : Operand} (ho : o.op = .move x ∨ o.op = .assign x) (h : evO f x = some v) : QOk P o f s v := by
  refine qOk_pure (g := fun ev => ev x) (fun ev => ?_) (fun ρ a hf => evO_sound hf h)
  unfold execOp
  rcases ho with ho | ho <;> rw [ho]
theorem pick_ok {c x y : Operand} {t : Bool} (ho : o.op = .pick c x y) (hc : evO f c = some (.bool t)) (h : evO f (if t then x else y) = some v) : QOk P o f s v := fun ρ w a hr hf => by
  have hb := evO_sound hf hc
  have hv := evO_sound hf h
  refine ⟨if t then a.eval x else a.eval y, ?_, by cases t <;> exact hv⟩
  have hx : execOp a.eval o = (do pure (.value (if ← asBool (a.eval c) then a.eval x else a.eval y))) := by unfold execOp; rw [ho]
  rw [hx]
  generalize a.eval c = b at hb ⊢
  cases hb
  cases t <;> rfl
theorem nilCheck_ok {x : Operand} {n k : Nat} {q : Option Nat} (ho : o.op = .nilCheck x) (h : evO f x = some (.pointer (some ⟨n, k, q⟩))) : QOk P o f s (.pointer (some ⟨n, k, q⟩)) := fun ρ w a hr hf => by
  have hv := evO_sound hf h
  refine ⟨a.eval x, ?_, hv⟩
  obtain ⟨u, hu⟩ : ∃ u, a.eval x = u := ⟨_, rfl⟩
  rw [hu] at hv
  cases hv
  unfold execOp
  rw [ho]
  simp only [hu]
  rfl
theorem extract_ok {x : Operand} {i : Nat} {vs : Array Value} (ho : o.op = .extract x i) (h : evO f x = some (.tuple vs)) (hi : vs[i]? = some v) : QOk P o f s v := fun ρ w a hr hf => by
  have hv := evO_sound hf h
  have hx : execOp a.eval o = (do pure (.value (← Instr.extract (a.eval x) i))) := by unfold execOp; rw [ho]
  rw [hx]
  generalize a.eval x = b at hv ⊢
  cases hv with
  | tuple _ us h1 ha =>
    obtain ⟨u, hu⟩ := arr_get (a := us) (i := i) (by have := arr_lt hi; omega)
    exact ⟨u, by simp only [Instr.extract, hu, Sem.run_bind, Sem.run_pure, Result.andThen_ok], ha i v u hi hu⟩
theorem makeInterface_ok {x : Operand} {t : TypeId} {d : TypeDesc} (ho : o.op = .makeInterface t x) (hu : P.underlying t = some d) (hd : (match d with | .interface _ => false | _ => true) = true) (h : evO f x = some v) : QOk P o f s (.iface t v) := by
  refine qOk_of (sem := fun ev => Instr.makeInterface t (ev x)) (fun ev => by unfold execOp; rw [ho]) (fun ρ w a hr hf => ⟨.iface t (a.eval x), ?_, .iface _ _ _ (evO_sound hf h)⟩)
  unfold Instr.makeInterface
  simp only [Sem.run_bind, run_und hu, Result.andThen_ok]
  cases d <;> first | rfl | cases hd
/-- Operands, one by one. -/
noncomputable def evAll (f : T Value) (xs : List Operand) : Option (List Value) := match xs with
  | [] => some []
  | x :: xs => match evO f x with
    | some v => match evAll f xs with
      | some vs => some (v :: vs)
      | none => none
    | none => none
theorem evAll_sound {ρ : Nat → Nm} {nx : Nat} {a : Act} (hf : FR ρ nx f a) : ∀ {xs : List Operand} {vs : List Value}, evAll f xs = some vs → vs.length = xs.length ∧ ∀ (i : Nat) v x, vs[i]? = some v → xs[i]? = some x → VR ρ nx v (a.eval x)
  | [], vs, h => by
    obtain rfl := Option.some.inj (show some [] = some vs from h)
    exact ⟨rfl, fun i v x hv => by simp at hv⟩
  | x :: xs, vs, h => by
    unfold evAll at h
    split at h
    · rename_i v hv
      split at h
      · rename_i us hus
        obtain rfl := Option.some.inj h
        obtain ⟨h1, h2⟩ := evAll_sound hf hus
        refine ⟨by simp [h1], fun i u y hu hy => ?_⟩
        cases i with
        | zero =>
          simp at hu hy
          subst hu hy
          exact evO_sound hf hv
        | succ i => exact h2 i u y (by simpa using hu) (by simpa using hy)
      · cases h
    · cases h
theorem evAll_ar {ρ : Nat → Nm} {nx : Nat} {a : Act} (hf : FR ρ nx f a) {xs : Array Operand} {vs : List Value} (h : evAll f xs.toList = some vs) : AR ρ nx vs.toArray (xs.map a.eval) := by
  obtain ⟨h1, h2⟩ := evAll_sound hf h
  refine ⟨by simpa using h1, fun i x y hx hy => ?_⟩
  simp only [Array.getElem?_map, Option.map_eq_some_iff] at hy
  obtain ⟨z, hz, rfl⟩ := hy
  exact h2 i x z (by simpa using hx) (by simpa using hz)
theorem makeFunc_ok {fn : Fn} {xs ys : Array Operand} {vs us : List Value} (ho : o.op = .makeFunc fn xs ys) (h1 : evAll f xs.toList = some vs) (h2 : evAll f ys.toList = some us) : QOk P o f s (.func fn vs.toArray us.toArray) := fun ρ w a hr hf => by
  have e1 := evAll_ar hf h1
  have e2 := evAll_ar hf h2
  refine ⟨.func fn (xs.map a.eval) (ys.map a.eval), ?_, .func _ _ _ _ _ e1.1 e2.1 e1.2 e2.2⟩
  unfold execOp
  rw [ho]
  rfl
end
end Go.Proofs.YtjfcjpbolokfcaaGreatDoor.Ev
