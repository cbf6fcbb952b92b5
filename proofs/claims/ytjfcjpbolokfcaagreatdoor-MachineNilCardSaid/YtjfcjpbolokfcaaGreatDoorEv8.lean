/-
  An evaluator for closed runs: the operations (4: calls, len, slices of slices, comparisons with nil, aggregates of parts).
-/
import Derived.Test.YtjfcjpbolokfcaaGreatDoorEv7
namespace Go.Proofs.YtjfcjpbolokfcaaGreatDoor.Ev
open Go

/-- An operation that enters a function. -/
def CallOk (P : Program) (o : Oper) (f : T Value) (s : St) (g : FuncId) (vs : Array Value) : Prop :=
  ∀ (ρ : Nat → Nm) (w : World) (a : Act), SR ρ s w → FR ρ s.nx f a → ∃ us, (execOp a.eval o).run P w = .ok (.enter g us) w ∧ AR ρ s.nx vs us
theorem AR.append {ρ : Nat → Nm} {nx : Nat} {a a' b b' : Array Value} (h : AR ρ nx a a') (h' : AR ρ nx b b') : AR ρ nx (a ++ b) (a' ++ b') := by
  refine ⟨by simp [h.1, h'.1], fun i x y hx hy => ?_⟩
  rw [Array.getElem?_append] at hx hy
  rw [← h.1] at hy
  split at hx
  · rename_i hi
    rw [if_pos hi] at hy
    exact h.2 i x y hx hy
  · rename_i hi
    rw [if_neg hi] at hy
    exact h'.2 _ x y hx hy
theorem AR.one {ρ : Nat → Nm} {nx : Nat} {v u : Value} (h : VR ρ nx v u) : AR ρ nx #[v] #[u] := ⟨rfl, fun i x y hx hy => by
  cases i with
  | zero => simp at hx hy; subst hx hy; exact h
  | succ i => simp at hx⟩
/-- A function that may be entered. -/
noncomputable def enterOk (P : Program) (g : FuncId) : Bool := match P.funcs[g]? with
  | some fn => !(fn.name == "runtime.NumGoroutine") && !fn.body.isNone
  | none => false
theorem callFunc_run {P : Program} {g : FuncId} (h : enterOk P g = true) (us : Array Value) (w : World) : (callFunc g us).run P w = .ok (.enter g us) w := by
  unfold enterOk at h
  split at h
  · rename_i fn hfn
    simp only [Bool.and_eq_true, Bool.not_eq_true'] at h
    have : (callFunc g us).run P w = Sem.run P (match P.funcs[g]? with
      | none => stuck "call: no such function"
      | some fn =>
        if fn.name == "runtime.NumGoroutine" then pure .numGoroutine
        else if fn.body.isNone then do
          mark (.extern g)
          if let some e := Extern.findNext fn then return ← e us
          match Extern.find fn with
          | some e => pure (.value (← e us))
          | none =>
            if fn.name.endsWith ".init" && !fn.name.startsWith "(" && !fn.name.startsWith "gosem." then pure (.value (.tuple #[]))
            else unsupported (.extern fn.name)
        else pure (.enter g us)) w := rfl
    rw [this, hfn]
    simp only [h.1, h.2, Bool.false_eq_true, if_false]
    rfl
  · cases h
section
variable {P : Program} {o : Oper} {f : T Value} {s s' : St} {v : Value}
theorem call_run (ev : Operand → Value) {c : Call} (ho : o.op = .call c) : execOp ev o = (do let d ← resolve ev c o.type; invoke d.target d.args) := by unfold execOp; rw [ho]
theorem callFn_ok {c : Call} {x : Operand} {g : FuncId} {fs cs : Array Value} {vs : List Value} (ho : o.op = .call c) (hc : c.callee = .value x) (hx : evO f x = some (.func (.func g) fs cs)) (ha : evAll f c.args.toList = some vs) (hg : enterOk P g = true) : CallOk P o f s g (fs ++ vs.toArray ++ cs) := fun ρ w a _ hf => by
  have hq := evO_sound hf hx
  have har := evAll_ar hf ha
  obtain ⟨u, hu⟩ : ∃ u, a.eval x = u := ⟨_, rfl⟩
  rw [hu] at hq
  cases hq with
  | func _ _ _ fs' cs' h1 h2 hfa hca =>
    refine ⟨fs' ++ c.args.map a.eval ++ cs', ?_, (AR.append ⟨h1, hfa⟩ har).append ⟨h2, hca⟩⟩
    rw [call_run a.eval ho]
    have hres : resolve a.eval c o.type = pure { target := .fn (.func g) cs', args := fs' ++ c.args.map a.eval } := by
      unfold resolve
      rw [hc]
      simp only [hu]
      rfl
    rw [hres]
    show (callFunc g (fs' ++ c.args.map a.eval ++ cs')).run P w = _
    exact callFunc_run hg _ w
/-- The function behind a method of a type, where no path leads to it, and its receiver is the value itself. -/
noncomputable def methodOk (P : Program) (t : TypeId) (name : String) : Option FuncId := match P.info? t, P.underlying t with
  | some i, some d => match i.methods.find? (·.name == name) with
    | some m => match m.path.toList, m.func with
      | [], some (g, p) => match d, p with
        | .pointer _, false => none
        | .pointer _, true => some g
        | _, true => none
        | _, false => some g
      | _, _ => none
    | none => none
  | _, _ => none
theorem method_run {t : TypeId} {name : String} {g : FuncId} (h : methodOk P t name = some g) (n : Nat) (u : Value) (w : World) : (method (n + 1) t u name).run P w = .ok (g, u) w := by
  unfold methodOk at h
  split at h
  · rename_i i d hi hd
    split at h
    · rename_i m hm
      split at h
      · rename_i g' p hp hfn
        have key : ∀ wr, (receiverAt t (.val u) p wr).run P w = .ok u w := fun wr => by
          simp only [receiverAt, Sem.run_bind, run_und hd, Result.andThen_ok]
          cases d <;> cases p <;> first | rfl | cases h
        have hg : g' = g := by
          cases d <;> cases p <;> first | exact Option.some.inj h | cases h
        subst hg
        simp only [method, Sem.run_bind, run_inf hi, Result.andThen_ok, hm, hp, follow, Sem.run_pure, hfn, key]
      · cases h
    · cases h
  · cases h
theorem invoke_ok {c : Call} {x : Operand} {name : String} {t : TypeId} {g : FuncId} {vs : List Value} (ho : o.op = .call c) (hc : c.callee = .invoke x name) (hx : evO f x = some (.iface t v)) (ha : evAll f c.args.toList = some vs) (hm : methodOk P t name = some g) (hg : enterOk P g = true) : CallOk P o f s g (#[v] ++ vs.toArray) := fun ρ w a _ hf => by
  have hq := evO_sound hf hx
  have har := evAll_ar hf ha
  obtain ⟨u, hu⟩ : ∃ u, a.eval x = u := ⟨_, rfl⟩
  rw [hu] at hq
  cases hq with
  | iface _ _ z hz =>
    refine ⟨#[z] ++ c.args.map a.eval, ?_, (AR.one hz).append har⟩
    rw [call_run a.eval ho]
    have hres : resolve a.eval c o.type = pure { target := .fn (.method name) #[], args := #[.iface t z] ++ c.args.map a.eval } := by
      unfold resolve
      rw [hc]
      show (pure { target := .fn (.method name) #[], args := #[a.eval x] ++ c.args.map a.eval } : Sem Deferred) = _
      rw [hu]
    rw [hres]
    have hfirst : (#[Value.iface t z] ++ c.args.map a.eval)[0]? = some (.iface t z) := by
      rw [Array.getElem?_append, if_pos (show 0 < #[Value.iface t z].size from Nat.one_pos)]
      rfl
    have hext : (#[Value.iface t z] ++ c.args.map a.eval).extract 1 (#[Value.iface t z] ++ c.args.map a.eval).size = c.args.map a.eval := by
      apply Array.ext'
      simp
      exact List.take_of_length_le (by simp)
    show (invoke (.fn (.method name) #[]) (#[.iface t z] ++ c.args.map a.eval)).run P w = _
    simp only [invoke, hfirst, hext, callMethod, Sem.run_bind]
    have hp : (program).run P w = .ok P w := rfl
    rw [hp]
    simp only [Result.andThen_ok, Made.depth]
    rw [show P.types.size + 100 = (P.types.size + 99) + 1 from rfl, method_run hm]
    simp only [Result.andThen_ok]
    exact callFunc_run hg _ w
end
end Go.Proofs.YtjfcjpbolokfcaaGreatDoor.Ev
