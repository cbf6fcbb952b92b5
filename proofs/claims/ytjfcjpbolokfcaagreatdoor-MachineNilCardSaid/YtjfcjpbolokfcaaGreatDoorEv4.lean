/-
  An evaluator for closed runs: frames, operands; an operation whose operands name no block.
-/
import Derived.Test.YtjfcjpbolokfcaaGreatDoorEv3
import Derived.Orders
namespace Go.Proofs.YtjfcjpbolokfcaaGreatDoor.Ev
open Go

/-- What runs without a world. -/
noncomputable def runPure {α : Type} (P : Program) : Sem α → Option α
  | .pure a => some a
  | .program k => runPure P (k P)
  | .mark _ k => runPure P k
  | .choose q k => match q.forced with
    | true => runPure P (k 0)
    | false => none
  | _ => none
theorem runPure_run {α : Type} {P : Program} : ∀ (e : Sem α) (v : α), runPure P e = some v → ∀ w, e.run P w = .ok v w
  | .pure a, v, h, w => by
    obtain rfl := Option.some.inj h
    rfl
  | .program k, v, h, w => runPure_run (k P) v h w
  | .mark _ k, v, h, w => runPure_run k v h w
  | .choose q k, v, h, w => by
    unfold runPure at h
    rcases hq : q.forced with _ | _
    · rw [hq] at h
      cases h
    · rw [hq] at h
      unfold Sem.run
      rw [if_pos hq]
      exact runPure_run (k 0) v h w
  | .load .., v, h, w => by cases h
  | .store .., v, h, w => by cases h
  | .new .., v, h, w => by cases h
  | .shape .., v, h, w => by cases h
  | .freeze .., v, h, w => by cases h
  | .frozen .., v, h, w => by cases h
  | .getObj .., v, h, w => by cases h
  | .setObj .., v, h, w => by cases h
  | .sys .., v, h, w => by cases h
  | .halt .., v, h, w => by cases h
/-- A frame: what its slots are known to hold. -/
def FR (ρ : Nat → Nm) (nx : Nat) (f : T Value) (a : Act) : Prop := ∀ t v, f.get t = some v → ∃ u, a.tmps[t]? = some u ∧ VR ρ nx v u
theorem FR.mono {ρ ρ' : Nat → Nm} {nx nx' : Nat} {f : T Value} {a : Act} (hx : Ext ρ nx ρ' nx') (h : FR ρ nx f a) : FR ρ' nx' f a := fun t v hv => by
  obtain ⟨u, h1, h2⟩ := h t v hv
  exact ⟨u, h1, h2.mono hx⟩
noncomputable def evO (f : T Value) (x : Operand) : Option Value :=
  Operand.casesOn x f.get (fun v => Bool.casesOn (flat v) none (some v)) (fun _ => none) (fun g => some (.func (.func g) #[] #[]))
theorem evO_sound {ρ : Nat → Nm} {nx : Nat} {f : T Value} {a : Act} (h : FR ρ nx f a) {x : Operand} {v : Value} (hv : evO f x = some v) : VR ρ nx v (a.eval x) := by
  cases x with
  | tmp t =>
    obtain ⟨u, h1, h2⟩ := h t v hv
    have : a.eval (.tmp t) = u := by simp [Act.eval, h1]
    rw [this]
    exact h2
  | const c =>
    have hv : (Bool.casesOn (flat c) none (some c) : Option Value) = some v := hv
    rcases hf : flat c with _ | _
    · rw [hf] at hv
      cases hv
    · rw [hf] at hv
      obtain rfl := Option.some.inj hv
      exact flat_vr hf
  | global g => cases hv
  | func g =>
    obtain rfl := Option.some.inj (show some (Value.func (.func g) #[] #[]) = some v from hv)
    exact flat_vr (by rfl)
/-- A slot is turned; a slot that the frame has not is not. -/
noncomputable def putF (N : Nat) (f : T Value) (d : Option Tmp) (v : Value) : T Value := Option.casesOn d f (fun d => Bool.casesOn (Nat.ble (Nat.succ d) N) f (f.set v d))
theorem putF_sound {ρ : Nat → Nm} {nx : Nat} {f : T Value} {a : Act} (h : FR ρ nx f a) {N : Nat} (hN : a.tmps.size = N) (d : Option Tmp) {v u : Value} (hv : VR ρ nx v u) : FR ρ nx (putF N f d v) (a.put d u) := by
  cases d with
  | none => exact h
  | some d =>
    intro t x hx
    change (Bool.casesOn (Nat.ble (Nat.succ d) N) f (f.set v d) : T Value).get t = some x at hx
    show ∃ y, (a.tmps.setIfInBounds d u)[t]? = some y ∧ _
    rcases hb : Nat.ble (Nat.succ d) N with _ | _
    · rw [hb] at hx
      obtain ⟨y, h1, h2⟩ := h t x hx
      have hd : ¬ d < a.tmps.size := fun hlt => by
        have := Nat.ble_eq_true_of_le (Nat.lt_of_lt_of_eq hlt hN)
        rw [hb] at this
        cases this
      refine ⟨y, ?_, h2⟩
      rw [Array.setIfInBounds_eq_of_size_le (Nat.le_of_not_lt hd)]
      exact h1
    · rw [hb] at hx
      rcases set_get hx with ⟨rfl, rfl⟩ | ⟨hne, hx⟩
      · have hlt : t < a.tmps.size := by rw [hN]; exact Nat.le_of_ble_eq_true hb
        exact ⟨u, Array.getElem?_setIfInBounds_self_of_lt hlt, hv⟩
      · obtain ⟨y, h1, h2⟩ := h t x hx
        exact ⟨y, by rw [Array.getElem?_setIfInBounds_ne (Ne.symm hne)]; exact h1, h2⟩
theorem put_size (a : Act) (d : Option Tmp) (u : Value) : (a.put d u).tmps.size = a.tmps.size := by cases d <;> simp [Act.put]
end Go.Proofs.YtjfcjpbolokfcaaGreatDoor.Ev
