/-
  An evaluator for closed runs: the operations (9: maps).
-/
import Derived.Test.YtjfcjpbolokfcaaGreatDoorEv12
namespace Go.Proofs.YtjfcjpbolokfcaaGreatDoor.Ev
open Go

theorem runPure_bind {α β : Type} (P : Program) (g : α → Sem β) : ∀ x : Sem α, runPure P (x >>= g) = (runPure P x).bind fun a => runPure P (g a)
  | .pure a => rfl
  | .program k => by
    show runPure P ((Sem.program k).bind g) = _
    exact runPure_bind P g (k P)
  | .mark _ k => by
    show runPure P (k.bind g) = _
    exact runPure_bind P g k
  | .choose q k => by
    show (match q.forced with | true => runPure P ((k 0).bind g) | false => none) = (match q.forced with | true => runPure P (k 0) | false => none).bind _
    cases q.forced
    · rfl
    · exact runPure_bind P g (k 0)
  | .load .. => rfl
  | .store .. => rfl
  | .new .. => rfl
  | .shape .. => rfl
  | .freeze .. => rfl
  | .frozen .. => rfl
  | .getObj .. => rfl
  | .setObj .. => rfl
  | .sys .. => rfl
  | .halt .. => rfl
/-- What was found, and what the model finds. -/
def FoundR (ρ : Nat → Nm) (nx : Nat) : Option (Nat × Value) → Option (Nat × Value) → Prop
  | none, r => r = none
  | some (i, v), r => ∃ u, r = some (i, u) ∧ VR ρ nx v u
section
variable {ρ : Nat → Nm} {nx : Nat}
theorem findNow_sim {kd : TypeDesc} {k : Value} : ∀ {l m : List MapEntry} (i : Nat), MR ρ nx l m → (Instr.findNow kd k l i = none → Instr.findNow kd k m i = none) ∧ (∀ r, Instr.findNow kd k l i = some r → ∃ r', Instr.findNow kd k m i = some r' ∧ FoundR ρ nx r r')
  | [], [], i, _ => ⟨fun h => (by cases h), fun r h => by
      obtain rfl := Option.some.inj (show some none = some r from h)
      exact ⟨none, rfl, rfl⟩⟩
  | _, _, i, .cons kk v u b l m hk h hr => by
    have ih := findNow_sim (kd := kd) (k := k) (i + 1) hr
    unfold Instr.findNow
    cases hs : Instr.sameNow kd k kk with
    | none => exact ⟨fun _ => rfl, fun r h => by cases h⟩
    | some t =>
      cases t with
      | true =>
        refine ⟨fun h => (by cases h), fun r hr => ?_⟩
        obtain rfl := Option.some.inj (show some (some (i, v)) = some r from hr)
        exact ⟨_, rfl, u, rfl, h⟩
      | false => exact ih
theorem findAsking_sim {P : Program} {kt : TypeId} {k : Value} : ∀ {l m : List MapEntry} (i : Nat) {r}, MR ρ nx l m → runPure P (Instr.findAsking kt k l i) = some r → ∃ r', runPure P (Instr.findAsking kt k m i) = some r' ∧ FoundR ρ nx r r'
  | [], [], i, r, _, h => by
    obtain rfl := Option.some.inj (show some none = some r from h)
    exact ⟨none, rfl, rfl⟩
  | _, _, i, r, .cons kk v u b l m hk hv hr, h => by
    unfold Instr.findAsking at h ⊢
    rw [runPure_bind] at h ⊢
    simp only at h ⊢
    cases he : runPure P (Op.equal kt k kk) with
    | none =>
      rw [he] at h
      cases h
    | some t =>
      rw [he] at h
      cases t with
      | true =>
        obtain rfl := Option.some.inj (show some (some (i, v)) = some r from h)
        exact ⟨_, rfl, u, rfl, hv⟩
      | false =>
        exact findAsking_sim (i + 1) hr h
theorem findKey_sim {P : Program} {kt : TypeId} {kd : TypeDesc} (hu : P.underlying kt = some kd) {k : Value} {l m : List MapEntry} {r} (hm : MR ρ nx l m) (h : runPure P (Instr.findKey kt k l) = some r) : ∃ r', (∀ w, (Instr.findKey kt k m).run P w = .ok r' w) ∧ FoundR ρ nx r r' := by
  have hb : ∀ es, Instr.findKey kt k es = (underlying kt >>= fun d => match Instr.findNow d k es 0 with | some r => pure r | none => Instr.findAsking kt k es) := fun es => rfl
  have hun : runPure P (underlying kt) = some kd := by
    show runPure P (match P.underlying kt with | some d => pure d | none => stuck "no such type") = _
    rw [hu]
    rfl
  rw [hb, runPure_bind, hun] at h
  have h : runPure P (match Instr.findNow kd k l 0 with | some r => pure r | none => Instr.findAsking kt k l) = some r := h
  obtain ⟨n1, n2⟩ := findNow_sim (kd := kd) (k := k) 0 hm
  suffices hs : ∃ r', runPure P (Instr.findKey kt k m) = some r' ∧ FoundR ρ nx r r' by
    obtain ⟨r', h1, h2⟩ := hs
    exact ⟨r', fun w => runPure_run _ _ h1 w, h2⟩
  rw [hb, runPure_bind, hun]
  show ∃ r', runPure P (match Instr.findNow kd k m 0 with | some r => pure r | none => Instr.findAsking kt k m) = some r' ∧ _
  cases hf : Instr.findNow kd k l 0 with
  | none =>
    rw [hf] at h
    rw [n1 hf]
    exact findAsking_sim 0 hm h
  | some q =>
    rw [hf] at h
    obtain rfl := Option.some.inj (show some q = some r from h)
    obtain ⟨r', h1, h2⟩ := n2 q hf
    rw [h1]
    exact ⟨r', rfl, h2⟩
theorem MR.empty {l m : List MapEntry} (h : MR ρ nx l m) : m.isEmpty = l.isEmpty := by cases h <;> rfl
/-- A map is turned. -/
theorem HR.setMap {H : Nat → Option AO} {w : World} (h : HR ρ nx H w) {n c c' : Nat} {es es' : List MapEntry} {us : Array MapEntry} (hn : H n = some (.map es c)) (hm : MR ρ nx es' us.toList) (P : Program) :
    ∃ w', (setObj (ρ n).b (.map us c')).run P w = .ok () w' ∧ Step ρ nx H w ρ nx (updH H n (some (.map es' c'))) w' := by
  obtain ⟨hnx, es0, h1, _⟩ := h.obj n _ hn
  have hlt := h.old hn
  refine ⟨{ w with heap := w.heap.setIfInBounds (ρ n).b (.map us c') }, ?_, ?_⟩
  · show Sem.run P (.setObj _ _ (.pure ())) w = _
    unfold Sem.run
    rw [h1]
    rfl
  · have hat : (w.heap.setIfInBounds (ρ n).b (.map us c'))[(ρ n).b]? = some (.map us c') := Array.getElem?_setIfInBounds_self_of_lt hlt
    have hne : ∀ k, k ≠ (ρ n).b → (w.heap.setIfInBounds (ρ n).b (.map us c'))[k]? = w.heap[k]? := fun k hk => Array.getElem?_setIfInBounds_ne (Ne.symm hk)
    refine ⟨Ext.refl _ _, ⟨fun m o' hm2 => ?_, fun m m' o1 o2 hm1 hm2 he => ?_⟩, ⟨rfl, rfl, rfl, by simp, fun j _ hj => hne j (fun e => hj n _ hn e.symm)⟩, fun m o' hm2 => ?_⟩
    · rcases updH_get hm2 with ⟨rfl, e0⟩ | ⟨hne2, hm2⟩
      · obtain rfl := Option.some.inj e0
        exact ⟨hnx, us, hat, hm⟩
      · have h5 := h.obj m _ hm2
        refine ⟨h5.1, ?_⟩
        show OR _ _ _ _ (w.heap.setIfInBounds (ρ n).b (.map us c'))[(ρ m).b]?
        rw [hne _ (fun e => hne2 (h.inj m n _ _ hm2 hn e))]
        exact h5.2
    · have back : ∀ {m o'}, updH H n (some (.map es' c')) m = some o' → ∃ o2, H m = some o2 := fun {m o'} hm => by
        rcases updH_get hm with ⟨rfl, _⟩ | ⟨_, hm⟩
        · exact ⟨_, hn⟩
        · exact ⟨_, hm⟩
      obtain ⟨p1, hp1⟩ := back hm1
      obtain ⟨p2, hp2⟩ := back hm2
      exact h.inj _ _ _ _ hp1 hp2 he
    · rcases updH_get hm2 with ⟨rfl, _⟩ | ⟨_, hm2⟩
      · exact .inr ⟨m, _, hn, rfl⟩
      · exact .inr ⟨m, _, hm2, rfl⟩
end
end Go.Proofs.YtjfcjpbolokfcaaGreatDoor.Ev
