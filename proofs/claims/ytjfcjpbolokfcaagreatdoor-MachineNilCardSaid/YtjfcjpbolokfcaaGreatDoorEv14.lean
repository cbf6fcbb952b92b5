/-
  An evaluator for closed runs: the operations (10: comparisons with nil; types asserted).
-/
import Derived.Test.YtjfcjpbolokfcaaGreatDoorEv13
namespace Go.Proofs.YtjfcjpbolokfcaaGreatDoor.Ev
open Go

/-- Two values of which one is nil, or two places of one block. -/
noncomputable def nilCmp (P : Program) (d : TypeDesc) (x y : Value) : Option Bool := match d, x, y with
  | .pointer _, .pointer (some _), .pointer none => some false
  | .pointer _, .pointer none, .pointer (some _) => some false
  | .pointer e, .pointer (some ⟨n, k, none⟩), .pointer (some ⟨m, j, none⟩) => match Nat.beq n m, P.info? e with
    | true, some i => match Nat.beq i.size 0 with
      | true => none
      | false => some (Nat.beq k j)
    | _, _ => none
  | .slice _, .slice (some _) _ _, .slice none _ _ => some false
  | .slice _, .slice none _ _, .slice (some _) _ _ => some false
  | .map _ _, .map (some _), .map none => some false
  | .map _ _, .map none, .map (some _) => some false
  | .func _ _ _, .func _ _ _, .nilFunc => some false
  | .func _ _ _, .nilFunc, .func _ _ _ => some false
  | _, _, _ => none
section
variable {P : Program} {o : Oper} {f : T Value} {s s' : St} {v : Value}
theorem beq_addr (b o1 o2 : Nat) : ((⟨b, o1, none⟩ : Addr) == ⟨b, o2, none⟩) = Nat.beq o1 o2 := by
  rcases h : Nat.beq o1 o2 with _ | _
  · have hne := Nat.ne_of_beq_eq_false h
    refine beq_eq_false_iff_ne.2 (fun e => hne ?_)
    cases e
    rfl
  · obtain rfl := Nat.eq_of_beq_eq_true h
    exact beq_self_eq_true _
theorem beq_shift (s o1 o2 : Nat) : Nat.beq (s + o1) (s + o2) = Nat.beq o1 o2 := by
  rcases h : Nat.beq o1 o2 with _ | _
  · have hne := Nat.ne_of_beq_eq_false h
    rcases h2 : Nat.beq (s + o1) (s + o2) with _ | _
    · rfl
    · have := Nat.eq_of_beq_eq_true h2
      omega
  · obtain rfl := Nat.eq_of_beq_eq_true h
    exact Nat.beq_refl _
theorem nilCmp_in {t : TypeId} {d : TypeDesc} (hu : P.underlying t = some d) {ρ : Nat → Nm} {nx : Nat} {x y x' y' : Value} {r : Bool} (h : nilCmp P d x y = some r) (hx : VR ρ nx x x') (hy : VR ρ nx y y') (w : World) (dp : Nat) : (Op.equalIn (dp + 1) t x' y').run P w = .ok r w := by
  unfold nilCmp at h
  split at h
  · obtain rfl := Option.some.inj h
    cases hx
    cases hy
    simp only [Op.equalIn, Sem.run_bind, run_und hu, Result.andThen_ok]
    rfl
  · obtain rfl := Option.some.inj h
    cases hx
    cases hy
    simp only [Op.equalIn, Sem.run_bind, run_und hu, Result.andThen_ok]
    rfl
  · split at h
    · rename_i e n k m j _ _ i hn hi
      split at h
      · cases h
      · rename_i hz
        obtain rfl := Option.some.inj h
        obtain rfl := Nat.eq_of_beq_eq_true hn
        cases hx
        cases hy
        have hz2 : i.size ≠ 0 := Nat.ne_of_beq_eq_false hz
        simp only [Op.equalIn, Sem.run_bind, run_und hu, Result.andThen_ok, run_siz hi]
        rw [if_pos hz2]
        unfold sameAddr
        rw [if_pos (by exact beq_self_eq_true (ρ n).b)]
        show Result.ok ((ρ n).at k == (ρ n).at j) w = _
        unfold Nm.at
        rw [beq_addr, beq_shift]
    · cases h
  all_goals first
    | (cases h; done)
    | (obtain rfl := Option.some.inj h
       cases hx <;> cases hy <;>
       (simp only [Op.equalIn, Sem.run_bind, run_und hu, Result.andThen_ok]
        rfl))
theorem nilCmp_run {t : TypeId} {d : TypeDesc} (hu : P.underlying t = some d) {ρ : Nat → Nm} {nx : Nat} {x y x' y' : Value} {r : Bool} (h : nilCmp P d x y = some r) (hx : VR ρ nx x x') (hy : VR ρ nx y y') (w : World) : (Op.equal t x' y').run P w = .ok r w := nilCmp_in hu h hx hy w (Op.maxDepth - 1)
theorem nilGuard {op : BinOp} {t : TypeId} {d : TypeDesc} {ρ : Nat → Nm} {nx : Nat} {x y x' y' : Value} {a b : Operand} {r : Bool} (h : nilCmp P d x y = some r) (hx : VR ρ nx x x') (hy : VR ρ nx y y') (w : World) : (eqGuard op t a b x' y').run P w = .ok () w := by
  unfold nilCmp at h
  split at h
  all_goals first
    | (cases h; done)
    | (cases hx <;> cases hy <;> cases op <;> rfl)
theorem nilBin {op : BinOp} {t : TypeId} {d : TypeDesc} {ρ : Nat → Nm} {nx : Nat} {x y x' y' : Value} {r : Bool} (h : nilCmp P d x y = some r) (hx : VR ρ nx x x') (hy : VR ρ nx y y') : (op = .eql → binOp op t x' y' = (do pure (.bool (← Op.equal t x' y')))) ∧ (op = .neq → binOp op t x' y' = (do pure (.bool (!(← Op.equal t x' y'))))) := by
  unfold nilCmp at h
  split at h
  all_goals first
    | (cases h; done)
    | (cases hx <;> cases hy <;> exact ⟨fun e => (by subst e; rfl), fun e => (by subst e; rfl)⟩)
theorem nilEql_ok {t : TypeId} {d : TypeDesc} {x y : Operand} {u z : Value} {q : TypeId} {r : Bool} (ho : o.op = .binOp .eql t x y q) (hu : P.underlying t = some d) (hx : evO f x = some u) (hy : evO f y = some z) (h : nilCmp P d u z = some r) : QOk P o f s (.bool r) := by
  refine qOk_of (sem := fun ev => do eqGuard .eql t x y (ev x) (ev y); binOp .eql t (ev x) (ev y)) (fun ev => by unfold execOp; rw [ho]) (fun ρ w a hr hf => ?_)
  refine ⟨.bool r, ?_, .bool _⟩
  simp only [Sem.run_bind, nilGuard h (evO_sound hf hx) (evO_sound hf hy), (nilBin h (evO_sound hf hx) (evO_sound hf hy)).1 rfl, nilCmp_run hu h (evO_sound hf hx) (evO_sound hf hy), Result.andThen_ok, Sem.run_pure]
theorem nilNeq_ok {t : TypeId} {d : TypeDesc} {x y : Operand} {u z : Value} {q : TypeId} {r : Bool} (ho : o.op = .binOp .neq t x y q) (hu : P.underlying t = some d) (hx : evO f x = some u) (hy : evO f y = some z) (h : nilCmp P d u z = some r) : QOk P o f s (.bool (!r)) := by
  refine qOk_of (sem := fun ev => do eqGuard .neq t x y (ev x) (ev y); binOp .neq t (ev x) (ev y)) (fun ev => by unfold execOp; rw [ho]) (fun ρ w a hr hf => ?_)
  refine ⟨.bool (!r), ?_, .bool _⟩
  simp only [Sem.run_bind, nilGuard h (evO_sound hf hx) (evO_sound hf hy), (nilBin h (evO_sound hf hx) (evO_sound hf hy)).2 rfl, nilCmp_run hu h (evO_sound hf hx) (evO_sound hf hy), Result.andThen_ok, Sem.run_pure]
end
end Go.Proofs.YtjfcjpbolokfcaaGreatDoor.Ev
