/-
  An evaluator for closed runs: its memory (a tree by number), and how its values stand to the model's.
-/
import Derived.Calls
namespace Go.Proofs.YtjfcjpbolokfcaaGreatDoor.Ev
open Go

/-- A memory by number. -/
inductive T (α : Type) where
  | leaf
  | node (o : Option α) (a b c d : T α)
noncomputable def pick4 {β : Type} (k : Nat) (a b c d : β) : β := Nat.casesOn k a (fun k => Nat.casesOn k b (fun k => Nat.casesOn k c (fun _ => d)))
noncomputable def T.get {α : Type} (t : T α) : Nat → Option α :=
  T.rec (motive := fun _ => Nat → Option α) (fun _ => none) (fun o _ _ _ _ ga gb gc gd n => Nat.casesOn n o (fun m => pick4 (Nat.mod m 4) ga gb gc gd (Nat.div m 4))) t
/-- A child is turned by g. -/
noncomputable def turn4 {α : Type} (k : Nat) (o : Option α) (a b c d : T α) (g : T α → T α) : T α :=
  Nat.casesOn k (.node o (g a) b c d) (fun k => Nat.casesOn k (.node o a (g b) c d) (fun k => Nat.casesOn k (.node o a b (g c) d) (fun _ => .node o a b c (g d))))
/-- What lies at a number is x; no fuel: nothing is known. -/
noncomputable def T.setF {α : Type} (x : Option α) (f : Nat) : T α → Nat → T α :=
  Nat.rec (motive := fun _ => T α → Nat → T α) (fun _ _ => .leaf) (fun _ ih t n => T.casesOn t
    (Nat.casesOn n (.node x .leaf .leaf .leaf .leaf) (fun m => turn4 (Nat.mod m 4) none .leaf .leaf .leaf .leaf (fun t => ih t (Nat.div m 4))))
    (fun o a b c d => Nat.casesOn n (.node x a b c d) (fun m => turn4 (Nat.mod m 4) o a b c d (fun t => ih t (Nat.div m 4))))) f
noncomputable def T.set {α : Type} (x : α) (t : T α) (n : Nat) : T α := T.setF (some x) 12 t n
noncomputable def T.del {α : Type} (t : T α) (n : Nat) : T α := T.setF none 12 t n
theorem pick4_lt {β : Type} (k : Nat) (hk : k < 4) (p : Nat → β) : pick4 k (p 0) (p 1) (p 2) (p 3) = p k := by
  match k, hk with
  | 0, _ => rfl
  | 1, _ => rfl
  | 2, _ => rfl
  | 3, _ => rfl
/-- A node's child. -/
def kid {α : Type} (a b c d : T α) : Nat → T α
  | 0 => a
  | 1 => b
  | 2 => c
  | _ => d
theorem get_zero {α : Type} (o : Option α) (a b c d : T α) : (T.node o a b c d).get 0 = o := rfl
theorem get_succ {α : Type} (o : Option α) (a b c d : T α) (m : Nat) : (T.node o a b c d).get (m + 1) = (kid a b c d (m % 4)).get (m / 4) := by
  show pick4 (m % 4) a.get b.get c.get d.get (m / 4) = _
  have h : m % 4 < 4 := Nat.mod_lt _ (by decide)
  have e := pick4_lt (m % 4) h (fun k => (kid a b c d k).get)
  exact congrFun e (m / 4)
theorem turn4_kid {α : Type} (k : Nat) (hk : k < 4) (o : Option α) (a b c d : T α) (g : T α → T α) : ∃ a' b' c' d', turn4 k o a b c d g = .node o a' b' c' d' ∧ ∀ j, j < 4 → kid a' b' c' d' j = if j = k then g (kid a b c d j) else kid a b c d j := by
  match k, hk with
  | 0, _ => exact ⟨g a, b, c, d, rfl, fun j hj => by match j, hj with | 0, _ => rfl | 1, _ => rfl | 2, _ => rfl | 3, _ => rfl⟩
  | 1, _ => exact ⟨a, g b, c, d, rfl, fun j hj => by match j, hj with | 0, _ => rfl | 1, _ => rfl | 2, _ => rfl | 3, _ => rfl⟩
  | 2, _ => exact ⟨a, b, g c, d, rfl, fun j hj => by match j, hj with | 0, _ => rfl | 1, _ => rfl | 2, _ => rfl | 3, _ => rfl⟩
  | 3, _ => exact ⟨a, b, c, g d, rfl, fun j hj => by match j, hj with | 0, _ => rfl | 1, _ => rfl | 2, _ => rfl | 3, _ => rfl⟩
theorem setF_get {α : Type} (x : Option α) : ∀ (f : Nat) (t : T α) (n m : Nat) (v : α), (T.setF x f t n).get m = some v → (m = n ∧ x = some v) ∨ (m ≠ n ∧ t.get m = some v)
  | 0, t, n, m, v, h => by
    have : (T.leaf : T α).get m = some v := h
    cases this
  | f + 1, t, n, m, v, h => by
    have key : ∀ (o : Option α) (a b c d : T α), (∀ m v, (T.node o a b c d).get m = some v → t.get m = some v) →
        (T.casesOn (motive := fun _ => T α) t (Nat.casesOn n (.node x .leaf .leaf .leaf .leaf) (fun m => turn4 (Nat.mod m 4) none .leaf .leaf .leaf .leaf (fun t => T.setF x f t (Nat.div m 4))))
          (fun o a b c d => Nat.casesOn n (.node x a b c d) (fun m => turn4 (Nat.mod m 4) o a b c d (fun t => T.setF x f t (Nat.div m 4))))) =
        (Nat.casesOn n (.node x a b c d) (fun m => turn4 (Nat.mod m 4) o a b c d (fun t => T.setF x f t (Nat.div m 4))) : T α) → (m = n ∧ x = some v) ∨ (m ≠ n ∧ t.get m = some v) := by
      intro o a b c d hsub he
      have h2 : (Nat.casesOn n (.node x a b c d) (fun m => turn4 (Nat.mod m 4) o a b c d (fun t => T.setF x f t (Nat.div m 4))) : T α).get m = some v := by rw [← he]; exact h
      cases n with
      | zero =>
        cases m with
        | zero => exact .inl ⟨rfl, h2⟩
        | succ m =>
          refine .inr ⟨by simp, hsub _ _ ?_⟩
          have h3 : (T.node x a b c d).get (m + 1) = some v := h2
          rw [get_succ] at h3 ⊢
          exact h3
      | succ n =>
        have h3 : (turn4 (n % 4) o a b c d (fun t => T.setF x f t (n / 4))).get m = some v := h2
        obtain ⟨a', b', c', d', e, hk⟩ := turn4_kid (n % 4) (Nat.mod_lt _ (by decide)) o a b c d (fun t => T.setF x f t (n / 4))
        rw [e] at h3
        cases m with
        | zero => exact .inr ⟨by simp, hsub _ _ h3⟩
        | succ m =>
          rw [get_succ, hk _ (Nat.mod_lt _ (by decide))] at h3
          by_cases hm : m % 4 = n % 4
          · rw [if_pos hm] at h3
            rcases setF_get x f _ _ _ _ h3 with ⟨h4, h5⟩ | ⟨h4, h5⟩
            · exact .inl ⟨by omega, h5⟩
            · refine .inr ⟨by omega, hsub _ _ ?_⟩
              rw [get_succ]
              exact h5
          · rw [if_neg hm] at h3
            refine .inr ⟨by omega, hsub _ _ ?_⟩
            rw [get_succ]
            exact h3
    cases t with
    | leaf => exact key none .leaf .leaf .leaf .leaf (fun m v hm => by
        cases m with
        | zero => exact hm
        | succ m =>
          rw [get_succ] at hm
          have : kid (.leaf : T α) .leaf .leaf .leaf (m % 4) = .leaf := by
            have h : m % 4 < 4 := Nat.mod_lt _ (by decide)
            match m % 4, h with
            | 0, _ => rfl
            | 1, _ => rfl
            | 2, _ => rfl
            | 3, _ => rfl
          rw [this] at hm
          cases hm) rfl
    | node o a b c d => exact key o a b c d (fun _ _ h => h) rfl
theorem set_get {α : Type} {x : α} {t : T α} {n m : Nat} {v : α} (h : (t.set x n).get m = some v) : (m = n ∧ v = x) ∨ (m ≠ n ∧ t.get m = some v) := by
  rcases setF_get (some x) 12 t n m v h with ⟨h1, h2⟩ | h1
  · exact .inl ⟨h1, (Option.some.inj h2).symm⟩
  · exact .inr h1
theorem del_get {α : Type} {t : T α} {n m : Nat} {v : α} (h : (t.del n).get m = some v) : m ≠ n ∧ t.get m = some v := by
  rcases setF_get none 12 t n m v h with ⟨_, h2⟩ | h1
  · cases h2
  · exact h1
end Go.Proofs.YtjfcjpbolokfcaaGreatDoor.Ev
