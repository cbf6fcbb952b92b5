/-
  Going round among nodes by deficits, in plain words.
-/
import Derived.Test.YtohkchilogmneaaSpin6
namespace Go.Proofs.Ytohkchilogmneaa
open Go.RowKit

/-- The head's node, charged if it was not given its quantum. -/
def charge (q : Int) (gv : Bool) (n : Nd) : Nd := if gv then n else { n with df := n.df + q * n.wt }
section
variable {α : Type}
/-- From (gv, ns, a) the pick ends at ns2, a2 (given), with the item y. -/
inductive Picks (q : Int) (pk : α → Int → α × It) : Bool → List Nd → α → List Nd → α → It → Prop
  | grant {gv : Bool} {n : Nd} {r : List Nd} {a : α} (h : (pk a n.id).2.cost ≤ (charge q gv n).df) : Picks q pk gv (n :: r) a (charge q gv n :: r) (pk a n.id).1 (pk a n.id).2
  | rotate {gv : Bool} {n : Nd} {r : List Nd} {a : α} {ns2 : List Nd} {a2 : α} {y : It} (h : ¬ (pk a n.id).2.cost ≤ (charge q gv n).df) (hr : Picks q pk false (r ++ [charge q gv n]) (pk a n.id).1 ns2 a2 y) : Picks q pk gv (n :: r) a ns2 a2 y
theorem Picks.once {q : Int} {pk : α → Int → α × It} {gv : Bool} {ns : List Nd} {a : α} {ns2 ns3 : List Nd} {a2 a3 : α} {y z : It} (h : Picks q pk gv ns a ns2 a2 y) (h' : Picks q pk gv ns a ns3 a3 z) : ns2 = ns3 ∧ a2 = a3 ∧ y = z := by
  induction h with
  | grant h =>
    cases h' with
    | grant => exact ⟨rfl, rfl, rfl⟩
    | rotate h1 => exact absurd h h1
  | rotate h _ ih =>
    cases h' with
    | grant h1 => exact absurd h1 h
    | rotate _ h2 => exact ih h2
end
/-- The bounds on a ring's nodes. -/
def NdOk (top : Int) (n : Nd) : Prop := 1 ≤ n.wt ∧ n.wt ≤ 16 ∧ 0 ≤ n.df ∧ n.df ≤ top
def NdsOk (gv : Bool) : List Nd → Prop
  | [] => True
  | n :: r => NdOk (if gv then 2112 else 1088) n ∧ ∀ m ∈ r, NdOk 1088 m
theorem NdOk.mono {t t' : Int} {n : Nd} (h : NdOk t n) (ht : t ≤ t') : NdOk t' n := ⟨h.1, h.2.1, h.2.2.1, Int.le_trans h.2.2.2 ht⟩
theorem ndsOk_false {ns : List Nd} : NdsOk false ns ↔ ∀ m ∈ ns, NdOk 1088 m := by
  cases ns with
  | nil => simp [NdsOk]
  | cons n r => simp [NdsOk]
theorem mul_le_of {q w : Int} (hq1 : 1 ≤ q) (hq : q ≤ 64) (hw1 : 1 ≤ w) (hw : w ≤ 16) : 1 ≤ q * w ∧ q * w ≤ 1024 := by
  have h1 : 1 * 1 ≤ q * w := Int.mul_le_mul hq1 hw1 (by decide) (by omega)
  have h2 : q * w ≤ 64 * 16 := Int.mul_le_mul hq hw (by omega) (by decide)
  omega
theorem charge_ok {q : Int} {gv : Bool} {n : Nd} (hq1 : 1 ≤ q) (hq : q ≤ 64) (h : NdOk (if gv then 2112 else 1088) n) : NdOk 2112 (charge q gv n) := by
  cases gv with
  | true => exact h
  | false =>
    have hm := mul_le_of hq1 hq h.1 h.2.1
    obtain ⟨h1, h2, h3, h4⟩ := h
    exact ⟨h1, h2, by simp only [charge]; simp; omega, by simp only [charge]; simp at h4 ⊢; omega⟩
theorem rotate_ok {q c : Int} {gv : Bool} {n : Nd} {r : List Nd} (hq1 : 1 ≤ q) (hq : q ≤ 64) (hc : c ≤ 64) (h : NdsOk gv (n :: r)) (hn : ¬ c ≤ (charge q gv n).df) : NdsOk false (r ++ [charge q gv n]) := by
  rw [ndsOk_false]
  intro m hm
  rcases List.mem_append.1 hm with hm | hm
  · exact h.2 m hm
  · rw [List.mem_singleton] at hm
    subst hm
    obtain ⟨h1, h2, h3, _⟩ := charge_ok hq1 hq h.1
    exact ⟨h1, h2, h3, by omega⟩
/-- What a round makes less. -/
def lack (ns : List Nd) : Nat := (ns.map (fun n => (65 - n.df).toNat)).sum
def roundM (gv : Bool) (ns : List Nd) : Nat := 2 * lack ns + if gv then 2 else 1
theorem roundM_less {q c : Int} {gv : Bool} {n : Nd} {r : List Nd} (hq1 : 1 ≤ q) (hq : q ≤ 64) (hc : c ≤ 64) (h : NdsOk gv (n :: r)) (hn : ¬ c ≤ (charge q gv n).df) : roundM false (r ++ [charge q gv n]) < roundM gv (n :: r) := by
  have hs : lack (r ++ [charge q gv n]) = lack r + (65 - (charge q gv n).df).toNat := by simp [lack]
  have hs2 : lack (n :: r) = (65 - n.df).toNat + lack r := by simp [lack]
  unfold roundM
  rw [hs, hs2]
  cases gv with
  | true => simp [charge]; omega
  | false =>
    have hm := mul_le_of hq1 hq h.1.1 h.1.2.1
    simp only [charge, Bool.false_eq_true, if_false] at hn ⊢
    omega
theorem charge_id (q : Int) (gv : Bool) (n : Nd) : (charge q gv n).id = n.id ∧ (charge q gv n).blk = n.blk ∧ (charge q gv n).src = n.src ∧ (charge q gv n).wt = n.wt := by
  cases gv <;> exact ⟨rfl, rfl, rfl, rfl⟩
end Go.Proofs.Ytohkchilogmneaa
