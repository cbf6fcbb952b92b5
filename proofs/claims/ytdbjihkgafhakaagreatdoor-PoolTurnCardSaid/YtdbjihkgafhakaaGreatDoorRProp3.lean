/-
  billetref04.Show and least: the walks.
-/
import Derived.Test.YtdbjihkgafhakaaGreatDoorRProp2
import Derived.Deep.QuietTactic
import Derived.BigQuiet
import Derived.WalkLawsBesides
namespace Go.Proofs.YtdbjihkgafhakaaGreatDoor
open Go.RowKit

theorem join_snoc (c : UInt8) (x : List UInt8) : ∀ l : List (List UInt8), l ≠ [] → Lib.join (l ++ [x]) [c] = Lib.join l [c] ++ c :: x
  | [], h => absurd rfl h
  | [y], _ => by simp [Lib.join, List.intercalate, List.intersperse]
  | y :: z :: r, _ => by
    have ih := join_snoc c x (z :: r) (by simp)
    have e1 : Lib.join (y :: z :: r) [c] = y ++ c :: Lib.join (z :: r) [c] := by simp [Lib.join, List.intercalate, List.intersperse]
    have e2 : Lib.join (y :: z :: (r ++ [x])) [c] = y ++ c :: Lib.join (z :: (r ++ [x])) [c] := by simp [Lib.join, List.intercalate, List.intersperse]
    rw [e1, List.cons_append, List.cons_append, e2]
    rw [List.cons_append] at ih
    rw [ih]
    simp
theorem showP_one (p : Pr) : showP [p] = shown p := by simp [showP, Lib.join, List.intercalate]
theorem showP_snoc {l : List Pr} (p : Pr) (h : l ≠ []) : showP (l ++ [p]) = showP l ++ 44 :: shown p := by
  unfold showP
  rw [List.map_append, List.map_singleton, join_snoc _ _ _ (by simpa using h)]
theorem take_ne {l : List Pr} {k : Nat} (h : 0 < k) (hk : k < l.length) : l.take k ≠ [] := by
  intro e
  have h2 : (l.take k).length = 0 := by rw [e]; rfl
  rw [List.length_take] at h2
  omega
theorem modest_take {l : List Pr} (h : Modest l) (k : Nat) : Modest (l.take k) := ⟨by rw [List.length_take]; have := h.1; omega, fun p hp => h.2 p (List.mem_of_mem_take hp)⟩

/-! ### The least key -/
theorem less_cmp : ∀ a b : List UInt8, Op.bytesLess a b = decide (Lib.compareBytes a b < 0)
  | [], [] => rfl
  | [], _ :: _ => rfl
  | _ :: _, [] => rfl
  | x :: r, y :: t => by
    rw [Op.bytesLess, Lib.compareBytes, less_cmp r t]
    by_cases h : x < y
    · simp [h]
    · by_cases h2 : y < x
      · have hne : (x == y) = false := by
          rw [beq_eq_false_iff_ne]
          rintro rfl
          exact h h2
        simp [h, h2, hne]
      · have he : x = y := by
          rw [UInt8.lt_iff_toNat_lt] at h h2
          exact UInt8.toNat_inj.1 (by omega)
        subst he
        simp [h]
theorem less_kLt (p q : Pr) : Op.bytesLess p.1.toList q.1.toList = kLt p q := by
  rw [ByteArray.toList_eq, ByteArray.toList_eq, less_cmp]
  rfl
def LeastPost (l : List Pr) (w : World) (e : Ending) (w' : World) : Prop := ∃ (a : Nat) (q : Pr), e = .returned (.int .i64 a) ∧ l[a]? = some q ∧ (∀ p ∈ l, kLt p q = false) ∧ Below w.heap.size w w'
def LeastRel (l : List Pr) (w : World) (v i : Value) (wr : World) : Prop := ∃ (a k : Nat) (q : Pr), v = .int .i64 a ∧ i = .int .i64 k ∧ 1 ≤ k ∧ k ≤ l.length ∧ l[a]? = some q ∧ (∀ p ∈ l.take k, kLt p q = false) ∧ Below w.heap.size w wr

end Go.Proofs.YtdbjihkgafhakaaGreatDoor
