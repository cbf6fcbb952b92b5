/-
  billetref04.Canon: the walk.
-/
import Derived.Test.YtdbjihkgafhakaaGreatDoorRProp3
namespace Go.Proofs.YtdbjihkgafhakaaGreatDoor
open Go.RowKit

def upto (a i : Nat) (l : List Pr) : List Pr := (l.take i).eraseIdx a
theorem upto_zero (a : Nat) (l : List Pr) : upto a 0 l = [] := by simp [upto]
theorem upto_at {a : Nat} {l : List Pr} {q : Pr} (h : l[a]? = some q) : upto a (a + 1) l = upto a a l := by
  have ha : a < l.length := (List.getElem?_eq_some_iff.1 h).1
  have e1 : (l.take a).length = a := by rw [List.length_take]; omega
  unfold upto
  rw [take_snoc_of h, List.eraseIdx_append_of_length_le (by omega), e1, Nat.sub_self]
  rw [show [q].eraseIdx 0 = [] from rfl, List.append_nil, List.eraseIdx_of_length_le (by omega)]
theorem upto_other {a i : Nat} {l : List Pr} {p : Pr} (h : l[i]? = some p) (hne : i ≠ a) : upto a (i + 1) l = upto a i l ++ [p] := by
  have hi : i < l.length := (List.getElem?_eq_some_iff.1 h).1
  unfold upto
  rw [take_snoc_of h]
  rcases Nat.lt_or_ge a i with hlt | hge
  · rw [List.eraseIdx_append_of_lt_length (by rw [List.length_take]; omega)]
  · rw [List.eraseIdx_of_length_le (by simp [List.length_take]; omega), List.eraseIdx_of_length_le (by rw [List.length_take]; omega)]
theorem upto_all (a : Nat) (l : List Pr) : upto a l.length l = l.eraseIdx a := by unfold upto; rw [List.take_length]
theorem upto_len (a i : Nat) (l : List Pr) : (upto a i l).length ≤ i := by
  unfold upto
  refine Nat.le_trans (List.length_eraseIdx_le _ _) ?_
  rw [List.length_take]
  omega
def sliceLen : Value → Nat
  | .slice _ n _ => n
  | _ => 0
theorem erase_perm : ∀ {l : List Pr} {a : Nat} {q : Pr}, l[a]? = some q → (q :: l.eraseIdx a).Perm l
  | [], _, _, h => by simp at h
  | x :: r, 0, q, h => by simp at h; subst h; exact List.Perm.refl _
  | x :: r, a + 1, q, h => by
    have ih := erase_perm (l := r) (a := a) (q := q) (by simpa using h)
    rw [List.eraseIdx_cons_succ]
    exact (List.Perm.swap x q _).trans (ih.cons x)

/-- The outer loop: what is laid, and what is left. -/
structure CSt (l0 acc rest : List Pr) : Prop where
  perm : (acc ++ rest).Perm l0
  rising : Rising acc
  below : ∀ p ∈ acc, ∀ q ∈ rest, kLt q p = false
theorem cst_start (l : List Pr) : CSt l [] l := ⟨List.Perm.refl _, List.Pairwise.nil, fun p hp => by cases hp⟩
theorem cst_step {l0 acc rest : List Pr} {a : Nat} {q : Pr} (h : CSt l0 acc rest) (hq : rest[a]? = some q) (hmin : ∀ p ∈ rest, kLt p q = false) : CSt l0 (acc ++ [q]) (rest.eraseIdx a) := by
  have hp := erase_perm hq
  refine ⟨?_, ?_, ?_⟩
  · rw [List.append_assoc]
    exact (List.Perm.append_left acc hp).trans h.perm
  · unfold Rising
    rw [List.pairwise_append]
    refine ⟨h.rising, List.pairwise_singleton _ _, fun p hpa x hx => ?_⟩
    rw [List.mem_singleton] at hx
    subst hx
    exact h.below p hpa _ (List.mem_of_getElem? hq)
  · intro p hpa x hx
    have hxr : x ∈ rest := hp.mem_iff.1 (List.mem_cons_of_mem _ hx)
    rcases List.mem_append.1 hpa with hpa | hpa
    · exact h.below p hpa x hxr
    · rw [List.mem_singleton] at hpa
      subst hpa
      exact hmin x hxr
theorem cst_end {l0 acc : List Pr} (ho : Once l0) (h : CSt l0 acc []) : acc = sortP l0 := sortP_of ho (by simpa using h.perm) h.rising
theorem cst_len {l0 acc rest : List Pr} (h : CSt l0 acc rest) : acc.length + rest.length = l0.length := by
  have := h.perm.length_eq
  simpa using this

def CRel (l0 : List Pr) (w : World) (lv ov : Value) (wr : World) : Prop := ∃ (acc rest : List Pr), CSt l0 acc rest ∧ wr.ownsRow w.heap.size 89 2 lv rest.length (flatP rest) ∧ wr.ownsRow w.heap.size 89 2 ov acc.length (flatP acc) ∧ Apart ov lv ∧ Below w.heap.size w wr
def URel (rest : List Pr) (a : Nat) (acc : List Pr) (w : World) (lv ov : Value) (rv i : Value) (wr : World) : Prop := ∃ k : Nat, i = .int .i64 k ∧ k ≤ rest.length ∧ wr.ownsRow w.heap.size 89 2 rv (upto a k rest).length (flatP (upto a k rest)) ∧
  wr.ownsRow w.heap.size 89 2 lv rest.length (flatP rest) ∧ wr.ownsRow w.heap.size 89 2 ov acc.length (flatP acc) ∧ Apart rv lv ∧ Apart rv ov ∧ Below w.heap.size w wr

end Go.Proofs.YtdbjihkgafhakaaGreatDoor
