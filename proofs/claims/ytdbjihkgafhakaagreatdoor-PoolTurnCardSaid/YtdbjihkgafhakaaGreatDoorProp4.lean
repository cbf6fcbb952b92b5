/-
  prop.Show: the walk.
-/
import Derived.Test.YtdbjihkgafhakaaGreatDoorProp3
namespace Go.Proofs.YtdbjihkgafhakaaGreatDoor
open Go.RowKit

/-- Pairs that are not too long. -/
def Modest (l : List Pr) : Prop := l.length ≤ 1000 ∧ ∀ p ∈ l, p.1.size ≤ 1048576 ∧ p.2.size ≤ 1048576
theorem ba_append (a b : ByteArray) : a ++ b = ba (a.data.toList ++ b.data.toList) := by apply ba_ext; simp [ba_toList]
theorem shown_ba (p : Pr) : p.1 ++ ⟨#[61]⟩ ++ p.2 = ba (shown p) := by
  apply ba_ext
  simp [ba_toList, shown]
theorem join_len_le (c : UInt8) (M : Nat) : ∀ l : List (List UInt8), (∀ x ∈ l, x.length ≤ M) → (Lib.join l [c]).length ≤ l.length * (M + 1)
  | [], _ => by simp [Lib.join, List.intercalate]
  | [x], h => by have := h x (by simp); simp [Lib.join, List.intercalate, List.intersperse]; omega
  | x :: y :: r, h => by
    have ih := join_len_le c M (y :: r) (fun z hz => h z (List.mem_cons_of_mem _ hz))
    have h1 := h x (by simp)
    have e2 : Lib.join (x :: y :: r) [c] = x ++ c :: Lib.join (y :: r) [c] := by simp [Lib.join, List.intercalate, List.intersperse]
    rw [e2]
    simp only [List.length_append, List.length_cons] at ih ⊢
    rw [Nat.add_mul]
    omega
theorem showP_len {l : List Pr} (h : Modest l) : (showP l).length ≤ 2097154000 := by
  have h1 := join_len_le 44 2097153 (l.map shown) (fun x hx => by
    obtain ⟨p, hp, rfl⟩ := List.mem_map.1 hx
    obtain ⟨h1, h2⟩ := h.2 p hp
    have e1 : p.1.data.toList.length = p.1.size := by simp
    have e2 : p.2.data.toList.length = p.2.size := by simp
    simp only [shown, List.length_append, List.length_cons]
    omega)
  have h2 := h.1
  unfold showP
  simp only [List.length_map] at h1
  have : l.length * (2097153 + 1) ≤ 1000 * 2097154 := Nat.mul_le_mul h2 (Nat.le_refl _)
  omega
def showCells (l : List Pr) : List Value := l.map fun p => .string (ba (shown p))
theorem showCells_snoc (l : List Pr) (p : Pr) : showCells (l ++ [p]) = showCells l ++ [.string (p.1 ++ ⟨#[61]⟩ ++ p.2)] := by simp [showCells, shown_ba]
theorem take_snoc_of {l : List Pr} {k : Nat} {p : Pr} (h : l[k]? = some p) : l.take (k + 1) = l.take k ++ [p] := by
  obtain ⟨hk, rfl⟩ := List.getElem?_eq_some_iff.1 h
  exact List.take_succ_eq_append_getElem hk
theorem string_info : (Tryz.prog.info? 9).map (fun i => (i.zero, i.size, i.bytes)) = some (some (.string ⟨#[]⟩), 1, 16) := by kernel_rfl

theorem one_string (s : ByteArray) : ∀ u ∈ (#[Value.string s] : Array Value).toList, u.oneCell' = true := by
  intro u hu
  simp at hu
  subst hu
  rfl
/-- A slice of pairs, in one block from its head on. -/
def PairsAt (w : World) (v : Value) (l : List Pr) : Prop := ∃ a cap, v = .slice a l.length cap ∧ l.length ≤ cap ∧ cap ≤ maxLen ∧ ∀ i u, (flatP l)[i]? = some u → ∃ g, a = some ⟨g, 0, none⟩ ∧ g < w.heap.size ∧ w.cell? ⟨g, i, none⟩ = some u
theorem pairsAt_own {w : World} {base : Nat} {v : Value} {l : List Pr} (h : w.ownsRow base 89 2 v l.length (flatP l)) : PairsAt w v l := by
  obtain ⟨a, cap, rfl, hcap, hmax, hlen, hcell⟩ := own_cells h
  exact ⟨a, cap, rfl, hcap, hmax, fun i u hu => by obtain ⟨g, h1, _, h2, h3, _⟩ := hcell i u hu; exact ⟨g, h1, h2, h3⟩⟩
theorem PairsAt.below {w w' : World} {v : Value} {l : List Pr} (h : PairsAt w v l) (hb : Below w.heap.size w w') : PairsAt w' v l := by
  obtain ⟨a, cap, rfl, hcap, hmax, hcell⟩ := h
  exact ⟨a, cap, rfl, hcap, hmax, fun i u hu => by obtain ⟨g, h1, h2, h3⟩ := hcell i u hu; exact ⟨g, h1, Nat.lt_of_lt_of_le h2 hb.size, cell_below hb h3⟩⟩
def SRel (l : List Pr) (w : World) (v i : Value) (wr : World) : Prop := ∃ k : Nat, i = .int .i64 k ∧ k ≤ l.length ∧ wr.ownsRow w.heap.size 9 1 v k (showCells (l.take k)) ∧ Below w.heap.size w wr

end Go.Proofs.YtdbjihkgafhakaaGreatDoor
