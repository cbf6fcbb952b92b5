/-
  Whose turn it is: the plain law.
-/
import Derived.Test.YtdbjihkgafhakaaGreatDoorPool9
namespace Go.Proofs.YtdbjihkgafhakaaGreatDoor

/-- All numbers, class by class. -/
def sv (L : List PN) : List Int := L.flatMap (fun n => n.cls.map PC.served)
theorem sv_append (A B : List PN) : sv (A ++ B) = sv A ++ sv B := by simp [sv]
theorem split_at {α : Type} : ∀ {l : List α} {i : Nat} {x : α}, l[i]? = some x → ∃ A B, l = A ++ x :: B ∧ A.length = i ∧ ∀ y, l.set i y = A ++ y :: B
  | [], _, _, h => by simp at h
  | a :: l, 0, x, h => by
    simp at h
    subst h
    exact ⟨[], l, rfl, rfl, fun y => rfl⟩
  | a :: l, i + 1, x, h => by
    obtain ⟨A, B, h1, h2, h3⟩ := split_at (l := l) (i := i) (by simpa using h)
    exact ⟨a :: A, B, by rw [h1]; rfl, by simp [h2], fun y => by rw [List.set_cons_succ, h3]; rfl⟩
/-- A class set: its number alone changes. -/
theorem sv_split {L : List PN} {i k : Nat} {n : PN} {c : PC} (hn : L[i]? = some n) (hc : n.cls[k]? = some c) : ∃ A B, sv L = A ++ c.served :: B ∧ ∀ c' : PC, sv (L.set i { n with cls := n.cls.set k c' }) = A ++ c'.served :: B := by
  obtain ⟨A, B, h1, _, h3⟩ := split_at hn
  obtain ⟨C, D, g1, _, g3⟩ := split_at hc
  refine ⟨sv A ++ C.map PC.served, D.map PC.served ++ sv B, ?_, fun c' => ?_⟩
  · rw [h1, sv_append]
    show sv A ++ (n.cls.map PC.served ++ sv B) = _
    rw [g1]
    simp
  · rw [h3, sv_append]
    show sv A ++ ((n.cls.set k c').map PC.served ++ sv B) = _
    rw [g3]
    simp
theorem sv_same {L : List PN} {i k : Nat} {n : PN} {c c' : PC} (hn : L[i]? = some n) (hc : n.cls[k]? = some c) (h : c'.served = c.served) : sv (L.set i { n with cls := n.cls.set k c' }) = sv L := by
  obtain ⟨A, B, h1, h2⟩ := sv_split hn hc
  rw [h1, h2, h]
theorem sv_uses {L : List PN} {i : Nat} {n : PN} {u : Int} (hn : L[i]? = some n) : sv (L.set i { n with uses := u }) = sv L := by
  obtain ⟨A, B, h1, _, h3⟩ := split_at hn
  rw [h3, h1, sv_append, sv_append]
  rfl
theorem sv_mem {L : List PN} {i k : Nat} {n : PN} {c : PC} (hn : L[i]? = some n) (hc : n.cls[k]? = some c) : c.served ∈ sv L := by
  unfold sv
  rw [List.mem_flatMap]
  exact ⟨n, List.mem_of_getElem? hn, List.mem_map_of_mem (List.mem_of_getElem? hc)⟩
theorem sv_len {L : List PN} {m : Nat} (h : ∀ n ∈ L, n.cls.length = m) : (sv L).length = L.length * m := by
  induction L with
  | nil => simp [sv]
  | cons a l ih =>
    have h1 := h a List.mem_cons_self
    have h2 := ih (fun n hn => h n (List.mem_cons_of_mem _ hn))
    show (a.cls.map PC.served ++ sv l).length = _
    rw [List.length_append, List.length_map, h1, h2, List.length_cons, Nat.succ_mul]
    omega
def fewer (t : Int) (l : List Int) : Nat := l.countP (fun s => decide (s < t))
theorem fewer_lt {t : Int} {l : List Int} (h : t ∈ l) : fewer t l < l.length := by
  unfold fewer
  obtain ⟨A, B, rfl⟩ := List.append_of_mem h
  have h1 := List.countP_le_length (p := fun s => decide (s < t)) (l := A)
  have h2 := List.countP_le_length (p := fun s => decide (s < t)) (l := B)
  rw [List.countP_append, List.countP_cons, List.length_append, List.length_cons]
  simp
  omega
/-- What holds of pools as a law has them. -/
structure PInv (x : PX) (next : Int) (L : List PN) : Prop where
  few : (L.length : Int) ≤ x.pools
  len : ∀ n ∈ L, n.cls.length = x.classes
  low : ∀ s ∈ sv L, 0 ≤ s ∧ s < next
  once : (sv L).Nodup
  names : ∀ (i j : Nat) n m, L[i]? = some n → L[j]? = some m → n.name = m.name → i = j
  uses : ∀ n ∈ L, 1 ≤ n.uses
/-- The class that is asked for. -/
def Asked (L : List PN) (s : ByteArray) (k : Int) (c : PC) : Prop := ∃ (i j : Nat) (n : PN), L[i]? = some n ∧ n.name = s ∧ k = j ∧ n.cls[j]? = some c
/-- How many Takes went by: what is claimed. -/
def TurnInv (x : PX) (L : List PN) (s : ByteArray) (k n : Int) : Prop := 0 ≤ n ∧ ((∀ c, Asked L s k c → 0 < totT c.rows → n + fewer c.served (sv L) < x.pools * x.classes) ∧ ((∀ c, Asked L s k c → totT c.rows = 0) → n = 0))
section
variable {x : PX} {next n : Int} {L L' : List PN} {s : ByteArray} {k : Int}
theorem asked_once (h : PInv x next L) {c d : PC} (hc : Asked L s k c) (hd : Asked L s k d) : c = d := by
  obtain ⟨i, j, a, h1, h2, h3, h4⟩ := hc
  obtain ⟨i', j', a', g1, g2, g3, g4⟩ := hd
  obtain rfl := h.names i i' a a' h1 g1 (h2.trans g2.symm)
  obtain rfl : a = a' := Option.some.inj (h1.symm.trans g1)
  obtain rfl : j = j' := by omega
  exact Option.some.inj (h4.symm.trans g4)
theorem turn_zero (h : PInv x next L) : TurnInv x L s k 0 := by
  refine ⟨Int.le_refl _, fun c hc _ => ?_, fun _ => rfl⟩
  obtain ⟨i, j, a, h1, _, _, h4⟩ := hc
  have h2 := fewer_lt (sv_mem h1 h4)
  rw [sv_len h.len] at h2
  have h3 : (L.length : Int) * x.classes ≤ x.pools * x.classes := Int.mul_le_mul_of_nonneg_right h.few (by omega)
  have h5 : ((L.length * x.classes : Nat) : Int) = (L.length : Int) * x.classes := by push_cast; rfl
  omega
/-- The claim, once n is as small as it must be: what a law's round ends with. -/
theorem turn_lt (h : TurnInv x L s k n) (_hp : PInv x next L) (h1 : 1 ≤ x.pools) (h2 : 1 ≤ x.classes) : n < x.pools * x.classes := by
  have hpos : (1 : Int) ≤ x.pools * x.classes := by
    have : (1 : Int) * 1 ≤ x.pools * x.classes := Int.mul_le_mul h1 (by omega) (by omega) (by omega)
    omega
  by_cases hw : ∃ c, Asked L s k c ∧ 0 < totT c.rows
  · obtain ⟨c, hc, hw⟩ := hw
    have := h.2.1 c hc hw
    omega
  · have := h.2.2 (fun c hc => by
      refine Classical.byContradiction fun hn => hw ⟨c, hc, by omega⟩)
    omega
end
end Go.Proofs.YtdbjihkgafhakaaGreatDoor
