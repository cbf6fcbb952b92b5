/-
  Items and queues: how a queue lies in memory.
-/
import Derived.Test.YtohkchilogmneaaRole
namespace Go.Proofs.Ytohkchilogmneaa
open Go.RowKit

structure It where
  id : Int
  cost : Int
deriving DecidableEq
def hasIt (id : Int) (l : List It) : Bool := l.any (fun x => x.id == id)
def itE (l : List It) (x : It) : Int := if x.id < 1 ∨ x.cost < 1 ∨ 64 < x.cost then 1 else if hasIt x.id l = true then 8 else 0
def dropIt (l : List It) (id : Int) : List It := l.filter (fun x => !(x.id == id))
def costIt (l : List It) : Int := (l.map It.cost).sum
def I64 (n : Int) : Prop := (Lit.int .i64 n).wf = true
/-- Items as they may wait: no number twice. -/
structure GoodIts (l : List It) : Prop where
  once : (l.map It.id).Nodup
  ok : ∀ x ∈ l, 1 ≤ x.id ∧ I64 x.id ∧ 1 ≤ x.cost ∧ x.cost ≤ 64
  few : l.length ≤ 1000000
theorem good_nil : GoodIts [] := ⟨by simp, (fun x hx => by cases hx), by simp⟩
theorem cost_bounds : ∀ {l : List It}, (∀ x ∈ l, 1 ≤ x.id ∧ I64 x.id ∧ 1 ≤ x.cost ∧ x.cost ≤ 64) → 0 ≤ costIt l ∧ costIt l ≤ 64 * l.length
  | [], _ => by simp [costIt]
  | x :: r, h => by
    have h1 := cost_bounds (l := r) (fun y hy => h y (List.mem_cons_of_mem _ hy))
    have h2 := h x (by simp)
    simp only [costIt, List.map_cons, List.sum_cons, List.length_cons] at h1 ⊢
    omega
theorem once_inj {l : List It} (h : (l.map It.id).Nodup) {i j : Nat} {x y : It} (hx : l[i]? = some x) (hy : l[j]? = some y) (he : x.id = y.id) : i = j := by
  have h1 : (l.map It.id)[i]? = some x.id := by simp [hx]
  have h2 : (l.map It.id)[j]? = some x.id := by simp [hy, he]
  have hi : i < (l.map It.id).length := (List.getElem?_eq_some_iff.1 h1).1
  exact (List.getElem?_inj hi h).1 (h1.trans h2.symm)
theorem has_iff {id : Int} {l : List It} : hasIt id l = true ↔ ∃ (i : Nat) (x : It), l[i]? = some x ∧ x.id = id := by
  unfold hasIt
  rw [List.any_eq_true]
  constructor
  · rintro ⟨x, hx, he⟩
    obtain ⟨i, hi, rfl⟩ := List.getElem_of_mem hx
    exact ⟨i, _, List.getElem?_eq_getElem hi, by simpa using he⟩
  · rintro ⟨i, x, hx, he⟩
    exact ⟨x, List.mem_of_getElem? hx, by simpa using he⟩
/-- The item that has a number is left out: the place of it. -/
theorem drop_erase {l : List It} (h : (l.map It.id).Nodup) {i : Nat} {x : It} (hx : l[i]? = some x) : dropIt l x.id = l.eraseIdx i := by
  induction l generalizing i with
  | nil => simp at hx
  | cons y r ih =>
    rw [List.map_cons, List.nodup_cons] at h
    cases i with
    | zero =>
      simp at hx
      subst hx
      rw [List.eraseIdx_cons_zero, dropIt, List.filter_cons, if_neg (by simp), List.filter_eq_self]
      intro z hz
      have : z.id ≠ y.id := fun e => h.1 (by rw [← e]; exact List.mem_map_of_mem hz)
      simp [this]
    | succ j =>
      have hx' : r[j]? = some x := by simpa using hx
      have hm : x ∈ r := List.mem_of_getElem? hx'
      have hne : y.id ≠ x.id := fun e => h.1 (by rw [e]; exact List.mem_map_of_mem hm)
      rw [List.eraseIdx_cons_succ, ← ih h.2 hx', dropIt, List.filter_cons, if_pos (by simp [hne])]
      rfl
theorem drop_none {l : List It} {id : Int} (h : hasIt id l = false) : dropIt l id = l := by
  unfold dropIt
  rw [List.filter_eq_self]
  intro x hx
  have := (List.any_eq_false.1 h) x hx
  simpa using this
theorem good_erase {l : List It} (h : GoodIts l) (i : Nat) : GoodIts (l.eraseIdx i) := by
  refine ⟨?_, fun x hx => h.ok x (List.mem_of_mem_eraseIdx hx), Nat.le_trans (List.length_eraseIdx_le _ _) h.few⟩
  exact h.once.sublist ((List.eraseIdx_sublist l i).map It.id)
theorem good_snoc {l : List It} {x : It} (h : GoodIts l) (h0 : itE l x = 0) (hw : I64 x.id) (hf : l.length < 1000000) : GoodIts (l ++ [x]) := by
  unfold itE at h0
  split at h0
  · cases h0
  · rename_i h1
    split at h0
    · cases h0
    · rename_i h2
      refine ⟨?_, fun y hy => ?_, by simp; omega⟩
      · rw [List.map_append, List.nodup_append]
        refine ⟨h.once, by simp, fun a ha b hb => ?_⟩
        simp at hb
        subst hb
        obtain ⟨y, hy, rfl⟩ := List.mem_map.1 ha
        intro e
        exact h2 (List.any_eq_true.2 ⟨y, hy, by simpa using e⟩)
      · rcases List.mem_append.1 hy with hy | hy
        · exact h.ok y hy
        · rw [List.mem_singleton] at hy
          subst hy
          exact ⟨by omega, hw, by omega, by omega⟩

/-! ### In memory -/
def keyI (id : Int) : Lit := .int .i64 id
/-- How a pointer to a link reads, in a map. -/
def lkR (v : Value) : Option (DataW Unit × List MemPlace) := match v with
  | .pointer (some ⟨b, 0, none⟩) => some (.lit (.int .i64 b), [])
  | .pointer none => some (.nil, [])
  | _ => none
theorem lkR_some (b : Nat) : lkR (.pointer (some ⟨b, 0, none⟩)) = some (.lit (.int .i64 b), []) := rfl
theorem lkR_none : lkR (.pointer none) = some (.nil, []) := rfl
theorem lkR_inv {v : Value} {b : Nat} {ps : List MemPlace} (h : lkR v = some (.lit (.int .i64 b), ps)) : v = .pointer (some ⟨b, 0, none⟩) := by
  unfold lkR at h
  split at h
  · rename_i b'
    simp at h
    obtain rfl : b' = b := by omega
    rfl
  · simp at h
  · cases h
theorem lkR_nil {v : Value} {ps : List MemPlace} (h : lkR v = some (.nil, ps)) : v = .pointer none := by
  unfold lkR at h
  split at h
  · simp at h
  · rfl
  · cases h
def lkP (lk : Int → Nat) : Option It → Value
  | some y => .pointer (some ⟨lk y.id, 0, none⟩)
  | none => .pointer none
/-- The one ahead. -/
def prevI (l : List It) (i : Nat) : Option It := if i = 0 then none else l[i - 1]?
def linkC (lk : Int → Nat) (l : List It) (i : Nat) (x : It) : Array Value := #[.int .i64 x.id, .int .i64 x.cost, lkP lk (prevI l i), lkP lk l[i + 1]?]
/-- A queue, at block q; pre: its part. -/
structure QAt (pre : List Int) (ρ : Roles) (w : World) (q m : Nat) (lk : Int → Nat) (D : DataW Unit) (l : List It) : Prop where
  head : w.heap[q]? = some (.cells #[lkP lk l.head?, lkP lk l.getLast?, .map (some m), .int .i64 (costIt l)] 149 (0, 0))
  rq : ρ q = pre ++ [1]
  rm : ρ m = pre ++ [2]
  map : w.ownsMap Try.prog 3 lkR m l.length D
  size : Maps.size D = l.length
  has : ∀ id, I64 id → Maps.has D (keyI id) = hasIt id l
  at_ : ∀ x ∈ l, ∀ z, D.atKey (keyI x.id) z = .lit (.int .i64 (lk x.id))
  link : ∀ (i : Nat) x, l[i]? = some x → ρ (lk x.id) = pre ++ [3, x.id] ∧ w.heap[lk x.id]? = some (.cells (linkC lk l i x) 152 (0, 0))
  good : GoodIts l
def QueAt (pre : List Int) (ρ : Roles) (w : World) (q : Nat) (l : List It) : Prop := ∃ m lk D, QAt pre ρ w q m lk D l
theorem keyI_of {id : Int} (h : I64 id) : keyOf Try.prog 3 (.int .i64 id) = some (keyI id) := Maps.keyOf_int_mk Try.underlying3 h
theorem keyI_is (id : Int) : WideAt.IsKeyLit (keyI id) := by unfold keyI; trivial
theorem keyI_ne {a b : Int} (h : a ≠ b) : keyI a ≠ keyI b := fun e => by unfold keyI at e; cases e; exact h rfl
theorem keyT : Maps.Keyed Try.prog 3 := Maps.int_keyed Try.underlying3
section
variable {pre : List Int} {ρ ρ' : Roles} {w w' : World} {q m : Nat} {lk : Int → Nat} {D : DataW Unit} {l : List It}
theorem QAt.later (h : QAt pre ρ w q m lk D l) (hl : Later ρ ρ' w) : QAt pre ρ' w q m lk D l :=
  ⟨h.head, (hl q (fp_lt_of_heap h.head)).trans h.rq, (hl m h.map.lt).trans h.rm, h.map, h.size, h.has, h.at_, fun i x hx => ⟨(hl _ (fp_lt_of_heap (h.link i x hx).2)).trans (h.link i x hx).1, (h.link i x hx).2⟩, h.good⟩
theorem QAt.frame (h : QAt pre ρ w q m lk D l) {S : Nat → Prop} (hf : Fp S w w') (hS : ∀ k, k < w.heap.size → Part ρ pre k → ¬ S k) : QAt pre ρ w' q m lk D l :=
  ⟨hf.heap h.head (hS q (fp_lt_of_heap h.head) ⟨_, h.rq⟩), h.rq, h.rm, hf.ownMap h.map (hS m h.map.lt ⟨_, h.rm⟩), h.size, h.has, h.at_,
    fun i x hx => ⟨(h.link i x hx).1, hf.heap (h.link i x hx).2 (hS _ (fp_lt_of_heap (h.link i x hx).2) ⟨_, (h.link i x hx).1⟩)⟩, h.good⟩
theorem QAt.below (h : QAt pre ρ w q m lk D l) (hb : Below w.heap.size w w') : QAt pre ρ w' q m lk D l := h.frame (S := fun _ => False) (Fp.of_below hb) (fun _ _ _ h => h)
theorem QueAt.later (h : QueAt pre ρ w q l) (hl : Later ρ ρ' w) : QueAt pre ρ' w q l := by obtain ⟨m, lk, D, h⟩ := h; exact ⟨m, lk, D, h.later hl⟩
theorem QueAt.frame (h : QueAt pre ρ w q l) {S : Nat → Prop} (hf : Fp S w w') (hS : ∀ k, k < w.heap.size → Part ρ pre k → ¬ S k) : QueAt pre ρ w' q l := by obtain ⟨m, lk, D, h⟩ := h; exact ⟨m, lk, D, h.frame hf hS⟩
theorem QueAt.below (h : QueAt pre ρ w q l) (hb : Below w.heap.size w w') : QueAt pre ρ w' q l := by obtain ⟨m, lk, D, h⟩ := h; exact ⟨m, lk, D, h.below hb⟩
theorem QueAt.good (h : QueAt pre ρ w q l) : GoodIts l := by obtain ⟨m, lk, D, h⟩ := h; exact h.good
end
end Go.Proofs.Ytohkchilogmneaa
