/-
  Workers and their books: how they lie in memory; who has a number, or a name.
-/
import Derived.Test.YtmijmfgclmaodaaGreatDoorFr
namespace Go.Proofs.YtmijmfgclmaodaaGreatDoor
open Go.RowKit

structure Wk where
  no : Int
  cls : Int
  op : Int
  name : ByteArray
  plat : ByteArray
  paused : Bool
  untl : Int
def encW (x : Wk) : List Value := [.int .i64 x.no, .int .i64 x.cls, .int .i64 x.op, .string x.name, .string x.plat, .bool x.paused, .int .u64 x.untl]
theorem encW_len (x : Wk) : (encW x).length = 7 := rfl
theorem encW_one (x : Wk) : ∀ v ∈ encW x, v.oneCell' = true := by
  intro v hv
  simp only [encW, List.mem_cons, List.not_mem_nil, or_false] at hv
  rcases hv with rfl | rfl | rfl | rfl | rfl | rfl | rfl <;> rfl
def flatW (l : List Wk) : List Value := l.flatMap encW
theorem flatW_len (l : List Wk) : (flatW l).length = l.length * 7 := flat_len encW 7 encW_len l
theorem flatW_get {l : List Wk} {j : Nat} {x : Wk} (i : Nat) (h : l[j]? = some x) (hi : i < 7) : (flatW l)[j * 7 + i]? = (encW x)[i]? := flat_at encW 7 encW_len i h hi
theorem flatW_snoc (l : List Wk) (x : Wk) : flatW (l ++ [x]) = flatW l ++ encW x := by simp [flatW]
def noW : Wk := ⟨0, 0, 0, ⟨#[]⟩, ⟨#[]⟩, false, 0⟩

/-- A slice of workers. -/
def RowsW (w : World) (v : Value) (l : List Wk) : Prop :=
  ∃ a cap, v = .slice a l.length cap ∧ l.length ≤ 140737488351232 ∧ ∀ (j : Nat) u, (flatW l)[j]? = some u → ∃ g off, a = some ⟨g, off, none⟩ ∧ w.cell? ⟨g, off + j, none⟩ = some u
theorem RowsW.below {w w' : World} {v : Value} {l : List Wk} (h : RowsW w v l) (hb : Below w.heap.size w w') : RowsW w' v l := by
  obtain ⟨a, cap, rfl, hl, hc⟩ := h
  exact ⟨a, cap, rfl, hl, fun j u hu => by obtain ⟨g, off, ha, h0⟩ := hc j u hu; exact ⟨g, off, ha, cell_below hb h0⟩⟩
/-- The seven cells of one of them. -/
theorem RowsW.at {w : World} {a : Option Addr} {l : List Wk} (hc : ∀ (j : Nat) u, (flatW l)[j]? = some u → ∃ g off, a = some ⟨g, off, none⟩ ∧ w.cell? ⟨g, off + j, none⟩ = some u) {k : Nat} {x : Wk} (hx : l[k]? = some x) :
    ∃ g off, a = some ⟨g, off, none⟩ ∧ w.cell? ⟨g, off + k * 7, none⟩ = some (.int .i64 x.no) ∧ w.cell? ⟨g, off + k * 7 + 1, none⟩ = some (.int .i64 x.cls) ∧ w.cell? ⟨g, off + k * 7 + 2, none⟩ = some (.int .i64 x.op) ∧
      w.cell? ⟨g, off + k * 7 + 3, none⟩ = some (.string x.name) ∧ w.cell? ⟨g, off + k * 7 + 4, none⟩ = some (.string x.plat) ∧ w.cell? ⟨g, off + k * 7 + 5, none⟩ = some (.bool x.paused) ∧ w.cell? ⟨g, off + k * 7 + 6, none⟩ = some (.int .u64 x.untl) := by
  have e (i : Nat) (hi : i < 7) {u : Value} (hu : (encW x)[i]? = some u) : (flatW l)[k * 7 + i]? = some u := by rw [flatW_get i hx hi]; exact hu
  obtain ⟨g, off, rfl, h0⟩ := hc _ _ (e 0 (by omega) rfl)
  obtain ⟨g1, o1, e1, h1⟩ := hc _ _ (e 1 (by omega) rfl); cases e1
  obtain ⟨g2, o2, e2, h2⟩ := hc _ _ (e 2 (by omega) rfl); cases e2
  obtain ⟨g3, o3, e3, h3⟩ := hc _ _ (e 3 (by omega) rfl); cases e3
  obtain ⟨g4, o4, e4, h4⟩ := hc _ _ (e 4 (by omega) rfl); cases e4
  obtain ⟨g5, o5, e5, h5⟩ := hc _ _ (e 5 (by omega) rfl); cases e5
  obtain ⟨g6, o6, e6, h6⟩ := hc _ _ (e 6 (by omega) rfl); cases e6
  exact ⟨g, off, rfl, h0, h1, h2, h3, h4, h5, h6⟩
theorem RowsW.own {w : World} {base : Nat} {v : Value} {l : List Wk} (h : w.ownsRow base 33 7 v l.length (flatW l)) (hl : l.length ≤ 140737488351232) : RowsW w v l := by
  obtain ⟨a, cap, rfl, _, _, _, hc⟩ := own_cells h
  exact ⟨a, cap, rfl, hl, fun j u hu => by obtain ⟨g, ha, _, _, h0, _⟩ := hc j u hu; exact ⟨g, 0, ha, by rw [Nat.zero_add]; exact h0⟩⟩

structure Bk where
  room : Int
  last : Int
  ws : List Wk
/-- A book, at block b; v: its workers. -/
structure BookAt (T : TypeId) (base : Nat) (w : World) (b : Nat) (v : Value) (s : Bk) : Prop where
  le : base ≤ b
  heap : w.heap[b]? = some (.cells #[.int .i64 s.room, .int .i64 s.last, v] T (0, 0))
  own : w.ownsRow base 33 7 v s.ws.length (flatW s.ws)
  few : s.ws.length ≤ 1000
section
variable {T : TypeId} {base b : Nat} {w w' : World} {v : Value} {s : Bk}
theorem BookAt.c0 (h : BookAt T base w b v s) : w.cell? ⟨b, 0, none⟩ = some (.int .i64 s.room) := fr_cell_of_heap h.heap rfl
theorem BookAt.c1 (h : BookAt T base w b v s) : w.cell? ⟨b, 1, none⟩ = some (.int .i64 s.last) := fr_cell_of_heap h.heap rfl
theorem BookAt.c2 (h : BookAt T base w b v s) : w.cell? ⟨b, 2, none⟩ = some v := fr_cell_of_heap h.heap rfl
theorem BookAt.free (h : BookAt T base w b v s) (i : Nat) : w.frozen? ⟨b, i, none⟩ = false := fr_free_of_heap h.heap
theorem BookAt.lt (h : BookAt T base w b v s) : b < w.heap.size := (Array.getElem?_eq_some_iff.1 h.heap).1
theorem BookAt.rows (h : BookAt T base w b v s) : RowsW w v s.ws := RowsW.own h.own (by have := h.few; omega)
theorem BookAt.not_blk (h : BookAt T base w b v s) (hT : T ≠ 33) : b ∉ blk v := by
  intro hm
  rw [mem_blk] at hm
  obtain ⟨_, ⟨rfl, _⟩ | ⟨g, cap, cur, rfl, _, hh, _⟩⟩ := h.own
  · cases hm
  · simp only [Value.ownBlock, Option.some.injEq] at hm
    subst hm
    rw [h.heap] at hh
    simp only [Option.some.injEq, Obj.cells.injEq] at hh
    exact hT hh.2.1
theorem BookAt.frame {S : List Nat} (h : BookAt T base w b v s) (hf : Fr S w w') (hb : b ∉ S) (hv : ∀ k ∈ blk v, k ∉ S) : BookAt T base w' b v s :=
  ⟨h.le, hf.heap h.heap hb, hf.own h.own (fun k hk => hv k (mem_blk.2 hk)), h.few⟩
theorem BookAt.below (h : BookAt T base w b v s) (hb : Below w.heap.size w w') : BookAt T base w' b v s :=
  h.frame (S := []) (Fr.of_below hb) (by simp) (fun _ _ => by simp)
/-- The last number turns. -/
theorem BookAt.setLast (h : BookAt T base w b v s) (hT : T ≠ 33) (n : Int) : BookAt T base (w.setCell ⟨b, 1, none⟩ (.int .i64 n)) b v { s with last := n } := by
  have hn := h.not_blk hT
  exact ⟨h.le, fr_setCell_at h.heap, (Fr.setCell (S := [b]) (Fr.refl _ w) (p := ⟨b, 1, none⟩) (by simp) _).own h.own (fun k hk hm => hn (by rw [List.mem_singleton] at hm; subst hm; exact mem_blk.2 hk)), h.few⟩
/-- Other workers are laid in. -/
theorem book_put {v' : Value} {l : List Wk} (hbase : base ≤ b) (hh : w.heap[b]? = some (.cells #[.int .i64 s.room, .int .i64 s.last, v] T (0, 0))) (ho : w.ownsRow base 33 7 v' l.length (flatW l)) (hn : b ∉ blk v') (hl : l.length ≤ 1000) :
    BookAt T base (w.setCell ⟨b, 2, none⟩ v') b v' { s with ws := l } :=
  ⟨hbase, fr_setCell_at hh, (Fr.setCell (S := [b]) (Fr.refl _ w) (p := ⟨b, 2, none⟩) (by simp) _).own ho (fun k hk hm => hn (by rw [List.mem_singleton] at hm; subst hm; exact mem_blk.2 hk)), hl⟩
end

/-! ### Who has a number, or a name -/
def noB (n : Int) (x : Wk) : Bool := x.no == n
def nmB (n : ByteArray) (x : Wk) : Bool := x.name.toList == n.toList
/-- The place of the first one; -1: there is none. -/
def findI (p : Wk → Bool) (l : List Wk) : Int := match l.findIdx? p with
  | some i => i
  | none => -1
theorem findI_hit {p : Wk → Bool} : ∀ {l : List Wk} {k : Nat} {x : Wk}, l[k]? = some x → p x = true → (∀ j y, j < k → l[j]? = some y → p y = false) → l.findIdx? p = some k
  | [], _, _, h, _, _ => by simp at h
  | y :: r, 0, x, h, hp, _ => by
    simp at h
    subst h
    simp [List.findIdx?_cons, hp]
  | y :: r, k + 1, x, h, hp, hn => by
    have h0 := hn 0 y (by omega) rfl
    have ih := findI_hit (l := r) (k := k) (by simpa using h) hp (fun j z hj hz => hn (j + 1) z (by omega) (by simpa using hz))
    simp [List.findIdx?_cons, h0, ih]
theorem findI_of {p : Wk → Bool} {l : List Wk} {k : Nat} {x : Wk} (h : l[k]? = some x) (hp : p x = true) (hn : ∀ j y, j < k → l[j]? = some y → p y = false) : findI p l = k := by
  unfold findI; rw [findI_hit h hp hn]
theorem findI_none {p : Wk → Bool} {l : List Wk} (hn : ∀ j y, j < l.length → l[j]? = some y → p y = false) : findI p l = -1 := by
  unfold findI
  have : l.findIdx? p = none := by
    rw [List.findIdx?_eq_none_iff]
    intro x hx
    obtain ⟨j, hj, rfl⟩ := List.getElem_of_mem hx
    exact hn j _ hj (List.getElem?_eq_getElem hj)
  rw [this]
theorem findI_cases (p : Wk → Bool) (l : List Wk) : findI p l = -1 ∧ (∀ x ∈ l, p x = false) ∨ ∃ (k : Nat) (x : Wk), findI p l = k ∧ l[k]? = some x ∧ p x = true := by
  rcases h : l.findIdx? p with _ | k
  · exact .inl ⟨by unfold findI; rw [h], List.findIdx?_eq_none_iff.1 h⟩
  · obtain ⟨hk, hp, _⟩ := List.findIdx?_eq_some_iff_getElem.1 h
    exact .inr ⟨k, l[k], by unfold findI; rw [h], List.getElem?_eq_getElem hk, hp⟩
def atW (l : List Wk) (i : Int) : Wk := if i < 0 then noW else l.getD i.toNat noW
theorem atW_neg {l : List Wk} {i : Int} (h : i < 0) : atW l i = noW := by unfold atW; rw [if_pos h]
theorem atW_of {l : List Wk} {k : Nat} {x : Wk} (h : l[k]? = some x) : atW l (k : Int) = x := by
  unfold atW
  rw [if_neg (by omega), Int.toNat_natCast]
  simp [List.getD, h]
end Go.Proofs.YtmijmfgclmaodaaGreatDoor
