/-
  billetref29.Same, worker.Load: the walks.
-/
import Derived.Test.YtmijmfgclmaodaaGreatDoorWkOpen
import Derived.BigRegion
namespace Go.Proofs.YtmijmfgclmaodaaGreatDoor
open Go.RowKit

theorem take_one {α : Type} {l : List α} {k : Nat} {x : α} (h : l[k]? = some x) : l.take (k + 1) = l.take k ++ [x] := by
  rw [List.take_add_one, h]
  rfl
def SameW (l : List Wk) (w : World) (i : Value) (wr : World) : Prop := ∃ k : Nat, i = .int .i64 k ∧ k ≤ l.length ∧ Below w.heap.size w wr
set_option maxRecDepth 100000 in
set_option maxHeartbeats 2000000 in
theorem same29_refl (v1 v2 : Value) (l : List Wk) (w : World) (h1 : RowsW w v1 l) (h2 : RowsW w v2 l) :
    Calls Tryz.prog 34 #[v1, v2] w fun e w' => e = .returned (.bool true) ∧ Below w.heap.size w w' := by
  obtain ⟨a1, cap1, rfl, hl1, hcell1⟩ := h1
  obtain ⟨a2, cap2, rfl, hl2, hcell2⟩ := h2
  have HC1 := Lib.hid hcell1
  have HC2 := Lib.hid hcell2
  clear hcell1 hcell2
  go_enter Tryz.func34, Tryz.ntmps34
  go_wp2
  go_loopw [5] (fun i wr => SameW l w i wr) (fun i _ => l.length - (intOf i).toNat)
  case atStart => exact ⟨0, rfl, Nat.zero_le _, Below.refl _ _⟩
  case round =>
    obtain ⟨k, rfl, hk, hb⟩ := hrel
    have HB := Lib.hid hb
    clear hb
    by_cases hlt : k < l.length
    · obtain ⟨x, hx⟩ : ∃ x, l[k]? = some x := ⟨_, List.getElem?_eq_getElem hlt⟩
      obtain ⟨g, o, rfl, c0, c1, c2, c3, c4, c5, c6⟩ := RowsW.at HC1.out hx
      obtain ⟨g', o', rfl, d0, d1, d2, d3, d4, d5, d6⟩ := RowsW.at HC2.out hx
      have p0 := cell_below HB.out c0
      have q0 := cell_below HB.out d0
      have p1 := cell_below HB.out c1
      have q1 := cell_below HB.out d1
      have p2 := cell_below HB.out c2
      have q2 := cell_below HB.out d2
      have p3 := cell_below HB.out c3
      have q3 := cell_below HB.out d3
      have p4 := cell_below HB.out c4
      have q4 := cell_below HB.out d4
      have p5 := cell_below HB.out c5
      have q5 := cell_below HB.out d5
      have p6 := cell_below HB.out c6
      have q6 := cell_below HB.out d6
      clear hx c0 c1 c2 c3 c4 c5 c6 d0 d1 d2 d3 d4 d5 d6
      have e1 : (k : Int) < l.length := by omega
      have e0 : (0 : Int) ≤ k := by omega
      have r1 := ba_list_self x.name
      have r2 := ba_list_self x.plat
      go_wp2_with fail
      go_quiet (fail)
      go_wp2_with fail
      go_roundw
      case rel => exact ⟨k + 1, by go_num, by omega, below_drewN HB.out _⟩
      case measure => simp [intOf]; omega
    · go_wp2
      go_ret
      exact ⟨rfl, HB.out⟩

/-! ### Which workers are a book -/
/-- The number of the one ahead. -/
def pL (l : List Wk) (k : Nat) : Int := if k = 0 then 0 else ((l[k - 1]?).map Wk.no).getD 0
theorem pL_zero (l : List Wk) : pL l 0 = 0 := rfl
theorem pL_succ {l : List Wk} {k : Nat} {x : Wk} (h : l[k]? = some x) : pL l (k + 1) = x.no := by simp [pL, h]
/-- May the worker at a place be there? -/
structure OkW (last : Int) (l : List Wk) (k : Nat) (x : Wk) : Prop where
  chk : chkE x = 0
  plat : ((ba (chkS x)).toList == x.plat.toList) = true
  new : ∀ y ∈ l.take k, nmB x.name y = false
  rise : pL l k < x.no
  most : x.no ≤ last
  op : 0 ≤ x.op
def AllW (last : Int) (l : List Wk) (k : Nat) : Prop := ∀ (j : Nat) x, j < k → l[j]? = some x → OkW last l j x
def LoadsW (room : Int) (l : List Wk) (last : Int) : Prop := 1 ≤ room ∧ (l.length : Int) ≤ room ∧ 0 ≤ last ∧ AllW last l l.length
theorem all_succ {last : Int} {l : List Wk} {k : Nat} {x : Wk} (h : AllW last l k) (hx : l[k]? = some x) (ho : OkW last l k x) : AllW last l (k + 1) := by
  intro j y hj hy
  rcases Nat.lt_or_ge j k with h1 | h1
  · exact h j y h1 hy
  · obtain rfl : j = k := by omega
    obtain rfl : x = y := Option.some.inj (hx.symm.trans hy)
    exact ho
theorem pL_nonneg {last : Int} {l : List Wk} : ∀ {k : Nat}, AllW last l k → k ≤ l.length → 0 ≤ pL l k
  | 0, _, _ => Int.le_refl _
  | k + 1, h, hk => by
    obtain ⟨x, hx⟩ : ∃ x, l[k]? = some x := ⟨_, List.getElem?_eq_getElem (by omega)⟩
    have h1 := pL_nonneg (k := k) (fun j y hj hy => h j y (by omega) hy) (by omega)
    have h2 := (h k x (by omega) hx).rise
    rw [pL_succ hx]
    omega
theorem not_all {room last : Int} {l : List Wk} {k : Nat} {x : Wk} (hx : l[k]? = some x) (h : ¬ OkW last l k x) : ¬ LoadsW room l last := fun hl => h (hl.2.2.2 k x (List.getElem?_eq_some_iff.1 hx).1 hx)
theorem findI_new {p : Wk → Bool} {l : List Wk} (h : ∀ y ∈ l, p y = false) : findI p l = -1 := findI_none (fun _ y _ hy => h y (List.mem_of_getElem? hy))
theorem findI_old {p : Wk → Bool} {l : List Wk} (h : ¬ ∀ y ∈ l, p y = false) : decide (0 ≤ findI p l) = true := by
  rcases findI_cases p l with ⟨_, h1⟩ | ⟨k, x, h1, _, _⟩
  · exact absurd h1 h
  · rw [h1]; exact decide_eq_true (by omega)
def LoadPost (room : Int) (l : List Wk) (last : Int) (w : World) (e : Ending) (w' : World) : Prop :=
  (¬ LoadsW room l last ∧ e = .returned (.tuple #[.pointer none, .bool false]) ∧ Below w.heap.size w w') ∨
  (LoadsW room l last ∧ e = .returned (.tuple #[.pointer (some ⟨w.heap.size, 0, none⟩), .bool true]) ∧ ∃ v, BookAt 56 w.heap.size w' w.heap.size v ⟨room, last, l⟩ ∧ Below w.heap.size w w')
def LRel (room last : Int) (l : List Wk) (w : World) (i : Value) (wr : World) : Prop :=
  ∃ (k : Nat) (v : Value), i = .int .i64 k ∧ k ≤ l.length ∧ AllW last l k ∧ BookAt 56 w.heap.size wr w.heap.size v ⟨room, pL l k, l.take k⟩ ∧ Below w.heap.size w wr
end Go.Proofs.YtmijmfgclmaodaaGreatDoor
