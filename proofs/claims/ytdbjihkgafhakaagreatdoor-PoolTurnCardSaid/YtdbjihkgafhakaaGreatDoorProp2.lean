/-
  prop.Parse: the walks.
-/
import Derived.Test.YtdbjihkgafhakaaGreatDoorProp1
import Derived.Test.YtdbjihkgafhakaaGreatDoorOwn
namespace Go.Proofs.YtdbjihkgafhakaaGreatDoor
open Go.RowKit

/-- The cells of pairs. -/
def flatP (l : List Pr) : List Value := l.flatMap encP
theorem flatP_len : ∀ l : List Pr, (flatP l).length = l.length * 2
  | [] => rfl
  | p :: r => by rw [flatP, List.flatMap_cons, List.length_append, List.length_cons]; have := flatP_len r; unfold flatP at this; rw [this, encP_len]; omega
theorem flatP_snoc (l : List Pr) (p : Pr) : flatP (l ++ [p]) = flatP l ++ [.string p.1, .string p.2] := by simp [flatP, encP]
theorem flatP_get : ∀ {l : List Pr} {j : Nat} {p : Pr} (i : Nat), l[j]? = some p → i < 2 → (flatP l)[j * 2 + i]? = (encP p)[i]?
  | [], _, _, _, h, _ => by simp at h
  | q :: r, 0, p, i, h, hi => by
    simp at h
    subst h
    rw [flatP, List.flatMap_cons, List.getElem?_append_left (by rw [encP_len]; omega)]
    simp
  | q :: r, j + 1, p, i, h, hi => by
    have ih := flatP_get (l := r) (j := j) i (by simpa using h) hi
    rw [flatP, List.flatMap_cons, List.getElem?_append_right (by rw [encP_len]; omega), encP_len, ← ih]
    unfold flatP
    congr 1
    omega
/-! ### Is a key met? -/
def keyB (k : ByteArray) (x : Pr) : Bool := x.1.data.toList == k.data.toList
theorem hasKey_any (l : List Pr) (k : ByteArray) : hasKey l k = l.any (keyB k) := rfl
theorem keyB_list (k : ByteArray) (x : Pr) : (x.1.toList == k.toList) = keyB k x := by rw [ByteArray.toList_eq, ByteArray.toList_eq]; rfl

set_option maxHeartbeats 1000000 in
/-- THE WALK: the closure of prop.Parse. -/
theorem sameKey_any (B : Nat) (k : ByteArray) (w : World) (hc : w.cell? ⟨B, 0, none⟩ = some (.string k)) (x : Pr) :
    Calls Tryz.prog 95 #[.agg #[.string x.1, .string x.2], .pointer (some ⟨B, 0, none⟩)] w fun e w' => e = .returned (.bool (keyB k x)) ∧ Below w.heap.size w w' := by
  have hB := World.block_lt_of_cell? w _ hc
  have hne : B ≠ w.heap.size := by simp at hB; omega
  have HQ := Lib.hid (keyB_list k x)
  go_enter Tryz.func95, Tryz.ntmps95
  go_wp2
  go_ret
  exact ⟨ret_bool HQ.out, box_below⟩
theorem pred_any (B : Nat) (k : ByteArray) (w : World) (hc : w.cell? ⟨B, 0, none⟩ = some (.string k)) : PredBelow Tryz.prog 95 #[.pointer (some ⟨B, 0, none⟩)] (fun x : Pr => .agg (encP x).toArray) (keyB k) w :=
  fun W x hb => (sameKey_any B k W (cell_below hb hc) x).mono fun _ _ ⟨he, hb'⟩ => ⟨he, hb.trans (hb'.mono hb.size)⟩

set_option maxHeartbeats 1000000 in
/-- THE WALK: slices.IndexFunc at no element. -/
theorem index_nil (a : Option Addr) (cap : Nat) (f : Value) (w : World) :
    Calls Tryz.prog 119 #[.slice a 0 cap, f] w fun e w' => e = .returned (.int .i64 (-1)) ∧ w = w' := by
  go_enter Tryz.func119, Tryz.ntmps119
  go_wp2
  go_loop [8] (fun i => i = .int .i64 0) (fun _ => 0)
  case atStart => rfl
  case round =>
    subst hrel
    go_wp2
    go_ret
    exact ⟨rfl, rfl⟩
set_option maxHeartbeats 1000000 in
/-- THE WALK: slices.ContainsFunc at no element. -/
theorem has_nil (a : Option Addr) (cap : Nat) (f : Value) (w : World) :
    Calls Tryz.prog 94 #[.slice a 0 cap, f] w fun e w' => e = .returned (.bool false) ∧ w = w' := by
  go_enter Tryz.func94, Tryz.ntmps94
  go_wp2_with fail
  refine (index_nil _ _ _ _).mono ?_
  rintro e w1 ⟨rfl, rfl⟩
  go_wp2
  go_ret
  exact ⟨rfl, rfl⟩
/-- slices.ContainsFunc, asked for a key. -/
theorem hasK_any {base : Nat} (v : Value) (l : List Pr) (B : Nat) (k : ByteArray) (w : World) (hown : w.ownsRow base 89 2 v l.length (flatP l)) (hc : w.cell? ⟨B, 0, none⟩ = some (.string k)) :
    Calls Tryz.prog 94 #[v, .func (.func 95) #[] #[.pointer (some ⟨B, 0, none⟩)]] w fun e w' => e = .returned (.bool (hasKey l k)) ∧ Below w.heap.size w w' := by
  obtain ⟨a, cap, rfl, hcap, hmax, hlen, hcell⟩ := own_cells hown
  rcases Nat.eq_zero_or_pos l.length with h0 | h0
  · have hl : l = [] := List.length_eq_zero_iff.1 h0
    subst hl
    exact (has_nil a cap _ w).mono fun _ _ ⟨he, hw⟩ => ⟨he, hw ▸ Below.refl _ _⟩
  · obtain ⟨p, hp⟩ : ∃ p, l[0]? = some p := ⟨_, List.getElem?_eq_getElem h0⟩
    obtain ⟨g, rfl, hg, hlt, _⟩ := hcell 0 (.string p.1) (by have := flatP_get 0 hp (by omega); simpa [encP] using this)
    have h := AnyQ.slices_ContainsFunc Tryz.hasPair 2 Tryz.isAgg89 Tryz.sizeOf89 encP encP_len (keyB k) 95 #[.pointer (some ⟨B, 0, none⟩)] (enters_of Tryz.func95 (by kernel_rfl) rfl)
      g 0 l.length cap l w (pred_any B k w hc) (Nat.le_refl _) (by unfold maxLen at hmax; omega) hlt (fun j hj i u hi => by
        have hlj : l[j]? = some l[j]! := by rw [List.getElem?_eq_getElem hj, getElem!_pos l j hj]
        have hi2 : i < 2 := (List.getElem?_eq_some_iff.1 hi).1
        obtain ⟨g', hg', _, _, hc', _⟩ := hcell (j * 2 + i) u (by rw [flatP_get i hlj hi2]; exact hi)
        cases hg'
        rw [Nat.zero_add]
        exact hc')
    rw [List.take_length] at h
    exact h
end Go.Proofs.YtdbjihkgafhakaaGreatDoor
