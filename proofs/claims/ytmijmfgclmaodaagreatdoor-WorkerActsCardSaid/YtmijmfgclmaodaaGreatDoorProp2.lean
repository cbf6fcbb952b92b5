/-
  prop.Parse: the walks.
-/
import Derived.Test.YtmijmfgclmaodaaGreatDoorProp1
namespace Go.Proofs.YtmijmfgclmaodaaGreatDoor
open Go.RowKit

/-- The cells of pairs. -/
def flatP (l : List Pr) : List Value := l.flatMap encP
theorem flatP_len : ∀ l : List Pr, (flatP l).length = l.length * 2
  | [] => rfl
  | p :: r => by rw [flatP, List.flatMap_cons, List.length_append, List.length_cons]; have := flatP_len r; unfold flatP at this; rw [this, encP_len]; omega
theorem flatP_snoc (l : List Pr) (p : Pr) : flatP (l ++ [p]) = flatP l ++ [.string p.1, .string p.2] := by simp [flatP, encP]
theorem flatP_get : ∀ {l : List Pr} {j : Nat} {p : Pr} (i : Nat), l[j]? = some p → i < 2 → (flatP l)[j * 2 + i]? = (encP p)[i]?
  | [], _, _, _, h, _ => by simp at h
  | q :: r, 0, p, i, h, hi => by
    simp at h
    subst h
    rw [flatP, List.flatMap_cons, List.getElem?_append_left (by rw [encP_len]; omega)]
    simp
  | q :: r, j + 1, p, i, h, hi => by
    have ih := flatP_get (l := r) (j := j) i (by simpa using h) hi
    rw [flatP, List.flatMap_cons, List.getElem?_append_right (by rw [encP_len]; omega), encP_len, ← ih]
    unfold flatP
    congr 1
    omega
/-- What a slice of the call's own reads as. -/
theorem own_cells {w : World} {base size : Nat} {e : TypeId} {v : Value} {n : Nat} {xs : List Value} (h : w.ownsRow base e size v n xs) :
    ∃ a cap, v = .slice a n cap ∧ n ≤ cap ∧ cap ≤ maxLen ∧ xs.length = n * size ∧ ∀ i u, xs[i]? = some u → ∃ g, a = some ⟨g, 0, none⟩ ∧ base ≤ g ∧ g < w.heap.size ∧ w.cell? ⟨g, i, none⟩ = some u ∧ w.frozen? ⟨g, i, none⟩ = false := by
  obtain ⟨hl, ⟨rfl, rfl⟩ | ⟨g, cap, cur, rfl, hg, hb, hn, hc, hcs, htk⟩⟩ := h
  · refine ⟨none, 0, rfl, Nat.le_refl _, by unfold maxLen; omega, hl, fun i u hu => ?_⟩
    rw [List.getElem?_eq_none (by omega)] at hu
    cases hu
  · refine ⟨_, cap, rfl, hn, hc, hl, fun i u hu => ⟨g, rfl, hg, (Array.getElem?_eq_some_iff.1 hb).1, ?_, by simp [World.frozen?, hb]⟩⟩
    have hi : i < n * size := by
      rcases Nat.lt_or_ge i (n * size) with h | h
      · exact h
      · rw [List.getElem?_eq_none (by omega)] at hu; cases hu
    rw [← htk, List.getElem?_take_of_lt (by omega)] at hu
    have h2 : cur[i]? = some u := by simpa using hu
    simp [World.cell?, hb, h2]
theorem own_below {w w' : World} {base size : Nat} {e : TypeId} {v : Value} {n : Nat} {xs : List Value} (h : w.ownsRow base e size v n xs) (hb : Below w.heap.size w w') : w'.ownsRow base e size v n xs := by
  obtain ⟨hl, ⟨rfl, rfl⟩ | ⟨g, cap, cur, rfl, hg, hh, hr⟩⟩ := h
  · exact ⟨hl, .inl ⟨rfl, rfl⟩⟩
  · exact ⟨hl, .inr ⟨g, cap, cur, rfl, hg, (hb.block g (Array.getElem?_eq_some_iff.1 hh).1).trans hh, hr⟩⟩
theorem own_nil (w : World) (base size : Nat) (e : TypeId) : w.ownsRow base e size (.slice none 0 0) 0 [] := ⟨by simp, .inl ⟨rfl, rfl⟩⟩
theorem own_base {w : World} {base b size : Nat} {e : TypeId} {v : Value} {n : Nat} {xs : List Value} (h : w.ownsRow base e size v n xs) (hb : b ≤ base) : w.ownsRow b e size v n xs := by
  obtain ⟨hl, ⟨rfl, rfl⟩ | ⟨g, cap, cur, rfl, hg, hr⟩⟩ := h
  · exact ⟨hl, .inl ⟨rfl, rfl⟩⟩
  · exact ⟨hl, .inr ⟨g, cap, cur, rfl, by omega, hr⟩⟩
theorem own_block {w : World} {base size : Nat} {e : TypeId} {v : Value} {n : Nat} {xs : List Value} (h : w.ownsRow base e size v n xs) : ∀ j, v.ownBlock = some j → base ≤ j := by
  obtain ⟨hl, ⟨rfl, rfl⟩ | ⟨g, cap, cur, rfl, hg, hr⟩⟩ := h
  · intro j hj; cases hj
  · intro j hj
    simp only [Value.ownBlock, Option.some.injEq] at hj
    subst hj
    exact hg

/-- 'append(s, x)', s of the call's own, x of any number of cells: the new element lies in a block of its own, made just now. -/
theorem wpList_append_row {P : Program} {w : World} {us : Array Value} {e : TypeId} {ops : Array Oper} {rest : List Oper} {o : Oper} {a : Act} {Q : Exit → Act → World → Prop} (hgd : o.guard = none) (s x : Operand) (t : TypeId)
    (hop : o.op = Op.call { callee := Callee.builtin Builtin.append, args := #[s, x], argTypes := #[t, t] }) (base : Nat) (z : Value) (size bytes : Nat)
    (ht : P.underlying t = some (TypeDesc.slice e)) (hinfo : (P.info? e).map (fun i => (i.zero, i.size, i.bytes)) = some (some z, size, bytes)) (hz : z.cells.size = size) (hsz : 0 < size)
    (v : Value) (n : Nat) (xs : List Value) (hs : a.eval s = v) (hown : w.ownsRow base e size v n xs) (hx : a.eval x = Value.slice (some ⟨w.heap.size, 0, none⟩) 1 1)
    (hus : us.size = size) (hu : ∀ u ∈ us.toList, u.oneCell' = true) (hb : base ≤ w.heap.size) (hn : n < 140737488355328) (hby : (n + 1) * bytes ≤ 140737488355328)
    (hK : ∀ (v' : Value) (w' : World), w'.ownsRow base e size v' (n + 1) (xs ++ us.toList) → w.grownBy w' v.ownBlock → v' ≠ Value.slice none 0 0 →
      wpList P ops Q rest (a.put o.dst v') w') :
    wpList P ops Q (o :: rest) a (w.alloc (.cells us e)) := by
  obtain ⟨i0, hi, hz0, hz1, hz2⟩ := info_parts hinfo
  refine wpList_append_own _ hgd s x t hop base e i0 z size bytes ht hi hz0 hz1 hz2 hz hsz v n xs hs (hown.alloc _) ⟨w.heap.size, 0, none⟩ 1 1 us.toList hx (by simpa using hus) ?_ hu ?_ hby ?_ ?_
  · intro j u hj
    have e1 : (⟨w.heap.size, 0, none⟩ : Addr).add j = ⟨w.heap.size, j, none⟩ := by unfold Addr.add; split <;> simp_all
    rw [e1]
    exact cell_alloc_at (by simpa using hj)
  · unfold maxLen; omega
  · simp; omega
  · intro v' w' h1 h2 h3
    refine hK v' w' h1 ⟨h2.os, h2.tape, h2.output, by have := h2.size; simp at this; omega, fun k hk hne => ?_⟩ ?_
    · rw [h2.block k (by simp; omega) hne]
      exact Below.heap_alloc _ _ _ hk
    · intro he
      have := (h3.1 he).2
      omega

/-! ### Is a key met? -/
def keyB (k : ByteArray) (x : Pr) : Bool := x.1.data.toList == k.data.toList
theorem hasKey_any (l : List Pr) (k : ByteArray) : hasKey l k = l.any (keyB k) := rfl
theorem keyB_list (k : ByteArray) (x : Pr) : (x.1.toList == k.toList) = keyB k x := by rw [ByteArray.toList_eq, ByteArray.toList_eq]; rfl

set_option maxHeartbeats 1000000 in
/-- THE WALK: the closure of prop.Parse. -/
theorem sameKey_any (B : Nat) (k : ByteArray) (w : World) (hc : w.cell? ⟨B, 0, none⟩ = some (.string k)) (x : Pr) :
    Calls Tryz.prog 114 #[.agg #[.string x.1, .string x.2], .pointer (some ⟨B, 0, none⟩)] w fun e w' => e = .returned (.bool (keyB k x)) ∧ Below w.heap.size w w' := by
  have hB := World.block_lt_of_cell? w _ hc
  have hne : B ≠ w.heap.size := by simp at hB; omega
  have HQ := Lib.hid (keyB_list k x)
  go_enter Tryz.func114, Tryz.ntmps114
  go_wp2
  go_ret
  exact ⟨ret_bool HQ.out, box_below⟩
theorem pred_any (B : Nat) (k : ByteArray) (w : World) (hc : w.cell? ⟨B, 0, none⟩ = some (.string k)) : PredBelow Tryz.prog 114 #[.pointer (some ⟨B, 0, none⟩)] (fun x : Pr => .agg (encP x).toArray) (keyB k) w :=
  fun W x hb => (sameKey_any B k W (cell_below hb hc) x).mono fun _ _ ⟨he, hb'⟩ => ⟨he, hb.trans (hb'.mono hb.size)⟩

set_option maxHeartbeats 1000000 in
/-- THE WALK: slices.IndexFunc at no element. -/
theorem index_nil (a : Option Addr) (cap : Nat) (f : Value) (w : World) :
    Calls Tryz.prog 124 #[.slice a 0 cap, f] w fun e w' => e = .returned (.int .i64 (-1)) ∧ w = w' := by
  go_enter Tryz.func124, Tryz.ntmps124
  go_wp2
  go_loop [8] (fun i => i = .int .i64 0) (fun _ => 0)
  case atStart => rfl
  case round =>
    subst hrel
    go_wp2
    go_ret
    exact ⟨rfl, rfl⟩
set_option maxHeartbeats 1000000 in
/-- THE WALK: slices.ContainsFunc at no element. -/
theorem has_nil (a : Option Addr) (cap : Nat) (f : Value) (w : World) :
    Calls Tryz.prog 113 #[.slice a 0 cap, f] w fun e w' => e = .returned (.bool false) ∧ w = w' := by
  go_enter Tryz.func113, Tryz.ntmps113
  go_wp2_with fail
  refine (index_nil _ _ _ _).mono ?_
  rintro e w1 ⟨rfl, rfl⟩
  go_wp2
  go_ret
  exact ⟨rfl, rfl⟩
/-- slices.ContainsFunc, asked for a key. -/
theorem hasK_any {base : Nat} (v : Value) (l : List Pr) (B : Nat) (k : ByteArray) (w : World) (hown : w.ownsRow base 123 2 v l.length (flatP l)) (hc : w.cell? ⟨B, 0, none⟩ = some (.string k)) :
    Calls Tryz.prog 113 #[v, .func (.func 114) #[] #[.pointer (some ⟨B, 0, none⟩)]] w fun e w' => e = .returned (.bool (hasKey l k)) ∧ Below w.heap.size w w' := by
  obtain ⟨a, cap, rfl, hcap, hmax, hlen, hcell⟩ := own_cells hown
  rcases Nat.eq_zero_or_pos l.length with h0 | h0
  · have hl : l = [] := List.length_eq_zero_iff.1 h0
    subst hl
    exact (has_nil a cap _ w).mono fun _ _ ⟨he, hw⟩ => ⟨he, hw ▸ Below.refl _ _⟩
  · obtain ⟨p, hp⟩ : ∃ p, l[0]? = some p := ⟨_, List.getElem?_eq_getElem h0⟩
    obtain ⟨g, rfl, hg, hlt, _⟩ := hcell 0 (.string p.1) (by have := flatP_get 0 hp (by omega); simpa [encP] using this)
    have h := AnyQ.slices_ContainsFunc Tryz.hasPair 2 Tryz.isAgg123 Tryz.sizeOf123 encP encP_len (keyB k) 114 #[.pointer (some ⟨B, 0, none⟩)] (enters_of Tryz.func114 (by kernel_rfl) rfl)
      g 0 l.length cap l w (pred_any B k w hc) (Nat.le_refl _) (by unfold maxLen at hmax; omega) hlt (fun j hj i u hi => by
        have hlj : l[j]? = some l[j]! := by rw [List.getElem?_eq_getElem hj, getElem!_pos l j hj]
        have hi2 : i < 2 := (List.getElem?_eq_some_iff.1 hi).1
        obtain ⟨g', hg', _, _, hc', _⟩ := hcell (j * 2 + i) u (by rw [flatP_get i hlj hi2]; exact hi)
        cases hg'
        rw [Nat.zero_add]
        exact hc')
    rw [List.take_length] at h
    exact h
end Go.Proofs.YtmijmfgclmaodaaGreatDoor
