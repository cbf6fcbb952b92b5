/-
  'append(append([]T{}, xs...), x)' in a region that draws its order: the equations of its runs, in each order.
-/
import Derived.Test.YtdbjihkgafhakaaGreatDoorFr
import Derived.Deep.AppendLies
import Derived.Maps.AppendAt
namespace Go.Proofs.YtdbjihkgafhakaaGreatDoor
open Go.RowKit

/-- A slice of elements of K cells each, wherever it lies. -/
def SrcAt (K : Nat) (w : World) (v : Value) (n : Nat) (xs : List Value) : Prop :=
  ∃ a cap, v = .slice a n cap ∧ xs.length = n * K ∧ ∀ (j : Nat) u, xs[j]? = some u → ∃ g off, a = some ⟨g, off, none⟩ ∧ w.cell? ⟨g, off + j, none⟩ = some u
theorem SrcAt.below {K : Nat} {w w' : World} {v : Value} {n : Nat} {xs : List Value} (h : SrcAt K w v n xs) (hb : Below w.heap.size w w') : SrcAt K w' v n xs := by
  obtain ⟨a, cap, rfl, hl, hc⟩ := h
  exact ⟨a, cap, rfl, hl, fun j u hu => by obtain ⟨g, off, ha, h0⟩ := hc j u hu; exact ⟨g, off, ha, cell_below hb h0⟩⟩

section
variable {P : Program}
theorem run_append_none (w : World) (t ty e : TypeId) (i : TypeInfo) (ht : P.underlying t = some (.slice e)) (hi : P.info? e = some i) (a : Addr) (cap cap' : Nat) :
    (Builtin.append_ #[t, t] ty #[.slice (some a) 0 cap, .slice none 0 cap']).run P w = .ok (.slice (some a) 0 cap) w := by
  simp [Builtin.append_, run_underlying ht, sizeOf, typeInfo, hi, Builtin.lenOf, Builtin.firstCells, storeCells]
theorem run_copy_from {w : World} (t ty e : TypeId) (i : TypeInfo) (z : Value) (size bytes : Nat) (ht : P.underlying t = some (.slice e)) (hi : P.info? e = some i) (hz : i.zero = some z)
    (hsize : i.size = size) (hby : i.bytes = bytes) (hzs : z.cells.size = size) (hsz : 0 < size) {d : Nat} (hd : w.heap[d]? = some (.cells #[] e (0, 0))) {v : Value} {n : Nat} {xs : List Value} (hs : SrcAt size w v n xs)
    (h1 : ∀ u ∈ xs, u.oneCell' = true) (h63 : n ≤ maxLen) (hbytes : n * bytes ≤ 140737488355328) :
    ∃ v' w', (Builtin.append_ #[t, t] ty #[.slice (some ⟨d, 0, none⟩) 0 0, v]).run P w = .ok v' w' ∧ w'.ownsRow d e size v' n xs ∧ w.grownBy w' (some d) ∧ (v'.ownBlock = some d ∨ v'.ownBlock = some w.heap.size) := by
  obtain ⟨a, cap, rfl, hl, hc⟩ := hs
  have hdl : d < w.heap.size := (Array.getElem?_eq_some_iff.1 hd).1
  have hown : w.ownsRow d e size (.slice (some ⟨d, 0, none⟩) 0 0) 0 [] := ⟨by simp, .inr ⟨d, 0, #[], rfl, Nat.le_refl _, hd, Nat.le_refl _, by unfold maxLen; omega, by simp, by simp⟩⟩
  rcases a with _ | ad
  · have hn : n = 0 := by
      rcases Nat.eq_zero_or_pos n with h | h
      · exact h
      · have h2 : 0 < xs.length := by rw [hl]; exact Nat.mul_pos h hsz
        obtain ⟨g, off, h3, _⟩ := hc 0 _ (List.getElem?_eq_getElem h2)
        cases h3
    subst hn
    have hx : xs = [] := List.length_eq_zero_iff.1 (by omega)
    subst hx
    exact ⟨_, w, run_append_none w t ty e i ht hi _ _ _, hown, ⟨rfl, rfl, rfl, Nat.le_refl _, fun _ _ _ => rfl⟩, .inl rfl⟩
  · obtain ⟨v', w', hr, h2, h3, _, h5⟩ := run_append_own_at (P := P) w d t ty e i z size bytes ht hi hz hsize hby hzs hsz (.slice (some ⟨d, 0, none⟩) 0 0) 0 [] hown ad n cap xs hl (fun j u hu => by
      obtain ⟨g, off, ha, h0⟩ := hc j u hu
      cases ha
      rw [show (⟨g, off, none⟩ : Addr).add j = ⟨g, off + j, none⟩ by unfold Addr.add; split <;> simp_all]
      exact h0) h1 (by omega) (by rw [Nat.zero_add]; exact hbytes) (by omega)
    rw [Nat.zero_add, List.nil_append] at h2
    exact ⟨v', w', hr, h2, h3, h5⟩
/-- What the two appends leave: a slice of its own, all that was there is as it was. -/
structure Laid2 (e : TypeId) (size : Nat) (w : World) (v : Value) (n : Nat) (xs : List Value) (w' : World) : Prop where
  own : w'.ownsRow w.heap.size e size v n xs
  below : Below w.heap.size w w'
theorem Laid2.blk {e : TypeId} {size : Nat} {w : World} {v : Value} {n : Nat} {xs : List Value} {w' : World} (h : Laid2 e size w v n xs w') : ∀ k ∈ blk v, w.heap.size ≤ k := own_blk h.own
/-- The equations, order by order: the empty slice, the copy, the element | the empty slice, the element, the copy | the element, the empty slice, the copy. -/
theorem copy_snoc_runs (w : World) (t ty ty2 e : TypeId) (i : TypeInfo) (z : Value) (size bytes : Nat) (ht : P.underlying t = some (.slice e)) (hi : P.info? e = some i) (hz : i.zero = some z)
    (hsize : i.size = size) (hby : i.bytes = bytes) (hzs : z.cells.size = size) (hsz : 0 < size) {v : Value} {n : Nat} {xs us : List Value} (hs : SrcAt size w v n xs)
    (h1 : ∀ u ∈ xs, u.oneCell' = true) (hul : us.length = size) (hu1 : ∀ u ∈ us, u.oneCell' = true) (hn : n < 1000000) (hbytes : (n + 1) * bytes ≤ 140737488355328) :
    (∃ v1 w4 g c w5, (Builtin.append_ #[t, t] ty #[.slice (some ⟨w.heap.size, 0, none⟩) 0 0, v]).run P (w.alloc (.cells #[] e)).drew = .ok v1 w4 ∧
      (Builtin.append_ #[t, t] ty2 #[v1, .slice (some ⟨w4.heap.size, 0, none⟩) 1 1]).run P (w4.alloc (.cells us.toArray e)) = .ok (.slice (some ⟨g, 0, none⟩) (n + 1) c) w5 ∧ Laid2 e size w (.slice (some ⟨g, 0, none⟩) (n + 1) c) (n + 1) (xs ++ us) w5 ∧ Below w.heap.size w w4) ∧
    (∃ v1 w4 g c w5, (Builtin.append_ #[t, t] ty #[.slice (some ⟨w.heap.size, 0, none⟩) 0 0, v]).run P ((w.alloc (.cells #[] e)).alloc (.cells us.toArray e)).drew = .ok v1 w4 ∧
      (Builtin.append_ #[t, t] ty2 #[v1, .slice (some ⟨w.heap.size + 1, 0, none⟩) 1 1]).run P w4 = .ok (.slice (some ⟨g, 0, none⟩) (n + 1) c) w5 ∧ Laid2 e size w (.slice (some ⟨g, 0, none⟩) (n + 1) c) (n + 1) (xs ++ us) w5 ∧ Below w.heap.size w w4) ∧
    (∃ v1 w4 g c w5, (Builtin.append_ #[t, t] ty #[.slice (some ⟨w.heap.size + 1, 0, none⟩) 0 0, v]).run P ((w.alloc (.cells us.toArray e)).alloc (.cells #[] e)).drew = .ok v1 w4 ∧
      (Builtin.append_ #[t, t] ty2 #[v1, .slice (some ⟨w.heap.size, 0, none⟩) 1 1]).run P w4 = .ok (.slice (some ⟨g, 0, none⟩) (n + 1) c) w5 ∧ Laid2 e size w (.slice (some ⟨g, 0, none⟩) (n + 1) c) (n + 1) (xs ++ us) w5 ∧ Below w.heap.size w w4) := by
  have a2 : ∀ (o1 o2 : Obj), ((w.alloc o1).alloc o2).heap[w.heap.size + 1]? = some o2 := fun o1 o2 => by
    have h := fr_alloc_at (w := w.alloc o1) (o := o2)
    rwa [show (w.alloc o1).heap.size = w.heap.size + 1 by simp] at h
  have a1 : ∀ (o1 o2 : Obj), ((w.alloc o1).alloc o2).heap[w.heap.size]? = some o1 := fun o1 o2 => fr_alloc_old fr_alloc_at
  have bel : ∀ (o1 o2 : Obj), Below w.heap.size w ((w.alloc o1).alloc o2).drew := fun o1 o2 => ⟨rfl, rfl, rfl, by show _ ≤ ((w.alloc o1).alloc o2).heap.size; simp; omega, fun k hk => by show ((w.alloc o1).alloc o2).heap[k]? = _; rw [Below.heap_alloc _ _ _ (by simp; omega), Below.heap_alloc _ _ _ hk]⟩
  -- the second append
  have snd : ∀ (d gu : Nat) (v1 : Value) (W w4 : World), W.ownsRow d e size v1 n xs → w.heap.size ≤ d → d ≤ W.heap.size → Below w.heap.size w W → (∀ j u, us[j]? = some u → W.cell? ⟨gu, j, none⟩ = some u) →
      ∃ g c w5, (Builtin.append_ #[t, t] ty2 #[v1, .slice (some ⟨gu, 0, none⟩) 1 1]).run P W = .ok (.slice (some ⟨g, 0, none⟩) (n + 1) c) w5 ∧ Laid2 e size w (.slice (some ⟨g, 0, none⟩) (n + 1) c) (n + 1) (xs ++ us) w5 := by
    intro d gu v1 W _ ho hd hdW hbW hcu
    obtain ⟨g, c, w5, hr, h2, h3, h4, h5⟩ := run_append_lies (P := P) (w := W) t ty2 d e i z size bytes ht hi hz hsize hby hzs hsz v1 n xs ho ⟨gu, 0, none⟩ 1 1 us (by omega) (fun j u hj => by
      rw [show (⟨gu, 0, none⟩ : Addr).add j = ⟨gu, j, none⟩ by unfold Addr.add; split <;> simp_all]
      exact hcu j u hj) hu1 (by omega) (by unfold maxLen; omega) hbytes hdW W.heap.size rfl
    refine ⟨g, c, w5, hr, own_base h2 hd, hbW.trans ⟨h3.os, h3.tape, h3.output, h3.size, fun k hk => h3.block k (Nat.lt_of_lt_of_le hk hbW.size) (fun e => ?_)⟩⟩
    have := own_block ho k e.symm
    omega
  refine ⟨?_, ?_, ?_⟩
  · obtain ⟨v1, w4, hr, ho, hg, hat⟩ := run_copy_from (P := P) (w := (w.alloc (.cells #[] e)).drew) t ty e i z size bytes ht hi hz hsize hby hzs hsz (d := w.heap.size) fr_alloc_at (v := v) (n := n) (xs := xs) (hs.below ⟨rfl, rfl, rfl, by show _ ≤ (w.alloc _).heap.size; simp, fun k hk => Below.heap_alloc _ _ _ hk⟩) h1 (by unfold maxLen; omega) (by rw [Nat.succ_mul] at hbytes; omega)
    have hb4 : Below w.heap.size w w4 := ⟨hg.os, hg.tape, hg.output, by have := hg.size; rw [show (w.alloc (.cells #[] e)).drew.heap.size = w.heap.size + 1 from by show (w.alloc _).heap.size = _; simp] at this; omega, fun k hk => (hg.block k (by show k < (w.alloc _).heap.size; simp; omega) (fun e => by simp at e; omega)).trans (Below.heap_alloc _ _ _ hk)⟩
    obtain ⟨g, c, w5, hr2, hL⟩ := snd w.heap.size w4.heap.size v1 (w4.alloc (.cells us.toArray e)) w4 (ho.alloc _) (Nat.le_refl _) (by have := hb4.size; simp; omega) (hb4.alloc hb4.size _) (fun j u hj => cell_alloc_at (by simpa using hj))
    exact ⟨v1, w4, g, c, w5, hr, hr2, hL, hb4⟩
  · obtain ⟨v1, w4, hr, ho, hg, hat⟩ := run_copy_from (P := P) (w := ((w.alloc (.cells #[] e)).alloc (.cells us.toArray e)).drew) t ty e i z size bytes ht hi hz hsize hby hzs hsz (d := w.heap.size) (a1 _ _) (v := v) (n := n) (xs := xs) (hs.below (bel _ _)) h1 (by unfold maxLen; omega) (by rw [Nat.succ_mul] at hbytes; omega)
    have hz2 : ((w.alloc (.cells #[] e)).alloc (.cells us.toArray e)).drew.heap.size = w.heap.size + 2 := by show ((w.alloc _).alloc _).heap.size = _; simp
    have hb4 : Below w.heap.size w w4 := (bel (.cells #[] e) (.cells us.toArray e)).trans ⟨hg.os, hg.tape, hg.output, by have := hg.size; omega, fun k hk => hg.block k (by omega) (fun e => by simp at e; omega)⟩
    obtain ⟨g, c, w5, hr2, hL⟩ := snd w.heap.size (w.heap.size + 1) v1 w4 w4 ho (Nat.le_refl _) hb4.size hb4 (fun j u hj => by
      have h0 : w4.heap[w.heap.size + 1]? = some (.cells us.toArray e (0, 0)) := (hg.block (w.heap.size + 1) (by omega) (fun e => by simp at e)).trans (a2 _ _)
      exact fr_cell_of_heap h0 (by simpa using hj))
    exact ⟨v1, w4, g, c, w5, hr, hr2, hL, hb4⟩
  · obtain ⟨v1, w4, hr, ho, hg, hat⟩ := run_copy_from (P := P) (w := ((w.alloc (.cells us.toArray e)).alloc (.cells #[] e)).drew) t ty e i z size bytes ht hi hz hsize hby hzs hsz (d := w.heap.size + 1) (a2 _ _) (v := v) (n := n) (xs := xs) (hs.below (bel _ _)) h1 (by unfold maxLen; omega) (by rw [Nat.succ_mul] at hbytes; omega)
    have hz2 : ((w.alloc (.cells us.toArray e)).alloc (.cells #[] e)).drew.heap.size = w.heap.size + 2 := by show ((w.alloc _).alloc _).heap.size = _; simp
    have hb4 : Below w.heap.size w w4 := (bel (.cells us.toArray e) (.cells #[] e)).trans ⟨hg.os, hg.tape, hg.output, by have := hg.size; omega, fun k hk => hg.block k (by omega) (fun e => by simp at e; omega)⟩
    obtain ⟨g, c, w5, hr2, hL⟩ := snd (w.heap.size + 1) w.heap.size v1 w4 w4 ho (by omega) (by have := hg.size; omega) hb4 (fun j u hj => by
      have h0 : w4.heap[w.heap.size]? = some (.cells us.toArray e (0, 0)) := (hg.block w.heap.size (by omega) (fun e => by simp at e)).trans (a1 _ _)
      exact fr_cell_of_heap h0 (by simpa using hj))
    exact ⟨v1, w4, g, c, w5, hr, hr2, hL, hb4⟩
/-- At a step of a region that draws its order. -/
theorem step_copy_from {ops : Array Oper} {o : Oper} {a : Act} {w : World} {K : Act → World → Prop} {Q : Exit → Act → World → Prop} {E : Prop}
    (hg : o.guard = none) (s x : Operand) (t : TypeId) (hop : o.op = Op.call { callee := Callee.builtin Builtin.append, args := #[s, x], argTypes := #[t, t] })
    (e : TypeId) (i : TypeInfo) (z : Value) (size bytes : Nat) (ht : P.underlying t = some (.slice e)) (hi : P.info? e = some i) (hz : i.zero = some z)
    (hsize : i.size = size) (hby : i.bytes = bytes) (hzs : z.cells.size = size) (hsz : 0 < size) (d : Nat) (hs : a.eval s = .slice (some ⟨d, 0, none⟩) 0 0) (hd : w.heap[d]? = some (.cells #[] e (0, 0)))
    (v : Value) (n : Nat) (xs : List Value) (hx : a.eval x = v) (hsrc : SrcAt size w v n xs) (h1 : ∀ u ∈ xs, u.oneCell' = true) (h63 : n ≤ maxLen) (hbytes : n * bytes ≤ 140737488355328)
    (hK : ∀ v' w', w'.ownsRow d e size v' n xs → w.grownBy w' (some d) → (v'.ownBlock = some d ∨ v'.ownBlock = some w.heap.size) → K (a.put o.dst v') w') :
    if Region.wanted o (yielded ops a.tmps) = true then Oper.wp P o a w K Q else E := by
  have hw : Region.wanted o (yielded ops a.tmps) = true := by simp [Region.wanted, hg]
  rw [if_pos hw]
  obtain ⟨v', w', hrun, h2, h3, h4⟩ := run_copy_from (P := P) t o.type e i z size bytes ht hi hz hsize hby hzs hsz hd hsrc h1 h63 hbytes
  unfold Oper.wp
  simp [execOp, hop, resolve, invoke, builtin, hs, hx, hrun, Result.andThen]
  exact hK v' w' h2 h3 h4
end
/-- All but the block b is as it was in w0, and these cells are as they were. -/
def SGen (b : Nat) (w0 : World) (cs : List (Addr × Value)) (w : World) : Prop := Fr [b] w0 w ∧ ∀ p ∈ cs, w.cell? p.1 = some p.2
theorem SGen.alloc {b : Nat} {w0 w : World} {cs : List (Addr × Value)} (h : SGen b w0 cs w) (o : Obj) : SGen b w0 cs (w.alloc o) :=
  ⟨h.1.alloc o, fun p hp => cell_below box_below (h.2 p hp)⟩
theorem SGen.drew {b : Nat} {w0 w : World} {cs : List (Addr × Value)} (h : SGen b w0 cs w) : SGen b w0 cs w.drew := ⟨h.1.drew, h.2⟩
theorem SGen.grown {b : Nat} {w0 w w' : World} {cs : List (Addr × Value)} {row : Option Nat} (h : SGen b w0 cs w) (hg : w.grownBy w' row) (hr : ∀ k, row = some k → w0.heap.size ≤ k) (hc : ∀ p ∈ cs, p.1.block < w0.heap.size) : SGen b w0 cs w' :=
  ⟨h.1.grown hg (fun k hk => .inr (hr k hk)), fun p hp => by
    have hlt := World.block_lt_of_cell? w _ (h.2 p hp)
    rw [World.cell?_of_block (w := w) (hg.block _ hlt (fun e => by have := hr _ e.symm; have := hc p hp; omega))]
    exact h.2 p hp⟩
theorem SGen.store {b : Nat} {w0 w : World} {cs : List (Addr × Value)} (h : SGen b w0 cs w) (i : Nat) (v : Value) (hc : ∀ p ∈ cs, p.1 ≠ ⟨b, i, none⟩) : SGen b w0 cs (w.setCell ⟨b, i, none⟩ v) :=
  ⟨h.1.setCell (.inl (by simp)) v, fun p hp => by rw [World.cell?_setCell_other (h := Ne.symm (hc p hp))]; exact h.2 p hp⟩
theorem SrcAt.al1 {K : Nat} {w : World} {o1 : Obj} {v : Value} {n : Nat} {xs : List Value} (h : SrcAt K w v n xs) : SrcAt K (w.alloc o1).drew v n xs :=
  h.below ⟨rfl, rfl, rfl, by show _ ≤ (w.alloc o1).heap.size; simp, fun k hk => Below.heap_alloc _ _ _ hk⟩
theorem SrcAt.al2 {K : Nat} {w : World} {o1 o2 : Obj} {v : Value} {n : Nat} {xs : List Value} (h : SrcAt K w v n xs) : SrcAt K ((w.alloc o1).alloc o2).drew v n xs :=
  h.below ⟨rfl, rfl, rfl, by show _ ≤ ((w.alloc o1).alloc o2).heap.size; simp; omega, fun k hk => by show ((w.alloc o1).alloc o2).heap[k]? = _; rw [Below.heap_alloc _ _ _ (by simp; omega), Below.heap_alloc _ _ _ hk]⟩
theorem grown_keep {w w' : World} {row : Option Nat} {g : Nat} {o : Obj} (hg : w.grownBy w' row) (h : w.heap[g]? = some o) (hne : some g ≠ row) : w'.heap[g]? = some o := (hg.block g (Array.getElem?_eq_some_iff.1 h).1 hne).trans h
theorem emp1 {w : World} {o : Obj} : (w.alloc o).drew.heap[w.heap.size]? = some o := fr_alloc_at
theorem emp2 {w : World} {o1 o2 : Obj} : ((w.alloc o1).alloc o2).drew.heap[w.heap.size]? = some o1 := fr_alloc_old fr_alloc_at
theorem emp3 {w : World} {o1 o2 : Obj} : ((w.alloc o1).alloc o2).drew.heap[w.heap.size + 1]? = some o2 := by
  have h := fr_alloc_at (w := w.alloc o1) (o := o2)
  rw [show (w.alloc o1).heap.size = w.heap.size + 1 by simp] at h
  exact h
end Go.Proofs.YtdbjihkgafhakaaGreatDoor
