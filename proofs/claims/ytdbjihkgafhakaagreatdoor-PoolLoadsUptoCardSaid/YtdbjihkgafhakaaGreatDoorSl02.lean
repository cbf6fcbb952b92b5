/-
 Slices of the call's own, over any program: what they read as, what an append leaves, when two lie apart.
 What a call may write: a frame, block by block; rows of structs that the call owns.
 A whole struct stored into a fresh block; results that are structs.
-/
import Derived.Test.YtdbjihkgafhakaaGreatDoorSl01
import Derived.Deep.AppendLies
import Derived.Lib.SliceRun
import Derived.Laws.Rows
import Derived.Deep.WholeRow
namespace Go.Proofs.YtdbjihkgafhakaaGreatDoor
open Go.RowKit
theorem ZC {w : World} {base size : Nat} {e : TypeId} {v : Value} {n : Nat} {xs : List Value} (h : w.ownsRow base e size v n xs) :
 ∃ a cap, v = .slice a n cap ∧ n ≤ cap ∧ cap ≤ maxLen ∧ xs.length = n * size ∧ ∀ i u, xs[i]? = some u → ∃ g, a = some ⟨g, 0, none⟩ ∧ base ≤ g ∧ g < w.heap.size ∧ w.cell? ⟨g, i, none⟩ = some u ∧ w.frozen? ⟨g, i, none⟩ = false := by
 obtain ⟨hl, ⟨rfl, rfl⟩ | ⟨g, cap, cur, rfl, hg, hb, hn, hc, hcs, htk⟩⟩ := h
 ·refine ⟨none, 0, rfl, Nat.le_refl _, by unfold maxLen; omega, hl, fun i u hu => ?_⟩
  rw [List.getElem?_eq_none (by omega)] at hu
  cases hu
 ·refine ⟨_, cap, rfl, hn, hc, hl, fun i u hu => ⟨g, rfl, hg, (Array.getElem?_eq_some_iff.1 hb).1, ?_, by simp [World.frozen?, hb]⟩⟩
  have hi : i < n * size := by
   rcases Nat.lt_or_ge i (n * size) with h | h
   ·exact h
   ·rw [List.getElem?_eq_none (by omega)] at hu; cases hu
  rw [← htk, List.getElem?_take_of_lt (by omega)] at hu
  have h2 : cur[i]? = some u := by simpa using hu
  simp [World.cell?, hb, h2]
theorem Zk {w w' : World} {base size : Nat} {e : TypeId} {v : Value} {n : Nat} {xs : List Value} (h : w.ownsRow base e size v n xs) (hb : Below w.heap.size w w') : w'.ownsRow base e size v n xs := by
 obtain ⟨hl, ⟨rfl, rfl⟩ | ⟨g, cap, cur, rfl, hg, hh, hr⟩⟩ := h
 ·exact ⟨hl, .inl ⟨rfl, rfl⟩⟩
 ·exact ⟨hl, .inr ⟨g, cap, cur, rfl, hg, (hb.block g (Array.getElem?_eq_some_iff.1 hh).1).trans hh, hr⟩⟩
theorem Za4 (w : World) (base size : Nat) (e : TypeId) : w.ownsRow base e size (.slice none 0 0) 0 [] := ⟨by simp, .inl ⟨rfl, rfl⟩⟩
theorem Zap {w : World} {base b size : Nat} {e : TypeId} {v : Value} {n : Nat} {xs : List Value} (h : w.ownsRow base e size v n xs) (hb : b ≤ base) : w.ownsRow b e size v n xs := by
 obtain ⟨hl, ⟨rfl, rfl⟩ | ⟨g, cap, cur, rfl, hg, hr⟩⟩ := h
 ·exact ⟨hl, .inl ⟨rfl, rfl⟩⟩
 ·exact ⟨hl, .inr ⟨g, cap, cur, rfl, by omega, hr⟩⟩
theorem Zl {w : World} {base size : Nat} {e : TypeId} {v : Value} {n : Nat} {xs : List Value} (h : w.ownsRow base e size v n xs) : ∀ j, v.ownBlock = some j → base ≤ j := by
 obtain ⟨hl, ⟨rfl, rfl⟩ | ⟨g, cap, cur, rfl, hg, hr⟩⟩ := h
 ·intro j hj; cases hj
 ·intro j hj
  simp only [Value.ownBlock, Option.some.injEq] at hj
  subst hj
  exact hg
theorem ZbN {P : Program} {w : World} {us : Array Value} {e : TypeId} {ops : Array Oper} {rest : List Oper} {o : Oper} {a : Act} {Q : Exit → Act → World → Prop} (hgd : o.guard = none) (s x : Operand) (t : TypeId)
 (hop : o.op = Op.call { callee := Callee.builtin Builtin.append, args := #[s, x], argTypes := #[t, t] }) (base : Nat) (z : Value) (size bytes : Nat)
 (ht : P.underlying t = some (TypeDesc.slice e)) (hinfo : (P.info? e).map (fun i => (i.zero, i.size, i.bytes)) = some (some z, size, bytes)) (hz : z.cells.size = size) (hsz : 0 < size)
 (v : Value) (n : Nat) (xs : List Value) (hs : a.eval s = v) (hown : w.ownsRow base e size v n xs) (hx : a.eval x = Value.slice (some ⟨w.heap.size, 0, none⟩) 1 1)
 (hus : us.size = size) (hu : ∀ u ∈ us.toList, u.oneCell' = true) (hb : base ≤ w.heap.size) (hn : n < 140737488355328) (hby : (n + 1) * bytes ≤ 140737488355328)
 (hK : ∀ (v' : Value) (w' : World), w'.ownsRow base e size v' (n + 1) (xs ++ us.toList) → w.grownBy w' v.ownBlock → v' ≠ Value.slice none 0 0 →
   wpList P ops Q rest (a.put o.dst v') w') :
 wpList P ops Q (o :: rest) a (w.alloc (.cells us e)) := by
 obtain ⟨i0, hi, hz0, hz1, hz2⟩ := info_parts hinfo
 refine wpList_append_own _ hgd s x t hop base e i0 z size bytes ht hi hz0 hz1 hz2 hz hsz v n xs hs (hown.alloc _) ⟨w.heap.size, 0, none⟩ 1 1 us.toList hx (by simpa using hus) ?_ hu ?_ hby ?_ ?_
 ·intro j u hj
  have e1 : (⟨w.heap.size, 0, none⟩ : Addr).add j = ⟨w.heap.size, j, none⟩ := by unfold Addr.add; split <;> simp_all
  rw [e1]
  exact Zm (by simpa using hj)
 ·unfold maxLen; omega
 ·simp; omega
 ·intro v' w' h1 h2 h3
  refine hK v' w' h1 ⟨h2.os, h2.tape, h2.output, by have := h2.size; simp at this; omega, fun k hk hne => ?_⟩ ?_
  ·rw [h2.block k (by simp; omega) hne]
   exact Below.heap_alloc _ _ _ hk
  ·intro he
   have := (h3.1 he).2
   omega
theorem Zal {w : World} {b size : Nat} {t : TypeId} (hb : b ≤ w.heap.size) : (w.alloc (.cells #[] t)).ownsRow b t size (.slice (some ⟨w.heap.size, 0, none⟩) 0 0) 0 [] :=
 ⟨by simp, .inr ⟨w.heap.size, 0, #[], rfl, hb, heap_alloc_new w _, Nat.le_refl _, by unfold maxLen; omega, by simp, by simp⟩⟩
theorem ZG {w : World} {b1 b2 s1 s2 n1 n2 : Nat} {e1 e2 : TypeId} {v1 v2 : Value} {xs1 xs2 : List Value} (h1 : w.ownsRow b1 e1 s1 v1 n1 xs1) (h2 : w.ownsRow b2 e2 s2 v2 n2 xs2) (hne : e1 ≠ e2) : v1.ownBlock = none ∨ v1.ownBlock ≠ v2.ownBlock := by
 obtain ⟨_, ⟨rfl, _⟩ | ⟨g, cap, cur, rfl, _, hb, _⟩⟩ := h1
 ·exact .inl rfl
 ·refine .inr fun e => ?_
  obtain ⟨_, ⟨rfl, _⟩ | ⟨g', cap', cur', rfl, _, hb', _⟩⟩ := h2
  ·cases e
  ·simp only [Value.ownBlock, Option.some.injEq] at e
   subst e
   rw [hb] at hb'
   simp only [Option.some.injEq, Obj.cells.injEq] at hb'
   exact hne hb'.2.1
theorem ZO {B : Nat} {w w' : World} (h : Below B w w') (n : Nat) : Below B w (w'.drewN n) := ⟨h.os, h.tape, h.output, h.size, h.block⟩
theorem Zv {P : Program} {w : World} {us : Array Value} {e : TypeId} {ops : Array Oper} {rest : List Oper} {o : Oper} {a : Act} {Q : Exit → Act → World → Prop} (hgd : o.guard = none) (s x : Operand) (t : TypeId)
 (hop : o.op = Op.call { callee := Callee.builtin Builtin.append, args := #[s, x], argTypes := #[t, t] }) (base : Nat) (z : Value) (size bytes : Nat)
 (ht : P.underlying t = some (TypeDesc.slice e)) (hinfo : (P.info? e).map (fun i => (i.zero, i.size, i.bytes)) = some (some z, size, bytes)) (hz : z.cells.size = size) (hsz : 0 < size)
 (v : Value) (n : Nat) (xs : List Value) (hs : a.eval s = v) (hown : w.ownsRow base e size v n xs) (hx : a.eval x = Value.slice (some ⟨w.heap.size, 0, none⟩) 1 1)
 (hus : us.size = size) (hu : ∀ u ∈ us.toList, u.oneCell' = true) (hb : base ≤ w.heap.size) (hn : n < 140737488355328) (hby : (n + 1) * bytes ≤ 140737488355328)
 (hK : ∀ (g cap : Nat) (w' : World), w'.ownsRow base e size (.slice (some ⟨g, 0, none⟩) (n + 1) cap) (n + 1) (xs ++ us.toList) → w.grownBy w' v.ownBlock → (v.ownBlock = some g ∨ w.heap.size ≤ g) →
   wpList P ops Q rest (a.put o.dst (.slice (some ⟨g, 0, none⟩) (n + 1) cap)) w') :
 wpList P ops Q (o :: rest) a (w.alloc (.cells us e)) := by
 obtain ⟨i0, hi, hz0, hz1, hz2⟩ := info_parts hinfo
 refine wpList_append_lies _ hgd s x t hop base e i0 z size bytes ht hi hz0 hz1 hz2 hz hsz v n xs hs (hown.alloc _) ⟨w.heap.size, 0, none⟩ 1 1 us.toList hx (by simpa using hus) ?_ hu (by omega) ?_ hby ?_ (w.heap.size + 1) (by simp) ?_
 ·intro j u hj
  have e1 : (⟨w.heap.size, 0, none⟩ : Addr).add j = ⟨w.heap.size, j, none⟩ := by unfold Addr.add; split <;> simp_all
  rw [e1]
  exact Zm (by simpa using hj)
 ·unfold maxLen; omega
 ·simp; omega
 ·intro g cap w' h1 h2 h3 _
  refine hK g cap w' h1 ⟨h2.os, h2.tape, h2.output, by have := h2.size; simp at this; omega, fun k hk hne => ?_⟩ ?_
  ·rw [h2.block k (by simp; omega) hne]
   exact Below.heap_alloc _ _ _ hk
  ·rcases h3 with h | h
   ·exact .inl h
   ·exact .inr (by omega)
def Apart (v u : Value) : Prop := ∀ g, v.ownBlock = some g → u.ownBlock ≠ some g
theorem Apart.symm {v u : Value} (h : Apart v u) : Apart u v := fun g h1 h2 => h g h2 h1
theorem Apart.kept {v u : Value} (h : Apart v u) : v.ownBlock = none ∨ v.ownBlock ≠ u.ownBlock := by
 rcases hv : v.ownBlock with _ | g
 ·exact .inl rfl
 ·exact .inr fun e => h g hv e.symm
theorem Zlk {w : World} {b size n : Nat} {e : TypeId} {v : Value} {xs : List Value} (h : w.ownsRow b e size v n xs) {g m cap : Nat} (hg : w.heap.size ≤ g) : Apart (.slice (some ⟨g, 0, none⟩) m cap) v := by
 intro j hj h2
 simp only [Value.ownBlock, Option.some.injEq] at hj
 subst hj
 obtain ⟨_, ⟨rfl, _⟩ | ⟨g', cap', cur, rfl, _, hb, _⟩⟩ := h
 ·cases h2
 ·simp only [Value.ownBlock, Option.some.injEq] at h2
  subst h2
  have := (Array.getElem?_eq_some_iff.1 hb).1
  omega
theorem Apart.append {w : World} {b size n : Nat} {e : TypeId} {u v : Value} {xs : List Value} {g m cap : Nat} (h : Apart v u) (hu : w.ownsRow b e size u n xs) (hat : v.ownBlock = some g ∨ w.heap.size ≤ g) : Apart (.slice (some ⟨g, 0, none⟩) m cap) u := by
 rcases hat with hv | hg
 ·intro j hj
  simp only [Value.ownBlock, Option.some.injEq] at hj
  subst hj
  exact h _ hv
 ·exact Zlk hu hg
structure Fr (S : List Nat) (w w' : World) : Prop where
 os : w'.os = w.os
 tape : w'.tape = w.tape
 output : w'.output = w.output
 size : w.heap.size ≤ w'.heap.size
 block : ∀ k, k < w.heap.size → k ∉ S → w'.heap[k]? = w.heap[k]?
theorem Fr.refl (S : List Nat) (w : World) : Fr S w w := ⟨rfl, rfl, rfl, Nat.le_refl _, fun _ _ _ => rfl⟩
theorem Fr.trans {S S' : List Nat} {w w1 w2 : World} (h : Fr S w w1) (h' : Fr S' w1 w2) (hs : ∀ k ∈ S', k ∈ S ∨ w.heap.size ≤ k) : Fr S w w2 :=
 ⟨h'.os.trans h.os, h'.tape.trans h.tape, h'.output.trans h.output, Nat.le_trans h.size h'.size, fun k hk hn => (h'.block k (Nat.lt_of_lt_of_le hk h.size) (fun hm => by
   rcases hs k hm with h1 | h1
   ·exact hn h1
   ·omega)).trans (h.block k hk hn)⟩
theorem Fr.of_below {S : List Nat} {w w' : World} (h : Below w.heap.size w w') : Fr S w w' := ⟨h.os, h.tape, h.output, h.size, fun k hk _ => h.block k hk⟩
theorem Fr.below {S : List Nat} {B : Nat} {w w' : World} (h : Fr S w w') (hB : B ≤ w.heap.size) (hS : ∀ k ∈ S, B ≤ k) : Below B w w' :=
 ⟨h.os, h.tape, h.output, h.size, fun k hk => h.block k (by omega) (fun hm => by have := hS k hm; omega)⟩
theorem Fr.then_below {S : List Nat} {w w1 w2 : World} (h : Fr S w w1) (h' : Below w1.heap.size w1 w2) : Fr S w w2 := h.trans (S' := []) (Fr.of_below h') (fun k hk => by cases hk)
theorem Fr.mono {S S' : List Nat} {w w' : World} (h : Fr S w w') (hs : ∀ k ∈ S, k ∈ S') : Fr S' w w' := ⟨h.os, h.tape, h.output, h.size, fun k hk hn => h.block k hk (fun hm => hn (hs k hm))⟩
theorem Fr.drew {S : List Nat} {w w' : World} (h : Fr S w w') : Fr S w w'.drew := ⟨h.os, h.tape, h.output, h.size, h.block⟩
theorem Fr.alloc {S : List Nat} {w w' : World} (h : Fr S w w') (o : Obj) : Fr S w (w'.alloc o) := h.then_below ((Below.refl _ _).alloc (Nat.le_refl _) _)
theorem Fr.setCell {S : List Nat} {w w' : World} (h : Fr S w w') {p : Addr} (hp : p.block ∈ S ∨ w.heap.size ≤ p.block) (u : Value) : Fr S w (w'.setCell p u) :=
 h.trans (S' := [p.block]) ⟨rfl, rfl, rfl, by simp [World.setCell], fun k _ hn => Below.heap_setCell _ _ _ _ (fun e => hn (by simp [e]))⟩ (fun k hk => by
  rw [List.mem_singleton] at hk
  subst hk
  exact hp)
theorem Fr.grown {S : List Nat} {w w1 w2 : World} {row : Option Nat} (h : Fr S w w1) (hg : w1.grownBy w2 row) (hr : ∀ k, row = some k → k ∈ S ∨ w.heap.size ≤ k) : Fr S w w2 :=
 h.trans (S' := row.toList) ⟨hg.os, hg.tape, hg.output, hg.size, fun k hk hn => hg.block k hk (fun e => hn (by rw [← e]; simp))⟩ (fun k hk => hr k (by simpa using hk))
theorem Fr.cell {S : List Nat} {w w' : World} (h : Fr S w w') {a : Addr} {v : Value} (hc : w.cell? a = some v) (hS : a.block ∉ S) : w'.cell? a = some v := by
 rw [World.cell?_of_block (w := w) (h.block a.block (World.block_lt_of_cell? w a hc) hS)]
 exact hc
theorem Fr.heap {S : List Nat} {w w' : World} (h : Fr S w w') {k : Nat} {o : Obj} (hc : w.heap[k]? = some o) (hS : k ∉ S) : w'.heap[k]? = some o :=
 (h.block k (Array.getElem?_eq_some_iff.1 hc).1 hS).trans hc
theorem Fr.own {S : List Nat} {w w' : World} {base size : Nat} {e : TypeId} {v : Value} {n : Nat} {xs : List Value} (h : Fr S w w') (ho : w.ownsRow base e size v n xs) (hS : ∀ k, v.ownBlock = some k → k ∉ S) : w'.ownsRow base e size v n xs := by
 obtain ⟨hl, ⟨rfl, rfl⟩ | ⟨g, cap, cur, rfl, hg, hh, hr⟩⟩ := ho
 ·exact ⟨hl, .inl ⟨rfl, rfl⟩⟩
 ·exact ⟨hl, .inr ⟨g, cap, cur, rfl, hg, h.heap hh (hS g rfl), hr⟩⟩
def blk (v : Value) : List Nat := v.ownBlock.toList
theorem ZeL {v : Value} {k : Nat} : k ∈ blk v ↔ v.ownBlock = some k := by unfold blk; simp
theorem ZnH {w : World} {base size : Nat} {e : TypeId} {v : Value} {n : Nat} {xs : List Value} (h : w.ownsRow base e size v n xs) : ∀ k ∈ blk v, base ≤ k := fun k hk => Zl h k (ZeL.1 hk)
theorem Zll {w : World} {base size : Nat} {e : TypeId} {v : Value} {n : Nat} {xs : List Value} (h : w.ownsRow base e size v n xs) : ∀ k ∈ blk v, k < w.heap.size := by
 intro k hk
 rw [ZeL] at hk
 obtain ⟨_, ⟨rfl, _⟩ | ⟨g, cap, cur, rfl, _, hh, _⟩⟩ := h
 ·cases hk
 ·simp only [Value.ownBlock, Option.some.injEq] at hk
  subst hk
  exact (Array.getElem?_eq_some_iff.1 hh).1
theorem Za {w : World} {g i : Nat} {cs : Array Value} {t : TypeId} {fr : Nat × Nat} {v : Value} (h : w.heap[g]? = some (.cells cs t fr)) (hi : cs[i]? = some v) : w.cell? ⟨g, i, none⟩ = some v := by
 simp [World.cell?, h, hi]
theorem Zd {w : World} {g i : Nat} {cs : Array Value} {t : TypeId} (h : w.heap[g]? = some (.cells cs t (0, 0))) : w.frozen? ⟨g, i, none⟩ = false := by
 simp [World.frozen?, h]
theorem Ze {w : World} {g i : Nat} {cs : Array Value} {t : TypeId} {fr : Nat × Nat} {v : Value} (h : w.heap[g]? = some (.cells cs t fr)) : (w.setCell ⟨g, i, none⟩ v).heap[g]? = some (.cells (cs.setIfInBounds i v) t fr) := by
 simp only [World.setCell, Array.getElem?_modify, h]
 simp
theorem Zh {w : World} {g k i : Nat} {v : Value} (h : k ≠ g) : (w.setCell ⟨g, i, none⟩ v).heap[k]? = w.heap[k]? := by
 simp only [World.setCell, Array.getElem?_modify]
 simp [Ne.symm h]
theorem Zf {w : World} {o : Obj} : (w.alloc o).heap[w.heap.size]? = some o := by
 show (w.heap.push o)[w.heap.size]? = _
 simp
theorem Zi {w : World} {o p : Obj} {k : Nat} (h : w.heap[k]? = some p) : (w.alloc o).heap[k]? = some p := by
 rw [Below.heap_alloc _ _ _ (Array.getElem?_eq_some_iff.1 h).1]
 exact h
/-! ### Rows of structs -/
section
variable {α : Type} (enc : α → List Value) (K : Nat) (hK : ∀ x, (enc x).length = K)
theorem Zbc (hK : ∀ x, (enc x).length = K) : ∀ l : List α, (l.flatMap enc).length = l.length * K
 | [] => by simp
 | x :: r => by rw [List.flatMap_cons, List.length_append, Zbc hK r, hK, List.length_cons, Nat.succ_mul]; omega
theorem Zbf (hK : ∀ x, (enc x).length = K) : ∀ {l : List α} {j : Nat} {x : α} (i : Nat), l[j]? = some x → i < K → (l.flatMap enc)[j * K + i]? = (enc x)[i]?
 | [], _, _, _, h, _ => by simp at h
 | y :: r, 0, x, i, h, hi => by
   simp at h
   subst h
   rw [List.flatMap_cons, List.getElem?_append_left (by rw [hK]; omega)]
   simp
 | y :: r, j + 1, x, i, h, hi => by
   have ih := Zbf hK (l := r) (j := j) i (by simpa using h) hi
   rw [List.flatMap_cons, List.getElem?_append_right (by rw [hK, Nat.succ_mul]; omega), hK, ← ih]
   congr 1
   rw [Nat.succ_mul]
   omega
end
theorem ZhH {P : Program} {o : Oper} {a : Act} {w : World} {K : Act → World → Prop} {Q : Exit → Act → World → Prop} (ty : TypeId) (x y : Operand) (ho : o.op = .store ty x y)
 (g : Nat) (hgs : g = w.heap.size) (cells old : Array Value) (hx : a.eval x = .pointer (some ⟨g, 0, none⟩)) (hy : a.eval y = .agg cells) (t : TypeId)
 (hi : (P.info? ty).map (·.size) = some cells.size) (hold : old.size = cells.size) (h1 : cells.all (·.oneCell') = true)
 (h : K (a.put o.dst undef) (w.alloc (.cells cells t))) : o.wp P a (w.alloc (.cells old t)) K Q := by
 subst hgs
 refine wp_store_row ty x y ho w.heap.size cells hx hy t old (heap_alloc_new w _) hi hold h1 ?_
 rw [World.setRow_alloc_new]
 exact h
theorem ZX (w : World) (a b : Obj) : ((w.alloc a).alloc b).heap[w.heap.size + 1]? = some b := by
 have h := heap_alloc_new (w.alloc a) b
 rwa [show (w.alloc a).heap.size = w.heap.size + 1 by simp] at h
theorem Zaq {P : Program} {ops : Array Oper} {rest : List Oper} {o : Oper} {a : Act} {w : World} {Q : Exit → Act → World → Prop} {old : Array Value} {t : TypeId} (hgd : o.guard = none) (ty : TypeId) (x y : Operand) (ho : o.op = .store ty x y)
 (g : Nat) (hgs : g = w.heap.size) (cells : Array Value) (hx : a.eval x = .pointer (some ⟨g, 0, none⟩)) (hy : a.eval y = .agg cells)
 (hi : (P.info? ty).map (·.size) = some cells.size) (hold : old.size = cells.size) (h1 : cells.all (·.oneCell') = true)
 (h : wpList P ops Q rest (a.put o.dst undef) (w.alloc (.cells cells t))) : wpList P ops Q (o :: rest) a (w.alloc (.cells old t)) :=
 wpList_plain hgd fun _ hK => ZhH ty x y ho g hgs cells old hx hy t hi hold h1 (hK _ _ h)
section
variable {P : Program}
theorem ZhI {fn : Func} {a : Act} {slot : Nat} {t t' : TypeId} {g : Nat} {cs : Array Value} {fr : Nat × Nat} {d : TypeDesc} {w : World} (hf : fn.results = #[.cell slot t]) (hs : a.tmps.getD slot undef = .pointer (some ⟨g, 0, none⟩))
 (hg : w.heap[g]? = some (.cells cs t' fr)) (hu : P.underlying t = some d) (hd : (match d with | .struct _ | .array _ _ => true | _ => false) = true) (hi : (P.info? t).map (·.size) = some cs.size) : (results fn a.tmps).run P w = .ok (.agg cs) w := by
 have h := run_loadVar_row (P := P) w g t' t cs fr d hg hu hd hi
 have hs' : a.tmps[slot]?.getD undef = .pointer (some ⟨g, 0, none⟩) := by simpa using hs
 simp [results, hf, asAddr, hs', h]
theorem ZL {fn : Func} {a : Act} {slot k : Nat} {t t' : TypeId} {g : Nat} {cs : Array Value} {fr : Nat × Nat} {d : TypeDesc} {v : Value} {w : World} (hf : fn.results = #[.cell slot t, .tmp k]) (hs : a.tmps.getD slot undef = .pointer (some ⟨g, 0, none⟩)) (hk : a.tmps.getD k undef = v)
 (hg : w.heap[g]? = some (.cells cs t' fr)) (hu : P.underlying t = some d) (hd : (match d with | .struct _ | .array _ _ => true | _ => false) = true) (hi : (P.info? t).map (·.size) = some cs.size) : (results fn a.tmps).run P w = .ok (.tuple #[.agg cs, v]) w := by
 have h := run_loadVar_row (P := P) w g t' t cs fr d hg hu hd hi
 have hs' : a.tmps[slot]?.getD undef = .pointer (some ⟨g, 0, none⟩) := by simpa using hs
 have hk' : a.tmps[k]?.getD undef = v := by simpa using hk
 simp [results, hf, asAddr, hs', hk', h]
end
end Go.Proofs.YtdbjihkgafhakaaGreatDoor
