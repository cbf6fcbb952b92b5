/-
  What a call may write, told by a predicate on blocks; blocks told apart by what they are for (their role).
-/
import Derived.Test.YtohkchilogmneaaFr
import Derived.Maps.OwnSet
namespace Go.Proofs.Ytohkchilogmneaa
open Go.RowKit

/-- All but the blocks of S is as it was. -/
structure Fp (S : Nat → Prop) (w w' : World) : Prop where
  os : w'.os = w.os
  tape : w'.tape = w.tape
  output : w'.output = w.output
  size : w.heap.size ≤ w'.heap.size
  block : ∀ k, k < w.heap.size → ¬ S k → w'.heap[k]? = w.heap[k]?
theorem Fp.refl (S : Nat → Prop) (w : World) : Fp S w w := ⟨rfl, rfl, rfl, Nat.le_refl _, fun _ _ _ => rfl⟩
theorem Fp.trans {S S' : Nat → Prop} {w w1 w2 : World} (h : Fp S w w1) (h' : Fp S' w1 w2) (hs : ∀ k, k < w.heap.size → S' k → S k) : Fp S w w2 :=
  ⟨h'.os.trans h.os, h'.tape.trans h.tape, h'.output.trans h.output, Nat.le_trans h.size h'.size, fun k hk hn => (h'.block k (Nat.lt_of_lt_of_le hk h.size) (fun hm => hn (hs k hk hm))).trans (h.block k hk hn)⟩
theorem Fp.of_below {S : Nat → Prop} {w w' : World} (h : Below w.heap.size w w') : Fp S w w' := ⟨h.os, h.tape, h.output, h.size, fun k hk _ => h.block k hk⟩
theorem Fp.then_below {S : Nat → Prop} {w w1 w2 : World} (h : Fp S w w1) (h' : Below w1.heap.size w1 w2) : Fp S w w2 := h.trans (S' := fun _ => False) (Fp.of_below h') (fun _ _ hk => hk.elim)
theorem Fp.mono {S S' : Nat → Prop} {w w' : World} (h : Fp S w w') (hs : ∀ k, S k → S' k) : Fp S' w w' := ⟨h.os, h.tape, h.output, h.size, fun k hk hn => h.block k hk (fun hm => hn (hs k hm))⟩
theorem Fp.below {S : Nat → Prop} {B : Nat} {w w' : World} (h : Fp S w w') (hB : B ≤ w.heap.size) (hS : ∀ k, k < B → ¬ S k) : Below B w w' :=
  ⟨h.os, h.tape, h.output, h.size, fun k hk => h.block k (by omega) (hS k hk)⟩
theorem Fp.drew {S : Nat → Prop} {w w' : World} (h : Fp S w w') : Fp S w w'.drew := ⟨h.os, h.tape, h.output, h.size, h.block⟩
theorem Fp.alloc {S : Nat → Prop} {w w' : World} (h : Fp S w w') (o : Obj) : Fp S w (w'.alloc o) := h.then_below box_below
theorem Fp.setCell {S : Nat → Prop} {w w' : World} (h : Fp S w w') {p : Addr} (hp : p.block < w.heap.size → S p.block) (u : Value) : Fp S w (w'.setCell p u) :=
  h.trans (S' := fun k => k = p.block) ⟨rfl, rfl, rfl, by simp [World.setCell], fun k _ hn => Below.heap_setCell _ _ _ _ (fun e => hn e)⟩ (fun k hk e => by subst e; exact hp hk)
theorem Fp.row {w : World} {g : Nat} {cells : Array Value} : Fp (fun k => k = g) w (w.setRow g cells) := ⟨rfl, rfl, rfl, by simp, fun k _ hn => setRow_other w g k _ hn⟩
theorem Fp.setRow {S : Nat → Prop} {w w' : World} (h : Fp S w w') {g : Nat} {cells : Array Value} (hg : g < w.heap.size → S g) : Fp S w (w'.setRow g cells) := h.trans Fp.row (fun k hk e => by subst e; exact hg hk)
theorem Fp.grown {S : Nat → Prop} {w w1 w2 : World} {row : Option Nat} (h : Fp S w w1) (hg : w1.grownBy w2 row) (hr : ∀ k, k < w.heap.size → row = some k → S k) : Fp S w w2 :=
  h.trans (S' := fun k => row = some k) ⟨hg.os, hg.tape, hg.output, hg.size, fun k hk hn => hg.block k hk (fun e => hn e.symm)⟩ hr
theorem Fp.heap {S : Nat → Prop} {w w' : World} (h : Fp S w w') {k : Nat} {o : Obj} (hc : w.heap[k]? = some o) (hS : ¬ S k) : w'.heap[k]? = some o :=
  (h.block k (Array.getElem?_eq_some_iff.1 hc).1 hS).trans hc
theorem Fp.cell {S : Nat → Prop} {w w' : World} (h : Fp S w w') {a : Addr} {v : Value} (hc : w.cell? a = some v) (hS : ¬ S a.block) : w'.cell? a = some v := by
  rw [World.cell?_of_block (w := w) (h.block a.block (World.block_lt_of_cell? w a hc) hS)]
  exact hc
theorem Fp.ownMap {H : Type} {S : Nat → Prop} {w w' : World} {P : Program} {k : TypeId} {R : Value → Option (DataW H × List MemPlace)} {b n : Nat} {D : DataW H} (h : Fp S w w') (hm : w.ownsMap P k R b n D) (hS : ¬ S b) : w'.ownsMap P k R b n D := by
  obtain ⟨es, clock, hb, hr⟩ := hm
  exact ⟨es, clock, h.heap hb hS, hr⟩
theorem fp_lt_of_heap {w : World} {k : Nat} {o : Obj} (h : w.heap[k]? = some o) : k < w.heap.size := (Array.getElem?_eq_some_iff.1 h).1
/-- The map has no more entries than it reads as. -/
theorem ownMap_tight {H : Type} {w : World} {P : Program} {k : TypeId} {R : Value → Option (DataW H × List MemPlace)} {b n : Nat} {D : DataW H} (h : w.ownsMap P k R b n D) : w.ownsMap P k R b (Maps.size D) D := by
  obtain ⟨es, clock, hb, F, hs, rfl⟩ := h
  refine ⟨es, clock, hb, F, ?_, rfl⟩
  simp [Maps.size, length_sorted]

/-- What a block is for. -/
abbrev Roles := Nat → List Int
/-- The blocks of one part. -/
def Part (ρ : Roles) (pre : List Int) (k : Nat) : Prop := ∃ s, ρ k = pre ++ s
theorem part_of {ρ : Roles} {pre s : List Int} {k : Nat} (h : ρ k = pre ++ s) : Part ρ pre k := ⟨s, h⟩
/-- Later roles: those of the old blocks are as they were. -/
def Later (ρ ρ' : Roles) (w : World) : Prop := ∀ k, k < w.heap.size → ρ' k = ρ k
theorem Later.refl (ρ : Roles) (w : World) : Later ρ ρ w := fun _ _ => rfl
theorem Later.trans {ρ ρ' ρ'' : Roles} {w w' : World} (h : Later ρ ρ' w) (h' : Later ρ' ρ'' w') (hs : w.heap.size ≤ w'.heap.size) : Later ρ ρ'' w := fun k hk => (h' k (Nat.lt_of_lt_of_le hk hs)).trans (h k hk)
def roleAt (ρ : Roles) (b : Nat) (r : List Int) : Roles := fun k => if k = b then r else ρ k
theorem roleAt_same (ρ : Roles) (b : Nat) (r : List Int) : roleAt ρ b r b = r := by simp [roleAt]
theorem roleAt_other {ρ : Roles} {b k : Nat} (r : List Int) (h : k ≠ b) : roleAt ρ b r k = ρ k := by simp [roleAt, h]
theorem roleAt_later {ρ : Roles} {b : Nat} {r : List Int} {w : World} (h : w.heap.size ≤ b) : Later ρ (roleAt ρ b r) w := fun k hk => roleAt_other r (by omega)
end Go.Proofs.Ytohkchilogmneaa
