/-
 What a call may write, told by a predicate on blocks; blocks told apart by what they are for (their role).
-/
import Derived.Test.YtdbjihkgafhakaaGreatDoorSl02
import Derived.Maps.OwnSet
import Derived.Maps.OwnOps
import Derived.Deep.LoopGhost
import Derived.Deep.DeepCutAuto
import Derived.BigRegion
import Derived.Deep.RegionHeld3
import Derived.IntWalk
namespace Go.Proofs.YtdbjihkgafhakaaGreatDoor
open Go.RowKit
structure Fp (S : Nat → Prop) (w w' : World) : Prop where
 os : w'.os = w.os
 tape : w'.tape = w.tape
 output : w'.output = w.output
 size : w.heap.size ≤ w'.heap.size
 block : ∀ k, k < w.heap.size → ¬ S k → w'.heap[k]? = w.heap[k]?
theorem Fp.refl (S : Nat → Prop) (w : World) : Fp S w w := ⟨rfl, rfl, rfl, Nat.le_refl _, fun _ _ _ => rfl⟩
theorem Fp.trans {S S' : Nat → Prop} {w w1 w2 : World} (h : Fp S w w1) (h' : Fp S' w1 w2) (hs : ∀ k, k < w.heap.size → S' k → S k) : Fp S w w2 :=
 ⟨h'.os.trans h.os, h'.tape.trans h.tape, h'.output.trans h.output, Nat.le_trans h.size h'.size, fun k hk hn => (h'.block k (Nat.lt_of_lt_of_le hk h.size) (fun hm => hn (hs k hk hm))).trans (h.block k hk hn)⟩
theorem Fp.of_below {S : Nat → Prop} {w w' : World} (h : Below w.heap.size w w') : Fp S w w' := ⟨h.os, h.tape, h.output, h.size, fun k hk _ => h.block k hk⟩
theorem Fp.then_below {S : Nat → Prop} {w w1 w2 : World} (h : Fp S w w1) (h' : Below w1.heap.size w1 w2) : Fp S w w2 := h.trans (S' := fun _ => False) (Fp.of_below h') (fun _ _ hk => hk.elim)
theorem Fp.mono {S S' : Nat → Prop} {w w' : World} (h : Fp S w w') (hs : ∀ k, S k → S' k) : Fp S' w w' := ⟨h.os, h.tape, h.output, h.size, fun k hk hn => h.block k hk (fun hm => hn (hs k hm))⟩
theorem Fp.below {S : Nat → Prop} {B : Nat} {w w' : World} (h : Fp S w w') (hB : B ≤ w.heap.size) (hS : ∀ k, k < B → ¬ S k) : Below B w w' :=
 ⟨h.os, h.tape, h.output, h.size, fun k hk => h.block k (by omega) (hS k hk)⟩
theorem Fp.drew {S : Nat → Prop} {w w' : World} (h : Fp S w w') : Fp S w w'.drew := ⟨h.os, h.tape, h.output, h.size, h.block⟩
theorem Fp.alloc {S : Nat → Prop} {w w' : World} (h : Fp S w w') (o : Obj) : Fp S w (w'.alloc o) := h.then_below box_below
theorem Fp.setCell {S : Nat → Prop} {w w' : World} (h : Fp S w w') {p : Addr} (hp : p.block < w.heap.size → S p.block) (u : Value) : Fp S w (w'.setCell p u) :=
 h.trans (S' := fun k => k = p.block) ⟨rfl, rfl, rfl, by simp [World.setCell], fun k _ hn => Below.heap_setCell _ _ _ _ (fun e => hn e)⟩ (fun k hk e => by subst e; exact hp hk)
theorem Fp.row {w : World} {g : Nat} {cells : Array Value} : Fp (fun k => k = g) w (w.setRow g cells) := ⟨rfl, rfl, rfl, by simp, fun k _ hn => setRow_other w g k _ hn⟩
theorem Fp.setRow {S : Nat → Prop} {w w' : World} (h : Fp S w w') {g : Nat} {cells : Array Value} (hg : g < w.heap.size → S g) : Fp S w (w'.setRow g cells) := h.trans Fp.row (fun k hk e => by subst e; exact hg hk)
theorem Fp.grown {S : Nat → Prop} {w w1 w2 : World} {row : Option Nat} (h : Fp S w w1) (hg : w1.grownBy w2 row) (hr : ∀ k, k < w.heap.size → row = some k → S k) : Fp S w w2 :=
 h.trans (S' := fun k => row = some k) ⟨hg.os, hg.tape, hg.output, hg.size, fun k hk hn => hg.block k hk (fun e => hn e.symm)⟩ hr
theorem Fp.heap {S : Nat → Prop} {w w' : World} (h : Fp S w w') {k : Nat} {o : Obj} (hc : w.heap[k]? = some o) (hS : ¬ S k) : w'.heap[k]? = some o :=
 (h.block k (Array.getElem?_eq_some_iff.1 hc).1 hS).trans hc
theorem Fp.cell {S : Nat → Prop} {w w' : World} (h : Fp S w w') {a : Addr} {v : Value} (hc : w.cell? a = some v) (hS : ¬ S a.block) : w'.cell? a = some v := by
 rw [World.cell?_of_block (w := w) (h.block a.block (World.block_lt_of_cell? w a hc) hS)]
 exact hc
theorem Fp.ownMap {H : Type} {S : Nat → Prop} {w w' : World} {P : Program} {k : TypeId} {R : Value → Option (DataW H × List MemPlace)} {b n : Nat} {D : DataW H} (h : Fp S w w') (hm : w.ownsMap P k R b n D) (hS : ¬ S b) : w'.ownsMap P k R b n D := by
 obtain ⟨es, clock, hb, hr⟩ := hm
 exact ⟨es, clock, h.heap hb hS, hr⟩
theorem Zb {w : World} {k : Nat} {o : Obj} (h : w.heap[k]? = some o) : k < w.heap.size := (Array.getElem?_eq_some_iff.1 h).1
theorem ZhJ {H : Type} {w : World} {P : Program} {k : TypeId} {R : Value → Option (DataW H × List MemPlace)} {b n : Nat} {D : DataW H} (h : w.ownsMap P k R b n D) : w.ownsMap P k R b (Maps.size D) D := by
 obtain ⟨es, clock, hb, F, hs, rfl⟩ := h
 refine ⟨es, clock, hb, F, ?_, rfl⟩
 simp [Maps.size, length_sorted]
abbrev Roles := Nat → List Int
def Part (ρ : Roles) (pre : List Int) (k : Nat) : Prop := ∃ s, ρ k = pre ++ s
def Later (ρ ρ' : Roles) (w : World) : Prop := ∀ k, k < w.heap.size → ρ' k = ρ k
theorem Later.refl (ρ : Roles) (w : World) : Later ρ ρ w := fun _ _ => rfl
theorem Later.trans {ρ ρ' ρ'' : Roles} {w w' : World} (h : Later ρ ρ' w) (h' : Later ρ' ρ'' w') (hs : w.heap.size ≤ w'.heap.size) : Later ρ ρ'' w := fun k hk => (h' k (Nat.lt_of_lt_of_le hk hs)).trans (h k hk)
def Zbg (ρ : Roles) (b : Nat) (r : List Int) : Roles := fun k => if k = b then r else ρ k
theorem Z1 (ρ : Roles) (b : Nat) (r : List Int) : Zbg ρ b r b = r := by simp [Zbg]
theorem ZY {ρ : Roles} {b k : Nat} (r : List Int) (h : k ≠ b) : Zbg ρ b r k = ρ k := by simp [Zbg, h]
theorem Zed {ρ : Roles} {b : Nat} {r : List Int} {w : World} (h : w.heap.size ≤ b) : Later ρ (Zbg ρ b r) w := fun k hk => ZY r (by omega)
end Go.Proofs.YtdbjihkgafhakaaGreatDoor
/-
 Items and queues: how a queue lies in memory.
-/
namespace Go.Proofs.YtdbjihkgafhakaaGreatDoor
open Go.RowKit
structure It where
 id : Int
 cost : Int
deriving DecidableEq
def hasIt (id : Int) (l : List It) : Bool := l.any (fun x => x.id == id)
def itE (l : List It) (x : It) : Int := if x.id < 1 ∨ x.cost < 1 ∨ 64 < x.cost then 1 else if hasIt x.id l = true then 8 else 0
def Zam (l : List It) (id : Int) : List It := l.filter (fun x => !(x.id == id))
def Zar (l : List It) : Int := (l.map It.cost).sum
def I64 (n : Int) : Prop := (Lit.int .i64 n).wf = true
structure GoodIts (l : List It) : Prop where
 once : (l.map It.id).Nodup
 ok : ∀ x ∈ l, 1 ≤ x.id ∧ I64 x.id ∧ 1 ≤ x.cost ∧ x.cost ≤ 64
 few : l.length ≤ 1000000
theorem ZmN : GoodIts [] := ⟨by simp, (fun x hx => by cases hx), by simp⟩
theorem Zbd : ∀ {l : List It}, (∀ x ∈ l, 1 ≤ x.id ∧ I64 x.id ∧ 1 ≤ x.cost ∧ x.cost ≤ 64) → 0 ≤ Zar l ∧ Zar l ≤ 64 * l.length
 | [], _ => by simp [Zar]
 | x :: r, h => by
   have h1 := Zbd (l := r) (fun y hy => h y (List.mem_cons_of_mem _ hy))
   have h2 := h x (by simp)
   simp only [Zar, List.map_cons, List.sum_cons, List.length_cons] at h1 ⊢
   omega
theorem ZaM {l : List It} (h : (l.map It.id).Nodup) {i j : Nat} {x y : It} (hx : l[i]? = some x) (hy : l[j]? = some y) (he : x.id = y.id) : i = j := by
 have h1 : (l.map It.id)[i]? = some x.id := by simp [hx]
 have h2 : (l.map It.id)[j]? = some x.id := by simp [hy, he]
 have hi : i < (l.map It.id).length := (List.getElem?_eq_some_iff.1 h1).1
 exact (List.getElem?_inj hi h).1 (h1.trans h2.symm)
theorem ZbJ {id : Int} {l : List It} : hasIt id l = true ↔ ∃ (i : Nat) (x : It), l[i]? = some x ∧ x.id = id := by
 unfold hasIt
 rw [List.any_eq_true]
 constructor
 ·rintro ⟨x, hx, he⟩
  obtain ⟨i, hi, rfl⟩ := List.getElem_of_mem hx
  exact ⟨i, _, List.getElem?_eq_getElem hi, by simpa using he⟩
 ·rintro ⟨i, x, hx, he⟩
  exact ⟨x, List.mem_of_getElem? hx, by simpa using he⟩
theorem Zbo {l : List It} (h : (l.map It.id).Nodup) {i : Nat} {x : It} (hx : l[i]? = some x) : Zam l x.id = l.eraseIdx i := by
 induction l generalizing i with
 | nil => simp at hx
 | cons y r ih =>
   rw [List.map_cons, List.nodup_cons] at h
   cases i with
   | zero =>
     simp at hx
     subst hx
     rw [List.eraseIdx_cons_zero, Zam, List.filter_cons, if_neg (by simp), List.filter_eq_self]
     intro z hz
     have : z.id ≠ y.id := fun e => h.1 (by rw [← e]; exact List.mem_map_of_mem hz)
     simp [this]
   | succ j =>
     have hx' : r[j]? = some x := by simpa using hx
     have hm : x ∈ r := List.mem_of_getElem? hx'
     have hne : y.id ≠ x.id := fun e => h.1 (by rw [e]; exact List.mem_map_of_mem hm)
     rw [List.eraseIdx_cons_succ, ← ih h.2 hx', Zam, List.filter_cons, if_pos (by simp [hne])]
     rfl
theorem Zkf {l : List It} (h : GoodIts l) (i : Nat) : GoodIts (l.eraseIdx i) := by
 refine ⟨?_, fun x hx => h.ok x (List.mem_of_mem_eraseIdx hx), Nat.le_trans (List.length_eraseIdx_le _ _) h.few⟩
 exact h.once.sublist ((List.eraseIdx_sublist l i).map It.id)
theorem Zlm {l : List It} {x : It} (h : GoodIts l) (h0 : itE l x = 0) (hw : I64 x.id) (hf : l.length < 1000000) : GoodIts (l ++ [x]) := by
 unfold itE at h0
 split at h0
 ·cases h0
 ·rename_i h1
  split at h0
  ·cases h0
  ·rename_i h2
   refine ⟨?_, fun y hy => ?_, by simp; omega⟩
   ·rw [List.map_append, List.nodup_append]
    refine ⟨h.once, by simp, fun a ha b hb => ?_⟩
    simp at hb
    subst hb
    obtain ⟨y, hy, rfl⟩ := List.mem_map.1 ha
    intro e
    exact h2 (List.any_eq_true.2 ⟨y, hy, by simpa using e⟩)
   ·rcases List.mem_append.1 hy with hy | hy
    ·exact h.ok y hy
    ·rw [List.mem_singleton] at hy
     subst hy
     exact ⟨by omega, hw, by omega, by omega⟩
/-! ### In memory -/
def keyI (id : Int) : Lit := .int .i64 id
def lkR (v : Value) : Option (DataW Unit × List MemPlace) := match v with
 | .pointer (some ⟨b, 0, none⟩) => some (.lit (.int .i64 b), [])
 | .pointer none => some (.nil, [])
 | _ => none
theorem ZhK (b : Nat) : lkR (.pointer (some ⟨b, 0, none⟩)) = some (.lit (.int .i64 b), []) := rfl
theorem ZmO : lkR (.pointer none) = some (.nil, []) := rfl
theorem ZnI {v : Value} {b : Nat} {ps : List MemPlace} (h : lkR v = some (.lit (.int .i64 b), ps)) : v = .pointer (some ⟨b, 0, none⟩) := by
 unfold lkR at h
 split at h
 ·rename_i b'
  simp at h
  obtain rfl : b' = b := by omega
  rfl
 ·simp at h
 ·cases h
theorem ZnJ {v : Value} {ps : List MemPlace} (h : lkR v = some (.nil, ps)) : v = .pointer none := by
 unfold lkR at h
 split at h
 ·simp at h
 ·rfl
 ·cases h
def lkP (lk : Int → Nat) : Option It → Value
 | some y => .pointer (some ⟨lk y.id, 0, none⟩)
 | none => .pointer none
def prevI (l : List It) (i : Nat) : Option It := if i = 0 then none else l[i - 1]?
def linkC (lk : Int → Nat) (l : List It) (i : Nat) (x : It) : Array Value := #[.int .i64 x.id, .int .i64 x.cost, lkP lk (prevI l i), lkP lk l[i + 1]?]
structure QAt (pre : List Int) (ρ : Roles) (w : World) (q m : Nat) (lk : Int → Nat) (D : DataW Unit) (l : List It) : Prop where
 head : w.heap[q]? = some (.cells #[lkP lk l.head?, lkP lk l.getLast?, .map (some m), .int .i64 (Zar l)] 200 (0, 0))
 rq : ρ q = pre ++ [1]
 rm : ρ m = pre ++ [2]
 map : w.ownsMap Tryz.prog 3 lkR m l.length D
 size : Maps.size D = l.length
 has : ∀ id, I64 id → Maps.has D (keyI id) = hasIt id l
 at_ : ∀ x ∈ l, ∀ z, D.atKey (keyI x.id) z = .lit (.int .i64 (lk x.id))
 link : ∀ (i : Nat) x, l[i]? = some x → ρ (lk x.id) = pre ++ [3, x.id] ∧ w.heap[lk x.id]? = some (.cells (linkC lk l i x) 203 (0, 0))
 good : GoodIts l
def QueAt (pre : List Int) (ρ : Roles) (w : World) (q : Nat) (l : List It) : Prop := ∃ m lk D, QAt pre ρ w q m lk D l
theorem Zbt {id : Int} (h : I64 id) : keyOf Tryz.prog 3 (.int .i64 id) = some (keyI id) := Maps.keyOf_int_mk Tryz.underlying3 h
theorem Zgu (id : Int) : WideAt.IsKeyLit (keyI id) := by unfold keyI; trivial
theorem Zdm {a b : Int} (h : a ≠ b) : keyI a ≠ keyI b := fun e => by unfold keyI at e; cases e; exact h rfl
theorem keyT : Maps.Keyed Tryz.prog 3 := Maps.int_keyed Tryz.underlying3
section
variable {pre : List Int} {ρ ρ' : Roles} {w w' : World} {q m : Nat} {lk : Int → Nat} {D : DataW Unit} {l : List It}
theorem QAt.later (h : QAt pre ρ w q m lk D l) (hl : Later ρ ρ' w) : QAt pre ρ' w q m lk D l :=
 ⟨h.head, (hl q (Zb h.head)).trans h.rq, (hl m h.map.lt).trans h.rm, h.map, h.size, h.has, h.at_, fun i x hx => ⟨(hl _ (Zb (h.link i x hx).2)).trans (h.link i x hx).1, (h.link i x hx).2⟩, h.good⟩
theorem QAt.frame (h : QAt pre ρ w q m lk D l) {S : Nat → Prop} (hf : Fp S w w') (hS : ∀ k, k < w.heap.size → Part ρ pre k → ¬ S k) : QAt pre ρ w' q m lk D l :=
 ⟨hf.heap h.head (hS q (Zb h.head) ⟨_, h.rq⟩), h.rq, h.rm, hf.ownMap h.map (hS m h.map.lt ⟨_, h.rm⟩), h.size, h.has, h.at_,
   fun i x hx => ⟨(h.link i x hx).1, hf.heap (h.link i x hx).2 (hS _ (Zb (h.link i x hx).2) ⟨_, (h.link i x hx).1⟩)⟩, h.good⟩
theorem QAt.below (h : QAt pre ρ w q m lk D l) (hb : Below w.heap.size w w') : QAt pre ρ w' q m lk D l := h.frame (S := fun _ => False) (Fp.of_below hb) (fun _ _ _ h => h)
theorem QueAt.later (h : QueAt pre ρ w q l) (hl : Later ρ ρ' w) : QueAt pre ρ' w q l := by obtain ⟨m, lk, D, h⟩ := h; exact ⟨m, lk, D, h.later hl⟩
theorem QueAt.frame (h : QueAt pre ρ w q l) {S : Nat → Prop} (hf : Fp S w w') (hS : ∀ k, k < w.heap.size → Part ρ pre k → ¬ S k) : QueAt pre ρ w' q l := by obtain ⟨m, lk, D, h⟩ := h; exact ⟨m, lk, D, h.frame hf hS⟩
theorem QueAt.below (h : QueAt pre ρ w q l) (hb : Below w.heap.size w w') : QueAt pre ρ w' q l := by obtain ⟨m, lk, D, h⟩ := h; exact ⟨m, lk, D, h.below hb⟩
theorem QueAt.good (h : QueAt pre ρ w q l) : GoodIts l := by obtain ⟨m, lk, D, h⟩ := h; exact h.good
end
end Go.Proofs.YtdbjihkgafhakaaGreatDoor
/-
 fifo.Queue: New, Has, Head, Len, All: the walks.
-/
namespace Go.Proofs.YtdbjihkgafhakaaGreatDoor
open Go.RowKit
theorem Zob (w : World) : (zeroValue 198).run Tryz.prog w = .ok (.pointer none) w := by kernel_rfl
theorem Zaz {ops : Array Oper} {rest : List Oper} {o : Oper} {a : Act} {Q : Exit → Act → World → Prop} {w : World} (hw : Region.wanted o (yielded ops a.tmps) = true) (m x : Operand) (hop : o.op = Op.lookup 197 m x false)
 {pre : List Int} {ρ : Roles} {q b : Nat} {lk : Int → Nat} {D : DataW Unit} {l : List It} (hQ : QAt pre ρ w q b lk D l) (hm : a.eval m = .map (some b)) (id : Int) (hx : a.eval x = .int .i64 id) (hid : I64 id)
 (v : Value) (hv : (hasIt id l = true ∧ v = .pointer (some ⟨lk id, 0, none⟩)) ∨ (hasIt id l = false ∧ v = .pointer none))
 (hK : wpList Tryz.prog ops Q rest (a.put o.dst v) w) : wpList Tryz.prog ops Q (o :: rest) a w := by
 obtain ⟨u, ps, hrun, hR⟩ := hQ.map.lookup keyT Tryz.underlying197 (Zob w) ZmO (Zbt hid)
 have hu : u = v := by
  rcases hv with ⟨h, rfl⟩ | ⟨h, rfl⟩
  ·obtain ⟨i, y, hy, rfl⟩ := ZbJ.1 h
   rw [hQ.at_ y (List.mem_of_getElem? hy)] at hR
   exact ZnI hR
  ·rw [Maps.atKey_of_not_has ((hQ.has id hid).trans h)] at hR
   exact ZnJ hR
 subst hu
 unfold wpList
 rw [if_pos hw]
 left
 unfold Oper.wp
 simp [execOp, hop, hm, hx, hrun, Result.andThen]
 exact hK
section
variable {pre : List Int} {ρ : Roles} {q : Nat} {l : List It}
theorem QAt.c0 {w : World} {m : Nat} {lk : Int → Nat} {D : DataW Unit} (h : QAt pre ρ w q m lk D l) : w.cell? ⟨q, 0, none⟩ = some (lkP lk l.head?) := Za h.head rfl
theorem QAt.c1 {w : World} {m : Nat} {lk : Int → Nat} {D : DataW Unit} (h : QAt pre ρ w q m lk D l) : w.cell? ⟨q, 1, none⟩ = some (lkP lk l.getLast?) := Za h.head rfl
theorem QAt.c2 {w : World} {m : Nat} {lk : Int → Nat} {D : DataW Unit} (h : QAt pre ρ w q m lk D l) : w.cell? ⟨q, 2, none⟩ = some (.map (some m)) := Za h.head rfl
set_option maxRecDepth 100000 in
set_option maxHeartbeats 1000000 in
theorem Ze9 (w : World) : Calls Tryz.prog 85 #[] w fun e w' => e = .returned (.pointer (some ⟨w.heap.size + 1, 0, none⟩)) ∧ w' = (w.alloc (.map #[] 0)).alloc (.cells #[.pointer none, .pointer none, .map (some w.heap.size), .int .i64 0] 200) := by
 have hmm := @run_makeMap Tryz.prog
 go_enter Tryz.func85, Tryz.ntmps85
 go_wp2
 go_ret
 exact ⟨rfl, rfl⟩
theorem ZfP (w : World) (hq : ρ (w.heap.size + 1) = pre ++ [1]) (hm : ρ w.heap.size = pre ++ [2]) :
 QueAt pre ρ ((w.alloc (.map #[] 0)).alloc (.cells #[.pointer none, .pointer none, .map (some w.heap.size), .int .i64 0] 200)) (w.heap.size + 1) [] :=
 ⟨w.heap.size, fun _ => 0, .map [], ZX w _ _, hq, hm, (World.ownsMap_made w _ _ _).alloc _, rfl, fun _ _ => rfl, (fun x hx => by cases hx), (fun i x hx => by simp at hx), ZmN⟩
set_option maxRecDepth 100000 in
set_option maxHeartbeats 1000000 in
theorem Zbe (id : Int) (w : World) (hQ : QueAt pre ρ w q l) (hid : I64 id) : Calls Tryz.prog 113 #[.pointer (some ⟨q, 0, none⟩), .int .i64 id] w fun e w' => e = .returned (.bool (hasIt id l)) ∧ w = w' := by
 obtain ⟨m, lk, D, hq⟩ := hQ
 have HQ := Lib.hid hq
 have HI := Lib.hid hid
 have c2 := hq.c2
 clear hq hid
 rcases hh : hasIt id l with _ | _
 ·have HH := Lib.hid hh
  clear hh
  go_enter Tryz.func113, Tryz.ntmps113
  go_wp2_with (at_lookup; refine Zaz (by rfl) _ _ rfl HQ.out rfl id rfl HI.out (.pointer none) (.inr ⟨HH.out, rfl⟩) ?_)
  go_ret
  exact ⟨rfl, rfl⟩
 ·have HH := Lib.hid hh
  clear hh
  go_enter Tryz.func113, Tryz.ntmps113
  go_wp2_with (at_lookup; refine Zaz (by rfl) _ _ rfl HQ.out rfl id rfl HI.out (.pointer (some ⟨lk id, 0, none⟩)) (.inl ⟨HH.out, rfl⟩) ?_)
  go_ret
  exact ⟨rfl, rfl⟩
set_option maxRecDepth 100000 in
set_option maxHeartbeats 1000000 in
theorem Zd3 (x : It) (r : List It) (w : World) (hQ : QueAt pre ρ w q (x :: r)) : Calls Tryz.prog 120 #[.pointer (some ⟨q, 0, none⟩)] w fun e w' => e = .returned (.tuple #[.agg #[.int .i64 x.id, .int .i64 x.cost], .bool true]) ∧ Below w.heap.size w w' := by
 obtain ⟨m, lk, D, hq⟩ := hQ
 have c0 : w.cell? ⟨q, 0, none⟩ = some (.pointer (some ⟨lk x.id, 0, none⟩)) := hq.c0
 have hlt := Zb hq.head
 have hl := (hq.link 0 x rfl).2
 have d0 : w.cell? ⟨lk x.id, 0, none⟩ = some (.int .i64 x.id) := Za hl rfl
 have d1 : w.cell? ⟨lk x.id, 1, none⟩ = some (.int .i64 x.cost) := Za hl rfl
 have hlk := Zb hl
 clear hq hl
 go_enter Tryz.func120, Tryz.ntmps120
 go_wp2
 refine bodyPost_ret (v := .tuple #[.agg #[.int .i64 x.id, .int .i64 x.cost], .bool true]) (by simp [results, Tryz.results120, go_sem]) rfl ⟨rfl, ?_⟩
 exact box_below
set_option maxRecDepth 100000 in
set_option maxHeartbeats 1000000 in
theorem ZiV (w : World) (hQ : QueAt pre ρ w q l) : Calls Tryz.prog 171 #[.pointer (some ⟨q, 0, none⟩)] w fun e w' => e = .returned (.int .i64 l.length) ∧ w = w' := by
 obtain ⟨m, lk, D, hq⟩ := hQ
 have HQ := Lib.hid hq
 have c2 := hq.c2
 clear hq
 go_enter Tryz.func171, Tryz.ntmps171
 go_wp2_with (at_len; refine wpList_len_own _ rfl _ 197 rfl 3 198 Tryz.underlying197 _ m _ D rfl HQ.out.map ?_)
 rw [HQ.out.size]
 go_wp2
 go_ret
 exact ⟨rfl, rfl⟩
end
end Go.Proofs.YtdbjihkgafhakaaGreatDoor
/-
 fifo.Queue: All, Push: the walks.
-/
namespace Go.Proofs.YtdbjihkgafhakaaGreatDoor
open Go.RowKit
def encI (x : It) : List Value := [.int .i64 x.id, .int .i64 x.cost]
theorem ZfB (x : It) : (encI x).length = 2 := rfl
def flatI (l : List It) : List Value := l.flatMap encI
theorem ZgJ (l : List It) : (flatI l).length = l.length * 2 := Zbc encI 2 ZfB l
theorem ZdC (l : List It) (x : It) : flatI (l ++ [x]) = flatI l ++ encI x := by simp [flatI]
theorem Zcq : (Tryz.prog.info? 132).map (fun i => (i.zero, i.size, i.bytes)) = some (some (.agg #[.int .i64 0, .int .i64 0]), 2, 16) := by kernel_rfl
def ItsAt (w : World) (v : Value) (l : List It) : Prop :=
 ∃ a cap, v = .slice a l.length cap ∧ ∀ (j : Nat) u, (flatI l)[j]? = some u → ∃ g off, a = some ⟨g, off, none⟩ ∧ w.cell? ⟨g, off + j, none⟩ = some u
theorem ItsAt.below {w w' : World} {v : Value} {l : List It} (h : ItsAt w v l) (hb : Below w.heap.size w w') : ItsAt w' v l := by
 obtain ⟨a, cap, rfl, hc⟩ := h
 exact ⟨a, cap, rfl, fun j u hu => by obtain ⟨g, off, ha, h0⟩ := hc j u hu; exact ⟨g, off, ha, Zc hb h0⟩⟩
theorem ItsAt.own {w : World} {base : Nat} {v : Value} {l : List It} (h : w.ownsRow base 132 2 v l.length (flatI l)) : ItsAt w v l := by
 obtain ⟨a, cap, rfl, _, _, _, hc⟩ := ZC h
 exact ⟨a, cap, rfl, fun j u hu => by obtain ⟨g, ha, _, _, h0, _⟩ := hc j u hu; exact ⟨g, 0, ha, by rw [Nat.zero_add]; exact h0⟩⟩
def ZjR (l : List It) (w : World) (e : Ending) (w' : World) : Prop := ∃ v, e = .returned v ∧ w'.ownsRow w.heap.size 132 2 v l.length (flatI l) ∧ Below w.heap.size w w'
def ARel (lk : Int → Nat) (l : List It) (w : World) (g : Nat) (ov p : Value) (wr : World) : Prop :=
 ∃ k : Nat, g = l.length - k ∧ k ≤ l.length ∧ p = lkP lk l[k]? ∧ wr.ownsRow w.heap.size 132 2 ov (l.take k).length (flatI (l.take k)) ∧ Below w.heap.size w wr
section
variable {pre : List Int} {ρ : Roles} {q : Nat} {l : List It}
set_option maxRecDepth 100000 in
set_option maxHeartbeats 2000000 in
theorem ZiW (w : World) (hQ : QueAt pre ρ w q l) : Calls Tryz.prog 114 #[.pointer (some ⟨q, 0, none⟩)] w (ZjR l w) := by
 obtain ⟨m, lk, D, hq⟩ := hQ
 have HQ := Lib.hid hq
 have c0 := hq.c0
 have HF := Lib.hid hq.good.few
 clear hq
 go_enter Tryz.func114, Tryz.ntmps114
 go_wp2_with fail
 go_loopg [3, 4] l.length (fun g ov p wr => ARel lk l w g ov p wr)
 case atStart => exact ⟨0, rfl, Nat.zero_le _, by cases l <;> rfl, Za4 _ _ _ _, Below.refl _ _⟩
 case round =>
  obtain ⟨k, hg, hk, rfl, hown, hb⟩ := hrel
  have HB := Lib.hid hb
  have HO := Lib.hid hown
  have HG := Lib.hid hg
  clear hb hown hg c0
  rcases hx : l[k]? with _ | x
  ·have hkl : l.length ≤ k := List.getElem?_eq_none_iff.1 hx
   rw [show lkP lk none = .pointer none from rfl]
   obtain rfl : k = l.length := by omega
   have HO2 := Lib.hid (show wr.ownsRow w.heap.size 132 2 u3 l.length (flatI l) by have h := HO.out; rw [List.take_length] at h; exact h)
   clear hkl hx
   go_wp2_with fail
   go_ret
   exact ⟨u3, rfl, HO2.out, HB.out⟩
  ·have hlt : k < l.length := (List.getElem?_eq_some_iff.1 hx).1
   have hl := HQ.out.link k x hx
   have hh := (HB.out.block _ (Zb hl.2)).trans hl.2
   have d0 : wr.cell? ⟨lk x.id, 0, none⟩ = some (.int .i64 x.id) := Za hh rfl
   have d1 : wr.cell? ⟨lk x.id, 1, none⟩ = some (.int .i64 x.cost) := Za hh rfl
   rw [show lkP lk (some x) = .pointer (some ⟨lk x.id, 0, none⟩) from rfl]
   have HH := Lib.hid hh
   have hf := HF.out
   have htl : (l.take k).length = k := by rw [List.length_take]; omega
   have HTL := Lib.hid htl
   have HX := Lib.hid hx
   have HLT := Lib.hid (Zb hh)
   have hz0 : w.heap.size ≤ wr.heap.size := HB.out.size
   clear hl hh hx
   clear htl
   have hoo := HO.out
   rw [HTL.out] at hoo
   have HO3 := Lib.hid hoo
   clear hoo
   go_wp2_with (at_builtin; refine Zv (us := #[.int .i64 x.id, .int .i64 x.cost]) rfl _ _ 141 rfl w.heap.size _ 2 16 Tryz.underlying141 Zcq rfl (by decide) u3 k (flatI (l.take k)) rfl HO3.out rfl rfl (by simp [Value.oneCell']) ?c1 ?c2 ?c3 ?_; (case c1 => omega); (case c2 => omega); (case c3 => omega); intro gg cap2 w5 hown5 hg5 hat5; (have HH5 := Lib.hid ((hg5.block _ HLT.out (fun e => by have h1 := Zl HO3.out _ e.symm; have h2 := Zb (HQ.out.link k x HX.out).2; omega)).trans HH.out)); (have d3 : w5.cell? ⟨lk x.id, 3, none⟩ = some (lkP lk l[k + 1]?) := Za HH5.out rfl))
   have HO5 := Lib.hid (show w5.ownsRow w.heap.size 132 2 (.slice (some ⟨gg, 0, none⟩) (k + 1) cap2) (l.take (k + 1)).length (flatI (l.take (k + 1))) by
    rw [List.take_succ_eq_append_getElem hlt, (List.getElem?_eq_some_iff.1 HX.out).2, List.length_append, ZdC, HTL.out]
    exact hown5)
   have HB5 := Lib.hid (HB.out.trans ⟨hg5.os, hg5.tape, hg5.output, hg5.size, fun j hj => hg5.block j (by omega) (fun e => by have := Zl HO3.out j e.symm; omega)⟩ : Below w.heap.size w w5)
   clear hown5 hg5 hat5
   go_wp2_with fail
   go_roundg (l.length - (k + 1))
   case rel => exact ⟨k + 1, rfl, by omega, rfl, HO5.out, HB5.out⟩
   case measure => have := HG.out; omega
end
end Go.Proofs.YtdbjihkgafhakaaGreatDoor
/-
 A queue behind a Push: how it lies then.
-/
namespace Go.Proofs.YtdbjihkgafhakaaGreatDoor
open Go.RowKit
theorem ZhL {l : List It} {x : It} (h : itE l x = 0) : 1 ≤ x.id ∧ 1 ≤ x.cost ∧ x.cost ≤ 64 ∧ hasIt x.id l = false := by
 unfold itE at h
 split at h
 ·cases h
 ·rename_i h1
  split at h
  ·cases h
  ·rename_i h2
   exact ⟨by omega, by omega, by omega, by simpa using h2⟩
theorem Zoc {l : List It} {x y : It} (h : hasIt x.id l = false) (hy : y ∈ l) : y.id ≠ x.id := by
 have := (List.any_eq_false.1 h) y hy
 simpa using this
theorem ZnK {lk : Int → Nat} {nb : Nat} {x : It} {o : Option It} (h : ∀ y, o = some y → y.id ≠ x.id) : lkP (fun id => if id = x.id then nb else lk id) o = lkP lk o := by
 cases o with
 | none => rfl
 | some y => simp [lkP, h y rfl]
theorem lkP_new {lk : Int → Nat} {nb : Nat} {x : It} : lkP (fun id => if id = x.id then nb else lk id) (some x) = .pointer (some ⟨nb, 0, none⟩) := by simp [lkP]
def hdP (lk : Int → Nat) (nb : Nat) (l : List It) : Value := match l with
 | [] => .pointer (some ⟨nb, 0, none⟩)
 | y :: _ => lkP lk (some y)
theorem ZfQ {pre : List Int} {ρ ρ' : Roles} {w w' : World} {q m : Nat} {lk : Int → Nat} {D : DataW Unit} {l : List It} {x : It} {nb : Nat} (h : QAt pre ρ w q m lk D l) (h0 : itE l x = 0) (hid : I64 x.id) (hf : l.length < 1000000)
 (hq : w'.heap[q]? = some (.cells #[hdP lk nb l, .pointer (some ⟨nb, 0, none⟩), .map (some m), .int .i64 (Zar l + x.cost)] 200 (0, 0)))
 (hm : w'.ownsMap Tryz.prog 3 lkR m (l.length + 1) (D.put (keyI x.id) (.lit (.int .i64 nb))))
 (hn : w'.heap[nb]? = some (.cells #[.int .i64 x.id, .int .i64 x.cost, lkP lk l.getLast?, .pointer none] 203 (0, 0)))
 (hlast : ∀ (i : Nat) y, l[i]? = some y → i + 1 = l.length → w'.heap[lk y.id]? = some (.cells #[.int .i64 y.id, .int .i64 y.cost, lkP lk (prevI l i), .pointer (some ⟨nb, 0, none⟩)] 203 (0, 0)))
 (hold : ∀ (i : Nat) z, l[i]? = some z → i + 1 < l.length → w'.heap[lk z.id]? = w.heap[lk z.id]?)
 (hl : Later ρ ρ' w) (hr : ρ' nb = pre ++ [3, x.id]) : QAt pre ρ' w' q m (fun id => if id = x.id then nb else lk id) (D.put (keyI x.id) (.lit (.int .i64 nb))) (l ++ [x]) := by
 obtain ⟨_, _, _, hno⟩ := ZhL h0
 have hne : ∀ y ∈ l, y.id ≠ x.id := fun y hy => Zoc hno hy
 have hop : ∀ (o : Option It), (∀ y, o = some y → y ∈ l) → lkP (fun id => if id = x.id then nb else lk id) o = lkP lk o := fun o ho => ZnK (fun y hy => hne y (ho y hy))
 have hat : ∀ i y, l[i]? = some y → y ∈ l := fun i y hy => List.mem_of_getElem? hy
 have hprev : ∀ i, i ≤ l.length → prevI (l ++ [x]) i = prevI l i := fun i hi => by
  unfold prevI
  split
  ·rfl
  ·rw [List.getElem?_append_left (by omega)]
 have hpm : ∀ i y, prevI l i = some y → y ∈ l := fun i y hy => by
  unfold prevI at hy
  split at hy
  ·cases hy
  ·exact hat _ _ hy
 refine ⟨?_, (hl q (Zb h.head)).trans h.rq, (hl m h.map.lt).trans h.rm, by simpa using hm, ?_, fun id hi => ?_, fun y hy z => ?_, fun i y hy => ?_, Zlm h.good h0 hid hf⟩
 ·rw [hq]
  have e1 : hdP lk nb l = lkP (fun id => if id = x.id then nb else lk id) (l ++ [x]).head? := by
   cases l with
   | nil => exact lkP_new.symm
   | cons y r => exact (hop (some y) (fun z hz => by cases hz; simp)).symm
  have e2 : (.pointer (some ⟨nb, 0, none⟩) : Value) = lkP (fun id => if id = x.id then nb else lk id) (l ++ [x]).getLast? := by
   rw [List.getLast?_append]
   exact lkP_new.symm
  have e3 : Zar l + x.cost = Zar (l ++ [x]) := by simp [Zar]
  rw [e1, e2, e3]
 ·rw [Maps.size_put (h.map.tidy keyT), h.has x.id hid, hno, h.size]
  simp
 ·by_cases he : id = x.id
  ·subst he
   rw [Maps.has_put_same h.map.isMap (Zgu _)]
   exact (ZbJ.2 ⟨l.length, x, by simp, rfl⟩).symm
  ·rw [Maps.has_put_other (Zdm he), h.has id hi]
   unfold hasIt
   rw [List.any_append]
   simp [Ne.symm he]
 ·rcases List.mem_append.1 hy with hy | hy
  ·have e := hne y hy
   rw [Maps.atKey_put_other (Zdm e), h.at_ y hy z]
   simp [e]
  ·rw [List.mem_singleton] at hy
   subst hy
   rw [Maps.atKey_put_same h.map.isMap (Zgu _)]
   simp
 ·rcases Nat.lt_or_ge i l.length with hi | hi
  ·rw [List.getElem?_append_left hi] at hy
   have e := hne y (hat _ _ hy)
   have hlk := h.link i y hy
   simp only [e, if_false]
   refine ⟨(hl _ (Zb hlk.2)).trans hlk.1, ?_⟩
   rcases Nat.lt_or_ge (i + 1) l.length with hi2 | hi2
   ·rw [hold i y hy hi2, hlk.2]
    unfold linkC
    rw [hprev i (by omega), hop _ (fun z hz => hpm _ _ hz), List.getElem?_append_left hi2, hop _ (fun z hz => hat _ _ hz)]
   ·rw [hlast i y hy (by omega)]
    unfold linkC
    rw [hprev i (by omega), hop _ (fun z hz => hpm _ _ hz), List.getElem?_append_right (by omega), show i + 1 - l.length = 0 by omega]
    simp [lkP]
  ·have hi2 : i < (l ++ [x]).length := (List.getElem?_eq_some_iff.1 hy).1
   have : i = l.length := by simp at hi2; omega
   subst this
   rw [List.getElem?_append_right (by omega), Nat.sub_self] at hy
   simp at hy
   subst hy
   simp only [if_true]
   refine ⟨hr, ?_⟩
   rw [hn]
   unfold linkC
   rw [hprev _ (Nat.le_refl _), hop _ (fun z hz => hpm _ _ hz), List.getElem?_eq_none (by simp)]
   have e : prevI l l.length = l.getLast? := by
    unfold prevI
    rw [List.getLast?_eq_getElem?]
    split
    ·rename_i h0
     rw [List.length_eq_zero_iff.1 h0]
     rfl
    ·rfl
   rw [e]
   rfl
end Go.Proofs.YtdbjihkgafhakaaGreatDoor
/-
 fifo.Queue: Push: the walk.
-/
namespace Go.Proofs.YtdbjihkgafhakaaGreatDoor
open Go.RowKit
def ZfC (pre : List Int) (ρ : Roles) (w : World) (q : Nat) (l : List It) (x : It) (e : Ending) (w' : World) : Prop :=
 e = .returned (.int .i64 0) ∧ ∃ nb, w.heap.size ≤ nb ∧ nb < w'.heap.size ∧ Fp (Part ρ pre) w w' ∧ ∀ ρ', Later ρ ρ' w → ρ' nb = pre ++ [3, x.id] → QueAt pre ρ' w' q (l ++ [x])
section
variable {pre : List Int} {ρ : Roles} {q : Nat} {l : List It}
set_option maxRecDepth 100000 in
set_option maxHeartbeats 2000000 in
theorem ZhM (x : It) (w : World) (h : x.id < 1 ∨ x.cost < 1 ∨ 64 < x.cost) : Calls Tryz.prog 86 #[.pointer (some ⟨q, 0, none⟩), .agg #[.int .i64 x.id, .int .i64 x.cost]] w fun e w' => e = .returned (.int .i64 1) ∧ Below w.heap.size w w' := by
 by_cases h1 : x.id < 1
 ·clear h
  go_enter Tryz.func86, Tryz.ntmps86
  go_wp2
  go_ret
  exact ⟨rfl, box_below⟩
 ·by_cases h2 : x.cost < 1
  ·clear h
   go_enter Tryz.func86, Tryz.ntmps86
   go_wp2
   go_ret
   exact ⟨rfl, box_below⟩
  ·have h3 : 64 < x.cost := by omega
   clear h
   go_enter Tryz.func86, Tryz.ntmps86
   go_wp2
   go_ret
   exact ⟨rfl, box_below⟩
set_option maxRecDepth 100000 in
set_option maxHeartbeats 2000000 in
theorem Zgv (x : It) (w : World) (hQ : QueAt pre ρ w q l) (hid : I64 x.id) (h1 : 1 ≤ x.id) (h2 : 1 ≤ x.cost) (h3 : x.cost ≤ 64) (h : hasIt x.id l = true) : Calls Tryz.prog 86 #[.pointer (some ⟨q, 0, none⟩), .agg #[.int .i64 x.id, .int .i64 x.cost]] w fun e w' => e = .returned (.int .i64 8) ∧ Below w.heap.size w w' := by
 obtain ⟨m, lk, D, hq⟩ := hQ
 have HQ := Lib.hid hq
 have HI := Lib.hid hid
 have HH := Lib.hid h
 clear hq hid h
 go_enter Tryz.func86, Tryz.ntmps86
 go_wp2_with fail
 refine (Zbe (pre := pre) (ρ := ρ) x.id _ (QueAt.below ⟨m, lk, D, HQ.out⟩ box_below) HI.out).mono ?_
 rintro e w1 ⟨rfl, rfl⟩
 rw [HH.out]
 go_wp2
 go_ret
 exact ⟨rfl, box_below⟩
set_option maxRecDepth 100000 in
set_option maxHeartbeats 2000000 in
theorem ZhN (x : It) (w : World) (hQ : QueAt pre ρ w q []) (hid : I64 x.id) (h0 : itE [] x = 0) (hf : ([] : List It).length < 1000000) : Calls Tryz.prog 86 #[.pointer (some ⟨q, 0, none⟩), .agg #[.int .i64 x.id, .int .i64 x.cost]] w (ZfC pre ρ w q [] x) := by
 obtain ⟨m, lk, D, hq⟩ := hQ
 have HQ := Lib.hid hq
 have HI := Lib.hid hid
 obtain ⟨h1, h2, h3, hh⟩ := ZhL h0
 have HH := Lib.hid hh
 have H0 := Lib.hid h0
 have HF := Lib.hid hf
 obtain ⟨s0, s1⟩ := Zbd hq.good.ok
 have s2 : 64 * (([] : List It).length : Int) ≤ 64000000 := by omega
 obtain ⟨sm, hsm⟩ : ∃ sm, sm = Zar [] := ⟨_, rfl⟩
 have HSM := Lib.hid hsm
 have s3 : 0 ≤ sm := by omega
 have s4 : sm ≤ 64000000 := by omega
 have hqw : q < w.heap.size := Zb hq.head
 have hh0 : w.heap[q]? = some (.cells #[.pointer none, .pointer none, .map (some m), .int .i64 sm] 200 (0, 0)) := by
  rw [hsm]
  exact hq.head
 have hqm : q ≠ m := fun e => by have h1 := hq.rq; rw [e, hq.rm] at h1; simp at h1
 have HH0 := Lib.hid hh0
 have hmw := hq.map.lt
 clear hq hid hh h0 hf hsm s0 s1 s2 hh0 
 go_enter Tryz.func86, Tryz.ntmps86
 go_wp2_with fail
 refine (Zbe (pre := pre) (ρ := ρ) x.id _ (QueAt.below ⟨m, lk, D, HQ.out⟩ box_below) HI.out).mono ?_
 rintro e w1 ⟨rfl, rfl⟩
 rw [HH.out]
 go_upto_region 7 with fail
 obtain ⟨w2, hw2⟩ : ∃ w2 : World, w2 = w.alloc (.cells #[.int .i64 x.id, .int .i64 x.cost] 132) := ⟨_, rfl⟩
 rw [← hw2]
 have HB2 := Lib.hid (show Below w.heap.size w w2 by rw [hw2]; exact box_below)
 have hz2 : w2.heap.size = w.heap.size + 1 := by rw [hw2]; simp
 have HX2 := Lib.hid (show w2.heap[w.heap.size]? = some (.cells #[.int .i64 x.id, .int .i64 x.cost] 132 (0, 0)) by rw [hw2]; exact Zf)
 have HHQ2 := Lib.hid ((HB2.out.block q hqw).trans HH0.out)
 clear hw2
 have c1 : w2.cell? ⟨q, 1, none⟩ = some (.pointer none) := Za HHQ2.out rfl
 have b0 : w2.cell? ⟨w.heap.size, 0, none⟩ = some (.int .i64 x.id) := Za HX2.out rfl
 have b1 : w2.cell? ⟨w.heap.size, 1, none⟩ = some (.int .i64 x.cost) := Za HX2.out rfl
 have HZ2 := Lib.hid hz2
 clear hz2
 go_region
 clear c1 b0 b1
 go_upto_region 8 with fail
 obtain ⟨nb, hnb⟩ : ∃ nb : Nat, nb = w2.heap.size := ⟨_, rfl⟩
 obtain ⟨w3, hw3⟩ : ∃ w3 : World, w3 = (w2.alloc (.cells #[.int .i64 x.id, .int .i64 x.cost, .pointer none, .pointer none] 203)).drew := ⟨_, rfl⟩
 rw [← hw3, ← hnb]
 have HN3 := Lib.hid (show w3.heap[nb]? = some (.cells #[.int .i64 x.id, .int .i64 x.cost, .pointer none, .pointer none] 203 (0, 0)) by rw [hw3, hnb]; exact Zf)
 have hb3 : Below w2.heap.size w2 w3 := by rw [hw3]; exact ⟨rfl, rfl, rfl, by show _ ≤ (w2.alloc _).heap.size; simp, fun k hk => Below.heap_alloc _ _ _ hk⟩
 have HB3 := Lib.hid (HB2.out.trans (hb3.mono HB2.out.size))
 have HX3 := Lib.hid ((hb3.block _ (by have := HZ2.out; omega)).trans HX2.out)
 have HHQ3 := Lib.hid ((HB3.out.block q hqw).trans HH0.out)
 have HNB := Lib.hid (show nb = w.heap.size + 1 by rw [hnb]; exact HZ2.out)
 have HM3 := Lib.hid ((HQ.out.below HB3.out).map)
 clear hw3 hb3 hnb
 have c1 : w3.cell? ⟨q, 1, none⟩ = some (.pointer none) := Za HHQ3.out rfl
 have c0 : w3.cell? ⟨q, 0, none⟩ = some (.pointer none) := Za HHQ3.out rfl
 have f0 := Zd (i := 0) HHQ3.out
 go_upto_region 11 with fail
 obtain ⟨w4, hw4⟩ : ∃ w4 : World, w4 = w3.setCell ⟨q, 0, none⟩ (.pointer (some ⟨nb, 0, none⟩)) := ⟨_, rfl⟩
 rw [← hw4]
 have hqn : q ≠ nb := by have := HNB.out; omega
 have hqx : w.heap.size ≠ q := by omega
 have HHQ4 := Lib.hid (show w4.heap[q]? = some (.cells #[.pointer (some ⟨nb, 0, none⟩), .pointer none, .map (some m), .int .i64 sm] 200 (0, 0)) by rw [hw4]; exact Ze HHQ3.out)
 have HN4 := Lib.hid ((show w4.heap[nb]? = w3.heap[nb]? by rw [hw4, Zh (Ne.symm hqn)]).trans HN3.out)
 have HX4 := Lib.hid ((show w4.heap[w.heap.size]? = w3.heap[w.heap.size]? by rw [hw4, Zh hqx]).trans HX3.out)
 have HM4 := Lib.hid (show w4.ownsMap Tryz.prog 3 lkR m 0 D by rw [hw4]; exact HM3.out.setCell (Ne.symm hqm) _)
 have HF4 := Lib.hid (show Fp (fun k => k = q) w w4 by rw [hw4]; exact (Fp.of_below (S := fun k => k = q) HB3.out).setCell (p := ⟨q, 0, none⟩) (fun _ => rfl) _)
 clear hw4 c0 f0 c1 hqn hqx
 have c1 : w4.cell? ⟨q, 1, none⟩ = some (.pointer none) := Za HHQ4.out rfl
 have f1 := Zd (i := 1) HHQ4.out
 go_upto_region 12 with fail
 obtain ⟨w5, hw5⟩ : ∃ w5 : World, w5 = w4.setCell ⟨q, 1, none⟩ (.pointer (some ⟨nb, 0, none⟩)) := ⟨_, rfl⟩
 rw [← hw5]
 have hqn : nb ≠ q := by have := HNB.out; omega
 have hqx : w.heap.size ≠ q := by omega
 have HHQ5 := Lib.hid (show w5.heap[q]? = some (.cells #[.pointer (some ⟨nb, 0, none⟩), .pointer (some ⟨nb, 0, none⟩), .map (some m), .int .i64 sm] 200 (0, 0)) by rw [hw5]; exact Ze HHQ4.out)
 have HN5 := Lib.hid ((show w5.heap[nb]? = w4.heap[nb]? by rw [hw5, Zh hqn]).trans HN4.out)
 have HX5 := Lib.hid ((show w5.heap[w.heap.size]? = w4.heap[w.heap.size]? by rw [hw5, Zh hqx]).trans HX4.out)
 have HM5 := Lib.hid (show w5.ownsMap Tryz.prog 3 lkR m ([] : List It).length D by rw [hw5]; exact HM4.out.setCell (Ne.symm hqm) _)
 have HF5 := Lib.hid (show Fp (fun k => k = q) w w5 by rw [hw5]; exact HF4.out.setCell (p := ⟨q, 1, none⟩) (fun _ => rfl) _)
 clear hw5 c1 f1 hqn hqx
 obtain ⟨w6, hrun, hown6, hturn⟩ := (HM5.out.drew).store keyT Tryz.underlying197 (by have := HF.out; unfold maxLen; omega) (Zbt HI.out) (ZhK nb)
 have c2 : w5.cell? ⟨q, 2, none⟩ = some (.map (some m)) := Za HHQ5.out rfl
 have b0 : w5.cell? ⟨w.heap.size, 0, none⟩ = some (.int .i64 x.id) := Za HX5.out rfl
 have hg6 := hturn.grown
 have HM6 := Lib.hid hown6
 have HHQ6 := Lib.hid ((hg6.block q (Zb (w := w5) HHQ5.out) (by simp; exact hqm)).trans HHQ5.out)
 have HN6 := Lib.hid ((hg6.block nb (Zb (w := w5) HN5.out) (by simp; have := HNB.out; omega)).trans HN5.out)
 have HX6 := Lib.hid ((hg6.block w.heap.size (Zb (w := w5) HX5.out) (by simp; omega)).trans HX5.out)
 have HF6 := Lib.hid (show Fp (fun k => k = q ∨ k = m) w w6 from (HF5.out.drew.mono (S' := (fun k => k = q ∨ k = m)) (fun k hk => .inl hk)).grown hg6 (fun k _ hk => by simp at hk; simp [hk]))
 clear hown6 hturn hg6
 go_region
 clear hrun c2 b0
 go_upto_region 13 with fail
 have c3 : w6.cell? ⟨q, 3, none⟩ = some (.int .i64 sm) := Za HHQ6.out rfl
 have f3 := Zd (i := 3) HHQ6.out
 have b1 : w6.cell? ⟨w.heap.size, 1, none⟩ = some (.int .i64 x.cost) := Za HX6.out rfl
 go_region
 go_wp2_with fail
 go_ret
 have hz6 : w.heap.size ≤ w6.heap.size := HF6.out.size
 have hqn : nb ≠ q := by have := HNB.out; omega
 refine ⟨rfl, nb, by have := HNB.out; omega, ?_, ?_, fun ρ' hl hr => ⟨m, (fun id => if id = x.id then nb else lk id), D.put (keyI x.id) (.lit (.int .i64 nb)), ZfQ HQ.out H0.out HI.out HF.out ?_ ?_ ?_ ?_ ?_ hl hr⟩⟩
 ·have := Zb HN6.out
  simpa [World.setCell] using this
 ·refine (HF6.out.drew.setCell (p := ⟨q, 3, none⟩) (fun _ => .inl rfl) _).mono (fun k hk => ?_)
  rcases hk with rfl | rfl
  ·exact ⟨_, HQ.out.rq⟩
  ·exact ⟨_, HQ.out.rm⟩
 ·rw [← HSM.out]
  exact Ze (w := w6.drew) HHQ6.out
 ·exact (World.ownsMap.drew HM6.out).setCell (Ne.symm hqm) _
 ·refine (Zh (w := w6) hqn).trans ?_
  exact HN6.out
 ·exact fun i y hy => by simp at hy
 ·exact fun i y hy => by simp at hy
set_option maxRecDepth 100000 in
set_option maxHeartbeats 2000000 in
theorem Zhn (x : It) (w : World) (hQ : QueAt pre ρ w q l) (hid : I64 x.id) (h0 : itE l x = 0) (hf : (l : List It).length < 1000000) {i : Nat} {y : It} (hy : l[i]? = some y) (hi : i + 1 = l.length) : Calls Tryz.prog 86 #[.pointer (some ⟨q, 0, none⟩), .agg #[.int .i64 x.id, .int .i64 x.cost]] w (ZfC pre ρ w q l x) := by
 obtain ⟨m, lk, D, hq⟩ := hQ
 have HQ := Lib.hid hq
 have HI := Lib.hid hid
 obtain ⟨h1, h2, h3, hh⟩ := ZhL h0
 have HH := Lib.hid hh
 have H0 := Lib.hid h0
 have HF := Lib.hid hf
 obtain ⟨s0, s1⟩ := Zbd hq.good.ok
 have s2 : 64 * ((l : List It).length : Int) ≤ 64000000 := by omega
 obtain ⟨sm, hsm⟩ : ∃ sm, sm = Zar l := ⟨_, rfl⟩
 have HSM := Lib.hid hsm
 have s3 : 0 ≤ sm := by omega
 have s4 : sm ≤ 64000000 := by omega
 have hqw : q < w.heap.size := Zb hq.head
 have hh0 : w.heap[q]? = some (.cells #[lkP lk l.head?, .pointer (some ⟨lk y.id, 0, none⟩), .map (some m), .int .i64 sm] 200 (0, 0)) := by
  rw [hsm]
  have e : l.getLast? = some y := by rw [List.getLast?_eq_getElem?, show l.length - 1 = i by omega]; exact hy
  have h := hq.head
  rw [e] at h
  exact h
 have hly := hq.link i y hy
 have hlyw := Zb hly.2
 have hqy : q ≠ lk y.id := fun e => by have h1 := hq.rq; rw [e, hly.1] at h1; simp at h1
 have hym : lk y.id ≠ m := fun e => by have h1 := hq.rm; rw [← e, hly.1] at h1; simp at h1
 have HY := Lib.hid hy
 have HLY := Lib.hid hly
 have HI1 := Lib.hid hi
 have hqm : q ≠ m := fun e => by have h1 := hq.rq; rw [e, hq.rm] at h1; simp at h1
 have HH0 := Lib.hid hh0
 have hmw := hq.map.lt
 clear hq hid hh h0 hf hsm s0 s1 s2 hh0 hy hly hi
 go_enter Tryz.func86, Tryz.ntmps86
 go_wp2_with fail
 refine (Zbe (pre := pre) (ρ := ρ) x.id _ (QueAt.below ⟨m, lk, D, HQ.out⟩ box_below) HI.out).mono ?_
 rintro e w1 ⟨rfl, rfl⟩
 rw [HH.out]
 go_upto_region 7 with fail
 obtain ⟨w2, hw2⟩ : ∃ w2 : World, w2 = w.alloc (.cells #[.int .i64 x.id, .int .i64 x.cost] 132) := ⟨_, rfl⟩
 rw [← hw2]
 have HB2 := Lib.hid (show Below w.heap.size w w2 by rw [hw2]; exact box_below)
 have hz2 : w2.heap.size = w.heap.size + 1 := by rw [hw2]; simp
 have HX2 := Lib.hid (show w2.heap[w.heap.size]? = some (.cells #[.int .i64 x.id, .int .i64 x.cost] 132 (0, 0)) by rw [hw2]; exact Zf)
 have HHQ2 := Lib.hid ((HB2.out.block q hqw).trans HH0.out)
 clear hw2
 have c1 : w2.cell? ⟨q, 1, none⟩ = some (.pointer (some ⟨lk y.id, 0, none⟩)) := Za HHQ2.out rfl
 have b0 : w2.cell? ⟨w.heap.size, 0, none⟩ = some (.int .i64 x.id) := Za HX2.out rfl
 have b1 : w2.cell? ⟨w.heap.size, 1, none⟩ = some (.int .i64 x.cost) := Za HX2.out rfl
 have HZ2 := Lib.hid hz2
 clear hz2
 go_region
 clear c1 b0 b1
 go_upto_region 8 with fail
 obtain ⟨nb, hnb⟩ : ∃ nb : Nat, nb = w2.heap.size := ⟨_, rfl⟩
 obtain ⟨w3, hw3⟩ : ∃ w3 : World, w3 = (w2.alloc (.cells #[.int .i64 x.id, .int .i64 x.cost, .pointer (some ⟨lk y.id, 0, none⟩), .pointer none] 203)).drew := ⟨_, rfl⟩
 rw [← hw3, ← hnb]
 have HN3 := Lib.hid (show w3.heap[nb]? = some (.cells #[.int .i64 x.id, .int .i64 x.cost, .pointer (some ⟨lk y.id, 0, none⟩), .pointer none] 203 (0, 0)) by rw [hw3, hnb]; exact Zf)
 have hb3 : Below w2.heap.size w2 w3 := by rw [hw3]; exact ⟨rfl, rfl, rfl, by show _ ≤ (w2.alloc _).heap.size; simp, fun k hk => Below.heap_alloc _ _ _ hk⟩
 have HB3 := Lib.hid (HB2.out.trans (hb3.mono HB2.out.size))
 have HX3 := Lib.hid ((hb3.block _ (by have := HZ2.out; omega)).trans HX2.out)
 have HHQ3 := Lib.hid ((HB3.out.block q hqw).trans HH0.out)
 have HNB := Lib.hid (show nb = w.heap.size + 1 by rw [hnb]; exact HZ2.out)
 have HM3 := Lib.hid ((HQ.out.below HB3.out).map)
 clear hw3 hb3 hnb
 have c1 : w3.cell? ⟨q, 1, none⟩ = some (.pointer (some ⟨lk y.id, 0, none⟩)) := Za HHQ3.out rfl
 have HLY3 := Lib.hid ((HB3.out.block _ hlyw).trans HLY.out.2)
 have d3 : w3.cell? ⟨lk y.id, 3, none⟩ = some (lkP lk l[i + 1]?) := Za HLY3.out rfl
 have g3 := Zd (i := 3) HLY3.out
 go_upto_region 11 with fail
 obtain ⟨w4, hw4⟩ : ∃ w4 : World, w4 = w3.setCell ⟨lk y.id, 3, none⟩ (.pointer (some ⟨nb, 0, none⟩)) := ⟨_, rfl⟩
 rw [← hw4]
 have hyn : nb ≠ lk y.id := by have := HNB.out; omega
 have hyx : w.heap.size ≠ lk y.id := by omega
 have HHQ4 := Lib.hid (show w4.heap[q]? = some (.cells #[lkP lk l.head?, .pointer (some ⟨lk y.id, 0, none⟩), .map (some m), .int .i64 sm] 200 (0, 0)) by rw [hw4, Zh hqy]; exact HHQ3.out)
 have HLY4 := Lib.hid (show w4.heap[lk y.id]? = some (.cells #[.int .i64 y.id, .int .i64 y.cost, lkP lk (prevI l i), .pointer (some ⟨nb, 0, none⟩)] 203 (0, 0)) by rw [hw4]; exact Ze HLY3.out)
 have HN4 := Lib.hid ((show w4.heap[nb]? = w3.heap[nb]? by rw [hw4, Zh hyn]).trans HN3.out)
 have HX4 := Lib.hid ((show w4.heap[w.heap.size]? = w3.heap[w.heap.size]? by rw [hw4, Zh hyx]).trans HX3.out)
 have HM4 := Lib.hid (show w4.ownsMap Tryz.prog 3 lkR m l.length D by rw [hw4]; exact HM3.out.setCell (Ne.symm hym) _)
 have HF4 := Lib.hid (show Fp (fun k => k = q ∨ k = lk y.id) w w4 by rw [hw4]; exact (Fp.of_below (S := fun k => k = q ∨ k = lk y.id) HB3.out).setCell (p := ⟨lk y.id, 3, none⟩) (fun _ => .inr rfl) _)
 clear hw4 d3 g3 c1 hyn hyx
 have c1 : w4.cell? ⟨q, 1, none⟩ = some (.pointer (some ⟨lk y.id, 0, none⟩)) := Za HHQ4.out rfl
 have f1 := Zd (i := 1) HHQ4.out
 go_upto_region 12 with fail
 obtain ⟨w5, hw5⟩ : ∃ w5 : World, w5 = w4.setCell ⟨q, 1, none⟩ (.pointer (some ⟨nb, 0, none⟩)) := ⟨_, rfl⟩
 rw [← hw5]
 have hqn : nb ≠ q := by have := HNB.out; omega
 have hqx : w.heap.size ≠ q := by omega
 have HHQ5 := Lib.hid (show w5.heap[q]? = some (.cells #[lkP lk l.head?, .pointer (some ⟨nb, 0, none⟩), .map (some m), .int .i64 sm] 200 (0, 0)) by rw [hw5]; exact Ze HHQ4.out)
 have HN5 := Lib.hid ((show w5.heap[nb]? = w4.heap[nb]? by rw [hw5, Zh hqn]).trans HN4.out)
 have HX5 := Lib.hid ((show w5.heap[w.heap.size]? = w4.heap[w.heap.size]? by rw [hw5, Zh hqx]).trans HX4.out)
 have HM5 := Lib.hid (show w5.ownsMap Tryz.prog 3 lkR m (l : List It).length D by rw [hw5]; exact HM4.out.setCell (Ne.symm hqm) _)
 have HF5 := Lib.hid (show Fp (fun k => k = q ∨ k = lk y.id) w w5 by rw [hw5]; exact HF4.out.setCell (p := ⟨q, 1, none⟩) (fun _ => .inl rfl) _)
 have HLY5 := Lib.hid ((show w5.heap[lk y.id]? = w4.heap[lk y.id]? by rw [hw5, Zh (Ne.symm hqy)]).trans HLY4.out)
 clear hw5 c1 f1 hqn hqx
 obtain ⟨w6, hrun, hown6, hturn⟩ := (HM5.out.drew).store keyT Tryz.underlying197 (by have := HF.out; unfold maxLen; omega) (Zbt HI.out) (ZhK nb)
 have c2 : w5.cell? ⟨q, 2, none⟩ = some (.map (some m)) := Za HHQ5.out rfl
 have b0 : w5.cell? ⟨w.heap.size, 0, none⟩ = some (.int .i64 x.id) := Za HX5.out rfl
 have hg6 := hturn.grown
 have HM6 := Lib.hid hown6
 have HHQ6 := Lib.hid ((hg6.block q (Zb (w := w5) HHQ5.out) (by simp; exact hqm)).trans HHQ5.out)
 have HN6 := Lib.hid ((hg6.block nb (Zb (w := w5) HN5.out) (by simp; have := HNB.out; omega)).trans HN5.out)
 have HX6 := Lib.hid ((hg6.block w.heap.size (Zb (w := w5) HX5.out) (by simp; omega)).trans HX5.out)
 have HF6 := Lib.hid (show Fp (fun k => k = q ∨ k = lk y.id ∨ k = m) w w6 from (HF5.out.drew.mono (S' := (fun k => k = q ∨ k = lk y.id ∨ k = m)) (fun k hk => hk.imp id .inl)).grown hg6 (fun k _ hk => by simp at hk; simp [hk]))
 have HLY6 := Lib.hid ((hg6.block _ (Zb (w := w5) HLY5.out) (by simp; exact hym)).trans HLY5.out)
 clear hown6 hturn hg6
 go_region
 clear hrun c2 b0
 go_upto_region 13 with fail
 have c3 : w6.cell? ⟨q, 3, none⟩ = some (.int .i64 sm) := Za HHQ6.out rfl
 have f3 := Zd (i := 3) HHQ6.out
 have b1 : w6.cell? ⟨w.heap.size, 1, none⟩ = some (.int .i64 x.cost) := Za HX6.out rfl
 go_region
 go_wp2_with fail
 go_ret
 have hz6 : w.heap.size ≤ w6.heap.size := HF6.out.size
 have hqn : nb ≠ q := by have := HNB.out; omega
 refine ⟨rfl, nb, by have := HNB.out; omega, ?_, ?_, fun ρ' hl hr => ⟨m, (fun id => if id = x.id then nb else lk id), D.put (keyI x.id) (.lit (.int .i64 nb)), ZfQ HQ.out H0.out HI.out HF.out ?_ ?_ ?_ ?_ ?_ hl hr⟩⟩
 ·have := Zb HN6.out
  simpa [World.setCell] using this
 ·refine (HF6.out.drew.setCell (p := ⟨q, 3, none⟩) (fun _ => .inl rfl) _).mono (fun k hk => ?_)
  rcases hk with rfl | rfl | rfl
  ·exact ⟨_, HQ.out.rq⟩
  ·exact ⟨_, HLY.out.1⟩
  ·exact ⟨_, HQ.out.rm⟩
 ·rw [← HSM.out]
  have e : hdP lk nb l = lkP lk l.head? := by
   have h := HY.out
   cases l with
   | nil => simp at h
   | cons z r => rfl
  rw [e]
  exact Ze (w := w6.drew) HHQ6.out
 ·exact (World.ownsMap.drew HM6.out).setCell (Ne.symm hqm) _
 ·refine (Zh (w := w6) hqn).trans ?_
  have e : l.getLast? = some y := by rw [List.getLast?_eq_getElem?, show l.length - 1 = i by have := HI1.out; omega]; exact HY.out
  rw [e]
  exact HN6.out
 ·intro j z hz hj
  obtain rfl : j = i := by have := HI1.out; omega
  obtain rfl : y = z := Option.some.inj (HY.out.symm.trans hz)
  refine (Zh (w := w6) (Ne.symm hqy)).trans ?_
  exact HLY6.out
 ·intro j z hz hj
  have hlz := HQ.out.link j z hz
  have h1 : lk z.id ≠ q := fun e => by have h1 := hlz.1; rw [e, HQ.out.rq] at h1; simp at h1
  have h2 : lk z.id ≠ m := fun e => by have h1 := hlz.1; rw [e, HQ.out.rm] at h1; simp at h1
  have h3 : lk z.id ≠ lk y.id := fun e => by
   have h1 := hlz.1
   rw [e, HLY.out.1] at h1
   simp at h1
   have := ZaM HQ.out.good.once HY.out hz h1
   have := HI1.out
   omega
  refine (Zh (w := w6) h1).trans ?_
  exact HF6.out.block _ (Zb hlz.2) (by simp [h1, h2, h3])
theorem Zfa (x : It) (w : World) (hQ : QueAt pre ρ w q l) (hid : I64 x.id) (h0 : itE l x = 0) (hf : l.length < 1000000) : Calls Tryz.prog 86 #[.pointer (some ⟨q, 0, none⟩), .agg #[.int .i64 x.id, .int .i64 x.cost]] w (ZfC pre ρ w q l x) := by
 rcases Nat.eq_zero_or_pos l.length with h | h
 ·obtain rfl := List.length_eq_zero_iff.1 h
  exact ZhN x w hQ hid h0 hf
 ·exact Zhn x w hQ hid h0 hf (i := l.length - 1) (List.getElem?_eq_getElem (by omega)) (by omega)
theorem Zee (x : It) (w : World) (hQ : QueAt pre ρ w q l) (hid : I64 x.id) (h0 : itE l x ≠ 0) : Calls Tryz.prog 86 #[.pointer (some ⟨q, 0, none⟩), .agg #[.int .i64 x.id, .int .i64 x.cost]] w fun e w' => e = .returned (.int .i64 (itE l x)) ∧ Below w.heap.size w w' := by
 by_cases h : x.id < 1 ∨ x.cost < 1 ∨ 64 < x.cost
 ·rw [show itE l x = 1 by unfold itE; rw [if_pos h]]
  exact ZhM x w h
 ·have h2 : hasIt x.id l = true := by
   unfold itE at h0
   rw [if_neg h] at h0
   rcases hh : hasIt x.id l with _ | _
   ·rw [hh] at h0; exact absurd rfl h0
   ·rfl
  rw [show itE l x = 8 by unfold itE; rw [if_neg h, if_pos h2]]
  exact Zgv x w hQ hid (by omega) (by omega) (by omega) h2
end
end Go.Proofs.YtdbjihkgafhakaaGreatDoor
/-
 A queue behind a Drop: how it lies then.
-/
namespace Go.Proofs.YtdbjihkgafhakaaGreatDoor
open Go.RowKit
theorem Zbm {l : List It} {i j : Nat} : (l.eraseIdx i)[j]? = if j < i then l[j]? else l[j + 1]? := by
 rw [List.getElem?_eraseIdx]
theorem Zkg {l : List It} {i : Nat} : (l.eraseIdx i).head? = if i = 0 then l[1]? else l.head? := by
 rw [List.head?_eq_getElem?, Zbm, List.head?_eq_getElem?]
 by_cases h : i = 0
 ·subst h; simp
 ·rw [if_pos (by omega), if_neg h]
theorem Zkh {l : List It} {i : Nat} (hi : i < l.length) : (l.eraseIdx i).getLast? = if i + 1 = l.length then prevI l i else l.getLast? := by
 rw [List.getLast?_eq_getElem?, Zbm, List.length_eraseIdx_of_lt hi, List.getLast?_eq_getElem?]
 unfold prevI
 by_cases h : i + 1 = l.length
 ·rw [if_pos h]
  by_cases h0 : i = 0
  ·rw [if_pos h0, if_neg (by omega), List.getElem?_eq_none (by omega)]
  ·rw [if_neg h0, if_pos (by omega)]
   congr 1
   omega
 ·rw [if_neg h, if_neg (by omega)]
  congr 1
  omega
theorem ZfR : ∀ {l : List It} {i : Nat} {x : It}, l[i]? = some x → Zar (l.eraseIdx i) = Zar l - x.cost
 | [], _, _, h => by simp at h
 | y :: r, 0, x, h => by
   simp at h
   subst h
   simp [Zar]
   omega
 | y :: r, i + 1, x, h => by
   have ih := ZfR (l := r) (i := i) (x := x) (by simpa using h)
   rw [List.eraseIdx_cons_succ]
   simp only [Zar, List.map_cons, List.sum_cons] at ih ⊢
   omega
def linkD (lk : Int → Nat) (l : List It) (i j : Nat) (z : It) : Array Value :=
 #[.int .i64 z.id, .int .i64 z.cost, lkP lk (if j = i + 1 then prevI l i else prevI l j), lkP lk (if j + 1 = i then l[i + 1]? else l[j + 1]?)]
theorem ZcD {pre : List Int} {ρ : Roles} {w w' : World} {q m : Nat} {lk : Int → Nat} {D : DataW Unit} {l : List It} {x : It} {i : Nat} (h : QAt pre ρ w q m lk D l) (hx : l[i]? = some x)
 (hq : w'.heap[q]? = some (.cells #[lkP lk (if i = 0 then l[1]? else l.head?), lkP lk (if i + 1 = l.length then prevI l i else l.getLast?), .map (some m), .int .i64 (Zar l - x.cost)] 200 (0, 0)))
 (hm : w'.ownsMap Tryz.prog 3 lkR m l.length (D.del (keyI x.id)))
 (hl : ∀ (j : Nat) z, l[j]? = some z → j ≠ i → w'.heap[lk z.id]? = some (.cells (linkD lk l i j z) 203 (0, 0))) : QAt pre ρ w' q m lk (D.del (keyI x.id)) (l.eraseIdx i) := by
 have hi : i < l.length := (List.getElem?_eq_some_iff.1 hx).1
 have hhx : hasIt x.id l = true := ZbJ.2 ⟨i, x, hx, rfl⟩
 have hxi : I64 x.id := (h.good.ok x (List.mem_of_getElem? hx)).2.1
 have hlen : (l.eraseIdx i).length = l.length - 1 := List.length_eraseIdx_of_lt hi
 have hsz : Maps.size (D.del (keyI x.id)) = (l.eraseIdx i).length := by
  have h1 := Maps.size_del (k := keyI x.id) (h.map.tidy keyT)
  rw [h.has x.id hxi, hhx, h.size] at h1
  simp at h1
  omega
 have hne : ∀ (j : Nat) (z : It), (l.eraseIdx i)[j]? = some z → z.id ≠ x.id := fun j z hz e => by
  rw [Zbm] at hz
  split at hz
  ·have := ZaM h.good.once hz hx e; omega
  ·have := ZaM h.good.once hz hx e; omega
 refine ⟨?_, h.rq, h.rm, ?_, hsz, fun id hid => ?_, fun z hz y => ?_, fun j z hz => ?_, Zkf h.good i⟩
 ·rw [hq, Zkg, Zkh hi, ZfR hx]
 ·rw [← hsz]
  exact ZhJ hm
 ·by_cases he : id = x.id
  ·subst he
   rw [Maps.has_del_same]
   symm
   rw [Bool.eq_false_iff]
   intro h1
   obtain ⟨j, z, hz, he⟩ := ZbJ.1 h1
   exact hne j z hz he
  ·rw [Maps.has_del_other (Zdm he), h.has id hid, ← Zbo h.good.once hx]
   unfold hasIt Zam
   rw [List.any_filter]
   congr 1
   funext y
   by_cases hy : y.id = id
   ·subst hy; simp [he]
   ·simp [hy]
 ·obtain ⟨j, hj, rfl⟩ := List.getElem_of_mem hz
  have e := hne j _ (List.getElem?_eq_getElem hj)
  rw [Maps.atKey_del_other (Zdm e)]
  exact h.at_ _ (List.mem_of_mem_eraseIdx hz) y
 ·have key : ∀ k : Nat, l[k]? = some z → k ≠ i → (k = if j < i then j else j + 1) → ρ (lk z.id) = pre ++ [3, z.id] ∧ w'.heap[lk z.id]? = some (.cells (linkC lk (l.eraseIdx i) j z) 203 (0, 0)) := by
   intro k hk hki he
   refine ⟨(h.link k z hk).1, ?_⟩
   rw [hl k z hk hki]
   unfold linkD linkC
   have e1 : (if k = i + 1 then prevI l i else prevI l k) = prevI (l.eraseIdx i) j := by
    by_cases h1 : j < i
    ·rw [if_pos h1] at he
     subst he
     rw [if_neg (by omega)]
     unfold prevI
     split
     ·rfl
     ·rw [Zbm, if_pos (by omega)]
    ·rw [if_neg h1] at he
     subst he
     by_cases h2 : j = i
     ·subst h2
      rw [if_pos rfl]
      unfold prevI
      split
      ·rfl
      ·rw [Zbm, if_pos (by omega)]
     ·rw [if_neg (by omega)]
      unfold prevI
      rw [if_neg (by omega), if_neg (by omega), Zbm, if_neg (by omega)]
      congr 1
      omega
   have e2 : (if k + 1 = i then l[i + 1]? else l[k + 1]?) = (l.eraseIdx i)[j + 1]? := by
    rw [Zbm]
    by_cases h1 : j < i
    ·rw [if_pos h1] at he
     subst he
     by_cases h2 : k + 1 = i
     ·rw [if_pos h2, if_neg (by omega), h2]
     ·rw [if_neg h2, if_pos (by omega)]
    ·rw [if_neg h1] at he
     subst he
     rw [if_neg (by omega), if_neg (by omega)]
   rw [e1, e2]
  rw [Zbm] at hz
  split at hz
  ·rename_i h1
   exact key j hz (by omega) (by rw [if_pos h1])
  ·rename_i h1
   exact key (j + 1) hz (by omega) (by rw [if_neg h1])
end Go.Proofs.YtdbjihkgafhakaaGreatDoor
/-
 fifo.Queue: Drop, Pop: the walks.
-/
namespace Go.Proofs.YtdbjihkgafhakaaGreatDoor
open Go.RowKit
theorem Zaw (x : It) : (Tryz.prog.info? 132).map (·.size) = some (#[.int .i64 x.id, .int .i64 x.cost] : Array Value).size := by
 obtain ⟨i0, hi, _, h1, _⟩ := info_parts Zcq
 rw [hi]
 simp [h1]
theorem Zce (x : It) : (#[.int .i64 x.id, .int .i64 x.cost] : Array Value).all (·.oneCell') = true := by simp [Value.oneCell']
def Zcf (pre : List Int) (ρ : Roles) (w : World) (q : Nat) (l : List It) (x : It) (e : Ending) (w' : World) : Prop :=
 e = .returned (.tuple #[.agg #[.int .i64 x.id, .int .i64 x.cost], .bool true]) ∧ Fp (Part ρ pre) w w' ∧ QueAt pre ρ w' q (Zam l x.id)
section
variable {pre : List Int} {ρ : Roles} {q : Nat} {l : List It}
set_option maxRecDepth 100000 in
set_option maxHeartbeats 2000000 in
theorem ZiX (x : It) (i : Nat) (w : World) (hQ : QueAt pre ρ w q l) (hx : l[i]? = some x) (h0 : i = 0) (hn : i + 1 = l.length) : Calls Tryz.prog 87 #[.pointer (some ⟨q, 0, none⟩), .int .i64 x.id] w (Zcf pre ρ w q l x) := by
 obtain ⟨m, lk, D, hq⟩ := hQ
 have HQ := Lib.hid hq
 have HX := Lib.hid hx
 have HHX := Lib.hid (show hasIt x.id l = true from ZbJ.2 ⟨i, x, hx, rfl⟩)
 have HI := Lib.hid (hq.good.ok x (List.mem_of_getElem? hx)).2.1
 obtain ⟨s0, s1⟩ := Zbd hq.good.ok
 have s5 := (hq.good.ok x (List.mem_of_getElem? hx)).2.2
 have s6 := hq.good.few
 obtain ⟨sm, hsm⟩ : ∃ sm, sm = Zar l := ⟨_, rfl⟩
 have HSM := Lib.hid hsm
 have s3 : 0 ≤ sm := by omega
 have s4 : sm ≤ 64000000 := by omega
 obtain ⟨s7, s8⟩ := s5
 have HWR := Lib.hid (show IntKind.i64.wrap (sm - x.cost) = sm - x.cost from IntWalk.i64_in _ (by omega))
 have hqw : q < w.heap.size := Zb hq.head
 have hqm : q ≠ m := fun e => by have h1 := hq.rq; rw [e, hq.rm] at h1; simp at h1
 have hlx := hq.link i x hx
 have hlxw := Zb hlx.2
 have hqx : q ≠ lk x.id := fun e => by have h1 := hq.rq; rw [e, hlx.1] at h1; simp at h1
 have hxm : lk x.id ≠ m := fun e => by have h1 := hq.rm; rw [← e, hlx.1] at h1; simp at h1
 have hh0 : w.heap[q]? = some (.cells #[lkP lk l.head?, lkP lk l.getLast?, .map (some m), .int .i64 sm] 200 (0, 0)) := by rw [hsm]; exact hq.head
 have HH0 := Lib.hid hh0
 have hx0 : w.heap[lk x.id]? = some (.cells #[.int .i64 x.id, .int .i64 x.cost, .pointer none, .pointer none] 203 (0, 0)) := by
  have h := hlx.2
  unfold linkC at h
  rw [show prevI l i = none by unfold prevI; rw [if_pos h0]] at h
  rw [List.getElem?_eq_none (show l.length ≤ i + 1 by omega)] at h
  exact h
 have HX0 := Lib.hid hx0
 have HN0 := Lib.hid h0
 have HN1 := Lib.hid hn
 have hmw := hq.map.lt
 have hne_x : w.heap.size ≠ lk x.id := by omega
 have hne_q : w.heap.size ≠ q := by omega
 clear s0 s1 s6 hq hx hlx hsm hh0 hx0 h0 hn
 go_enter Tryz.func87, Tryz.ntmps87
 go_wp2_with fail
 refine (Zbe (pre := pre) (ρ := ρ) x.id _ (QueAt.below ⟨m, lk, D, HQ.out⟩ box_below) HI.out).mono ?_
 rintro e w1 ⟨rfl, rfl⟩
 rw [HHX.out]
 go_upto_region 3 with fail
 obtain ⟨w2, hw2⟩ : ∃ w2 : World, w2 = w.alloc (.cells #[.int .i64 0, .int .i64 0] 132) := ⟨_, rfl⟩
 rw [← hw2]
 have HB2 := Lib.hid (show Below w.heap.size w w2 by rw [hw2]; exact box_below)
 have HR2 := Lib.hid (show w2.heap[w.heap.size]? = some (.cells #[.int .i64 0, .int .i64 0] 132 (0, 0)) by rw [hw2]; exact Zf)
 have HHQ2 := Lib.hid ((HB2.out.block q hqw).trans HH0.out)
 have HHX2 := Lib.hid ((HB2.out.block _ hlxw).trans HX0.out)
 have HQ2 := Lib.hid (HQ.out.below HB2.out)
 have HF2 := Lib.hid (Fp.of_below (S := (fun k => k = q)) HB2.out)
 clear hw2
 have c2 := HQ2.out.c2
 have x2 : w2.cell? ⟨lk x.id, 2, none⟩ = some (.pointer none) := Za HHX2.out rfl
 have x3 : w2.cell? ⟨lk x.id, 3, none⟩ = some (.pointer none) := Za HHX2.out rfl
 have c0 := HQ2.out.c0
 have g0 := Zd (i := 0) HHQ2.out
 go_upto_region 7 with (at_lookup; refine Zaz (by rfl) _ _ rfl HQ2.out rfl x.id rfl HI.out (.pointer (some ⟨lk x.id, 0, none⟩)) (.inl ⟨HHX.out, rfl⟩) ?_)
 obtain ⟨w3, hw3⟩ : ∃ w3 : World, w3 = (w2.setCell ⟨q, 0, none⟩ (.pointer none)) := ⟨_, rfl⟩
 rw [← hw3]
 have HHQ3 := Lib.hid (show w3.heap[q]? = some (.cells #[.pointer none, lkP lk l.getLast?, .map (some m), .int .i64 sm] 200 (0, 0)) by rw [hw3]; exact Ze HHQ2.out)
 have HHX3 := Lib.hid ((show w3.heap[lk x.id]? = w2.heap[lk x.id]? by rw [hw3]; exact Zh (w := w2) (Ne.symm hqx)).trans HHX2.out)
 have HR3 := Lib.hid ((show w3.heap[w.heap.size]? = w2.heap[w.heap.size]? by rw [hw3]; exact Zh (w := w2) hne_q).trans HR2.out)
 have HM3 := Lib.hid (show w3.ownsMap Tryz.prog 3 lkR m l.length D by rw [hw3]; exact HQ2.out.map.setCell (Ne.symm hqm) _)
 have HF3 := Lib.hid (show Fp (fun k => k = q) w w3 by rw [hw3]; exact HF2.out.setCell (p := ⟨q, 0, none⟩) (fun _ => rfl) _)
 clear hw3 c2 x2 x3 c0 g0
 have x2 : w3.cell? ⟨lk x.id, 2, none⟩ = some (.pointer none) := Za HHX3.out rfl
 have x3 : w3.cell? ⟨lk x.id, 3, none⟩ = some (.pointer none) := Za HHX3.out rfl
 have c1 := Za HHQ3.out (i := 1) rfl
 have g1 := Zd (i := 1) HHQ3.out
 go_upto_region 10 with fail
 obtain ⟨w4, hw4⟩ : ∃ w4 : World, w4 = w3.setCell ⟨q, 1, none⟩ (.pointer none) := ⟨_, rfl⟩
 rw [← hw4]
 have HHQ4 := Lib.hid (show w4.heap[q]? = some (.cells #[.pointer none, .pointer none, .map (some m), .int .i64 sm] 200 (0, 0)) by rw [hw4]; exact Ze HHQ3.out)
 have HHX4 := Lib.hid ((show w4.heap[lk x.id]? = w3.heap[lk x.id]? by rw [hw4]; exact Zh (w := w3) (Ne.symm hqx)).trans HHX3.out)
 have HR4 := Lib.hid ((show w4.heap[w.heap.size]? = w3.heap[w.heap.size]? by rw [hw4]; exact Zh (w := w3) hne_q).trans HR3.out)
 have HM4 := Lib.hid (show w4.ownsMap Tryz.prog 3 lkR m l.length D by rw [hw4]; exact HM3.out.setCell (Ne.symm hqm) _)
 have HF4 := Lib.hid (show Fp (fun k => k = q) w w4 by rw [hw4]; exact HF3.out.setCell (p := ⟨q, 1, none⟩) (fun _ => rfl) _)
 clear hw4 x2 x3 c1 g1
 have c2 : w4.cell? ⟨q, 2, none⟩ = some (.map (some m)) := Za HHQ4.out rfl
 go_upto_region 11 with (at_delete; refine wpList_delete_own _ rfl _ _ 197 3 rfl 198 keyT Tryz.underlying197 lkR m l.length D rfl HM4.out _ (keyI x.id) rfl (Zbt HI.out) ?_; intro w5 hown5 hturn5)
 have hg5 := hturn5.grown
 have HM5 := Lib.hid hown5
 have HHQ5 := Lib.hid ((hg5.block q (Zb HHQ4.out) (by simp; exact hqm)).trans HHQ4.out)
 have HHX5 := Lib.hid ((hg5.block _ (Zb HHX4.out) (by simp; exact hxm)).trans HHX4.out)
 have HR5 := Lib.hid ((hg5.block w.heap.size (Zb HR4.out) (by simp; omega)).trans HR4.out)
 have HF5 := Lib.hid (show Fp (fun k => k = q ∨ k = m) w w5 from (HF4.out.mono (S' := (fun k => k = q ∨ k = m)) (fun k hk => by first | exact .inl hk | (rcases hk with hk | hk | hk <;> simp [hk]) | (rcases hk with hk | hk <;> simp [hk]))).grown hg5 (fun k _ hk => by simp at hk; simp [hk]))
 clear hown5 hturn5 hg5 c2
 have c3 : w5.cell? ⟨q, 3, none⟩ = some (.int .i64 sm) := Za HHQ5.out rfl
 have f3 := Zd (i := 3) HHQ5.out
 have x0 : w5.cell? ⟨lk x.id, 0, none⟩ = some (.int .i64 x.id) := Za HHX5.out rfl
 have x1 : w5.cell? ⟨lk x.id, 1, none⟩ = some (.int .i64 x.cost) := Za HHX5.out rfl
 go_region
 all_goals
  go_upto_region 12 with fail
  rw [HWR.out]
  obtain ⟨w6, hw6⟩ : ∃ w6 : World, w6 = (w5.setCell ⟨q, 3, none⟩ (.int .i64 (sm - x.cost))).drew := ⟨_, rfl⟩
  rw [← hw6]
  have HHQ6 := Lib.hid (show w6.heap[q]? = some (.cells #[.pointer none, .pointer none, .map (some m), .int .i64 (sm - x.cost)] 200 (0, 0)) by rw [hw6]; exact Ze HHQ5.out)
  have HHX6 := Lib.hid ((show w6.heap[lk x.id]? = w5.heap[lk x.id]? by rw [hw6]; exact Zh (w := w5) (Ne.symm hqx)).trans HHX5.out)
  have HR6 := Lib.hid ((show w6.heap[w.heap.size]? = w5.heap[w.heap.size]? by rw [hw6]; exact Zh (w := w5) hne_q).trans HR5.out)
  have HM6 := Lib.hid (show w6.ownsMap Tryz.prog 3 lkR m l.length (D.del (keyI x.id)) by rw [hw6]; exact (HM5.out.setCell (Ne.symm hqm) _))
  have HF6 := Lib.hid (show Fp (fun k => k = q ∨ k = m) w w6 by rw [hw6]; exact (HF5.out.setCell (p := ⟨q, 3, none⟩) (fun _ => .inl rfl) _).drew)
  clear hw6 c3 f3 x0 x1
  have x0 : w6.cell? ⟨lk x.id, 0, none⟩ = some (.int .i64 x.id) := Za HHX6.out rfl
  have x1 : w6.cell? ⟨lk x.id, 1, none⟩ = some (.int .i64 x.cost) := Za HHX6.out rfl
  go_wp2_with (refine wpList_store_row rfl 132 _ _ rfl w.heap.size #[.int .i64 x.id, .int .i64 x.cost] rfl rfl 132 _ HR6.out (Zaw x) rfl (Zce x) ?_)
  refine bodyPost_ret (v := .tuple #[.agg #[.int .i64 x.id, .int .i64 x.cost], .bool true]) (ZL Tryz.results87 rfl rfl (setRow_heap w6 w.heap.size _ _ _ _ HR6.out) Tryz.underlying132 rfl (Zaw x)) rfl ⟨rfl, ?_, m, lk, D.del (keyI x.id), ?_⟩
  ·refine (HF6.out.setRow (g := w.heap.size) (fun h => absurd h (by simp))).mono (fun k hk => ?_)
   rcases hk with rfl | rfl
   ·exact ⟨_, HQ.out.rq⟩
   ·exact ⟨_, HQ.out.rm⟩
  ·rw [Zbo HQ.out.good.once HX.out]
   have far : ∀ k, k ≠ w.heap.size → ∀ cs, (w6.setRow w.heap.size cs).heap[k]? = w6.heap[k]? := fun k hk cs => setRow_other w6 w.heap.size k cs hk
   have hn0 := HN0.out
   have hn1 := HN1.out
   refine ZcD HQ.out HX.out ?_ (Fp.row.ownMap HM6.out (by omega)) (fun j z hz hj => ?_)
   ·rw [far q (Ne.symm hne_q), HHQ6.out, HSM.out]
    rw [if_pos hn0, show l[1]? = none by rw [List.getElem?_eq_none (by omega)]]
    rw [if_pos hn1, show prevI l i = none by unfold prevI; rw [if_pos hn0]]
    rfl
   ·have hlz := HQ.out.link j z hz
    have hzw := Zb hlz.2
    rw [far _ (by omega)]
    have h1 : lk z.id ≠ q := fun e => by have h1 := hlz.1; rw [e, HQ.out.rq] at h1; simp at h1
    have h2 : lk z.id ≠ m := fun e => by have h1 := hlz.1; rw [e, HQ.out.rm] at h1; simp at h1
    rw [HF6.out.block _ hzw (by simp [h1, h2]), hlz.2]
    unfold linkC linkD
    rw [if_neg (show ¬ j = i + 1 from fun e => by have := (List.getElem?_eq_some_iff.1 hz).1; omega)]
    rw [if_neg (show ¬ j + 1 = i by omega)]
set_option maxRecDepth 100000 in
set_option maxHeartbeats 2000000 in
theorem ZiY (x : It) (i : Nat) (w : World) (hQ : QueAt pre ρ w q l) (hx : l[i]? = some x) (h0 : i = 0) {n : It} (hn : l[i + 1]? = some n) : Calls Tryz.prog 87 #[.pointer (some ⟨q, 0, none⟩), .int .i64 x.id] w (Zcf pre ρ w q l x) := by
 obtain ⟨m, lk, D, hq⟩ := hQ
 have HQ := Lib.hid hq
 have HX := Lib.hid hx
 have HHX := Lib.hid (show hasIt x.id l = true from ZbJ.2 ⟨i, x, hx, rfl⟩)
 have HI := Lib.hid (hq.good.ok x (List.mem_of_getElem? hx)).2.1
 obtain ⟨s0, s1⟩ := Zbd hq.good.ok
 have s5 := (hq.good.ok x (List.mem_of_getElem? hx)).2.2
 have s6 := hq.good.few
 obtain ⟨sm, hsm⟩ : ∃ sm, sm = Zar l := ⟨_, rfl⟩
 have HSM := Lib.hid hsm
 have s3 : 0 ≤ sm := by omega
 have s4 : sm ≤ 64000000 := by omega
 obtain ⟨s7, s8⟩ := s5
 have HWR := Lib.hid (show IntKind.i64.wrap (sm - x.cost) = sm - x.cost from IntWalk.i64_in _ (by omega))
 have hqw : q < w.heap.size := Zb hq.head
 have hqm : q ≠ m := fun e => by have h1 := hq.rq; rw [e, hq.rm] at h1; simp at h1
 have hlx := hq.link i x hx
 have hlxw := Zb hlx.2
 have hqx : q ≠ lk x.id := fun e => by have h1 := hq.rq; rw [e, hlx.1] at h1; simp at h1
 have hxm : lk x.id ≠ m := fun e => by have h1 := hq.rm; rw [← e, hlx.1] at h1; simp at h1
 have hh0 : w.heap[q]? = some (.cells #[lkP lk l.head?, lkP lk l.getLast?, .map (some m), .int .i64 sm] 200 (0, 0)) := by rw [hsm]; exact hq.head
 have HH0 := Lib.hid hh0
 have hx0 : w.heap[lk x.id]? = some (.cells #[.int .i64 x.id, .int .i64 x.cost, .pointer none, .pointer (some ⟨lk n.id, 0, none⟩)] 203 (0, 0)) := by
  have h := hlx.2
  unfold linkC at h
  rw [show prevI l i = none by unfold prevI; rw [if_pos h0]] at h
  rw [hn] at h
  exact h
 have HX0 := Lib.hid hx0
 have hln := hq.link (i + 1) n hn
 have hlnw := Zb hln.2
 have hqn : q ≠ lk n.id := fun e => by have h1 := hq.rq; rw [e, hln.1] at h1; simp at h1
 have hnm : lk n.id ≠ m := fun e => by have h1 := hq.rm; rw [← e, hln.1] at h1; simp at h1
 have hxn : lk x.id ≠ lk n.id := fun e => by
  have h1 := hlx.1
  rw [e, hln.1] at h1
  simp at h1
  have := ZaM hq.good.once hn hx h1
  omega
 have HLN := Lib.hid hln
 have HNG := Lib.hid hn
 have HN0 := Lib.hid h0
 have HN1 := Lib.hid hn
 have hmw := hq.map.lt
 have hne_x : w.heap.size ≠ lk x.id := by omega
 have hne_q : w.heap.size ≠ q := by omega
 clear s0 s1 s6 hq hx hlx hsm hh0 hx0 h0 hln hn
 go_enter Tryz.func87, Tryz.ntmps87
 go_wp2_with fail
 refine (Zbe (pre := pre) (ρ := ρ) x.id _ (QueAt.below ⟨m, lk, D, HQ.out⟩ box_below) HI.out).mono ?_
 rintro e w1 ⟨rfl, rfl⟩
 rw [HHX.out]
 go_upto_region 3 with fail
 obtain ⟨w2, hw2⟩ : ∃ w2 : World, w2 = w.alloc (.cells #[.int .i64 0, .int .i64 0] 132) := ⟨_, rfl⟩
 rw [← hw2]
 have HB2 := Lib.hid (show Below w.heap.size w w2 by rw [hw2]; exact box_below)
 have HR2 := Lib.hid (show w2.heap[w.heap.size]? = some (.cells #[.int .i64 0, .int .i64 0] 132 (0, 0)) by rw [hw2]; exact Zf)
 have HHQ2 := Lib.hid ((HB2.out.block q hqw).trans HH0.out)
 have HHX2 := Lib.hid ((HB2.out.block _ hlxw).trans HX0.out)
 have HQ2 := Lib.hid (HQ.out.below HB2.out)
 have HF2 := Lib.hid (Fp.of_below (S := (fun k => k = q ∨ k = lk n.id)) HB2.out)
 clear hw2
 have c2 := HQ2.out.c2
 have x2 : w2.cell? ⟨lk x.id, 2, none⟩ = some (.pointer none) := Za HHX2.out rfl
 have x3 : w2.cell? ⟨lk x.id, 3, none⟩ = some (.pointer (some ⟨lk n.id, 0, none⟩)) := Za HHX2.out rfl
 have c0 := HQ2.out.c0
 have g0 := Zd (i := 0) HHQ2.out
 go_upto_region 7 with (at_lookup; refine Zaz (by rfl) _ _ rfl HQ2.out rfl x.id rfl HI.out (.pointer (some ⟨lk x.id, 0, none⟩)) (.inl ⟨HHX.out, rfl⟩) ?_)
 obtain ⟨w3, hw3⟩ : ∃ w3 : World, w3 = (w2.setCell ⟨q, 0, none⟩ (.pointer (some ⟨lk n.id, 0, none⟩))) := ⟨_, rfl⟩
 rw [← hw3]
 have HHQ3 := Lib.hid (show w3.heap[q]? = some (.cells #[.pointer (some ⟨lk n.id, 0, none⟩), lkP lk l.getLast?, .map (some m), .int .i64 sm] 200 (0, 0)) by rw [hw3]; exact Ze HHQ2.out)
 have HHX3 := Lib.hid ((show w3.heap[lk x.id]? = w2.heap[lk x.id]? by rw [hw3]; exact Zh (w := w2) (Ne.symm hqx)).trans HHX2.out)
 have HR3 := Lib.hid ((show w3.heap[w.heap.size]? = w2.heap[w.heap.size]? by rw [hw3]; exact Zh (w := w2) hne_q).trans HR2.out)
 have HM3 := Lib.hid (show w3.ownsMap Tryz.prog 3 lkR m l.length D by rw [hw3]; exact HQ2.out.map.setCell (Ne.symm hqm) _)
 have HF3 := Lib.hid (show Fp (fun k => k = q ∨ k = lk n.id) w w3 by rw [hw3]; exact HF2.out.setCell (p := ⟨q, 0, none⟩) (fun _ => .inl rfl) _)
 have HNN3 := Lib.hid ((show w3.heap[lk n.id]? = w2.heap[lk n.id]? by rw [hw3]; exact Zh (w := w2) (Ne.symm hqn)).trans ((HB2.out.block _ hlnw).trans HLN.out.2))
 clear hw3 c2 x2 x3 c0 g0
 have x2 : w3.cell? ⟨lk x.id, 2, none⟩ = some (.pointer none) := Za HHX3.out rfl
 have x3 : w3.cell? ⟨lk x.id, 3, none⟩ = some (.pointer (some ⟨lk n.id, 0, none⟩)) := Za HHX3.out rfl
 have y2 : w3.cell? ⟨lk n.id, 2, none⟩ = some (lkP lk (prevI l (i + 1))) := Za HNN3.out rfl
 have g2 := Zd (i := 2) HNN3.out
 go_upto_region 9 with fail
 go_region
 go_upto_region 10 with fail
 obtain ⟨w4, hw4⟩ : ∃ w4 : World, w4 = (w3.setCell ⟨lk n.id, 2, none⟩ (.pointer none)).drew := ⟨_, rfl⟩
 rw [← hw4]
 have HHQ4 := Lib.hid ((show w4.heap[q]? = w3.heap[q]? by rw [hw4]; exact Zh (w := w3) hqn).trans HHQ3.out)
 have HNN4 := Lib.hid (show w4.heap[lk n.id]? = some (.cells #[.int .i64 n.id, .int .i64 n.cost, .pointer none, lkP lk l[i + 1 + 1]?] 203 (0, 0)) by rw [hw4]; exact Ze HNN3.out)
 have HHX4 := Lib.hid ((show w4.heap[lk x.id]? = w3.heap[lk x.id]? by rw [hw4]; exact Zh (w := w3) hxn).trans HHX3.out)
 have HR4 := Lib.hid ((show w4.heap[w.heap.size]? = w3.heap[w.heap.size]? by rw [hw4]; exact Zh (w := w3) (by omega)).trans HR3.out)
 have HM4 := Lib.hid (show w4.ownsMap Tryz.prog 3 lkR m l.length D by rw [hw4]; exact (HM3.out.setCell (Ne.symm hnm) _))
 have HF4 := Lib.hid (show Fp (fun k => k = q ∨ k = lk n.id) w w4 by rw [hw4]; exact (HF3.out.setCell (p := ⟨lk n.id, 2, none⟩) (fun _ => .inr rfl) _).drew)
 clear hw4 x2 x3 y2 g2
 have c2 : w4.cell? ⟨q, 2, none⟩ = some (.map (some m)) := Za HHQ4.out rfl
 go_upto_region 11 with (at_delete; refine wpList_delete_own _ rfl _ _ 197 3 rfl 198 keyT Tryz.underlying197 lkR m l.length D rfl HM4.out _ (keyI x.id) rfl (Zbt HI.out) ?_; intro w5 hown5 hturn5)
 have hg5 := hturn5.grown
 have HM5 := Lib.hid hown5
 have HHQ5 := Lib.hid ((hg5.block q (Zb HHQ4.out) (by simp; exact hqm)).trans HHQ4.out)
 have HHX5 := Lib.hid ((hg5.block _ (Zb HHX4.out) (by simp; exact hxm)).trans HHX4.out)
 have HR5 := Lib.hid ((hg5.block w.heap.size (Zb HR4.out) (by simp; omega)).trans HR4.out)
 have HF5 := Lib.hid (show Fp (fun k => k = q ∨ k = lk n.id ∨ k = m) w w5 from (HF4.out.mono (S' := (fun k => k = q ∨ k = lk n.id ∨ k = m)) (fun k hk => by first | exact .inl hk | (rcases hk with hk | hk | hk <;> simp [hk]) | (rcases hk with hk | hk <;> simp [hk]))).grown hg5 (fun k _ hk => by simp at hk; simp [hk]))
 have HNN5 := Lib.hid ((hg5.block _ (Zb HNN4.out) (by simp; exact hnm)).trans HNN4.out)
 clear hown5 hturn5 hg5 c2
 have c3 : w5.cell? ⟨q, 3, none⟩ = some (.int .i64 sm) := Za HHQ5.out rfl
 have f3 := Zd (i := 3) HHQ5.out
 have x0 : w5.cell? ⟨lk x.id, 0, none⟩ = some (.int .i64 x.id) := Za HHX5.out rfl
 have x1 : w5.cell? ⟨lk x.id, 1, none⟩ = some (.int .i64 x.cost) := Za HHX5.out rfl
 go_region
 all_goals
  go_upto_region 12 with fail
  rw [HWR.out]
  obtain ⟨w6, hw6⟩ : ∃ w6 : World, w6 = (w5.setCell ⟨q, 3, none⟩ (.int .i64 (sm - x.cost))).drew := ⟨_, rfl⟩
  rw [← hw6]
  have HHQ6 := Lib.hid (show w6.heap[q]? = some (.cells #[.pointer (some ⟨lk n.id, 0, none⟩), lkP lk l.getLast?, .map (some m), .int .i64 (sm - x.cost)] 200 (0, 0)) by rw [hw6]; exact Ze HHQ5.out)
  have HHX6 := Lib.hid ((show w6.heap[lk x.id]? = w5.heap[lk x.id]? by rw [hw6]; exact Zh (w := w5) (Ne.symm hqx)).trans HHX5.out)
  have HR6 := Lib.hid ((show w6.heap[w.heap.size]? = w5.heap[w.heap.size]? by rw [hw6]; exact Zh (w := w5) hne_q).trans HR5.out)
  have HM6 := Lib.hid (show w6.ownsMap Tryz.prog 3 lkR m l.length (D.del (keyI x.id)) by rw [hw6]; exact (HM5.out.setCell (Ne.symm hqm) _))
  have HF6 := Lib.hid (show Fp (fun k => k = q ∨ k = lk n.id ∨ k = m) w w6 by rw [hw6]; exact (HF5.out.setCell (p := ⟨q, 3, none⟩) (fun _ => .inl rfl) _).drew)
  have HNN6 := Lib.hid ((show w6.heap[lk n.id]? = w5.heap[lk n.id]? by rw [hw6]; exact Zh (w := w5) (Ne.symm hqn)).trans HNN5.out)
  clear hw6 c3 f3 x0 x1
  have x0 : w6.cell? ⟨lk x.id, 0, none⟩ = some (.int .i64 x.id) := Za HHX6.out rfl
  have x1 : w6.cell? ⟨lk x.id, 1, none⟩ = some (.int .i64 x.cost) := Za HHX6.out rfl
  go_wp2_with (refine wpList_store_row rfl 132 _ _ rfl w.heap.size #[.int .i64 x.id, .int .i64 x.cost] rfl rfl 132 _ HR6.out (Zaw x) rfl (Zce x) ?_)
  refine bodyPost_ret (v := .tuple #[.agg #[.int .i64 x.id, .int .i64 x.cost], .bool true]) (ZL Tryz.results87 rfl rfl (setRow_heap w6 w.heap.size _ _ _ _ HR6.out) Tryz.underlying132 rfl (Zaw x)) rfl ⟨rfl, ?_, m, lk, D.del (keyI x.id), ?_⟩
  ·refine (HF6.out.setRow (g := w.heap.size) (fun h => absurd h (by simp))).mono (fun k hk => ?_)
   rcases hk with rfl | rfl | rfl
   ·exact ⟨_, HQ.out.rq⟩
   ·exact ⟨_, HLN.out.1⟩
   ·exact ⟨_, HQ.out.rm⟩
  ·rw [Zbo HQ.out.good.once HX.out]
   have far : ∀ k, k ≠ w.heap.size → ∀ cs, (w6.setRow w.heap.size cs).heap[k]? = w6.heap[k]? := fun k hk cs => setRow_other w6 w.heap.size k cs hk
   have hn0 := HN0.out
   have hn1 := HN1.out
   refine ZcD HQ.out HX.out ?_ (Fp.row.ownMap HM6.out (by omega)) (fun j z hz hj => ?_)
   ·rw [far q (Ne.symm hne_q), HHQ6.out, HSM.out]
    rw [if_pos hn0, show l[1]? = some n by rw [← hn1, hn0]]
    rw [if_neg (show ¬ i + 1 = l.length from fun e => by rw [List.getElem?_eq_none (by omega)] at hn1; cases hn1)]
    rfl
   ·have hlz := HQ.out.link j z hz
    have hzw := Zb hlz.2
    rw [far _ (by omega)]
    by_cases hjn : j = i + 1
    ·subst hjn
     obtain rfl : n = z := Option.some.inj (hn1.symm.trans hz)
     rw [HNN6.out]
     unfold linkD
     rw [if_pos rfl, if_neg (by omega), show prevI l i = none by unfold prevI; rw [if_pos hn0]]
     rfl
    have h1 : lk z.id ≠ q := fun e => by have h1 := hlz.1; rw [e, HQ.out.rq] at h1; simp at h1
    have h2 : lk z.id ≠ m := fun e => by have h1 := hlz.1; rw [e, HQ.out.rm] at h1; simp at h1
    have hnz : lk z.id ≠ lk n.id := fun e => by
     have h1 := hlz.1
     rw [e, HLN.out.1] at h1
     simp at h1
     have := ZaM HQ.out.good.once HNG.out hz h1
     omega
    rw [HF6.out.block _ hzw (by simp [h1, h2, hnz]), hlz.2]
    unfold linkC linkD
    rw [if_neg hjn]
    rw [if_neg (show ¬ j + 1 = i by omega)]
set_option maxRecDepth 100000 in
set_option maxHeartbeats 2000000 in
theorem ZiZ (x : It) (i : Nat) (w : World) (hQ : QueAt pre ρ w q l) (hx : l[i]? = some x) {p : It} (hp : l[i - 1]? = some p) (h0 : 0 < i) (hn : i + 1 = l.length) : Calls Tryz.prog 87 #[.pointer (some ⟨q, 0, none⟩), .int .i64 x.id] w (Zcf pre ρ w q l x) := by
 obtain ⟨m, lk, D, hq⟩ := hQ
 have HQ := Lib.hid hq
 have HX := Lib.hid hx
 have HHX := Lib.hid (show hasIt x.id l = true from ZbJ.2 ⟨i, x, hx, rfl⟩)
 have HI := Lib.hid (hq.good.ok x (List.mem_of_getElem? hx)).2.1
 obtain ⟨s0, s1⟩ := Zbd hq.good.ok
 have s5 := (hq.good.ok x (List.mem_of_getElem? hx)).2.2
 have s6 := hq.good.few
 obtain ⟨sm, hsm⟩ : ∃ sm, sm = Zar l := ⟨_, rfl⟩
 have HSM := Lib.hid hsm
 have s3 : 0 ≤ sm := by omega
 have s4 : sm ≤ 64000000 := by omega
 obtain ⟨s7, s8⟩ := s5
 have HWR := Lib.hid (show IntKind.i64.wrap (sm - x.cost) = sm - x.cost from IntWalk.i64_in _ (by omega))
 have hqw : q < w.heap.size := Zb hq.head
 have hqm : q ≠ m := fun e => by have h1 := hq.rq; rw [e, hq.rm] at h1; simp at h1
 have hlx := hq.link i x hx
 have hlxw := Zb hlx.2
 have hqx : q ≠ lk x.id := fun e => by have h1 := hq.rq; rw [e, hlx.1] at h1; simp at h1
 have hxm : lk x.id ≠ m := fun e => by have h1 := hq.rm; rw [← e, hlx.1] at h1; simp at h1
 have hh0 : w.heap[q]? = some (.cells #[lkP lk l.head?, lkP lk l.getLast?, .map (some m), .int .i64 sm] 200 (0, 0)) := by rw [hsm]; exact hq.head
 have HH0 := Lib.hid hh0
 have hx0 : w.heap[lk x.id]? = some (.cells #[.int .i64 x.id, .int .i64 x.cost, .pointer (some ⟨lk p.id, 0, none⟩), .pointer none] 203 (0, 0)) := by
  have h := hlx.2
  unfold linkC at h
  rw [show prevI l i = some p by unfold prevI; rw [if_neg (by omega)]; exact hp] at h
  rw [List.getElem?_eq_none (show l.length ≤ i + 1 by omega)] at h
  exact h
 have HX0 := Lib.hid hx0
 have hlp := hq.link (i - 1) p hp
 have hlpw := Zb hlp.2
 have hqp : q ≠ lk p.id := fun e => by have h1 := hq.rq; rw [e, hlp.1] at h1; simp at h1
 have hpm : lk p.id ≠ m := fun e => by have h1 := hq.rm; rw [← e, hlp.1] at h1; simp at h1
 have hxp : lk x.id ≠ lk p.id := fun e => by
  have h1 := hlx.1
  rw [e, hlp.1] at h1
  simp at h1
  have := ZaM hq.good.once hp hx h1
  omega
 have HLP := Lib.hid hlp
 have HPG := Lib.hid hp
 have HN0 := Lib.hid h0
 have HN1 := Lib.hid hn
 have hmw := hq.map.lt
 have hne_x : w.heap.size ≠ lk x.id := by omega
 have hne_q : w.heap.size ≠ q := by omega
 clear s0 s1 s6 hq hx hlx hsm hh0 hx0 h0 hlp hp hn
 go_enter Tryz.func87, Tryz.ntmps87
 go_wp2_with fail
 refine (Zbe (pre := pre) (ρ := ρ) x.id _ (QueAt.below ⟨m, lk, D, HQ.out⟩ box_below) HI.out).mono ?_
 rintro e w1 ⟨rfl, rfl⟩
 rw [HHX.out]
 go_upto_region 3 with fail
 obtain ⟨w2, hw2⟩ : ∃ w2 : World, w2 = w.alloc (.cells #[.int .i64 0, .int .i64 0] 132) := ⟨_, rfl⟩
 rw [← hw2]
 have HB2 := Lib.hid (show Below w.heap.size w w2 by rw [hw2]; exact box_below)
 have HR2 := Lib.hid (show w2.heap[w.heap.size]? = some (.cells #[.int .i64 0, .int .i64 0] 132 (0, 0)) by rw [hw2]; exact Zf)
 have HHQ2 := Lib.hid ((HB2.out.block q hqw).trans HH0.out)
 have HHX2 := Lib.hid ((HB2.out.block _ hlxw).trans HX0.out)
 have HQ2 := Lib.hid (HQ.out.below HB2.out)
 have HF2 := Lib.hid (Fp.of_below (S := (fun k => k = q ∨ k = lk p.id)) HB2.out)
 clear hw2
 have c2 := HQ2.out.c2
 have x2 : w2.cell? ⟨lk x.id, 2, none⟩ = some (.pointer (some ⟨lk p.id, 0, none⟩)) := Za HHX2.out rfl
 have x3 : w2.cell? ⟨lk x.id, 3, none⟩ = some (.pointer none) := Za HHX2.out rfl
 have HPP2 := Lib.hid ((HB2.out.block _ hlpw).trans HLP.out.2)
 have y3 : w2.cell? ⟨lk p.id, 3, none⟩ = some (lkP lk l[i - 1 + 1]?) := Za HPP2.out rfl
 have g3 := Zd (i := 3) HPP2.out
 go_upto_region 6 with (at_lookup; refine Zaz (by rfl) _ _ rfl HQ2.out rfl x.id rfl HI.out (.pointer (some ⟨lk x.id, 0, none⟩)) (.inl ⟨HHX.out, rfl⟩) ?_)
 go_region
 go_upto_region 7 with fail
 obtain ⟨w3, hw3⟩ : ∃ w3 : World, w3 = (w2.setCell ⟨lk p.id, 3, none⟩ (.pointer none)).drew := ⟨_, rfl⟩
 rw [← hw3]
 have HHQ3 := Lib.hid ((show w3.heap[q]? = w2.heap[q]? by rw [hw3]; exact Zh (w := w2) hqp).trans HHQ2.out)
 have HPP3 := Lib.hid (show w3.heap[lk p.id]? = some (.cells #[.int .i64 p.id, .int .i64 p.cost, lkP lk (prevI l (i - 1)), .pointer none] 203 (0, 0)) by rw [hw3]; exact Ze HPP2.out)
 have HHX3 := Lib.hid ((show w3.heap[lk x.id]? = w2.heap[lk x.id]? by rw [hw3]; exact Zh (w := w2) hxp).trans HHX2.out)
 have HR3 := Lib.hid ((show w3.heap[w.heap.size]? = w2.heap[w.heap.size]? by rw [hw3]; exact Zh (w := w2) (by omega)).trans HR2.out)
 have HM3 := Lib.hid (show w3.ownsMap Tryz.prog 3 lkR m l.length D by rw [hw3]; exact (HQ2.out.map.setCell (Ne.symm hpm) _))
 have HF3 := Lib.hid (show Fp (fun k => k = q ∨ k = lk p.id) w w3 by rw [hw3]; exact (HF2.out.setCell (p := ⟨lk p.id, 3, none⟩) (fun _ => .inr rfl) _).drew)
 clear hw3 c2 x2 x3 y3 g3
 have x2 : w3.cell? ⟨lk x.id, 2, none⟩ = some (.pointer (some ⟨lk p.id, 0, none⟩)) := Za HHX3.out rfl
 have x3 : w3.cell? ⟨lk x.id, 3, none⟩ = some (.pointer none) := Za HHX3.out rfl
 have c1 := Za HHQ3.out (i := 1) rfl
 have g1 := Zd (i := 1) HHQ3.out
 go_upto_region 10 with fail
 obtain ⟨w4, hw4⟩ : ∃ w4 : World, w4 = w3.setCell ⟨q, 1, none⟩ (.pointer (some ⟨lk p.id, 0, none⟩)) := ⟨_, rfl⟩
 rw [← hw4]
 have HHQ4 := Lib.hid (show w4.heap[q]? = some (.cells #[lkP lk l.head?, .pointer (some ⟨lk p.id, 0, none⟩), .map (some m), .int .i64 sm] 200 (0, 0)) by rw [hw4]; exact Ze HHQ3.out)
 have HHX4 := Lib.hid ((show w4.heap[lk x.id]? = w3.heap[lk x.id]? by rw [hw4]; exact Zh (w := w3) (Ne.symm hqx)).trans HHX3.out)
 have HR4 := Lib.hid ((show w4.heap[w.heap.size]? = w3.heap[w.heap.size]? by rw [hw4]; exact Zh (w := w3) hne_q).trans HR3.out)
 have HM4 := Lib.hid (show w4.ownsMap Tryz.prog 3 lkR m l.length D by rw [hw4]; exact HM3.out.setCell (Ne.symm hqm) _)
 have HF4 := Lib.hid (show Fp (fun k => k = q ∨ k = lk p.id) w w4 by rw [hw4]; exact HF3.out.setCell (p := ⟨q, 1, none⟩) (fun _ => .inl rfl) _)
 have HPP4 := Lib.hid ((show w4.heap[lk p.id]? = w3.heap[lk p.id]? by rw [hw4]; exact Zh (w := w3) (Ne.symm hqp)).trans HPP3.out)
 clear hw4 x2 x3 c1 g1
 have c2 : w4.cell? ⟨q, 2, none⟩ = some (.map (some m)) := Za HHQ4.out rfl
 go_upto_region 11 with (at_delete; refine wpList_delete_own _ rfl _ _ 197 3 rfl 198 keyT Tryz.underlying197 lkR m l.length D rfl HM4.out _ (keyI x.id) rfl (Zbt HI.out) ?_; intro w5 hown5 hturn5)
 have hg5 := hturn5.grown
 have HM5 := Lib.hid hown5
 have HHQ5 := Lib.hid ((hg5.block q (Zb HHQ4.out) (by simp; exact hqm)).trans HHQ4.out)
 have HHX5 := Lib.hid ((hg5.block _ (Zb HHX4.out) (by simp; exact hxm)).trans HHX4.out)
 have HR5 := Lib.hid ((hg5.block w.heap.size (Zb HR4.out) (by simp; omega)).trans HR4.out)
 have HF5 := Lib.hid (show Fp (fun k => k = q ∨ k = lk p.id ∨ k = m) w w5 from (HF4.out.mono (S' := (fun k => k = q ∨ k = lk p.id ∨ k = m)) (fun k hk => by first | exact .inl hk | (rcases hk with hk | hk | hk <;> simp [hk]) | (rcases hk with hk | hk <;> simp [hk]))).grown hg5 (fun k _ hk => by simp at hk; simp [hk]))
 have HPP5 := Lib.hid ((hg5.block _ (Zb HPP4.out) (by simp; exact hpm)).trans HPP4.out)
 clear hown5 hturn5 hg5 c2
 have c3 : w5.cell? ⟨q, 3, none⟩ = some (.int .i64 sm) := Za HHQ5.out rfl
 have f3 := Zd (i := 3) HHQ5.out
 have x0 : w5.cell? ⟨lk x.id, 0, none⟩ = some (.int .i64 x.id) := Za HHX5.out rfl
 have x1 : w5.cell? ⟨lk x.id, 1, none⟩ = some (.int .i64 x.cost) := Za HHX5.out rfl
 go_region
 all_goals
  go_upto_region 12 with fail
  rw [HWR.out]
  obtain ⟨w6, hw6⟩ : ∃ w6 : World, w6 = (w5.setCell ⟨q, 3, none⟩ (.int .i64 (sm - x.cost))).drew := ⟨_, rfl⟩
  rw [← hw6]
  have HHQ6 := Lib.hid (show w6.heap[q]? = some (.cells #[lkP lk l.head?, .pointer (some ⟨lk p.id, 0, none⟩), .map (some m), .int .i64 (sm - x.cost)] 200 (0, 0)) by rw [hw6]; exact Ze HHQ5.out)
  have HHX6 := Lib.hid ((show w6.heap[lk x.id]? = w5.heap[lk x.id]? by rw [hw6]; exact Zh (w := w5) (Ne.symm hqx)).trans HHX5.out)
  have HR6 := Lib.hid ((show w6.heap[w.heap.size]? = w5.heap[w.heap.size]? by rw [hw6]; exact Zh (w := w5) hne_q).trans HR5.out)
  have HM6 := Lib.hid (show w6.ownsMap Tryz.prog 3 lkR m l.length (D.del (keyI x.id)) by rw [hw6]; exact (HM5.out.setCell (Ne.symm hqm) _))
  have HF6 := Lib.hid (show Fp (fun k => k = q ∨ k = lk p.id ∨ k = m) w w6 by rw [hw6]; exact (HF5.out.setCell (p := ⟨q, 3, none⟩) (fun _ => .inl rfl) _).drew)
  have HPP6 := Lib.hid ((show w6.heap[lk p.id]? = w5.heap[lk p.id]? by rw [hw6]; exact Zh (w := w5) (Ne.symm hqp)).trans HPP5.out)
  clear hw6 c3 f3 x0 x1
  have x0 : w6.cell? ⟨lk x.id, 0, none⟩ = some (.int .i64 x.id) := Za HHX6.out rfl
  have x1 : w6.cell? ⟨lk x.id, 1, none⟩ = some (.int .i64 x.cost) := Za HHX6.out rfl
  go_wp2_with (refine wpList_store_row rfl 132 _ _ rfl w.heap.size #[.int .i64 x.id, .int .i64 x.cost] rfl rfl 132 _ HR6.out (Zaw x) rfl (Zce x) ?_)
  refine bodyPost_ret (v := .tuple #[.agg #[.int .i64 x.id, .int .i64 x.cost], .bool true]) (ZL Tryz.results87 rfl rfl (setRow_heap w6 w.heap.size _ _ _ _ HR6.out) Tryz.underlying132 rfl (Zaw x)) rfl ⟨rfl, ?_, m, lk, D.del (keyI x.id), ?_⟩
  ·refine (HF6.out.setRow (g := w.heap.size) (fun h => absurd h (by simp))).mono (fun k hk => ?_)
   rcases hk with rfl | rfl | rfl
   ·exact ⟨_, HQ.out.rq⟩
   ·exact ⟨_, HLP.out.1⟩
   ·exact ⟨_, HQ.out.rm⟩
  ·rw [Zbo HQ.out.good.once HX.out]
   have far : ∀ k, k ≠ w.heap.size → ∀ cs, (w6.setRow w.heap.size cs).heap[k]? = w6.heap[k]? := fun k hk cs => setRow_other w6 w.heap.size k cs hk
   have hn0 := HN0.out
   have hn1 := HN1.out
   refine ZcD HQ.out HX.out ?_ (Fp.row.ownMap HM6.out (by omega)) (fun j z hz hj => ?_)
   ·rw [far q (Ne.symm hne_q), HHQ6.out, HSM.out]
    rw [if_neg (show ¬ i = 0 by omega)]
    rw [if_pos hn1, show prevI l i = some p by unfold prevI; rw [if_neg (by omega)]; exact HPG.out]
    rfl
   ·have hlz := HQ.out.link j z hz
    have hzw := Zb hlz.2
    rw [far _ (by omega)]
    by_cases hjp : j + 1 = i
    ·obtain rfl : p = z := Option.some.inj (HPG.out.symm.trans (by rw [show i - 1 = j by omega]; exact hz))
     rw [HPP6.out]
     unfold linkD
     rw [if_neg (by omega), if_pos hjp, show i - 1 = j by omega, List.getElem?_eq_none (show l.length ≤ i + 1 by omega)]
     rfl
    have h1 : lk z.id ≠ q := fun e => by have h1 := hlz.1; rw [e, HQ.out.rq] at h1; simp at h1
    have h2 : lk z.id ≠ m := fun e => by have h1 := hlz.1; rw [e, HQ.out.rm] at h1; simp at h1
    have hpz : lk z.id ≠ lk p.id := fun e => by
     have h1 := hlz.1
     rw [e, HLP.out.1] at h1
     simp at h1
     have := ZaM HQ.out.good.once HPG.out hz h1
     omega
    rw [HF6.out.block _ hzw (by simp [h1, h2, hpz]), hlz.2]
    unfold linkC linkD
    rw [if_neg (show ¬ j = i + 1 from fun e => by have := (List.getElem?_eq_some_iff.1 hz).1; omega)]
    rw [if_neg hjp]
set_option maxRecDepth 100000 in
set_option maxHeartbeats 2000000 in
theorem Zi0 (x : It) (i : Nat) (w : World) (hQ : QueAt pre ρ w q l) (hx : l[i]? = some x) {p : It} (hp : l[i - 1]? = some p) (h0 : 0 < i) {n : It} (hn : l[i + 1]? = some n) : Calls Tryz.prog 87 #[.pointer (some ⟨q, 0, none⟩), .int .i64 x.id] w (Zcf pre ρ w q l x) := by
 obtain ⟨m, lk, D, hq⟩ := hQ
 have HQ := Lib.hid hq
 have HX := Lib.hid hx
 have HHX := Lib.hid (show hasIt x.id l = true from ZbJ.2 ⟨i, x, hx, rfl⟩)
 have HI := Lib.hid (hq.good.ok x (List.mem_of_getElem? hx)).2.1
 obtain ⟨s0, s1⟩ := Zbd hq.good.ok
 have s5 := (hq.good.ok x (List.mem_of_getElem? hx)).2.2
 have s6 := hq.good.few
 obtain ⟨sm, hsm⟩ : ∃ sm, sm = Zar l := ⟨_, rfl⟩
 have HSM := Lib.hid hsm
 have s3 : 0 ≤ sm := by omega
 have s4 : sm ≤ 64000000 := by omega
 obtain ⟨s7, s8⟩ := s5
 have HWR := Lib.hid (show IntKind.i64.wrap (sm - x.cost) = sm - x.cost from IntWalk.i64_in _ (by omega))
 have hqw : q < w.heap.size := Zb hq.head
 have hqm : q ≠ m := fun e => by have h1 := hq.rq; rw [e, hq.rm] at h1; simp at h1
 have hlx := hq.link i x hx
 have hlxw := Zb hlx.2
 have hqx : q ≠ lk x.id := fun e => by have h1 := hq.rq; rw [e, hlx.1] at h1; simp at h1
 have hxm : lk x.id ≠ m := fun e => by have h1 := hq.rm; rw [← e, hlx.1] at h1; simp at h1
 have hh0 : w.heap[q]? = some (.cells #[lkP lk l.head?, lkP lk l.getLast?, .map (some m), .int .i64 sm] 200 (0, 0)) := by rw [hsm]; exact hq.head
 have HH0 := Lib.hid hh0
 have hx0 : w.heap[lk x.id]? = some (.cells #[.int .i64 x.id, .int .i64 x.cost, .pointer (some ⟨lk p.id, 0, none⟩), .pointer (some ⟨lk n.id, 0, none⟩)] 203 (0, 0)) := by
  have h := hlx.2
  unfold linkC at h
  rw [show prevI l i = some p by unfold prevI; rw [if_neg (by omega)]; exact hp] at h
  rw [hn] at h
  exact h
 have HX0 := Lib.hid hx0
 have hlp := hq.link (i - 1) p hp
 have hlpw := Zb hlp.2
 have hqp : q ≠ lk p.id := fun e => by have h1 := hq.rq; rw [e, hlp.1] at h1; simp at h1
 have hpm : lk p.id ≠ m := fun e => by have h1 := hq.rm; rw [← e, hlp.1] at h1; simp at h1
 have hxp : lk x.id ≠ lk p.id := fun e => by
  have h1 := hlx.1
  rw [e, hlp.1] at h1
  simp at h1
  have := ZaM hq.good.once hp hx h1
  omega
 have HLP := Lib.hid hlp
 have HPG := Lib.hid hp
 have hln := hq.link (i + 1) n hn
 have hlnw := Zb hln.2
 have hqn : q ≠ lk n.id := fun e => by have h1 := hq.rq; rw [e, hln.1] at h1; simp at h1
 have hnm : lk n.id ≠ m := fun e => by have h1 := hq.rm; rw [← e, hln.1] at h1; simp at h1
 have hxn : lk x.id ≠ lk n.id := fun e => by
  have h1 := hlx.1
  rw [e, hln.1] at h1
  simp at h1
  have := ZaM hq.good.once hn hx h1
  omega
 have HLN := Lib.hid hln
 have HNG := Lib.hid hn
 have hpn : lk p.id ≠ lk n.id := fun e => by
  have h1 := hlp.1
  rw [e, hln.1] at h1
  simp at h1
  have := ZaM hq.good.once hn hp h1
  omega
 have HN0 := Lib.hid h0
 have HN1 := Lib.hid hn
 have hmw := hq.map.lt
 have hne_x : w.heap.size ≠ lk x.id := by omega
 have hne_q : w.heap.size ≠ q := by omega
 clear s0 s1 s6 hq hx hlx hsm hh0 hx0 h0 hlp hp hln hn
 go_enter Tryz.func87, Tryz.ntmps87
 go_wp2_with fail
 refine (Zbe (pre := pre) (ρ := ρ) x.id _ (QueAt.below ⟨m, lk, D, HQ.out⟩ box_below) HI.out).mono ?_
 rintro e w1 ⟨rfl, rfl⟩
 rw [HHX.out]
 go_upto_region 3 with fail
 obtain ⟨w2, hw2⟩ : ∃ w2 : World, w2 = w.alloc (.cells #[.int .i64 0, .int .i64 0] 132) := ⟨_, rfl⟩
 rw [← hw2]
 have HB2 := Lib.hid (show Below w.heap.size w w2 by rw [hw2]; exact box_below)
 have HR2 := Lib.hid (show w2.heap[w.heap.size]? = some (.cells #[.int .i64 0, .int .i64 0] 132 (0, 0)) by rw [hw2]; exact Zf)
 have HHQ2 := Lib.hid ((HB2.out.block q hqw).trans HH0.out)
 have HHX2 := Lib.hid ((HB2.out.block _ hlxw).trans HX0.out)
 have HQ2 := Lib.hid (HQ.out.below HB2.out)
 have HF2 := Lib.hid (Fp.of_below (S := (fun k => k = q ∨ k = lk p.id ∨ k = lk n.id)) HB2.out)
 clear hw2
 have c2 := HQ2.out.c2
 have x2 : w2.cell? ⟨lk x.id, 2, none⟩ = some (.pointer (some ⟨lk p.id, 0, none⟩)) := Za HHX2.out rfl
 have x3 : w2.cell? ⟨lk x.id, 3, none⟩ = some (.pointer (some ⟨lk n.id, 0, none⟩)) := Za HHX2.out rfl
 have HPP2 := Lib.hid ((HB2.out.block _ hlpw).trans HLP.out.2)
 have y3 : w2.cell? ⟨lk p.id, 3, none⟩ = some (lkP lk l[i - 1 + 1]?) := Za HPP2.out rfl
 have g3 := Zd (i := 3) HPP2.out
 go_upto_region 6 with (at_lookup; refine Zaz (by rfl) _ _ rfl HQ2.out rfl x.id rfl HI.out (.pointer (some ⟨lk x.id, 0, none⟩)) (.inl ⟨HHX.out, rfl⟩) ?_)
 go_region
 go_upto_region 7 with fail
 obtain ⟨w3, hw3⟩ : ∃ w3 : World, w3 = (w2.setCell ⟨lk p.id, 3, none⟩ (.pointer (some ⟨lk n.id, 0, none⟩))).drew := ⟨_, rfl⟩
 rw [← hw3]
 have HHQ3 := Lib.hid ((show w3.heap[q]? = w2.heap[q]? by rw [hw3]; exact Zh (w := w2) hqp).trans HHQ2.out)
 have HPP3 := Lib.hid (show w3.heap[lk p.id]? = some (.cells #[.int .i64 p.id, .int .i64 p.cost, lkP lk (prevI l (i - 1)), .pointer (some ⟨lk n.id, 0, none⟩)] 203 (0, 0)) by rw [hw3]; exact Ze HPP2.out)
 have HHX3 := Lib.hid ((show w3.heap[lk x.id]? = w2.heap[lk x.id]? by rw [hw3]; exact Zh (w := w2) hxp).trans HHX2.out)
 have HR3 := Lib.hid ((show w3.heap[w.heap.size]? = w2.heap[w.heap.size]? by rw [hw3]; exact Zh (w := w2) (by omega)).trans HR2.out)
 have HM3 := Lib.hid (show w3.ownsMap Tryz.prog 3 lkR m l.length D by rw [hw3]; exact (HQ2.out.map.setCell (Ne.symm hpm) _))
 have HF3 := Lib.hid (show Fp (fun k => k = q ∨ k = lk p.id ∨ k = lk n.id) w w3 by rw [hw3]; exact (HF2.out.setCell (p := ⟨lk p.id, 3, none⟩) (fun _ => .inr (.inl rfl)) _).drew)
 have HNN3 := Lib.hid ((show w3.heap[lk n.id]? = w2.heap[lk n.id]? by rw [hw3]; exact Zh (w := w2) (Ne.symm hpn)).trans ((HB2.out.block _ hlnw).trans HLN.out.2))
 clear hw3 c2 x2 x3 y3 g3
 have x2 : w3.cell? ⟨lk x.id, 2, none⟩ = some (.pointer (some ⟨lk p.id, 0, none⟩)) := Za HHX3.out rfl
 have x3 : w3.cell? ⟨lk x.id, 3, none⟩ = some (.pointer (some ⟨lk n.id, 0, none⟩)) := Za HHX3.out rfl
 have y2 : w3.cell? ⟨lk n.id, 2, none⟩ = some (lkP lk (prevI l (i + 1))) := Za HNN3.out rfl
 have g2 := Zd (i := 2) HNN3.out
 go_upto_region 9 with fail
 go_region
 go_upto_region 10 with fail
 obtain ⟨w4, hw4⟩ : ∃ w4 : World, w4 = (w3.setCell ⟨lk n.id, 2, none⟩ (.pointer (some ⟨lk p.id, 0, none⟩))).drew := ⟨_, rfl⟩
 rw [← hw4]
 have HHQ4 := Lib.hid ((show w4.heap[q]? = w3.heap[q]? by rw [hw4]; exact Zh (w := w3) hqn).trans HHQ3.out)
 have HNN4 := Lib.hid (show w4.heap[lk n.id]? = some (.cells #[.int .i64 n.id, .int .i64 n.cost, .pointer (some ⟨lk p.id, 0, none⟩), lkP lk l[i + 1 + 1]?] 203 (0, 0)) by rw [hw4]; exact Ze HNN3.out)
 have HHX4 := Lib.hid ((show w4.heap[lk x.id]? = w3.heap[lk x.id]? by rw [hw4]; exact Zh (w := w3) hxn).trans HHX3.out)
 have HR4 := Lib.hid ((show w4.heap[w.heap.size]? = w3.heap[w.heap.size]? by rw [hw4]; exact Zh (w := w3) (by omega)).trans HR3.out)
 have HM4 := Lib.hid (show w4.ownsMap Tryz.prog 3 lkR m l.length D by rw [hw4]; exact (HM3.out.setCell (Ne.symm hnm) _))
 have HF4 := Lib.hid (show Fp (fun k => k = q ∨ k = lk p.id ∨ k = lk n.id) w w4 by rw [hw4]; exact (HF3.out.setCell (p := ⟨lk n.id, 2, none⟩) (fun _ => .inr (.inr rfl)) _).drew)
 have HPP4 := Lib.hid ((show w4.heap[lk p.id]? = w3.heap[lk p.id]? by rw [hw4]; exact Zh (w := w3) hpn).trans HPP3.out)
 clear hw4 x2 x3 y2 g2
 have c2 : w4.cell? ⟨q, 2, none⟩ = some (.map (some m)) := Za HHQ4.out rfl
 go_upto_region 11 with (at_delete; refine wpList_delete_own _ rfl _ _ 197 3 rfl 198 keyT Tryz.underlying197 lkR m l.length D rfl HM4.out _ (keyI x.id) rfl (Zbt HI.out) ?_; intro w5 hown5 hturn5)
 have hg5 := hturn5.grown
 have HM5 := Lib.hid hown5
 have HHQ5 := Lib.hid ((hg5.block q (Zb HHQ4.out) (by simp; exact hqm)).trans HHQ4.out)
 have HHX5 := Lib.hid ((hg5.block _ (Zb HHX4.out) (by simp; exact hxm)).trans HHX4.out)
 have HR5 := Lib.hid ((hg5.block w.heap.size (Zb HR4.out) (by simp; omega)).trans HR4.out)
 have HF5 := Lib.hid (show Fp (fun k => k = q ∨ k = lk p.id ∨ k = lk n.id ∨ k = m) w w5 from (HF4.out.mono (S' := (fun k => k = q ∨ k = lk p.id ∨ k = lk n.id ∨ k = m)) (fun k hk => by first | exact .inl hk | (rcases hk with hk | hk | hk <;> simp [hk]) | (rcases hk with hk | hk <;> simp [hk]))).grown hg5 (fun k _ hk => by simp at hk; simp [hk]))
 have HPP5 := Lib.hid ((hg5.block _ (Zb HPP4.out) (by simp; exact hpm)).trans HPP4.out)
 have HNN5 := Lib.hid ((hg5.block _ (Zb HNN4.out) (by simp; exact hnm)).trans HNN4.out)
 clear hown5 hturn5 hg5 c2
 have c3 : w5.cell? ⟨q, 3, none⟩ = some (.int .i64 sm) := Za HHQ5.out rfl
 have f3 := Zd (i := 3) HHQ5.out
 have x0 : w5.cell? ⟨lk x.id, 0, none⟩ = some (.int .i64 x.id) := Za HHX5.out rfl
 have x1 : w5.cell? ⟨lk x.id, 1, none⟩ = some (.int .i64 x.cost) := Za HHX5.out rfl
 go_region
 all_goals
  go_upto_region 12 with fail
  rw [HWR.out]
  obtain ⟨w6, hw6⟩ : ∃ w6 : World, w6 = (w5.setCell ⟨q, 3, none⟩ (.int .i64 (sm - x.cost))).drew := ⟨_, rfl⟩
  rw [← hw6]
  have HHQ6 := Lib.hid (show w6.heap[q]? = some (.cells #[lkP lk l.head?, lkP lk l.getLast?, .map (some m), .int .i64 (sm - x.cost)] 200 (0, 0)) by rw [hw6]; exact Ze HHQ5.out)
  have HHX6 := Lib.hid ((show w6.heap[lk x.id]? = w5.heap[lk x.id]? by rw [hw6]; exact Zh (w := w5) (Ne.symm hqx)).trans HHX5.out)
  have HR6 := Lib.hid ((show w6.heap[w.heap.size]? = w5.heap[w.heap.size]? by rw [hw6]; exact Zh (w := w5) hne_q).trans HR5.out)
  have HM6 := Lib.hid (show w6.ownsMap Tryz.prog 3 lkR m l.length (D.del (keyI x.id)) by rw [hw6]; exact (HM5.out.setCell (Ne.symm hqm) _))
  have HF6 := Lib.hid (show Fp (fun k => k = q ∨ k = lk p.id ∨ k = lk n.id ∨ k = m) w w6 by rw [hw6]; exact (HF5.out.setCell (p := ⟨q, 3, none⟩) (fun _ => .inl rfl) _).drew)
  have HPP6 := Lib.hid ((show w6.heap[lk p.id]? = w5.heap[lk p.id]? by rw [hw6]; exact Zh (w := w5) (Ne.symm hqp)).trans HPP5.out)
  have HNN6 := Lib.hid ((show w6.heap[lk n.id]? = w5.heap[lk n.id]? by rw [hw6]; exact Zh (w := w5) (Ne.symm hqn)).trans HNN5.out)
  clear hw6 c3 f3 x0 x1
  have x0 : w6.cell? ⟨lk x.id, 0, none⟩ = some (.int .i64 x.id) := Za HHX6.out rfl
  have x1 : w6.cell? ⟨lk x.id, 1, none⟩ = some (.int .i64 x.cost) := Za HHX6.out rfl
  go_wp2_with (refine wpList_store_row rfl 132 _ _ rfl w.heap.size #[.int .i64 x.id, .int .i64 x.cost] rfl rfl 132 _ HR6.out (Zaw x) rfl (Zce x) ?_)
  refine bodyPost_ret (v := .tuple #[.agg #[.int .i64 x.id, .int .i64 x.cost], .bool true]) (ZL Tryz.results87 rfl rfl (setRow_heap w6 w.heap.size _ _ _ _ HR6.out) Tryz.underlying132 rfl (Zaw x)) rfl ⟨rfl, ?_, m, lk, D.del (keyI x.id), ?_⟩
  ·refine (HF6.out.setRow (g := w.heap.size) (fun h => absurd h (by simp))).mono (fun k hk => ?_)
   rcases hk with rfl | rfl | rfl | rfl
   ·exact ⟨_, HQ.out.rq⟩
   ·exact ⟨_, HLP.out.1⟩
   ·exact ⟨_, HLN.out.1⟩
   ·exact ⟨_, HQ.out.rm⟩
  ·rw [Zbo HQ.out.good.once HX.out]
   have far : ∀ k, k ≠ w.heap.size → ∀ cs, (w6.setRow w.heap.size cs).heap[k]? = w6.heap[k]? := fun k hk cs => setRow_other w6 w.heap.size k cs hk
   have hn0 := HN0.out
   have hn1 := HN1.out
   refine ZcD HQ.out HX.out ?_ (Fp.row.ownMap HM6.out (by omega)) (fun j z hz hj => ?_)
   ·rw [far q (Ne.symm hne_q), HHQ6.out, HSM.out]
    rw [if_neg (show ¬ i = 0 by omega)]
    rw [if_neg (show ¬ i + 1 = l.length from fun e => by rw [List.getElem?_eq_none (by omega)] at hn1; cases hn1)]
   ·have hlz := HQ.out.link j z hz
    have hzw := Zb hlz.2
    rw [far _ (by omega)]
    by_cases hjp : j + 1 = i
    ·obtain rfl : p = z := Option.some.inj (HPG.out.symm.trans (by rw [show i - 1 = j by omega]; exact hz))
     rw [HPP6.out]
     unfold linkD
     rw [if_neg (by omega), if_pos hjp, show i - 1 = j by omega, hn1]
     rfl
    by_cases hjn : j = i + 1
    ·subst hjn
     obtain rfl : n = z := Option.some.inj (hn1.symm.trans hz)
     rw [HNN6.out]
     unfold linkD
     rw [if_pos rfl, if_neg (by omega), show prevI l i = some p by unfold prevI; rw [if_neg (by omega)]; exact HPG.out]
     rfl
    have h1 : lk z.id ≠ q := fun e => by have h1 := hlz.1; rw [e, HQ.out.rq] at h1; simp at h1
    have h2 : lk z.id ≠ m := fun e => by have h1 := hlz.1; rw [e, HQ.out.rm] at h1; simp at h1
    have hpz : lk z.id ≠ lk p.id := fun e => by
     have h1 := hlz.1
     rw [e, HLP.out.1] at h1
     simp at h1
     have := ZaM HQ.out.good.once HPG.out hz h1
     omega
    have hnz : lk z.id ≠ lk n.id := fun e => by
     have h1 := hlz.1
     rw [e, HLN.out.1] at h1
     simp at h1
     have := ZaM HQ.out.good.once HNG.out hz h1
     omega
    rw [HF6.out.block _ hzw (by simp [h1, h2, hpz, hnz]), hlz.2]
    unfold linkC linkD
    rw [if_neg hjn]
    rw [if_neg hjp]
theorem Zho (x : It) (i : Nat) (w : World) (hQ : QueAt pre ρ w q l) (hx : l[i]? = some x) : Calls Tryz.prog 87 #[.pointer (some ⟨q, 0, none⟩), .int .i64 x.id] w (Zcf pre ρ w q l x) := by
 have hi : i < l.length := (List.getElem?_eq_some_iff.1 hx).1
 rcases Nat.eq_zero_or_pos i with h | h
 ·rcases Nat.lt_or_ge (i + 1) l.length with h1 | h1
  ·exact ZiY x i w hQ hx h (n := l[i + 1]) (List.getElem?_eq_getElem h1)
  ·exact ZiX x i w hQ hx h (by omega)
 ·rcases Nat.lt_or_ge (i + 1) l.length with h1 | h1
  ·exact Zi0 x i w hQ hx (p := l[i - 1]) (List.getElem?_eq_getElem (by omega)) h (n := l[i + 1]) (List.getElem?_eq_getElem h1)
  ·exact ZiZ x i w hQ hx (p := l[i - 1]) (List.getElem?_eq_getElem (by omega)) h (by omega)
end
end Go.Proofs.YtdbjihkgafhakaaGreatDoor
/-
 fifo.Queue: Pop: the walk.
-/
namespace Go.Proofs.YtdbjihkgafhakaaGreatDoor
open Go.RowKit
def fence (ρ : Roles) (w : World) : Roles := fun k => if k < w.heap.size then ρ k else []
theorem Zg (ρ : Roles) (w : World) : Later ρ (fence ρ w) w := fun k hk => by simp [fence, hk]
theorem ZbZ {ρ : Roles} {w : World} {pre : List Int} (hp : pre ≠ []) {k : Nat} (hk : w.heap.size ≤ k) : ¬ Part (fence ρ w) pre k := by
 rintro ⟨s, h⟩
 simp only [fence, if_neg (Nat.not_lt.2 hk)] at h
 exact hp (List.append_eq_nil_iff.1 h.symm).1
theorem ZaS {ρ : Roles} {w : World} {pre : List Int} (hp : pre ≠ []) {k : Nat} (h : Part (fence ρ w) pre k) : Part ρ pre k := by
 rcases Nat.lt_or_ge k w.heap.size with hk | hk
 ·obtain ⟨s, h⟩ := h
  exact ⟨s, by simpa [fence, hk] using h⟩
 ·exact absurd h (ZbZ hp hk)
theorem ZdD {ρ : Roles} {w : World} {r : List Int} {k : Nat} (h : fence ρ w k = r) (hr : r ≠ []) : ρ k = r := by
 unfold fence at h
 split at h
 ·exact h
 ·exact absurd h.symm hr
section
variable {pre : List Int} {ρ : Roles} {q : Nat} {l : List It}
theorem QueAt.of_fence {w w' : World} (h : QueAt pre (fence ρ w) w' q l) : QueAt pre ρ w' q l := by
 obtain ⟨m, lk, D, h⟩ := h
 exact ⟨m, lk, D, h.head, ZdD h.rq (by simp), ZdD h.rm (by simp), h.map, h.size, h.has, h.at_, fun i x hx => ⟨ZdD (h.link i x hx).1 (by simp), (h.link i x hx).2⟩, h.good⟩
set_option maxRecDepth 100000 in
set_option maxHeartbeats 2000000 in
theorem ZhO (hpre : pre ≠ []) (x : It) (r : List It) (w : World) (hQ : QueAt pre ρ w q (x :: r)) : Calls Tryz.prog 98 #[.pointer (some ⟨q, 0, none⟩)] w (Zcf pre ρ w q (x :: r) x) := by
 have HQ := Lib.hid hQ
 clear hQ
 go_enter Tryz.func98, Tryz.ntmps98
 go_wp2_with fail
 refine (Zd3 (pre := pre) (ρ := ρ) x r _ (HQ.out.below box_below)).mono ?_
 rintro e w1 ⟨rfl, hb1⟩
 have HB1 := Lib.hid hb1
 have hz1 : w.heap.size < w1.heap.size := by have := hb1.size; simp at this; omega
 clear hb1
 go_upto_region 4 with fail
 obtain ⟨w2, hw2⟩ : ∃ w2 : World, w2 = w1.alloc (.cells #[.int .i64 x.id, .int .i64 x.cost] 132) := ⟨_, rfl⟩
 obtain ⟨b2, hb2⟩ : ∃ b2 : Nat, b2 = w1.heap.size := ⟨_, rfl⟩
 rw [← hw2, ← hb2]
 have HB2 := Lib.hid (show Below w.heap.size w w2 by rw [hw2]; exact (box_below.trans (HB1.out.mono (by simp))).alloc (by omega) _)
 have HR2 := Lib.hid (show w2.heap[w.heap.size]? = some (.cells #[.int .i64 0, .int .i64 0] 132 (0, 0)) by rw [hw2]; exact Zi ((HB1.out.block _ (by simp)).trans Zf))
 have c0 : w2.cell? ⟨b2, 0, none⟩ = some (.int .i64 x.id) := by rw [hw2, hb2]; exact Zm rfl
 clear hw2 hb2
 go_wp2_with fail
 refine (Zho (pre := pre) (ρ := fence ρ w) x 0 _ ((HQ.out.later (Zg ρ w)).below HB2.out) rfl).mono ?_
 rintro e w3 ⟨rfl, hF3, hQ3⟩
 have HF3 := Lib.hid hF3
 have HQ3 := Lib.hid hQ3
 have HR3 := Lib.hid (hF3.heap HR2.out (ZbZ hpre (Nat.le_refl _)))
 clear hF3 hQ3 c0
 go_wp2_with (refine wpList_store_row rfl 132 _ _ rfl w.heap.size #[.int .i64 x.id, .int .i64 x.cost] rfl rfl 132 _ HR3.out (Zaw x) rfl (Zce x) ?_)
 refine bodyPost_ret (v := .tuple #[.agg #[.int .i64 x.id, .int .i64 x.cost], .bool true]) (ZL Tryz.results98 rfl rfl (setRow_heap w3 w.heap.size _ _ _ _ HR3.out) Tryz.underlying132 rfl (Zaw x)) rfl ⟨rfl, ?_, ?_⟩
 ·exact ((Fp.of_below HB2.out).trans (HF3.out.mono (fun k hk => ZaS hpre hk)) (fun _ _ hk => hk)).setRow (fun h => absurd h (by simp))
 ·exact (HQ3.out.frame Fp.row (fun k _ hp e => by subst e; exact ZbZ hpre (Nat.le_refl _) hp)).of_fence
end
end Go.Proofs.YtdbjihkgafhakaaGreatDoor
