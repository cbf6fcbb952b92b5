/-
  An evaluator for closed runs: its state and the model's world; a load, a store, a new block.
-/
import Derived.Test.YtjfcjpbolokfcaaGreatDoorEv2
namespace Go.Proofs.YtjfcjpbolokfcaaGreatDoor.Ev
open Go

/-- A block: cells (known so far as the tree tells them; how many, of what type, an element's size, how many at its head may be frozen), a map. -/
inductive AO where
  | cells (t : T Value) (n : Nat) (e : TypeId) (sz fz : Nat)
  | map (es : List MapEntry) (clock : Nat)
  | iter (s : ByteArray) (pos : Nat)
  | mapIter (n since : Nat) (seen : List Nat) (last : Nat)
  | boxed (v : Value) (t : TypeId)
structure St where
  h : T AO
  nx : Nat
/-- Entries, one by one: keys that name no block. -/
inductive MR (ρ : Nat → Nm) (nx : Nat) : List MapEntry → List MapEntry → Prop
  | nil : MR ρ nx [] []
  | cons (k v u : Value) (b : Nat) (l m : List MapEntry) (hk : flat k = true) (h : VR ρ nx v u) (hr : MR ρ nx l m) : MR ρ nx (⟨k, v, b⟩ :: l) (⟨k, u, b⟩ :: m)
def OR (ρ : Nat → Nm) (nx : Nat) (m : Nm) : AO → Option Obj → Prop
  | .cells t n e sz fz, o => ∃ cs fr, o = some (.cells cs e fr) ∧ m.s + n + m.e * sz ≤ cs.size ∧ (∀ i v, i < n → t.get i = some v → ∃ a, cs[m.s + i]? = some a ∧ VR ρ nx v a) ∧ (∀ j, m.s + fz ≤ j → j < m.s + n + m.e * sz → ¬ (fr.1 ≤ j ∧ j < fr.2))
  | .map es c, o => ∃ es', o = some (.map es' c) ∧ MR ρ nx es es'.toList
  | .iter s p, o => m.s = 0 ∧ o = some (.stringIter s p)
  | .mapIter n c l d, o => n < nx ∧ m.s = 0 ∧ o = some (.mapIter (some (ρ n).b) c l.toArray d)
  | .boxed v t, o => m.s = 0 ∧ ∃ u, o = some (.cells #[u] t (0, 0)) ∧ VR ρ nx v u
/-- What is known of a world: the blocks by their names. -/
structure HR (ρ : Nat → Nm) (nx : Nat) (H : Nat → Option AO) (w : World) : Prop where
  obj : ∀ n o, H n = some o → n < nx ∧ OR ρ nx (ρ n) o w.heap[(ρ n).b]?
  inj : ∀ n m o o', H n = some o → H m = some o' → (ρ n).b = (ρ m).b → n = m
/-- What is not known of stays as it is. -/
structure Fr (ρ : Nat → Nm) (H : Nat → Option AO) (w w' : World) : Prop where
  os : w'.os = w.os
  tape : w'.tape = w.tape
  output : w'.output = w.output
  size : w.heap.size ≤ w'.heap.size
  block : ∀ k, k < w.heap.size → (∀ n o, H n = some o → (ρ n).b ≠ k) → w'.heap[k]? = w.heap[k]?
def Liv (ρ : Nat → Nm) (H : Nat → Option AO) (w : World) (ρ' : Nat → Nm) (H' : Nat → Option AO) : Prop := ∀ n o, H' n = some o → w.heap.size ≤ (ρ' n).b ∨ ∃ m o', H m = some o' ∧ (ρ m).b = (ρ' n).b
/-- A step of both. -/
structure Step (ρ : Nat → Nm) (nx : Nat) (H : Nat → Option AO) (w : World) (ρ' : Nat → Nm) (nx' : Nat) (H' : Nat → Option AO) (w' : World) : Prop where
  ext : Ext ρ nx ρ' nx'
  hr : HR ρ' nx' H' w'
  fr : Fr ρ H w w'
  liv : Liv ρ H w ρ' H'
def updH (H : Nat → Option AO) (n : Nat) (a : Option AO) : Nat → Option AO := fun k => if k = n then a else H k
theorem updH_get {H : Nat → Option AO} {n m : Nat} {a : Option AO} {o : AO} (h : updH H n a m = some o) : (m = n ∧ a = some o) ∨ (m ≠ n ∧ H m = some o) := by
  unfold updH at h
  by_cases e : m = n
  · rw [if_pos e] at h
    exact .inl ⟨e, h⟩
  · rw [if_neg e] at h
    exact .inr ⟨e, h⟩
theorem updH_at (H : Nat → Option AO) (n : Nat) (a : Option AO) : updH H n a n = a := by unfold updH; rw [if_pos rfl]
theorem updH_twice (H : Nat → Option AO) (n : Nat) (a b : Option AO) : updH (updH H n a) n b = updH H n b := by
  funext k
  unfold updH
  by_cases e : k = n
  · rw [if_pos e, if_pos e]
  · rw [if_neg e, if_neg e, if_neg e]
section
variable {ρ ρ' ρ'' : Nat → Nm} {nx nx' nx'' : Nat} {H H' H'' : Nat → Option AO} {w w' w'' : World}
theorem Step.refl (h : HR ρ nx H w) : Step ρ nx H w ρ nx H w := ⟨Ext.refl _ _, h, ⟨rfl, rfl, rfl, Nat.le_refl _, fun _ _ _ => rfl⟩, fun n o hn => .inr ⟨n, o, hn, rfl⟩⟩
theorem Step.trans (h : Step ρ nx H w ρ' nx' H' w') (h' : Step ρ' nx' H' w' ρ'' nx'' H'' w'') : Step ρ nx H w ρ'' nx'' H'' w'' := by
  refine ⟨h.ext.trans h'.ext, h'.hr, ⟨h'.fr.os.trans h.fr.os, h'.fr.tape.trans h.fr.tape, h'.fr.output.trans h.fr.output, Nat.le_trans h.fr.size h'.fr.size, fun k hk hn => ?_⟩, fun n o hn => ?_⟩
  · refine (h'.fr.block k (Nat.lt_of_lt_of_le hk h.fr.size) (fun n o hno e => ?_)).trans (h.fr.block k hk hn)
    rcases h.liv n o hno with h1 | ⟨m, o', hm, he⟩
    · omega
    · exact hn m o' hm (he.trans e)
  · rcases h'.liv n o hn with h1 | ⟨m, o', hm, he⟩
    · exact .inl (Nat.le_trans h.fr.size h1)
    · rcases h.liv m o' hm with h1 | ⟨q, o'', hq, he2⟩
      · exact .inl (by omega)
      · exact .inr ⟨q, o'', hq, he2.trans he⟩
/-- Less is known. -/
theorem Step.less (h : Step ρ nx H w ρ' nx' H' w') (hs : ∀ n o, H'' n = some o → H' n = some o) : Step ρ nx H w ρ' nx' H'' w' :=
  ⟨h.ext, ⟨fun n o hn => h.hr.obj n o (hs n o hn), fun n m o o' hn hm => h.hr.inj n m o o' (hs n o hn) (hs m o' hm)⟩, h.fr, fun n o hn => h.liv n o (hs n o hn)⟩
theorem get_updH {t : T AO} {n : Nat} {a : AO} : ∀ m o, (t.set a n).get m = some o → updH t.get n (some a) m = some o := fun m o h => by
  unfold updH
  rcases set_get h with ⟨rfl, rfl⟩ | ⟨hne, h⟩
  · rw [if_pos rfl]
  · rw [if_neg hne]
    exact h
theorem MR.mono {l m : List MapEntry} (hx : Ext ρ nx ρ' nx') (h : MR ρ nx l m) : MR ρ' nx' l m := by
  induction h with
  | nil => exact .nil
  | cons k v u b l m hk h _ ih => exact .cons k v u b l m hk (h.mono hx) ih
theorem OR.mono {m : Nm} {a : AO} {o : Option Obj} (hx : Ext ρ nx ρ' nx') (h : OR ρ nx m a o) : OR ρ' nx' m a o := by
  cases a with
  | cells t n e sz fz =>
    obtain ⟨cs, fr, h1, h2, h3, h4⟩ := h
    exact ⟨cs, fr, h1, h2, fun i v hi hv => by obtain ⟨a, ha, hr⟩ := h3 i v hi hv; exact ⟨a, ha, hr.mono hx⟩, h4⟩
  | map es c =>
    obtain ⟨es', h1, h2⟩ := h
    exact ⟨es', h1, h2.mono hx⟩
  | iter s p => exact h
  | mapIter n c l d => exact ⟨Nat.lt_of_lt_of_le h.1 hx.1, h.2.1, by rw [hx.2 n h.1]; exact h.2.2⟩
  | boxed v t =>
    obtain ⟨h1, u, h2, h3⟩ := h
    exact ⟨h1, u, h2, h3.mono hx⟩
/-- A cell is read. -/
theorem HR.cell (h : HR ρ nx H w) {n o k sz fz : Nat} {t : T Value} {e : TypeId} {v : Value} (hn : H n = some (.cells t k e sz fz)) (ho : o < k) (hv : t.get o = some v) : ∃ a, w.cell? ((ρ n).at o) = some a ∧ VR ρ nx v a := by
  obtain ⟨_, cs, fr, h1, _, h3, _⟩ := h.obj n _ hn
  obtain ⟨a, ha, hr⟩ := h3 o v ho hv
  refine ⟨a, ?_, hr⟩
  simp only [World.cell?, Nm.at, h1]
  exact ha
theorem push_old {α : Type} (a : Array α) (x : α) {k : Nat} (h : k < a.size) : (a.push x)[k]? = a[k]? := by
  rw [Array.getElem?_push, if_neg (by omega)]
/-- A new block. -/
def upd (ρ : Nat → Nm) (n : Nat) (m : Nm) : Nat → Nm := fun k => if k = n then m else ρ k
theorem upd_ext (ρ : Nat → Nm) (nx : Nat) (m : Nm) : Ext ρ nx (upd ρ nx m) (nx + 1) := ⟨Nat.le_succ _, fun n hn => by unfold upd; rw [if_neg (by omega)]⟩
theorem upd_at (ρ : Nat → Nm) (n : Nat) (m : Nm) : upd ρ n m n = m := by unfold upd; rw [if_pos rfl]
theorem HR.old (h : HR ρ nx H w) {n : Nat} {o : AO} (hn : H n = some o) : (ρ n).b < w.heap.size := by
  have h1 := (h.obj n o hn).2
  rcases Nat.lt_or_ge (ρ n).b w.heap.size with hlt | hge
  · exact hlt
  · rw [Array.getElem?_eq_none hge] at h1
    cases o with
    | cells => obtain ⟨_, _, h1, _⟩ := h1; cases h1
    | map => obtain ⟨_, h1, _⟩ := h1; cases h1
    | iter => cases h1.2
    | mapIter => cases h1.2.2
    | boxed => obtain ⟨_, _, h1, _⟩ := h1; cases h1
/-- A block that is new, or that was one that is known of no more. -/
theorem HR.new (h : HR ρ nx H w) (o : Obj) (a : AO) (ho : OR (upd ρ nx ⟨w.heap.size, 0, 0⟩) (nx + 1) ⟨w.heap.size, 0, 0⟩ a (some o)) :
    Step ρ nx H w (upd ρ nx ⟨w.heap.size, 0, 0⟩) (nx + 1) (updH H nx (some a)) { w with heap := w.heap.push o } := by
  have hx := upd_ext ρ nx ⟨w.heap.size, 0, 0⟩
  refine ⟨hx, ⟨fun n o' hn => ?_, fun n m o1 o2 hn hm he => ?_⟩, ⟨rfl, rfl, rfl, by simp, fun k hk _ => push_old _ _ hk⟩, fun n o' hn => ?_⟩
  · rcases updH_get hn with ⟨rfl, e⟩ | ⟨hne, hn⟩
    · obtain rfl := Option.some.inj e
      refine ⟨Nat.lt_succ_self _, ?_⟩
      rw [upd_at]
      simpa using ho
    · have h1 := h.obj n o' hn
      refine ⟨Nat.lt_succ_of_lt h1.1, ?_⟩
      rw [hx.2 n h1.1]
      have : (w.heap.push o)[(ρ n).b]? = w.heap[(ρ n).b]? := push_old _ _ (h.old hn)
      show OR _ _ _ _ ((w.heap.push o)[(ρ n).b]?)
      rw [this]
      exact h1.2.mono hx
  · rcases updH_get hn with ⟨h1, _⟩ | ⟨hne, hn1⟩ <;> rcases updH_get hm with ⟨h2, _⟩ | ⟨hme, hm1⟩
    · exact h1.trans h2.symm
    · rw [h1, upd_at, hx.2 m (h.obj m _ hm1).1] at he
      have := h.old hm1
      simp only at he
      omega
    · rw [h2, upd_at, hx.2 n (h.obj n _ hn1).1] at he
      have := h.old hn1
      simp only at he
      omega
    · rw [hx.2 n (h.obj n _ hn1).1, hx.2 m (h.obj m _ hm1).1] at he
      exact h.inj n m o1 o2 hn1 hm1 he
  · rcases updH_get hn with ⟨rfl, _⟩ | ⟨hne, hn⟩
    · exact .inl (by rw [upd_at]; exact Nat.le_refl _)
    · exact .inr ⟨n, o', hn, by rw [hx.2 n (h.obj n _ hn).1]⟩
theorem setCell_at {w : World} {a : Addr} {v : Value} {cs : Array Value} {e : TypeId} {fr : Nat × Nat} (h : w.heap[a.block]? = some (.cells cs e fr)) (hs : a.spot = none) : (w.setCell a v).heap[a.block]? = some (.cells (cs.setIfInBounds a.off v) e fr) := by
  simp only [World.setCell, Array.getElem?_modify, h, hs]
  rfl
theorem setCell_not {w : World} {a : Addr} {v : Value} {k : Nat} (h : k ≠ a.block) : (w.setCell a v).heap[k]? = w.heap[k]? := by
  simp only [World.setCell, Array.getElem?_modify]
  rw [if_neg (Ne.symm h)]
theorem HR.store_ok (h : HR ρ nx H w) {n o k sz fz : Nat} {t : T Value} {e : TypeId} (hn : H n = some (.cells t k e sz fz)) (ho : o < k) (hz : fz ≤ o) : (∃ b, w.cell? ((ρ n).at o) = some b) ∧ w.frozen? ((ρ n).at o) = false := by
  obtain ⟨_, cs, fr, h1, h2, _, h4⟩ := h.obj n _ hn
  refine ⟨⟨cs[(ρ n).s + o]'(by omega), ?_⟩, ?_⟩
  · simp only [World.cell?, Nm.at, h1]
    exact Array.getElem?_eq_getElem _
  · have := h4 ((ρ n).s + o) (by omega) (by omega)
    simp only [World.frozen?, Nm.at, h1, Bool.and_eq_false_iff]
    by_cases h5 : fr.1 ≤ (ρ n).s + o
    · exact .inr (decide_eq_false (fun h6 => this ⟨h5, h6⟩))
    · exact .inl (decide_eq_false h5)
theorem HR.store (h : HR ρ nx H w) {n o k sz fz : Nat} {t : T Value} {e : TypeId} {v a : Value} (hn : H n = some (.cells t k e sz fz)) (hv : VR ρ nx v a) :
    Step ρ nx H w ρ nx (updH H n (some (.cells (t.set v o) k e sz fz))) (w.setCell ((ρ n).at o) a) := by
  obtain ⟨hnx, cs, fr, h1, h2, h3, h4⟩ := h.obj n _ hn
  have hat := setCell_at (a := (ρ n).at o) (v := a) h1 rfl
  refine ⟨Ext.refl _ _, ⟨fun m o' hm => ?_, fun m m' o1 o2 hm hm' he => ?_⟩, ⟨rfl, rfl, rfl, by simp [World.setCell], fun j _ hj => setCell_not (fun e => hj n _ hn e.symm)⟩, fun m o' hm => ?_⟩
  · rcases updH_get hm with ⟨rfl, e0⟩ | ⟨hne, hm⟩
    · obtain rfl := Option.some.inj e0
      refine ⟨hnx, cs.setIfInBounds ((ρ m).s + o) a, fr, hat, by simpa using h2, fun i u hi hu => ?_, h4⟩
      rcases set_get hu with ⟨rfl, rfl⟩ | ⟨hne, hu⟩
      · exact ⟨a, by rw [Array.getElem?_setIfInBounds_self_of_lt (by omega)], hv⟩
      · obtain ⟨b, hb, hr⟩ := h3 i u hi hu
        exact ⟨b, by rw [Array.getElem?_setIfInBounds_ne (by omega)]; exact hb, hr⟩
    · have h5 := h.obj m _ hm
      refine ⟨h5.1, ?_⟩
      rw [setCell_not (fun e => hne (h.inj m n _ _ hm hn e))]
      exact h5.2
  · have back : ∀ {m o'}, updH H n (some (.cells (t.set v o) k e sz fz)) m = some o' → ∃ o2, H m = some o2 := fun {m o'} hm => by
      rcases updH_get hm with ⟨rfl, _⟩ | ⟨_, hm⟩
      · exact ⟨_, hn⟩
      · exact ⟨_, hm⟩
    obtain ⟨p1, hp1⟩ := back hm
    obtain ⟨p2, hp2⟩ := back hm'
    exact h.inj _ _ _ _ hp1 hp2 he
  · rcases updH_get hm with ⟨rfl, _⟩ | ⟨_, hm⟩
    · exact .inr ⟨m, _, hn, rfl⟩
    · exact .inr ⟨m, _, hm, rfl⟩
end
/-- A state and a world. -/
abbrev SR (ρ : Nat → Nm) (s : St) (w : World) : Prop := HR ρ s.nx s.h.get w
abbrev SStep (ρ : Nat → Nm) (s : St) (w : World) (ρ' : Nat → Nm) (s' : St) (w' : World) : Prop := Step ρ s.nx s.h.get w ρ' s'.nx s'.h.get w'
end Go.Proofs.YtjfcjpbolokfcaaGreatDoor.Ev
