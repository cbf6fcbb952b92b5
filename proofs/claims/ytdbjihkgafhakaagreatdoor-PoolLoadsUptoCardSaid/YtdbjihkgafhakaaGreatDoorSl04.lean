/-
 'append(append([]T{}, xs...), x)' in a region that draws its order: the equations of its runs, in each order.
 ref14 (items): Find, Push, Drop, Same: the walks.
-/
import Derived.Test.YtdbjihkgafhakaaGreatDoorSl02
import Derived.Deep.AppendLies
import Derived.Maps.AppendAt
import Derived.Test.YtdbjihkgafhakaaGreatDoorSl03
import Derived.BigQuiet
import Derived.Deep.QuietTactic
namespace Go.Proofs.YtdbjihkgafhakaaGreatDoor
open Go.RowKit
def SrcAt (K : Nat) (w : World) (v : Value) (n : Nat) (xs : List Value) : Prop :=
 ∃ a cap, v = .slice a n cap ∧ xs.length = n * K ∧ ∀ (j : Nat) u, xs[j]? = some u → ∃ g off, a = some ⟨g, off, none⟩ ∧ w.cell? ⟨g, off + j, none⟩ = some u
theorem SrcAt.below {K : Nat} {w w' : World} {v : Value} {n : Nat} {xs : List Value} (h : SrcAt K w v n xs) (hb : Below w.heap.size w w') : SrcAt K w' v n xs := by
 obtain ⟨a, cap, rfl, hl, hc⟩ := h
 exact ⟨a, cap, rfl, hl, fun j u hu => by obtain ⟨g, off, ha, h0⟩ := hc j u hu; exact ⟨g, off, ha, Zc hb h0⟩⟩
section
variable {P : Program}
theorem ZfS (w : World) (t ty e : TypeId) (i : TypeInfo) (ht : P.underlying t = some (.slice e)) (hi : P.info? e = some i) (a : Addr) (cap cap' : Nat) :
 (Builtin.append_ #[t, t] ty #[.slice (some a) 0 cap, .slice none 0 cap']).run P w = .ok (.slice (some a) 0 cap) w := by
 simp [Builtin.append_, run_underlying ht, sizeOf, typeInfo, hi, Builtin.lenOf, Builtin.firstCells, storeCells]
theorem ZbU {w : World} (t ty e : TypeId) (i : TypeInfo) (z : Value) (size bytes : Nat) (ht : P.underlying t = some (.slice e)) (hi : P.info? e = some i) (hz : i.zero = some z)
 (hsize : i.size = size) (hby : i.bytes = bytes) (hzs : z.cells.size = size) (hsz : 0 < size) {d : Nat} (hd : w.heap[d]? = some (.cells #[] e (0, 0))) {v : Value} {n : Nat} {xs : List Value} (hs : SrcAt size w v n xs)
 (h1 : ∀ u ∈ xs, u.oneCell' = true) (h63 : n ≤ maxLen) (hbytes : n * bytes ≤ 140737488355328) :
 ∃ v' w', (Builtin.append_ #[t, t] ty #[.slice (some ⟨d, 0, none⟩) 0 0, v]).run P w = .ok v' w' ∧ w'.ownsRow d e size v' n xs ∧ w.grownBy w' (some d) ∧ (v'.ownBlock = some d ∨ v'.ownBlock = some w.heap.size) := by
 obtain ⟨a, cap, rfl, hl, hc⟩ := hs
 have hdl : d < w.heap.size := (Array.getElem?_eq_some_iff.1 hd).1
 have hown : w.ownsRow d e size (.slice (some ⟨d, 0, none⟩) 0 0) 0 [] := ⟨by simp, .inr ⟨d, 0, #[], rfl, Nat.le_refl _, hd, Nat.le_refl _, by unfold maxLen; omega, by simp, by simp⟩⟩
 rcases a with _ | ad
 ·have hn : n = 0 := by
   rcases Nat.eq_zero_or_pos n with h | h
   ·exact h
   ·have h2 : 0 < xs.length := by rw [hl]; exact Nat.mul_pos h hsz
    obtain ⟨g, off, h3, _⟩ := hc 0 _ (List.getElem?_eq_getElem h2)
    cases h3
  subst hn
  have hx : xs = [] := List.length_eq_zero_iff.1 (by omega)
  subst hx
  exact ⟨_, w, ZfS w t ty e i ht hi _ _ _, hown, ⟨rfl, rfl, rfl, Nat.le_refl _, fun _ _ _ => rfl⟩, .inl rfl⟩
 ·obtain ⟨v', w', hr, h2, h3, _, h5⟩ := run_append_own_at (P := P) w d t ty e i z size bytes ht hi hz hsize hby hzs hsz (.slice (some ⟨d, 0, none⟩) 0 0) 0 [] hown ad n cap xs hl (fun j u hu => by
   obtain ⟨g, off, ha, h0⟩ := hc j u hu
   cases ha
   rw [show (⟨g, off, none⟩ : Addr).add j = ⟨g, off + j, none⟩ by unfold Addr.add; split <;> simp_all]
   exact h0) h1 (by omega) (by rw [Nat.zero_add]; exact hbytes) (by omega)
  rw [Nat.zero_add, List.nil_append] at h2
  exact ⟨v', w', hr, h2, h3, h5⟩
structure Laid2 (e : TypeId) (size : Nat) (w : World) (v : Value) (n : Nat) (xs : List Value) (w' : World) : Prop where
 own : w'.ownsRow w.heap.size e size v n xs
 below : Below w.heap.size w w'
theorem Laid2.blk {e : TypeId} {size : Nat} {w : World} {v : Value} {n : Nat} {xs : List Value} {w' : World} (h : Laid2 e size w v n xs w') : ∀ k ∈ blk v, w.heap.size ≤ k := ZnH h.own
theorem Zdn (w : World) (t ty ty2 e : TypeId) (i : TypeInfo) (z : Value) (size bytes : Nat) (ht : P.underlying t = some (.slice e)) (hi : P.info? e = some i) (hz : i.zero = some z)
 (hsize : i.size = size) (hby : i.bytes = bytes) (hzs : z.cells.size = size) (hsz : 0 < size) {v : Value} {n : Nat} {xs us : List Value} (hs : SrcAt size w v n xs)
 (h1 : ∀ u ∈ xs, u.oneCell' = true) (hul : us.length = size) (hu1 : ∀ u ∈ us, u.oneCell' = true) (hn : n < 1000000) (hbytes : (n + 1) * bytes ≤ 140737488355328) :
 (∃ v1 w4 g c w5, (Builtin.append_ #[t, t] ty #[.slice (some ⟨w.heap.size, 0, none⟩) 0 0, v]).run P (w.alloc (.cells #[] e)).drew = .ok v1 w4 ∧
   (Builtin.append_ #[t, t] ty2 #[v1, .slice (some ⟨w4.heap.size, 0, none⟩) 1 1]).run P (w4.alloc (.cells us.toArray e)) = .ok (.slice (some ⟨g, 0, none⟩) (n + 1) c) w5 ∧ Laid2 e size w (.slice (some ⟨g, 0, none⟩) (n + 1) c) (n + 1) (xs ++ us) w5 ∧ Below w.heap.size w w4) ∧
 (∃ v1 w4 g c w5, (Builtin.append_ #[t, t] ty #[.slice (some ⟨w.heap.size, 0, none⟩) 0 0, v]).run P ((w.alloc (.cells #[] e)).alloc (.cells us.toArray e)).drew = .ok v1 w4 ∧
   (Builtin.append_ #[t, t] ty2 #[v1, .slice (some ⟨w.heap.size + 1, 0, none⟩) 1 1]).run P w4 = .ok (.slice (some ⟨g, 0, none⟩) (n + 1) c) w5 ∧ Laid2 e size w (.slice (some ⟨g, 0, none⟩) (n + 1) c) (n + 1) (xs ++ us) w5 ∧ Below w.heap.size w w4) ∧
 (∃ v1 w4 g c w5, (Builtin.append_ #[t, t] ty #[.slice (some ⟨w.heap.size + 1, 0, none⟩) 0 0, v]).run P ((w.alloc (.cells us.toArray e)).alloc (.cells #[] e)).drew = .ok v1 w4 ∧
   (Builtin.append_ #[t, t] ty2 #[v1, .slice (some ⟨w.heap.size, 0, none⟩) 1 1]).run P w4 = .ok (.slice (some ⟨g, 0, none⟩) (n + 1) c) w5 ∧ Laid2 e size w (.slice (some ⟨g, 0, none⟩) (n + 1) c) (n + 1) (xs ++ us) w5 ∧ Below w.heap.size w w4) := by
 have a2 : ∀ (o1 o2 : Obj), ((w.alloc o1).alloc o2).heap[w.heap.size + 1]? = some o2 := fun o1 o2 => by
  have h := Zf (w := w.alloc o1) (o := o2)
  rwa [show (w.alloc o1).heap.size = w.heap.size + 1 by simp] at h
 have a1 : ∀ (o1 o2 : Obj), ((w.alloc o1).alloc o2).heap[w.heap.size]? = some o1 := fun o1 o2 => Zi Zf
 have bel : ∀ (o1 o2 : Obj), Below w.heap.size w ((w.alloc o1).alloc o2).drew := fun o1 o2 => ⟨rfl, rfl, rfl, by show _ ≤ ((w.alloc o1).alloc o2).heap.size; simp; omega, fun k hk => by show ((w.alloc o1).alloc o2).heap[k]? = _; rw [Below.heap_alloc _ _ _ (by simp; omega), Below.heap_alloc _ _ _ hk]⟩
 have snd : ∀ (d gu : Nat) (v1 : Value) (W w4 : World), W.ownsRow d e size v1 n xs → w.heap.size ≤ d → d ≤ W.heap.size → Below w.heap.size w W → (∀ j u, us[j]? = some u → W.cell? ⟨gu, j, none⟩ = some u) →
  ∃ g c w5, (Builtin.append_ #[t, t] ty2 #[v1, .slice (some ⟨gu, 0, none⟩) 1 1]).run P W = .ok (.slice (some ⟨g, 0, none⟩) (n + 1) c) w5 ∧ Laid2 e size w (.slice (some ⟨g, 0, none⟩) (n + 1) c) (n + 1) (xs ++ us) w5 := by
  intro d gu v1 W _ ho hd hdW hbW hcu
  obtain ⟨g, c, w5, hr, h2, h3, h4, h5⟩ := run_append_lies (P := P) (w := W) t ty2 d e i z size bytes ht hi hz hsize hby hzs hsz v1 n xs ho ⟨gu, 0, none⟩ 1 1 us (by omega) (fun j u hj => by
   rw [show (⟨gu, 0, none⟩ : Addr).add j = ⟨gu, j, none⟩ by unfold Addr.add; split <;> simp_all]
   exact hcu j u hj) hu1 (by omega) (by unfold maxLen; omega) hbytes hdW W.heap.size rfl
  refine ⟨g, c, w5, hr, Zap h2 hd, hbW.trans ⟨h3.os, h3.tape, h3.output, h3.size, fun k hk => h3.block k (Nat.lt_of_lt_of_le hk hbW.size) (fun e => ?_)⟩⟩
  have := Zl ho k e.symm
  omega
 refine ⟨?_, ?_, ?_⟩
 ·obtain ⟨v1, w4, hr, ho, hg, hat⟩ := ZbU (P := P) (w := (w.alloc (.cells #[] e)).drew) t ty e i z size bytes ht hi hz hsize hby hzs hsz (d := w.heap.size) Zf (v := v) (n := n) (xs := xs) (hs.below ⟨rfl, rfl, rfl, by show _ ≤ (w.alloc _).heap.size; simp, fun k hk => Below.heap_alloc _ _ _ hk⟩) h1 (by unfold maxLen; omega) (by rw [Nat.succ_mul] at hbytes; omega)
  have hb4 : Below w.heap.size w w4 := ⟨hg.os, hg.tape, hg.output, by have := hg.size; rw [show (w.alloc (.cells #[] e)).drew.heap.size = w.heap.size + 1 from by show (w.alloc _).heap.size = _; simp] at this; omega, fun k hk => (hg.block k (by show k < (w.alloc _).heap.size; simp; omega) (fun e => by simp at e; omega)).trans (Below.heap_alloc _ _ _ hk)⟩
  obtain ⟨g, c, w5, hr2, hL⟩ := snd w.heap.size w4.heap.size v1 (w4.alloc (.cells us.toArray e)) w4 (ho.alloc _) (Nat.le_refl _) (by have := hb4.size; simp; omega) (hb4.alloc hb4.size _) (fun j u hj => Zm (by simpa using hj))
  exact ⟨v1, w4, g, c, w5, hr, hr2, hL, hb4⟩
 ·obtain ⟨v1, w4, hr, ho, hg, hat⟩ := ZbU (P := P) (w := ((w.alloc (.cells #[] e)).alloc (.cells us.toArray e)).drew) t ty e i z size bytes ht hi hz hsize hby hzs hsz (d := w.heap.size) (a1 _ _) (v := v) (n := n) (xs := xs) (hs.below (bel _ _)) h1 (by unfold maxLen; omega) (by rw [Nat.succ_mul] at hbytes; omega)
  have hz2 : ((w.alloc (.cells #[] e)).alloc (.cells us.toArray e)).drew.heap.size = w.heap.size + 2 := by show ((w.alloc _).alloc _).heap.size = _; simp
  have hb4 : Below w.heap.size w w4 := (bel (.cells #[] e) (.cells us.toArray e)).trans ⟨hg.os, hg.tape, hg.output, by have := hg.size; omega, fun k hk => hg.block k (by omega) (fun e => by simp at e; omega)⟩
  obtain ⟨g, c, w5, hr2, hL⟩ := snd w.heap.size (w.heap.size + 1) v1 w4 w4 ho (Nat.le_refl _) hb4.size hb4 (fun j u hj => by
   have h0 : w4.heap[w.heap.size + 1]? = some (.cells us.toArray e (0, 0)) := (hg.block (w.heap.size + 1) (by omega) (fun e => by simp at e)).trans (a2 _ _)
   exact Za h0 (by simpa using hj))
  exact ⟨v1, w4, g, c, w5, hr, hr2, hL, hb4⟩
 ·obtain ⟨v1, w4, hr, ho, hg, hat⟩ := ZbU (P := P) (w := ((w.alloc (.cells us.toArray e)).alloc (.cells #[] e)).drew) t ty e i z size bytes ht hi hz hsize hby hzs hsz (d := w.heap.size + 1) (a2 _ _) (v := v) (n := n) (xs := xs) (hs.below (bel _ _)) h1 (by unfold maxLen; omega) (by rw [Nat.succ_mul] at hbytes; omega)
  have hz2 : ((w.alloc (.cells us.toArray e)).alloc (.cells #[] e)).drew.heap.size = w.heap.size + 2 := by show ((w.alloc _).alloc _).heap.size = _; simp
  have hb4 : Below w.heap.size w w4 := (bel (.cells us.toArray e) (.cells #[] e)).trans ⟨hg.os, hg.tape, hg.output, by have := hg.size; omega, fun k hk => hg.block k (by omega) (fun e => by simp at e; omega)⟩
  obtain ⟨g, c, w5, hr2, hL⟩ := snd (w.heap.size + 1) w.heap.size v1 w4 w4 ho (by omega) (by have := hg.size; omega) hb4 (fun j u hj => by
   have h0 : w4.heap[w.heap.size]? = some (.cells us.toArray e (0, 0)) := (hg.block w.heap.size (by omega) (fun e => by simp at e)).trans (a1 _ _)
   exact Za h0 (by simpa using hj))
  exact ⟨v1, w4, g, c, w5, hr, hr2, hL, hb4⟩
end
def SGen (b : Nat) (w0 : World) (cs : List (Addr × Value)) (w : World) : Prop := Fr [b] w0 w ∧ ∀ p ∈ cs, w.cell? p.1 = some p.2
theorem SGen.alloc {b : Nat} {w0 w : World} {cs : List (Addr × Value)} (h : SGen b w0 cs w) (o : Obj) : SGen b w0 cs (w.alloc o) :=
 ⟨h.1.alloc o, fun p hp => Zc box_below (h.2 p hp)⟩
theorem SGen.drew {b : Nat} {w0 w : World} {cs : List (Addr × Value)} (h : SGen b w0 cs w) : SGen b w0 cs w.drew := ⟨h.1.drew, h.2⟩
theorem SGen.grown {b : Nat} {w0 w w' : World} {cs : List (Addr × Value)} {row : Option Nat} (h : SGen b w0 cs w) (hg : w.grownBy w' row) (hr : ∀ k, row = some k → w0.heap.size ≤ k) (hc : ∀ p ∈ cs, p.1.block < w0.heap.size) : SGen b w0 cs w' :=
 ⟨h.1.grown hg (fun k hk => .inr (hr k hk)), fun p hp => by
   have hlt := World.block_lt_of_cell? w _ (h.2 p hp)
   rw [World.cell?_of_block (w := w) (hg.block _ hlt (fun e => by have := hr _ e.symm; have := hc p hp; omega))]
   exact h.2 p hp⟩
theorem SGen.store {b : Nat} {w0 w : World} {cs : List (Addr × Value)} (h : SGen b w0 cs w) (i : Nat) (v : Value) (hc : ∀ p ∈ cs, p.1 ≠ ⟨b, i, none⟩) : SGen b w0 cs (w.setCell ⟨b, i, none⟩ v) :=
 ⟨h.1.setCell (.inl (by simp)) v, fun p hp => by rw [World.cell?_setCell_other (h := Ne.symm (hc p hp))]; exact h.2 p hp⟩
theorem ZbA {w : World} {v : Value} {l : List It} (h : ItsAt w v l) {k : Nat} {x : It} (hx : l[k]? = some x) : ∃ g off cap, v = .slice (some ⟨g, off, none⟩) l.length cap ∧ w.cell? ⟨g, off + k * 2, none⟩ = some (.int .i64 x.id) ∧ w.cell? ⟨g, off + k * 2 + 1, none⟩ = some (.int .i64 x.cost) := by
 obtain ⟨a, cap, rfl, hc⟩ := h
 have key : ∀ i u, (encI x)[i]? = some u → (flatI l)[k * 2 + i]? = some u := fun i u hu => by
  have hi : i < 2 := (List.getElem?_eq_some_iff.1 hu).1
  unfold flatI
  rw [Zbf encI 2 ZfB i hx hi]
  exact hu
 obtain ⟨g, off, rfl, h0⟩ := hc _ _ (key 0 _ rfl)
 obtain ⟨g', off', he, h1⟩ := hc _ _ (key 1 _ rfl)
 cases he
 exact ⟨g, off, cap, rfl, h0, by rw [Nat.add_assoc]; exact h1⟩
theorem ZN {w : World} {v : Value} {l : List It} (h : ItsAt w v l) : ∃ a cap, v = .slice a l.length cap := by
 obtain ⟨a, cap, rfl, _⟩ := h
 exact ⟨a, cap, rfl⟩
theorem ZnL {w : World} {v : Value} {l : List It} (h : ItsAt w v l) : SrcAt 2 w v l.length (flatI l) := by
 obtain ⟨a, cap, rfl, hc⟩ := h
 exact ⟨a, cap, rfl, ZgJ l, hc⟩
theorem ZnM (w : World) : ItsAt w (.slice none 0 0) [] := ⟨none, 0, rfl, fun j u hu => by simp [flatI] at hu⟩
def Zb8 (id : Int) (l : List It) : Int := match l.findIdx? (fun x => x.id == id) with
 | some i => i
 | none => -1
theorem ZgK {id : Int} : ∀ {l : List It} {k : Nat} {x : It}, l[k]? = some x → x.id = id → (∀ j y, j < k → l[j]? = some y → y.id ≠ id) → l.findIdx? (fun x => x.id == id) = some k
 | [], _, _, h, _, _ => by simp at h
 | y :: r, 0, x, h, hp, _ => by
   simp at h
   subst h
   simp [List.findIdx?_cons, hp]
 | y :: r, k + 1, x, h, hp, hn => by
   have h0 := hn 0 y (by omega) rfl
   have ih := ZgK (l := r) (k := k) (by simpa using h) hp (fun j z hj hz => hn (j + 1) z (by omega) (by simpa using hz))
   simp [List.findIdx?_cons, h0] at ih ⊢
   exact ih
theorem Zi1 {id : Int} {l : List It} (hn : ∀ j y, j < l.length → l[j]? = some y → y.id ≠ id) : l.findIdx? (fun x => x.id == id) = none := by
 rw [List.findIdx?_eq_none_iff]
 intro x hx
 obtain ⟨j, hj, rfl⟩ := List.getElem_of_mem hx
 have := hn j _ hj (List.getElem?_eq_getElem hj)
 simpa using this
theorem ZfT {id : Int} {l : List It} : (0 ≤ Zb8 id l ↔ hasIt id l = true) := by
 unfold Zb8
 rcases h : l.findIdx? (fun x => x.id == id) with _ | k
 ·have : hasIt id l = false := by
   unfold hasIt
   rw [List.any_eq_false]
   intro x hx
   have := List.findIdx?_eq_none_iff.1 h x hx
   simpa using this
  simp only [h, this]
  simp
 ·obtain ⟨hk, hp, _⟩ := List.findIdx?_eq_some_iff_getElem.1 h
  have : hasIt id l = true := ZbJ.2 ⟨k, l[k], List.getElem?_eq_getElem hk, by simpa using hp⟩
  simp only [h, this]
  simp
set_option maxRecDepth 100000 in
set_option maxHeartbeats 1000000 in
theorem Zi2 (id : Int) (v : Value) (l : List It) (w : World) (h : ItsAt w v l) (hf : l.length ≤ 1000000) : Calls Tryz.prog 126 #[v, .int .i64 id] w fun e w' => e = .returned (.int .i64 (Zb8 id l)) ∧ w = w' := by
 have HI := Lib.hid h
 obtain ⟨a, cap, rfl⟩ := ZN h
 clear h
 go_enter Tryz.func126, Tryz.ntmps126
 go_wp2
 go_loopg [5] l.length (fun g i wr => ∃ k : Nat, g = l.length - k ∧ i = .int .i64 k ∧ k ≤ l.length ∧ (∀ j y, j < k → l[j]? = some y → y.id ≠ id) ∧ wr = w)
 case atStart => exact ⟨0, rfl, rfl, Nat.zero_le _, (fun j y hj => by omega), rfl⟩
 case round =>
  obtain ⟨k, hg, rfl, hk, hn, rfl⟩ := hrel
  have HG := Lib.hid hg
  have HN := Lib.hid hn
  clear hg hn
  by_cases hlt : k < l.length
  ·obtain ⟨x, hx⟩ : ∃ x, l[k]? = some x := ⟨_, List.getElem?_eq_getElem hlt⟩
   obtain ⟨g, off, cap', hv, c0, c1⟩ := ZbA HI.out hx
   cases hv
   have HX := Lib.hid hx
   have hkl : (k : Int) < (l.length : Int) := by omega
   clear hx c1
   by_cases hp : x.id = id
   ·have HP := Lib.hid (show Zb8 id l = k by unfold Zb8; rw [ZgK HX.out hp HN.out])
    have hpb : (x.id == id) = true := beq_iff_eq.2 hp
    clear hp
    go_wp2_with fail
    go_ret
    exact ⟨ZM HP.out.symm, rfl⟩
   ·have HP := Lib.hid hp
    have hpb : (x.id == id) = false := beq_eq_false_iff_ne.2 hp
    clear hp
    go_wp2_with fail
    go_roundg (l.length - (k + 1))
    case rel =>
     refine ⟨k + 1, rfl, by go_num, by omega, fun j y hj hy => ?_, rfl⟩
     rcases Nat.lt_or_ge j k with h | h
     ·exact HN.out j y h hy
     ·obtain rfl : j = k := by omega
      obtain rfl : x = y := Option.some.inj (HX.out.symm.trans hy)
      exact HP.out
    case measure => have := HG.out; omega
  ·have HP := Lib.hid (show Zb8 id l = -1 by unfold Zb8; rw [Zi1 (fun j y hj hy => HN.out j y (by omega) hy)])
   go_wp2_with fail
   go_ret
   exact ⟨ZM HP.out.symm, rfl⟩
theorem ZcN {P : Program} {ops : Array Oper} {rest : List Oper} {o : Oper} {a : Act} {w : World} {Q : Exit → Act → World → Prop}
 (hgd : o.guard = none) (s x : Operand) (t : TypeId) (hop : o.op = Op.call { callee := Callee.builtin Builtin.append, args := #[s, x], argTypes := #[t, t] })
 (e : TypeId) (i : TypeInfo) (z : Value) (size bytes : Nat) (ht : P.underlying t = some (.slice e)) (hi : P.info? e = some i) (hz : i.zero = some z)
 (hsize : i.size = size) (hby : i.bytes = bytes) (hzs : z.cells.size = size) (hsz : 0 < size) (d : Nat) (hs : a.eval s = .slice (some ⟨d, 0, none⟩) 0 0) (hd : w.heap[d]? = some (.cells #[] e (0, 0)))
 (v : Value) (n : Nat) (xs : List Value) (hx : a.eval x = v) (hsrc : SrcAt size w v n xs) (h1 : ∀ u ∈ xs, u.oneCell' = true) (h63 : n ≤ maxLen) (hbytes : n * bytes ≤ 140737488355328)
 (hK : ∀ v' w', w'.ownsRow d e size v' n xs → w.grownBy w' (some d) → (v'.ownBlock = some d ∨ v'.ownBlock = some w.heap.size) → wpList P ops Q rest (a.put o.dst v') w') : wpList P ops Q (o :: rest) a w := by
 refine wpList_plain hgd fun K' hK' => ?_
 obtain ⟨v', w', hrun, h2, h3, h4⟩ := ZbU (P := P) t o.type e i z size bytes ht hi hz hsize hby hzs hsz hd hsrc h1 h63 hbytes
 unfold Oper.wp
 simp [execOp, hop, resolve, invoke, builtin, hs, hx, hrun, Result.andThen]
 exact hK' _ _ (hK v' w' h2 h3 h4)
theorem Zln (l : List It) : ∀ u ∈ flatI l, u.oneCell' = true := by
 intro u hu
 obtain ⟨x, _, hx⟩ := List.mem_flatMap.1 hu
 simp [encI] at hx
 rcases hx with rfl | rfl <;> rfl
def Zlo (v : Value) (l : List It) (x : It) (w : World) (e : Ending) (w' : World) : Prop := ∃ v', e = .returned (.tuple #[v', .int .i64 (itE l x)]) ∧ ItsAt w' v' (if itE l x = 0 then l ++ [x] else l) ∧ (v' = v ∨ ∀ j, v'.ownBlock = some j → w.heap.size ≤ j ∧ j < w'.heap.size) ∧ Below w.heap.size w w'
set_option maxRecDepth 100000 in
set_option maxHeartbeats 2000000 in
theorem Zfb (v : Value) (l : List It) (x : It) (w : World) (h : ItsAt w v l) (hf : l.length < 1000000) : Calls Tryz.prog 124 #[v, .agg #[.int .i64 x.id, .int .i64 x.cost]] w (Zlo v l x w) := by
 have HI := Lib.hid h
 obtain ⟨a, cap, rfl⟩ := ZN h
 have HF := Lib.hid hf
 clear h hf
 by_cases hb : x.id < 1 ∨ x.cost < 1 ∨ 64 < x.cost
 ·have HE := Lib.hid (show itE l x = 1 by unfold itE; rw [if_pos hb])
  have hb2 : x.id < 1 ∨ (¬ x.id < 1 ∧ x.cost < 1) ∨ (¬ x.id < 1 ∧ ¬ x.cost < 1 ∧ 64 < x.cost) := by omega
  clear hb
  go_enter Tryz.func124, Tryz.ntmps124
  go_upto_region 1 with fail
  rcases hb2 with h1 | ⟨h1, h2⟩ | ⟨h1, h2, h3⟩
  all_goals
   go_wp2_with fail
   refine bodyPost_ret (v := .tuple #[.slice a l.length cap, .int .i64 1]) (by simp [results, Tryz.results124, go_sem]) rfl ⟨_, by rw [HE.out], ?_, .inl rfl, box_below⟩
   rw [HE.out, if_neg (by decide)]
   exact HI.out.below box_below
 ·have h1 : ¬ x.id < 1 := by omega
  have h2 : ¬ x.cost < 1 := by omega
  have h3 : ¬ 64 < x.cost := by omega
  have HB := Lib.hid hb
  clear hb
  go_enter Tryz.func124, Tryz.ntmps124
  go_wp2_with fail
  refine (Zi2 x.id _ l _ (HI.out.below box_below) (by have := HF.out; omega)).mono ?_
  rintro e w1 ⟨rfl, rfl⟩
  rcases hh : hasIt x.id l with _ | _
  ·have HE := Lib.hid (show itE l x = 0 by unfold itE; rw [if_neg HB.out, hh]; rfl)
   have hp : ¬ 0 ≤ Zb8 x.id l := fun h => by rw [ZfT, hh] at h; cases h
   obtain ⟨i0, hi0, hz0, hz1, hz2⟩ := info_parts Zcq
   have hs1 := Lib.hid (ZnL ((HI.out.below (box_below (o := .cells #[.int .i64 x.id, .int .i64 x.cost] 132))).below (box_below (o := .cells #[] 132))))
   have hl1 : l.length ≤ maxLen := by have := HF.out; unfold maxLen; omega
   have hl2 : l.length * 16 ≤ 140737488355328 := by have := HF.out; omega
   have hl3 : l.length < 140737488355328 := by have := HF.out; omega
   have hl4 : (l.length + 1) * 16 ≤ 140737488355328 := by have := HF.out; omega
   clear hh
   go_upto_region 6 with (at_builtin; refine ZcN rfl _ _ 141 rfl 132 i0 _ 2 16 Tryz.underlying141 hi0 hz0 hz1 hz2 rfl (by decide) (w.heap.size + 1) (by simp [Act.eval]) (ZX w _ _) (.slice a l.length cap) l.length (flatI l) rfl hs1.out (Zln l) hl1 hl2 ?_; intro v1 w2 ho2 hg2 hat2)
   have hb2 : Below w.heap.size w w2 := ((box_below (w := w) (o := .cells #[.int .i64 x.id, .int .i64 x.cost] 132)).alloc (by simp) (.cells #[] 132)).trans ⟨hg2.os, hg2.tape, hg2.output, hg2.size, fun k hk => hg2.block k (by simp; omega) (fun e => by simp at e; omega)⟩
   have hx2 : w2.heap[w.heap.size]? = some (.cells #[.int .i64 x.id, .int .i64 x.cost] 132 (0, 0)) := (hg2.block w.heap.size (by simp; omega) (fun e => by simp at e)).trans (Zi Zf)
   have hz2' : w.heap.size + 1 ≤ w2.heap.size := Zb hx2
   have x0 : w2.cell? ⟨w.heap.size, 0, none⟩ = some (.int .i64 x.id) := Za hx2 rfl
   have x1 : w2.cell? ⟨w.heap.size, 1, none⟩ = some (.int .i64 x.cost) := Za hx2 rfl
   have HB2 := Lib.hid hb2
   have HO2 := Lib.hid ho2
   clear hg2 hat2 hx2 hb2 ho2 hi0 hz0 hz1 hz2 hl1 hl2
   go_wp2_with (at_builtin; refine Zv (us := #[.int .i64 x.id, .int .i64 x.cost]) rfl _ _ 141 rfl (w.heap.size + 1) _ 2 16 Tryz.underlying141 Zcq rfl (by decide) v1 l.length (flatI l) rfl HO2.out rfl rfl (by simp [Value.oneCell']) ?c1 ?c2 ?c3 ?_; (case c1 => exact hz2'); (case c2 => exact hl3); (case c3 => exact hl4); intro gg gcap w3 ho3 hg3 hat3)
   refine bodyPost_ret (v := .tuple #[.slice (some ⟨gg, 0, none⟩) (l.length + 1) gcap, .int .i64 0]) (by simp [results, Tryz.results124, go_sem]) rfl ⟨_, by rw [HE.out], ?_, .inr (fun j hj => ⟨by have := Zl ho3 j hj; omega, Zll ho3 j (ZeL.2 hj)⟩), ?_⟩
   ·rw [HE.out, if_pos rfl]
    refine ItsAt.own (base := w.heap.size + 1) ?_
    rw [List.length_append, ZdC]
    exact ho3
   ·exact HB2.out.trans ⟨hg3.os, hg3.tape, hg3.output, hg3.size, fun k hk => hg3.block k (by omega) (fun e => by have := Zl HO2.out k e.symm; omega)⟩
  ·have HE := Lib.hid (show itE l x = 8 by unfold itE; rw [if_neg HB.out, hh]; rfl)
   have hp : 0 ≤ Zb8 x.id l := ZfT.2 hh
   clear hh
   go_wp2_with fail
   refine bodyPost_ret (v := .tuple #[.slice a l.length cap, .int .i64 8]) (by simp [results, Tryz.results124, go_sem]) rfl ⟨_, by rw [HE.out], ?_, .inl rfl, box_below⟩
   rw [HE.out, if_neg (by decide)]
   exact HI.out.below box_below
theorem ZgL (l : List It) (x : It) (id : Int) : Zam (l ++ [x]) id = Zam l id ++ (if x.id = id then [] else [x]) := by
 unfold Zam
 rw [List.filter_append]
 congr 1
 by_cases h : x.id = id <;> simp [h]
set_option maxRecDepth 100000 in
set_option maxHeartbeats 2000000 in
theorem Zi3 (id : Int) (v : Value) (l : List It) (w : World) (h : ItsAt w v l) (hf : l.length ≤ 1000000) : Calls Tryz.prog 127 #[v, .int .i64 id] w (ZjR (Zam l id) w) := by
 have HI := Lib.hid h
 obtain ⟨a, cap, rfl⟩ := ZN h
 have HF := Lib.hid hf
 clear h hf
 go_enter Tryz.func127, Tryz.ntmps127
 go_wp2_with fail
 go_loopg [6, 5] l.length (fun g i ov wr => ∃ k : Nat, g = l.length - k ∧ i = .int .i64 k ∧ k ≤ l.length ∧ wr.ownsRow w.heap.size 132 2 ov (Zam (l.take k) id).length (flatI (Zam (l.take k) id)) ∧ Below w.heap.size w wr)
 case atStart => exact ⟨0, rfl, rfl, Nat.zero_le _, Zal (Nat.le_refl _), box_below⟩
 case round =>
  obtain ⟨k, hg, rfl, hk, ho, hb⟩ := hrel
  have HG := Lib.hid hg
  have HO := Lib.hid ho
  have HB := Lib.hid hb
  clear hg ho hb
  by_cases hlt : k < l.length
  ·obtain ⟨x, hx⟩ : ∃ x, l[k]? = some x := ⟨_, List.getElem?_eq_getElem hlt⟩
   obtain ⟨g, off, cap', hv, c0, c1⟩ := ZbA (HI.out.below HB.out) hx
   cases hv
   have HT := Lib.hid (show l.take (k + 1) = l.take k ++ [x] by rw [List.take_succ_eq_append_getElem hlt, (List.getElem?_eq_some_iff.1 hx).2])
   have hkl : (k : Int) < (l.length : Int) := by omega
   have hdl : (Zam (l.take k) id).length ≤ k := Nat.le_trans (List.length_filter_le _ _) (by rw [List.length_take]; omega)
   have hc1 : w.heap.size ≤ wr.heap.size := HB.out.size
   have hf := HF.out
   have hc2 : (Zam (l.take k) id).length < 140737488355328 := by omega
   have hc3 : ((Zam (l.take k) id).length + 1) * 16 ≤ 140737488355328 := by omega
   clear hx
   by_cases hp : x.id = id
   ·have hpb : (x.id != id) = false := by simp [hp]
    have HD := Lib.hid (show Zam (l.take (k + 1)) id = Zam (l.take k) id by rw [HT.out, ZgL, if_pos hp, List.append_nil])
    clear hp
    go_wp2_with fail
    go_roundg (l.length - (k + 1))
    case rel => exact ⟨k + 1, rfl, by go_num, by omega, by rw [HD.out]; exact HO.out, HB.out⟩
    case measure => have := HG.out; omega
   ·have hpb : (x.id != id) = true := by simp [hp]
    have HD := Lib.hid (show Zam (l.take (k + 1)) id = Zam (l.take k) id ++ [x] by rw [HT.out, ZgL, if_neg hp])
    clear hp
    obtain ⟨D, hD⟩ : ∃ D, D = Zam (l.take k) id := ⟨_, rfl⟩
    rw [← hD] at hc2 hc3 HO HD
    clear hD hdl
    go_wp2_with (at_builtin; refine Zv (us := #[.int .i64 x.id, .int .i64 x.cost]) rfl _ _ 141 rfl w.heap.size _ 2 16 Tryz.underlying141 Zcq rfl (by decide) u5 D.length (flatI D) rfl HO.out rfl rfl (by simp [Value.oneCell']) ?c1 ?c2 ?c3 ?_; (case c1 => exact hc1); (case c2 => exact hc2); (case c3 => exact hc3); intro gg gcap w3 ho3 hg3 hat3)
    have HO3 := Lib.hid ho3
    have HB3 := Lib.hid (HB.out.trans ⟨hg3.os, hg3.tape, hg3.output, hg3.size, fun j hj => hg3.block j (by omega) (fun e => by have := Zl HO.out j e.symm; omega)⟩ : Below w.heap.size w w3)
    clear ho3 hg3 hat3
    go_roundg (l.length - (k + 1))
    case rel => exact ⟨k + 1, rfl, by go_num, by omega, by rw [HD.out, List.length_append, ZdC]; exact HO3.out, HB3.out⟩
    case measure => have := HG.out; omega
  ·have hkk : l.take k = l := List.take_of_length_le (by omega)
   have HKK := Lib.hid hkk
   clear hkk
   go_wp2_with fail
   go_ret
   exact ⟨u5, rfl, by have h := HO.out; rw [HKK.out] at h; exact h, HB.out⟩
set_option maxRecDepth 100000 in
set_option maxHeartbeats 2000000 in
theorem Zi4 (u v : Value) (l m : List It) (w : World) (h : ItsAt w u l) (h' : ItsAt w v m) (hf : l.length ≤ 1000000) (hf' : m.length ≤ 1000000) : Calls Tryz.prog 129 #[u, v] w fun e w' => e = .returned (.bool (decide (l = m))) ∧ Below w.heap.size w w' := by
 have HI := Lib.hid h
 have HJ := Lib.hid h'
 obtain ⟨a, cap, rfl⟩ := ZN h
 obtain ⟨b, cap2, rfl⟩ := ZN h'
 have HF := Lib.hid hf
 clear h h' hf
 by_cases hl : l.length = m.length
 ·have hle : ((l.length : Int) != (m.length : Int)) = false := by simp [hl]
  have HL := Lib.hid hl
  go_enter Tryz.func129, Tryz.ntmps129
  go_wp2_with fail
  go_loopg [5] l.length (fun g i wr => ∃ k : Nat, g = l.length - k ∧ i = .int .i64 k ∧ k ≤ l.length ∧ l.take k = m.take k ∧ Below w.heap.size w wr)
  case atStart => exact ⟨0, rfl, rfl, Nat.zero_le _, rfl, Below.refl _ _⟩
  case round =>
   obtain ⟨k, hg, rfl, hk, hn, hb⟩ := hrel
   have HG := Lib.hid hg
   have HN := Lib.hid hn
   have HB := Lib.hid hb
   clear hg hn hb
   by_cases hlt : k < l.length
   ·have hlt2 : k < m.length := by have := HL.out; omega
    obtain ⟨x, hx⟩ : ∃ x, l[k]? = some x := ⟨_, List.getElem?_eq_getElem hlt⟩
    obtain ⟨y, hy⟩ : ∃ y, m[k]? = some y := ⟨_, List.getElem?_eq_getElem hlt2⟩
    obtain ⟨g, off, cap', hv, c0, c1⟩ := ZbA (HI.out.below HB.out) hx
    cases hv
    obtain ⟨g', off', cap', hv, d0, d1⟩ := ZbA (HJ.out.below HB.out) hy
    cases hv
    have HX := Lib.hid hx
    have HY := Lib.hid hy
    have hkl : (k : Int) < (l.length : Int) := by omega
    have hkm : (k : Int) < (m.length : Int) := by omega
    clear hx hy
    by_cases hp : x = y
    ·have hxy : x.id = y.id ∧ x.cost = y.cost := by rw [hp]; exact ⟨rfl, rfl⟩
     rw [← hxy.1] at d0
     rw [← hxy.2] at d1
     have HP := Lib.hid hp
     clear hp hxy
     go_upto_region 6 with fail
     go_quiet (fail)
     go_wp2_with fail
     go_roundg (l.length - (k + 1))
     case rel =>
      refine ⟨k + 1, rfl, by go_num, by omega, ?_, ZO HB.out _⟩
      rw [List.take_succ_eq_append_getElem hlt, List.take_succ_eq_append_getElem hlt2, HN.out, (List.getElem?_eq_some_iff.1 HX.out).2, (List.getElem?_eq_some_iff.1 HY.out).2, HP.out]
     case measure => have := HG.out; omega
    ·have HP := Lib.hid (show decide (l = m) = false from decide_eq_false (fun e => hp (by
      have h := HX.out
      rw [e, HY.out] at h
      exact (Option.some.inj h).symm)))
     by_cases h1 : x.id = y.id
     ·have h2 : (x.cost == y.cost) = false := beq_eq_false_iff_ne.2 (fun h2 => hp (by
       cases x
       cases y
       simp at h1 h2
       rw [h1, h2]))
      rw [← h1] at d0
      clear hp h1
      go_upto_region 6 with fail
      go_region
      go_wp2_with fail
      go_ret
      exact ⟨Zo HP.out.symm, ZO HB.out 1⟩
     ·have h2 : (x.id == y.id) = false := beq_eq_false_iff_ne.2 h1
      clear hp h1
      go_upto_region 6 with fail
      go_quiet (fail)
      go_wp2_with fail
      go_ret
      exact ⟨Zo HP.out.symm, ZO HB.out _⟩
   ·have HP := Lib.hid (show decide (l = m) = true from decide_eq_true (by
     have h := HN.out
     have := HL.out
     rwa [List.take_of_length_le (by omega), List.take_of_length_le (by omega)] at h))
    go_wp2_with fail
    go_ret
    exact ⟨Zo HP.out.symm, HB.out⟩
 ·have hle : ((l.length : Int) != (m.length : Int)) = true := by simp; omega
  have HP := Lib.hid (show decide (l = m) = false from decide_eq_false (fun e => hl (by rw [e])))
  clear hl
  go_enter Tryz.func129, Tryz.ntmps129
  go_wp2_with fail
  go_ret
  exact ⟨Zo HP.out.symm, Below.refl _ _⟩
end Go.Proofs.YtdbjihkgafhakaaGreatDoor
