/-
 law17.PoolLoads: what came in, and what it measures.
-/
import Derived.Test.YtdbjihkgafhakaaGreatDoorSl16
import Derived.Test.YtdbjihkgafhakaaGreatDoorSl27
namespace Go.Proofs.YtdbjihkgafhakaaGreatDoor
open Go.ChangeShapes Go.WideShapes Go.ChangeAt Go.RowKit Go.Deep
def ZeW (p : FRow × Value) : Prop := I64 p.1.id ∧ ∀ y ∈ p.1.its, I64 y.id
def ZeX (p : DV) : Prop := I64 p.1.id ∧ ∀ r ∈ p.2.2.2, I64 r.1.id ∧ ∀ y ∈ r.1.its, I64 y.id
theorem Zmt {α : Type} (f : α → Nat) (h : ∀ x, 2 ≤ f x) : ∀ l : List α, 2 * l.length ≤ (l.map f).sum
 | [] => Nat.le_refl _
 | x :: r => by
   have h1 := Zmt f h r
   have h2 := h x
   simp only [List.map_cons, List.sum_cons, List.length_cons]
   omega
theorem ZiJ {H : Type} (d : DataW H) : 1 ≤ Rows.uptoBulk d := by
 cases d with
 | lit l => cases l <;> simp [Rows.uptoBulk]
 | nil => simp [Rows.uptoBulk]
 | ptr d => simp [Rows.uptoBulk]
 | slice elems spare => simp [Rows.uptoBulk]
 | agg parts => simp [Rows.uptoBulk]
 | iface t d => simp [Rows.uptoBulk]
 | map entries => simp [Rows.uptoBulk]
 | held h => simp [Rows.uptoBulk]
theorem Zcj {H : Type} {d : DataW H} {l : List (DataW H)} (h : d ∈ l) : Rows.uptoBulk d + 1 ≤ Rows.uptoBulk (.agg l) := by
 have := ZfH h
 simp only [Rows.uptoBulk]
 omega
theorem Zj9 {α : Type} (f : α → Nat) (l : List α) : (l.map (fun x => 2 * f x)).sum = 2 * (l.map f).sum := by
 induction l with
 | nil => rfl
 | cons x r ih =>
   simp only [List.map_cons, List.sum_cons, ih]
   omega
theorem Zn6 {α : Type} (l : List α) : (l.map (fun _ => 1)).sum = l.length := by
 induction l with
 | nil => rfl
 | cons x r ih =>
   simp only [List.map_cons, List.sum_cons, ih, List.length_cons]
   omega
theorem ZiK {α H : Type} (m : α → Nat) (D : Nat → DataW H) : ∀ (l : List α) (n : Nat), (∀ i x, l[i]? = some x → m x ≤ Rows.uptoBulk (D (n + i))) → (l.map m).sum ≤ Rows.uptoBulkAll ((List.range' n l.length).map D)
 | [], n, _ => by simp
 | x :: r, n, h => by
   have h0 := h 0 x rfl
   have ih := ZiK m D r (n + 1) (fun i y hy => by
    have := h (i + 1) y hy
    rwa [show n + (i + 1) = n + 1 + i by omega] at this)
   simp only [List.map_cons, List.sum_cons, List.length_cons, List.range'_succ, Rows.uptoBulkAll]
   simp only [Nat.add_zero] at h0
   omega
section
variable {H : Type} {enc : TypeId × Value → H} {P : Program} {w : World} {base : Nat} {spare : Nat → Bool} {held : Bool}
theorem Zbl {α : Type} (en : α → List Value) (K : Nat) (hK : ∀ x, (en x).length = K) (h0 : 0 < K) (Q : α → Prop) (ms : α → Nat) {t e : TypeId} {fuel : Nat} {v : Value} {x : DataW H × List MemPlace} (ht : P.underlying t = some (.slice e)) (hC : P.cellsOf e = K)
 (dec : ∀ (n : Nat) (cs : List Value) (y : DataW H × List MemPlace), DataW.trod enc P w base spare held n e cs = some y → (∀ z ∈ y.1.weights P e, z ≤ 140737488351232) → ∃ x, cs = en x ∧ Q x ∧ ms x ≤ Rows.uptoBulk y.1)
 (hz : ∀ z ∈ x.1.weights P t, z ≤ 140737488351232) (h : DataW.trod enc P w base spare held fuel t [v] = some x) :
 ∃ (l : List α) (a : Option Addr) (cap : Nat), v = .slice a l.length cap ∧ l.length ≤ cap ∧ (∀ y ∈ l, Q y) ∧ (l.map ms).sum ≤ Rows.uptoBulk x.1 ∧
  ∀ (j : Nat) u, (l.flatMap en)[j]? = some u → ∃ g off, a = some ⟨g, off, none⟩ ∧ w.cell? ⟨g, off + j, none⟩ = some u := by
 rcases open_slice ht h with ⟨h1, h2⟩ | ⟨a, len, cap, m, n, D, Pl, hcs, hb, hl, hm, hmm, hx, hi⟩
 ·have : v = .slice none 0 0 := by simpa using h1
  subst this
  exact ⟨[], none, 0, rfl, Nat.le_refl _, (fun y hy => by cases hy), by simp, (fun j u hu => by simp at hu)⟩
 ·have : v = .slice (some a) len cap := by simpa using hcs
  subst this
  have hlm : len ≤ m := by rw [hmm]; split <;> omega
  have key : ∀ i, i < len → ∃ y : α, (Q y ∧ ms y ≤ Rows.uptoBulk (D i)) ∧ w.cells? base (a.add (i * K)) K = some (en y) := by
   intro i hil
   obtain ⟨cs', hc, ht'⟩ := hi i (by omega)
   rw [hC] at hc
   obtain ⟨y, rfl, hq⟩ := dec n cs' _ ht' (fun z hzz => hz z (by rw [hx]; exact ZcC ht (d := D i) (List.mem_map.2 ⟨i, List.mem_range.2 hil, rfl⟩) hzz))
   exact ⟨y, hq, hc⟩
  obtain ⟨l, hlen, hp⟩ := Zfu len _ key
  subst hlen
  refine ⟨l, some a, cap, rfl, hl, fun y hy => ?_, ?_, fun j u hu => ?_⟩
  ·obtain ⟨i, hi2, rfl⟩ := List.getElem_of_mem hy
   exact (hp i _ (List.getElem?_eq_getElem hi2)).1.1
  ·have hs := ZiK ms D l 0 (fun i x hx => by
    rw [Nat.zero_add]
    exact (hp i x hx).1.2)
   rw [hx]
   simp only [Rows.uptoBulk]
   rw [← List.range_eq_range'] at hs
   omega
  ·obtain ⟨y, hy, hu2⟩ := Zgh en K hK h0 hu
   have hc := (hp _ _ hy).2
   obtain ⟨_, hcl, hat⟩ := World.cells?_some hc
   have hm2 : j % K < K := Nat.mod_lt _ h0
   have h1 := hat (j % K) hm2
   rw [hu2] at h1
   obtain ⟨b, off, spot⟩ := a
   have hsp : spot = none := by
    have hl0 : 0 < l.length := Nat.lt_of_le_of_lt (Nat.zero_le _) (List.getElem?_eq_some_iff.1 hy).1
    have hc0 := (hp 0 _ (List.getElem?_eq_getElem hl0)).2
    obtain ⟨_, hcl0, hat0⟩ := World.cells?_some hc0
    have h2 := hat0 0 h0
    rw [List.getElem?_eq_getElem (show 0 < (en l[0]).length by rw [hK]; exact h0)] at h2
    simp only [Nat.zero_mul, Addr.add, if_true] at h2
    exact Zg6 h2
   subst hsp
   refine ⟨b, off, rfl, ?_⟩
   rw [← h1]
   congr 1
   have e : ∀ (o i : Nat), (⟨b, o, none⟩ : Addr).add i = ⟨b, o + i, none⟩ := fun o i => by unfold Addr.add; split <;> simp_all
   rw [e, e, Nat.add_assoc, Nat.mul_comm, Nat.div_add_mod]
end
section
variable {H : Type} {enc : TypeId × Value → H} {W : World} {base : Nat} {sp : Nat → Bool} {hd : Bool}
theorem ZiL : Tryz.prog.cellsOf 132 = 2 := by kernel_rfl
theorem Zhi : ∃ fs, Tryz.prog.underlying 132 = some (.struct fs) ∧ fs.size = 2 ∧ fs.toList.map (fun f => (f.type, f.offset)) = [(3, 0), (3, 1)] := ⟨_, Tryz.underlying132, by kernel_rfl, by kernel_rfl⟩
theorem ZiM : Tryz.prog.cellsOf 157 = 4 := by kernel_rfl
theorem Zmu : Tryz.prog.cellsOf 141 = 1 := by kernel_rfl
theorem Zmv : ∃ fs, Tryz.prog.underlying 157 = some (.struct fs) ∧ fs.size = 4 ∧ fs.toList.map (fun f => (f.type, f.offset)) = [(3, 0), (3, 1), (3, 2), (141, 3)] := ⟨_, Tryz.underlying157, by kernel_rfl, by kernel_rfl⟩
set_option maxRecDepth 100000 in
theorem Zol {n : Nat} {cs : List Value} {y : DataW H × List MemPlace} (h : DataW.trod enc Tryz.prog W base sp hd n 132 cs = some y) (_hz : ∀ z ∈ y.1.weights Tryz.prog 132, z ≤ 140737488351232) : ∃ x : It, cs = encI x ∧ I64 x.id := by
 obtain ⟨fs, hu, hsz, hfs⟩ := Zhi
 obtain ⟨ys, m, _, hy, hlen, hyl, hf⟩ := DataW.trod_struct hu h
 rw [ZiL] at hlen
 have hys (j : Nat) (hj : j < 2) : ys[j]? = some (ys[j]'(by omega)) := List.getElem?_eq_getElem (by omega)
 obtain ⟨u0, u1, rfl⟩ : ∃ u0 u1, cs = [u0, u1] := by
  match cs, hlen with
  | [u0, u1], _ => exact ⟨_, _, rfl⟩
 have key (j : Nat) (t : TypeId) (o : Nat) (ht : ([(3, 0), (3, 1)] : List (TypeId × Nat))[j]? = some (t, o)) (h1 : Tryz.prog.cellsOf t = 1) : DataW.trod enc Tryz.prog W base sp hd m t (([u0, u1].drop o).take 1) = ys[j]? := by
  obtain ⟨f, hj, rfl, rfl⟩ := Zak hfs ht
  have := hf j f hj
  rw [h1] at this
  exact this
 obtain ⟨k0, e0, w0⟩ := Z9 (key 0 _ _ rfl o_int) (hys 0 (by omega))
 obtain ⟨k1, e1, w1⟩ := Z9 (key 1 _ _ rfl o_int) (hys 1 (by omega))
 simp at e0 e1
 subst e0 e1
 exact ⟨⟨k0, k1⟩, rfl, w0⟩
theorem Zn7 {n : Nat} {cs : List Value} {y : DataW H × List MemPlace} (h : DataW.trod enc Tryz.prog W base sp hd n 132 cs = some y) : 2 ≤ Rows.uptoBulk y.1 := by
 obtain ⟨fs, hu, hsz, hfs⟩ := Zhi
 obtain ⟨ys, m, _, hy, hlen, hyl, hf⟩ := DataW.trod_struct hu h
 rw [hy]
 have h0 : ys[0]? = some (ys[0]'(by omega)) := List.getElem?_eq_getElem (by omega)
 have h1 := Zcj (d := (ys[0]'(by omega)).1) (l := ys.map Prod.fst) (List.mem_map_of_mem (List.getElem_mem _))
 have h2 := ZiJ (ys[0]'(by omega)).1
 exact Nat.le_trans (Nat.succ_le_succ h2) h1
theorem Zmw {fuel : Nat} {v : Value} {x : DataW H × List MemPlace} (hz : ∀ z ∈ x.1.weights Tryz.prog 141, z ≤ 140737488351232) (h : DataW.trod enc Tryz.prog W base sp hd fuel 141 [v] = some x) : ∃ l, ItsAt W v l ∧ (∀ y ∈ l, I64 y.id) ∧ 2 * l.length ≤ Rows.uptoBulk x.1 := by
 obtain ⟨l, a, cap, hv, _, hq, hs, hc⟩ := Zbl encI 2 ZfB (by decide) (fun x => I64 x.id) (fun _ => 2 * 1) Tryz.underlying141 ZiL (fun n cs y h1 h2 => by
  obtain ⟨z, e, hq⟩ := Zol h1 h2
  exact ⟨z, e, hq, Zn7 h1⟩) hz h
 refine ⟨l, ⟨a, cap, hv, hc⟩, hq, ?_⟩
 rw [Zj9, Zn6] at hs
 exact hs
set_option maxRecDepth 100000 in
theorem Zn8 {n : Nat} {cs : List Value} {y : DataW H × List MemPlace} (h : DataW.trod enc Tryz.prog W base sp hd n 157 cs = some y) (hz : ∀ z ∈ y.1.weights Tryz.prog 157, z ≤ 140737488351232) :
 ∃ p : FRow × Value, cs = encRV p ∧ (ItsAt W p.2 p.1.its ∧ ZeW p) ∧ 2 * p.1.its.length ≤ Rows.uptoBulk y.1 := by
 obtain ⟨fs, hu, hsz, hfs⟩ := Zmv
 obtain ⟨ys, m, _, hy, hlen, hyl, hf⟩ := DataW.trod_struct hu h
 rw [ZiM] at hlen
 have hys (j : Nat) (hj : j < 4) : ys[j]? = some (ys[j]'(by omega)) := List.getElem?_eq_getElem (by omega)
 obtain ⟨u0, u1, u2, u3, rfl⟩ : ∃ u0 u1 u2 u3, cs = [u0, u1, u2, u3] := by
  match cs, hlen with
  | [u0, u1, u2, u3], _ => exact ⟨_, _, _, _, rfl⟩
 have key (j : Nat) (t : TypeId) (o : Nat) (ht : ([(3, 0), (3, 1), (3, 2), (141, 3)] : List (TypeId × Nat))[j]? = some (t, o)) (h1 : Tryz.prog.cellsOf t = 1) : DataW.trod enc Tryz.prog W base sp hd m t (([u0, u1, u2, u3].drop o).take 1) = ys[j]? := by
  obtain ⟨f, hj, rfl, rfl⟩ := Zak hfs ht
  have := hf j f hj
  rw [h1] at this
  exact this
 obtain ⟨k0, e0, w0⟩ := Z9 (key 0 _ _ rfl o_int) (hys 0 (by omega))
 obtain ⟨k1, e1, w1⟩ := Z9 (key 1 _ _ rfl o_int) (hys 1 (by omega))
 obtain ⟨k2, e2, w2⟩ := Z9 (key 2 _ _ rfl o_int) (hys 2 (by omega))
 simp at e0 e1 e2
 have h3 := (key 3 _ _ rfl Zmu).trans (hys 3 (by omega))
 obtain ⟨f3, hj3, ht3, _⟩ := Zak hfs (j := 3) rfl
 obtain ⟨l, hl, hq, hm⟩ := Zmw (v := u3) (fun z hzz => hz z (by
  rw [hy]
  exact Zae hu hj3 (d := ys[3].1) (by simp [hys 3 (by omega)]) (by rw [ht3]; exact hzz))) h3
 subst e0 e1 e2
 refine ⟨(⟨k0, k1, k2, l⟩, u3), rfl, ⟨hl, w0, hq⟩, Nat.le_trans hm ?_⟩
 rw [hy]
 exact Nat.le_of_succ_le (Zcj (List.mem_map_of_mem (List.getElem_mem _)))
theorem Zmx {fuel : Nat} {v : Value} {x : DataW H × List MemPlace} (hz : ∀ z ∈ x.1.weights Tryz.prog 102, z ≤ 140737488351232) (h : DataW.trod enc Tryz.prog W base sp hd fuel 102 [v] = some x) : ∃ l, RowsAt W v l ∧ (∀ p ∈ l, ZeW p) ∧ 2 * totR (l.map Prod.fst) ≤ Rows.uptoBulk x.1 := by
 obtain ⟨l, a, cap, hv, hle, hq, hs, hc⟩ := Zbl encRV 4 Zct (by decide) (fun p => ItsAt W p.2 p.1.its ∧ ZeW p) (fun p => 2 * p.1.its.length) Tryz.underlying102 ZiM (fun n cs y h1 h2 => Zn8 h1 h2) hz h
 refine ⟨l, ⟨⟨a, cap, hv, hle, hc⟩, fun p hp => (hq p hp).1⟩, fun p hp => (hq p hp).2, ?_⟩
 unfold totR
 rw [List.map_map]
 rw [Zj9] at hs
 exact hs
theorem ZiN : Tryz.prog.cellsOf 104 = 3 := by kernel_rfl
theorem Zmy : Tryz.prog.cellsOf 102 = 1 := by kernel_rfl
theorem Zmz : Tryz.prog.cellsOf 4 = 1 := by kernel_rfl
theorem ZmA : ∃ fs, Tryz.prog.underlying 104 = some (.struct fs) ∧ fs.size = 3 ∧ fs.toList.map (fun f => (f.type, f.offset)) = [(3, 0), (102, 1), (4, 2)] := ⟨_, Tryz.underlying104, by kernel_rfl, by kernel_rfl⟩
theorem ZiO : Tryz.prog.cellsOf 106 = 6 := by kernel_rfl
theorem ZmB : ∃ fs, Tryz.prog.underlying 106 = some (.struct fs) ∧ fs.size = 4 ∧ fs.toList.map (fun f => (f.type, f.offset)) = [(3, 0), (3, 1), (3, 2), (104, 3)] := ⟨_, Tryz.underlying106, by kernel_rfl, by kernel_rfl⟩
theorem ZiP {n : Nat} {cs : List Value} {y : Option (DataW H × List MemPlace)} {ys : DataW H × List MemPlace} (h : DataW.trod enc Tryz.prog W base sp hd n 4 cs = y) (hy : y = some ys) : ∃ b : Bool, cs = [.bool b] := by
 subst hy
 obtain ⟨b, e, _⟩ := DataW.trod_bool Tryz.underlying4 h
 exact ⟨b, e⟩
set_option maxRecDepth 100000 in
theorem Zom {n : Nat} {cs : List Value} {y : DataW H × List MemPlace} (h : DataW.trod enc Tryz.prog W base sp hd n 104 cs = some y) (hz : ∀ z ∈ y.1.weights Tryz.prog 104, z ≤ 140737488351232) :
 ∃ (q : Int) (v : Value) (gv : Bool) (l : List (FRow × Value)), cs = [.int .i64 q, v, .bool gv] ∧ RowsAt W v l ∧ (∀ p ∈ l, ZeW p) ∧ 2 * totR (l.map Prod.fst) ≤ Rows.uptoBulk y.1 := by
 obtain ⟨fs, hu, hsz, hfs⟩ := ZmA
 obtain ⟨ys, m, _, hy, hlen, hyl, hf⟩ := DataW.trod_struct hu h
 rw [ZiN] at hlen
 have hys (j : Nat) (hj : j < 3) : ys[j]? = some (ys[j]'(by omega)) := List.getElem?_eq_getElem (by omega)
 obtain ⟨u0, u1, u2, rfl⟩ : ∃ u0 u1 u2, cs = [u0, u1, u2] := by
  match cs, hlen with
  | [u0, u1, u2], _ => exact ⟨_, _, _, rfl⟩
 have key (j : Nat) (t : TypeId) (o : Nat) (ht : ([(3, 0), (102, 1), (4, 2)] : List (TypeId × Nat))[j]? = some (t, o)) (h1 : Tryz.prog.cellsOf t = 1) : DataW.trod enc Tryz.prog W base sp hd m t (([u0, u1, u2].drop o).take 1) = ys[j]? := by
  obtain ⟨f, hj, rfl, rfl⟩ := Zak hfs ht
  have := hf j f hj
  rw [h1] at this
  exact this
 obtain ⟨k0, e0, w0⟩ := Z9 (key 0 _ _ rfl o_int) (hys 0 (by omega))
 obtain ⟨b2, e2⟩ := ZiP (key 2 _ _ rfl Zmz) (hys 2 (by omega))
 simp at e0 e2
 have h3 := (key 1 _ _ rfl Zmy).trans (hys 1 (by omega))
 obtain ⟨f3, hj3, ht3, _⟩ := Zak hfs (j := 1) rfl
 obtain ⟨l, hl, hq, hm⟩ := Zmx (v := u1) (fun z hzz => hz z (by
  rw [hy]
  exact Zae hu hj3 (d := ys[1].1) (by simp [hys 1 (by omega)]) (by rw [ht3]; exact hzz))) h3
 subst e0 e2
 refine ⟨k0, u1, b2, l, rfl, hl, hq, Nat.le_trans hm ?_⟩
 rw [hy]
 exact Nat.le_of_succ_le (Zcj (List.mem_map_of_mem (List.getElem_mem _)))
set_option maxRecDepth 100000 in
theorem Zon {n : Nat} {cs : List Value} {y : DataW H × List MemPlace} (h : DataW.trod enc Tryz.prog W base sp hd n 106 cs = some y) (hz : ∀ z ∈ y.1.weights Tryz.prog 106, z ≤ 140737488351232) :
 ∃ p : DV, cs = encDV p ∧ (InvAt W p ∧ ZeX p) ∧ 1 + 2 * totR p.1.rows ≤ Rows.uptoBulk y.1 := by
 obtain ⟨fs, hu, hsz, hfs⟩ := ZmB
 obtain ⟨ys, m, _, hy, hlen, hyl, hf⟩ := DataW.trod_struct hu h
 rw [ZiO] at hlen
 have hys (j : Nat) (hj : j < 4) : ys[j]? = some (ys[j]'(by omega)) := List.getElem?_eq_getElem (by omega)
 obtain ⟨u0, u1, u2, u3, u4, u5, rfl⟩ : ∃ u0 u1 u2 u3 u4 u5, cs = [u0, u1, u2, u3, u4, u5] := by
  match cs, hlen with
  | [u0, u1, u2, u3, u4, u5], _ => exact ⟨_, _, _, _, _, _, rfl⟩
 have key (j : Nat) (t : TypeId) (o k : Nat) (ht : ([(3, 0), (3, 1), (3, 2), (104, 3)] : List (TypeId × Nat))[j]? = some (t, o)) (h1 : Tryz.prog.cellsOf t = k) : DataW.trod enc Tryz.prog W base sp hd m t (([u0, u1, u2, u3, u4, u5].drop o).take k) = ys[j]? := by
  obtain ⟨f, hj, rfl, rfl⟩ := Zak hfs ht
  have := hf j f hj
  rw [h1] at this
  exact this
 obtain ⟨k0, e0, w0⟩ := Z9 (key 0 _ _ 1 rfl o_int) (hys 0 (by omega))
 obtain ⟨k1, e1, w1⟩ := Z9 (key 1 _ _ 1 rfl o_int) (hys 1 (by omega))
 obtain ⟨k2, e2, w2⟩ := Z9 (key 2 _ _ 1 rfl o_int) (hys 2 (by omega))
 simp at e0 e1 e2
 have h3 := (key 3 _ _ 3 rfl ZiN).trans (hys 3 (by omega))
 obtain ⟨f3, hj3, ht3, _⟩ := Zak hfs (j := 3) rfl
 obtain ⟨q, v, gv, l, e3, hl, hq, hm⟩ := Zom h3 (fun z hzz => hz z (by
  rw [hy]
  exact Zae hu hj3 (d := ys[3].1) (by simp [hys 3 (by omega)]) (by rw [ht3]; exact hzz)))
 have e3' : [u3, u4, u5] = [Value.int .i64 q, v, .bool gv] := e3
 simp only [List.cons.injEq, and_true] at e3'
 obtain ⟨rfl, rfl, rfl⟩ := e3'
 subst e0 e1 e2
 refine ⟨(⟨k0, k1, k2, gv, l.map Prod.fst⟩, q, u4, l), rfl, ⟨⟨hl, rfl⟩, w0, hq⟩, ?_⟩
 have h9 := Zcj (d := (ys[3]'(by omega)).1) (l := ys.map Prod.fst) (List.mem_map_of_mem (List.getElem_mem _))
 rw [hy]
 refine Nat.le_trans ?_ h9
 show 1 + 2 * totR (l.map Prod.fst) ≤ _
 omega
theorem ZnB {α : Type} (f : α → Nat) (l : List α) : (l.map (fun x => 1 + 2 * f x)).sum = l.length + 2 * (l.map f).sum := by
 induction l with
 | nil => rfl
 | cons x r ih =>
   simp only [List.map_cons, List.sum_cons, ih, List.length_cons]
   omega
theorem ZiQ {α : Type} (f : α → Nat) : ∀ {l : List α} {x : α}, x ∈ l → f x ≤ (l.map f).sum
 | y :: r, x, h => by
   simp only [List.map_cons, List.sum_cons]
   rcases List.mem_cons.1 h with rfl | h
   ·omega
   ·have := ZiQ f h
    omega
theorem ZnC {fuel : Nat} {v : Value} {x : DataW H × List MemPlace} (hz : ∀ z ∈ x.1.weights Tryz.prog 98, z ≤ 140737488351232) (h : DataW.trod enc Tryz.prog W base sp hd fuel 98 [v] = some x) : ∃ l, DRowsAt W v l ∧ (∀ p ∈ l, ZeX p) ∧ l.length + 2 * totT (l.map Prod.fst) ≤ Rows.uptoBulk x.1 := by
 obtain ⟨l, a, cap, hv, hle, hq, hs, hc⟩ := Zbl encDV 6 Zcu (by decide) (fun p => InvAt W p ∧ ZeX p) (fun p => 1 + 2 * totR p.1.rows) Tryz.underlying98 ZiO (fun n cs y h1 h2 => Zon h1 h2) hz h
 refine ⟨l, ⟨⟨a, cap, hv, hle, hc⟩, fun p hp => (hq p hp).1⟩, fun p hp => (hq p hp).2, ?_⟩
 unfold totT
 rw [List.map_map]
 rw [ZnB] at hs
 exact hs
theorem ZiR : Tryz.prog.cellsOf 100 = 3 := by kernel_rfl
theorem ZmC : Tryz.prog.cellsOf 98 = 1 := by kernel_rfl
theorem ZmD : ∃ fs, Tryz.prog.underlying 100 = some (.struct fs) ∧ fs.size = 3 ∧ fs.toList.map (fun f => (f.type, f.offset)) = [(3, 0), (98, 1), (4, 2)] := ⟨_, Tryz.underlying100, by kernel_rfl, by kernel_rfl⟩
def msX (s : Int × QS) : Nat := 2 + (s.2.l.length + 2 * totT (s.2.l.map Prod.fst))
theorem fewX (l : List (Int × QS)) (h : (l.map msX).sum ≤ 1048576) : 2 * l.length ≤ 1048576 := Nat.le_trans (Zmt msX (fun x => by unfold msX; omega) l) h
def NumX (s : Int × QS) : Prop := ∀ d ∈ s.2.l, ZeX d
set_option maxRecDepth 100000 in
theorem Zoo {n : Nat} {cs : List Value} {y : DataW H × List MemPlace} (h : DataW.trod enc Tryz.prog W base sp hd n 100 cs = some y) (hz : ∀ z ∈ y.1.weights Tryz.prog 100, z ≤ 140737488351232) :
 ∃ s : Int × QS, cs = encXS s ∧ (DRowsAt W s.2.v s.2.l ∧ NumX s) ∧ msX s ≤ Rows.uptoBulk y.1 := by
 obtain ⟨fs, hu, hsz, hfs⟩ := ZmD
 obtain ⟨ys, m, _, hy, hlen, hyl, hf⟩ := DataW.trod_struct hu h
 rw [ZiR] at hlen
 have hys (j : Nat) (hj : j < 3) : ys[j]? = some (ys[j]'(by omega)) := List.getElem?_eq_getElem (by omega)
 obtain ⟨u0, u1, u2, rfl⟩ : ∃ u0 u1 u2, cs = [u0, u1, u2] := by
  match cs, hlen with
  | [u0, u1, u2], _ => exact ⟨_, _, _, rfl⟩
 have key (j : Nat) (t : TypeId) (o : Nat) (ht : ([(3, 0), (98, 1), (4, 2)] : List (TypeId × Nat))[j]? = some (t, o)) (h1 : Tryz.prog.cellsOf t = 1) : DataW.trod enc Tryz.prog W base sp hd m t (([u0, u1, u2].drop o).take 1) = ys[j]? := by
  obtain ⟨f, hj, rfl, rfl⟩ := Zak hfs ht
  have := hf j f hj
  rw [h1] at this
  exact this
 obtain ⟨k0, e0, w0⟩ := Z9 (key 0 _ _ rfl o_int) (hys 0 (by omega))
 obtain ⟨b2, e2⟩ := ZiP (key 2 _ _ rfl Zmz) (hys 2 (by omega))
 simp at e0 e2
 have h3 := (key 1 _ _ rfl ZmC).trans (hys 1 (by omega))
 obtain ⟨f3, hj3, ht3, _⟩ := Zak hfs (j := 1) rfl
 obtain ⟨l, hl, hq, hm⟩ := ZnC (v := u1) (fun z hzz => hz z (by
  rw [hy]
  exact Zae hu hj3 (d := ys[1].1) (by simp [hys 1 (by omega)]) (by rw [ht3]; exact hzz))) h3
 subst e0 e2
 refine ⟨(k0, ⟨b2, u1, l⟩), rfl, ⟨hl, hq⟩, ?_⟩
 have hyl3 : ys.length = 3 := by omega
 obtain ⟨y0, y1, y2, rfl⟩ : ∃ y0 y1 y2, ys = [y0, y1, y2] := by
  match ys, hyl3 with
  | [a, b, c], _ => exact ⟨_, _, _, rfl⟩
 have h0 := ZiJ y0.1
 have hm1 : l.length + 2 * totT (l.map Prod.fst) ≤ Rows.uptoBulk y1.1 := hm
 rw [hy]
 show 2 + (l.length + 2 * totT (l.map Prod.fst)) ≤ _
 simp only [List.map_cons, List.map_nil, Rows.uptoBulk, Rows.uptoBulkAll]
 omega
theorem ZnD {fuel : Nat} {v : Value} {x : DataW H × List MemPlace} (hz : ∀ z ∈ x.1.weights Tryz.prog 53, z ≤ 140737488351232) (h : DataW.trod enc Tryz.prog W base sp hd fuel 53 [v] = some x) : ∃ l : List (Int × QS), SlAt W v l.length (l.flatMap encXS) ∧ (∀ s ∈ l, DRowsAt W s.2.v s.2.l ∧ NumX s) ∧ (l.map msX).sum ≤ Rows.uptoBulk x.1 := by
 obtain ⟨l, a, cap, hv, hle, hq, hs, hc⟩ := Zbl encXS 3 Zhh (by decide) (fun s => DRowsAt W s.2.v s.2.l ∧ NumX s) msX Tryz.underlying53 ZiR (fun n cs y h1 h2 => Zoo h1 h2) hz h
 exact ⟨l, ⟨a, cap, hv, hle, hc⟩, hq, hs⟩
theorem Zn9 {fuel : Nat} {v : Value} {x : DataW H × List MemPlace} (hz : ∀ z ∈ x.1.weights Tryz.prog 52, z ≤ 140737488351232) (h : DataW.trod enc Tryz.prog W base sp hd fuel 52 [v] = some x) : ∃ l : List Int, SlAt W v l.length (l.flatMap encZ) ∧ (∀ s ∈ l, I64 s) := by
 obtain ⟨l, a, cap, hv, hle, hq, hs, hc⟩ := Zbl encZ 1 ZaP (by decide) (fun s => I64 s) (fun _ => 0) Tryz.underlying52 o_int (fun n cs y h1 h2 => by
  obtain ⟨k, e, w⟩ := Z9 h1 rfl
  exact ⟨k, e, w, Nat.zero_le _⟩) hz h
 exact ⟨l, ⟨a, cap, hv, hle, hc⟩, hq⟩
theorem ZiS : Tryz.prog.cellsOf 55 = 4 := by kernel_rfl
theorem ZnE : Tryz.prog.cellsOf 52 = 1 := by kernel_rfl
theorem ZmE : Tryz.prog.cellsOf 53 = 1 := by kernel_rfl
theorem ZmF : ∃ fs, Tryz.prog.underlying 55 = some (.struct fs) ∧ fs.size = 4 ∧ fs.toList.map (fun f => (f.type, f.offset)) = [(9, 0), (3, 1), (52, 2), (53, 3)] := ⟨_, Tryz.underlying55, by kernel_rfl, by kernel_rfl⟩
def SumX (p : QX) : Nat := (p.sh.map msX).sum
def NumR (p : QX) : Prop := (∀ t ∈ p.served, I64 t) ∧ ∀ s ∈ p.sh, NumX s
set_option maxRecDepth 100000 in
theorem Zop {n : Nat} {cs : List Value} {y : DataW H × List MemPlace} (h : DataW.trod enc Tryz.prog W base sp hd n 55 cs = some y) (hz : ∀ z ∈ y.1.weights Tryz.prog 55, z ≤ 140737488351232) :
 ∃ p : QX, cs = encQX p ∧ (QXAt W p ∧ NumR p) ∧ SumX p ≤ Rows.uptoBulk y.1 := by
 obtain ⟨fs, hu, hsz, hfs⟩ := ZmF
 obtain ⟨ys, m, _, hy, hlen, hyl, hf⟩ := DataW.trod_struct hu h
 rw [ZiS] at hlen
 have hys (j : Nat) (hj : j < 4) : ys[j]? = some (ys[j]'(by omega)) := List.getElem?_eq_getElem (by omega)
 obtain ⟨u0, u1, u2, u3, rfl⟩ : ∃ u0 u1 u2 u3, cs = [u0, u1, u2, u3] := by
  match cs, hlen with
  | [u0, u1, u2, u3], _ => exact ⟨_, _, _, _, rfl⟩
 have key (j : Nat) (t : TypeId) (o : Nat) (ht : ([(9, 0), (3, 1), (52, 2), (53, 3)] : List (TypeId × Nat))[j]? = some (t, o)) (h1 : Tryz.prog.cellsOf t = 1) : DataW.trod enc Tryz.prog W base sp hd m t (([u0, u1, u2, u3].drop o).take 1) = ys[j]? := by
  obtain ⟨f, hj, rfl, rfl⟩ := Zak hfs ht
  have := hf j f hj
  rw [h1] at this
  exact this
 obtain ⟨k0, e0⟩ := Zgz (key 0 _ _ rfl o_str) (hys 0 (by omega))
 obtain ⟨k1, e1, w1⟩ := Z9 (key 1 _ _ rfl o_int) (hys 1 (by omega))
 simp at e0 e1
 have h2 := (key 2 _ _ rfl ZnE).trans (hys 2 (by omega))
 have h3 := (key 3 _ _ rfl ZmE).trans (hys 3 (by omega))
 obtain ⟨f2, hj2, ht2, _⟩ := Zak hfs (j := 2) rfl
 obtain ⟨f3, hj3, ht3, _⟩ := Zak hfs (j := 3) rfl
 obtain ⟨zl, hzl, hzq⟩ := Zn9 (v := u2) (fun z hzz => hz z (by
  rw [hy]
  exact Zae hu hj2 (d := ys[2].1) (by simp [hys 2 (by omega)]) (by rw [ht2]; exact hzz))) h2
 obtain ⟨sl, hsl, hsq, hm⟩ := ZnD (v := u3) (fun z hzz => hz z (by
  rw [hy]
  exact Zae hu hj3 (d := ys[3].1) (by simp [hys 3 (by omega)]) (by rw [ht3]; exact hzz))) h3
 subst e0 e1
 refine ⟨⟨k0, k1, zl, sl, u2, u3⟩, rfl, ⟨⟨hzl, hsl, fun s hs => (hsq s hs).1⟩, hzq, fun s hs => (hsq s hs).2⟩, Nat.le_trans hm ?_⟩
 rw [hy]
 exact Nat.le_of_succ_le (Zcj (List.mem_map_of_mem (List.getElem_mem _)))
theorem ZnF {fuel : Nat} {v : Value} {x : DataW H × List MemPlace} (hz : ∀ z ∈ x.1.weights Tryz.prog 43, z ≤ 140737488351232) (h : DataW.trod enc Tryz.prog W base sp hd fuel 43 [v] = some x) (hb : Rows.uptoBulk x.1 ≤ 1048576) : ∃ l : List QX, SlAt W v l.length (l.flatMap encQX) ∧ (∀ p ∈ l, QXAt W p) ∧ (∀ p ∈ l, QXOk p) := by
 obtain ⟨l, a, cap, hv, hle, hq, hs, hc⟩ := Zbl encQX 4 Zhg (by decide) (fun p => QXAt W p ∧ NumR p) SumX Tryz.underlying43 ZiS (fun n cs y h1 h2 => Zop h1 h2) hz h
 refine ⟨l, ⟨a, cap, hv, hle, hc⟩, fun p hp => (hq p hp).1, fun p hp => ?_⟩
 have h1 : SumX p ≤ 1048576 := Nat.le_trans (Nat.le_trans (ZiQ SumX hp) hs) hb
 have h2 : ∀ s ∈ p.sh, 2 + (s.2.l.length + 2 * totT (s.2.l.map Prod.fst)) ≤ 1048576 := fun s hs => Nat.le_trans (ZiQ msX hs) h1
 refine ⟨(hq p hp).2.1, fun s hs => by have := h2 s hs; omega, fun s hs d hd => (hq p hp).2.2 s hs d hd, ?_, fun s hs => by have := h2 s hs; omega⟩
 have := fewX p.sh h1
 omega
theorem ZnG : Tryz.prog.cellsOf 51 = 5 := by kernel_rfl
theorem ZmG : Tryz.prog.cellsOf 43 = 1 := by kernel_rfl
theorem ZmH : ∃ fs, Tryz.prog.underlying 51 = some (.struct fs) ∧ fs.size = 3 ∧ fs.toList.map (fun f => (f.type, f.offset)) = [(22, 0), (43, 3), (3, 4)] := ⟨_, Tryz.underlying51, by kernel_rfl, by kernel_rfl⟩
set_option maxRecDepth 100000 in
theorem Zoq {n : Nat} {u0 u1 u2 : Value} {y : DataW H × List MemPlace} (h : DataW.trod enc Tryz.prog W base sp hd n 22 [u0, u1, u2] = some y) : ∃ a b c : Int, u0 = .int .i64 a ∧ u1 = .int .i64 b ∧ u2 = .int .i64 c := by
 obtain ⟨ys, m, _, _, _, hys, hel⟩ := DataW.trod_array Tryz.underlying22 h
 have cell : ∀ i (hi : i < 3), ∃ k : Int, [u0, u1, u2][i]? = some (.int .i64 k) := by
  intro i hi
  have h1 := hel i hi
  rw [List.getElem?_eq_getElem (show i < ys.length by omega)] at h1
  obtain ⟨x, hx1, _, _⟩ := DataW.trod_int Tryz.underlying3 h1
  refine ⟨x, ?_⟩
  rw [o_int] at hx1
  simp only [Nat.mul_one] at hx1
  have h2 := congrArg (fun l : List Value => l[0]?) hx1
  simpa using h2
 obtain ⟨a, ha⟩ := cell 0 (by omega)
 obtain ⟨b, hb⟩ := cell 1 (by omega)
 obtain ⟨c, hc⟩ := cell 2 (by omega)
 exact ⟨a, b, c, Option.some.inj ha, Option.some.inj hb, Option.some.inj hc⟩
set_option maxRecDepth 100000 in
theorem ZjP {r : Reach} {b0 : Nat} {v : Value} {d : DataW H} {p : List MemPlace} (hv : Value.okWide Tryz.prog W r b0 51 v) (h : DataW.Trod enc Tryz.prog W base sp hd 51 v d p) (hz : ∀ z ∈ d.weights Tryz.prog 51, z ≤ 140737488351232) (hb : Rows.uptoBulk d ≤ 1048576) :
 ∃ (a b c next : Int) (u : Value) (l : List QX), v = .agg (ldC a b c u next) ∧ I64 next ∧ SlAt W u l.length (l.flatMap encQX) ∧ (∀ p ∈ l, QXAt W p) ∧ (∀ p ∈ l, QXOk p) := by
 obtain ⟨fs, hu, hsz, hfs⟩ := ZmH
 obtain ⟨cs, rfl, hcz⟩ := okWide_struct hu hv
 obtain ⟨fuel, hf0⟩ := h
 obtain ⟨ys, m, _, hy, hlen, hyl, hf⟩ := DataW.trod_struct hu hf0
 rw [ZnG] at hlen
 have hys (j : Nat) (hj : j < 3) : ys[j]? = some (ys[j]'(by omega)) := List.getElem?_eq_getElem (by omega)
 obtain ⟨cl, hcl⟩ : ∃ cl, cl = cs.toList := ⟨_, rfl⟩
 have hlen2 : cl.length = 5 := by rw [hcl]; exact hlen
 obtain ⟨u0, u1, u2, u3, u4, rfl⟩ : ∃ u0 u1 u2 u3 u4, cl = [u0, u1, u2, u3, u4] := by
  match cl, hlen2 with
  | [u0, u1, u2, u3, u4], _ => exact ⟨_, _, _, _, _, rfl⟩
 have key (j : Nat) (t : TypeId) (o k : Nat) (ht : ([(22, 0), (43, 3), (3, 4)] : List (TypeId × Nat))[j]? = some (t, o)) (h1 : Tryz.prog.cellsOf t = k) : DataW.trod enc Tryz.prog W base sp hd m t (([u0, u1, u2, u3, u4].drop o).take k) = ys[j]? := by
  obtain ⟨f, hj, rfl, rfl⟩ := Zak hfs ht
  have := hf j f hj
  rw [h1] at this
  rw [hcl]
  exact this
 obtain ⟨a, b, c, rfl, rfl, rfl⟩ := Zoq ((key 0 _ _ 3 rfl Znl).trans (hys 0 (by omega)))
 obtain ⟨k4, e4, w4⟩ := Z9 (key 2 _ _ 1 rfl o_int) (hys 2 (by omega))
 simp at e4
 have h3 := (key 1 _ _ 1 rfl ZmG).trans (hys 1 (by omega))
 obtain ⟨f3, hj3, ht3, _⟩ := Zak hfs (j := 1) rfl
 have hyd : d = .agg (ys.map Prod.fst) := by have := congrArg Prod.fst hy; simpa using this
 have h9 := Zcj (d := (ys[1]'(by omega)).1) (l := ys.map Prod.fst) (List.mem_map_of_mem (List.getElem_mem _))
 rw [← hyd] at h9
 obtain ⟨l, hl, hq, hm⟩ := ZnF (v := u3) (fun z hzz => hz z (by
  rw [hyd]
  exact Zae hu hj3 (d := ys[1].1) (by simp [hys 1 (by omega)]) (by rw [ht3]; exact hzz))) h3 (by omega)
 subst e4
 refine ⟨a, b, c, k4, u3, l, ?_, w4, hl, hq, hm⟩
 rw [show cs = ldC a b c u3 k4 from Array.toList_inj.1 hcl.symm]
end
end Go.Proofs.YtdbjihkgafhakaaGreatDoor
