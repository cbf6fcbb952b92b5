/-
  Calls of a ring of flows that came in.
-/
import Derived.Test.YtohkchilogmneaaOpenE
import Derived.Test.YtohkchilogmneaaLive15
namespace Go.Proofs.Ytohkchilogmneaa
open Go.ChangeShapes Go.WideShapes Go.ChangeAt Go.RowKit Go.Deep

structure Ac where
  kind : Int
  flow : Int
  wt : Int
  id : Int
  cost : Int
def encAc (x : Ac) : List Value := [.int .i64 x.kind, .int .i64 x.flow, .int .i64 x.wt, .int .i64 x.id, .int .i64 x.cost]
theorem encAc_len (x : Ac) : (encAc x).length = 5 := rfl
def AcOk (x : Ac) : Prop := I64 x.kind ∧ I64 x.flow ∧ I64 x.wt ∧ I64 x.id ∧ I64 x.cost
theorem o_int : Try.prog.cellsOf 3 = 1 := by kernel_rfl
theorem ac_cells : Try.prog.cellsOf 32 = 5 := by kernel_rfl
theorem ac_fields : ∃ fs, Try.prog.underlying 32 = some (.struct fs) ∧ fs.size = 5 ∧ fs.toList.map (fun f => (f.type, f.offset)) = [(3, 0), (3, 1), (3, 2), (3, 3), (3, 4)] := ⟨_, Try.underlying32, by kernel_rfl, by kernel_rfl⟩
theorem field_of {fs : Array Field} {l : List (TypeId × Nat)} (h : fs.toList.map (fun f => (f.type, f.offset)) = l) {j : Nat} {t : TypeId} {o : Nat} (ht : l[j]? = some (t, o)) : ∃ f, fs[j]? = some f ∧ f.type = t ∧ f.offset = o := by
  rw [← h, List.getElem?_map] at ht
  cases hj : fs.toList[j]? with
  | none => rw [hj] at ht; cases ht
  | some f =>
    rw [hj] at ht
    simp at ht
    exact ⟨f, by simpa using hj, ht.1, ht.2⟩
section
variable {H : Type} {enc : TypeId × Value → H} {W : World} {base : Nat} {sp : Nat → Bool} {hd : Bool}
theorem dec_i64 {n : Nat} {cs : List Value} {y : Option (DataW H × List MemPlace)} {ys : DataW H × List MemPlace} (h : DataW.trod enc Try.prog W base sp hd n 3 cs = y) (hy : y = some ys) : ∃ k : Int, cs = [.int .i64 k] ∧ I64 k := by
  subst hy
  obtain ⟨k, e, _, hw⟩ := DataW.trod_int Try.underlying3 h
  exact ⟨k, e, hw⟩
set_option maxRecDepth 100000 in
theorem dec_ac {n : Nat} {cs : List Value} {y : DataW H × List MemPlace} (h : DataW.trod enc Try.prog W base sp hd n 32 cs = some y) (_hz : ∀ z ∈ y.1.weights Try.prog 32, z ≤ 140737488351232) :
    ∃ x : Ac, cs = encAc x ∧ AcOk x := by
  obtain ⟨fs, hu, hsz, hfs⟩ := ac_fields
  obtain ⟨ys, m, _, hy, hlen, hyl, hf⟩ := DataW.trod_struct hu h
  rw [ac_cells] at hlen
  have hys (j : Nat) (hj : j < 5) : ys[j]? = some (ys[j]'(by omega)) := List.getElem?_eq_getElem (by omega)
  obtain ⟨u0, u1, u2, u3, u4, rfl⟩ : ∃ u0 u1 u2 u3 u4, cs = [u0, u1, u2, u3, u4] := by
    match cs, hlen with
    | [u0, u1, u2, u3, u4], _ => exact ⟨_, _, _, _, _, rfl⟩
  have key (j : Nat) (t : TypeId) (o : Nat) (ht : ([(3, 0), (3, 1), (3, 2), (3, 3), (3, 4)] : List (TypeId × Nat))[j]? = some (t, o)) (h1 : Try.prog.cellsOf t = 1) : DataW.trod enc Try.prog W base sp hd m t (([u0, u1, u2, u3, u4].drop o).take 1) = ys[j]? := by
    obtain ⟨f, hj, rfl, rfl⟩ := field_of hfs ht
    have := hf j f hj
    rw [h1] at this
    exact this
  obtain ⟨k0, e0, w0⟩ := dec_i64 (key 0 _ _ rfl o_int) (hys 0 (by omega))
  obtain ⟨k1, e1, w1⟩ := dec_i64 (key 1 _ _ rfl o_int) (hys 1 (by omega))
  obtain ⟨k2, e2, w2⟩ := dec_i64 (key 2 _ _ rfl o_int) (hys 2 (by omega))
  obtain ⟨k3, e3, w3⟩ := dec_i64 (key 3 _ _ rfl o_int) (hys 3 (by omega))
  obtain ⟨k4, e4, w4⟩ := dec_i64 (key 4 _ _ rfl o_int) (hys 4 (by omega))
  simp at e0 e1 e2 e3 e4
  subst e0 e1 e2 e3 e4
  exact ⟨⟨k0, k1, k2, k3, k4⟩, rfl, w0, w1, w2, w3, w4⟩
/-- A slice of acts: what it reads as. -/
def AcsAt (w : World) (v : Value) (l : List Ac) : Prop := ∃ a cap, v = .slice a l.length cap ∧ ∀ (j : Nat) u, (l.flatMap encAc)[j]? = some u → ∃ g off, a = some ⟨g, off, none⟩ ∧ w.cell? ⟨g, off + j, none⟩ = some u
theorem open_acs {fuel : Nat} {v : Value} {x : DataW H × List MemPlace} (hz : ∀ z ∈ x.1.weights Try.prog 23, z ≤ 140737488351232) (h : DataW.trod enc Try.prog W base sp hd fuel 23 [v] = some x) : ∃ l, AcsAt W v l ∧ ∀ y ∈ l, AcOk y := by
  obtain ⟨l, a, cap, hv, _, _, hq, hc⟩ := open_enc encAc 5 encAc_len (by decide) AcOk Try.underlying23 ac_cells (fun n cs y h1 h2 => dec_ac h1 h2) hz h
  exact ⟨l, ⟨a, cap, hv, hc⟩, hq⟩
end
theorem AcsAt.at {w : World} {v : Value} {l : List Ac} (h : AcsAt w v l) {k : Nat} {x : Ac} (hx : l[k]? = some x) : ∃ g off cap, v = .slice (some ⟨g, off, none⟩) l.length cap ∧ ∀ i u, (encAc x)[i]? = some u → w.cell? ⟨g, off + (k * 5 + i), none⟩ = some u := by
  obtain ⟨a, cap, rfl, hc⟩ := h
  have key : ∀ i u, (encAc x)[i]? = some u → (l.flatMap encAc)[k * 5 + i]? = some u := fun i u hu => by
    have hi : i < 5 := by rw [← encAc_len x]; exact (List.getElem?_eq_some_iff.1 hu).1
    rw [flat_at encAc 5 encAc_len i hx hi]
    exact hu
  obtain ⟨g, off, rfl, _⟩ := hc _ _ (key 0 _ rfl)
  refine ⟨g, off, cap, rfl, fun i u hu => ?_⟩
  obtain ⟨g', off', he, h0⟩ := hc _ _ (key i u hu)
  cases he
  exact h0
theorem AcsAt.below {w w' : World} {v : Value} {l : List Ac} (h : AcsAt w v l) (hb : Below w.heap.size w w') : AcsAt w' v l := by
  obtain ⟨a, cap, rfl, hc⟩ := h
  exact ⟨a, cap, rfl, fun j u hu => by obtain ⟨g, off, ha, h0⟩ := hc j u hu; exact ⟨g, off, ha, cell_below hb h0⟩⟩
theorem AcsAt.form {w : World} {v : Value} {l : List Ac} (h : AcsAt w v l) : ∃ a cap, v = .slice a l.length cap := by
  obtain ⟨a, cap, rfl, _⟩ := h
  exact ⟨a, cap, rfl⟩
end Go.Proofs.Ytohkchilogmneaa
