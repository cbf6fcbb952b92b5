/-
  Calls of a share that came in.
-/
import Derived.Test.YtohkchilogmneaaOpen15
import Derived.Test.YtohkchilogmneaaLaw16All
namespace Go.Proofs.Ytohkchilogmneaa
open Go.ChangeShapes Go.WideShapes Go.ChangeAt Go.RowKit Go.Deep

theorem sc_cellsN : Try.prog.cellsOf 72 = 9 := by kernel_rfl
theorem ent_cellsN : Try.prog.cellsOf 70 = 8 := by kernel_rfl
theorem o_str : Try.prog.cellsOf 9 = 1 := by kernel_rfl
theorem ent_fields : ∃ fs, Try.prog.underlying 70 = some (.struct fs) ∧ fs.toList.map (fun f => (f.type, f.offset)) = [(9, 0), (3, 1), (3, 2), (3, 3), (3, 4), (3, 5), (3, 6), (3, 7)] := ⟨_, Try.underlying70, by kernel_rfl⟩
theorem sc_fields : ∃ fs, Try.prog.underlying 72 = some (.struct fs) ∧ fs.toList.map (fun f => (f.type, f.offset)) = [(3, 0), (70, 1)] := ⟨_, Try.underlying72, by kernel_rfl⟩
def encEnt (x : Ent) : List Value := [.string x.need, .int .i64 x.cls, .int .i64 x.ten, .int .i64 x.tw, .int .i64 x.inv, .int .i64 x.iw, .int .i64 x.id, .int .i64 x.cost]
section
variable {H : Type} {enc : TypeId × Value → H} {W : World} {base : Nat} {sp : Nat → Bool} {hd : Bool}
theorem dec_str {n : Nat} {cs : List Value} {y : Option (DataW H × List MemPlace)} {ys : DataW H × List MemPlace} (h : DataW.trod enc Try.prog W base sp hd n 9 cs = y) (hy : y = some ys) : ∃ s : ByteArray, cs = [.string s] := by
  subst hy
  obtain ⟨s, e, rfl, _⟩ := DataW.trod_string Try.underlying9 h
  exact ⟨s, e⟩
set_option maxRecDepth 100000 in
theorem dec_ent {n : Nat} {cs : List Value} {y : Option (DataW H × List MemPlace)} {ys : DataW H × List MemPlace} (h : DataW.trod enc Try.prog W base sp hd n 70 cs = y) (hy : y = some ys) : ∃ x : Ent, cs = encEnt x ∧ EntOk x := by
  subst hy
  obtain ⟨fs, hu, hfs⟩ := ent_fields
  obtain ⟨zs, m, _, hy, hlen, hyl, hf⟩ := DataW.trod_struct hu h
  have hsz : fs.size = 8 := by have := congrArg List.length hfs; simpa using this
  rw [ent_cellsN] at hlen
  have hzs (j : Nat) (hj : j < 8) : zs[j]? = some (zs[j]'(by omega)) := List.getElem?_eq_getElem (by omega)
  obtain ⟨u0, u1, u2, u3, u4, u5, u6, u7, rfl⟩ : ∃ u0 u1 u2 u3 u4 u5 u6 u7, cs = [u0, u1, u2, u3, u4, u5, u6, u7] := by
    match cs, hlen with
    | [u0, u1, u2, u3, u4, u5, u6, u7], _ => exact ⟨_, _, _, _, _, _, _, _, rfl⟩
  have key (j : Nat) (t : TypeId) (o : Nat) (ht : ([(9, 0), (3, 1), (3, 2), (3, 3), (3, 4), (3, 5), (3, 6), (3, 7)] : List (TypeId × Nat))[j]? = some (t, o)) (h1 : Try.prog.cellsOf t = 1) : DataW.trod enc Try.prog W base sp hd m t (([u0, u1, u2, u3, u4, u5, u6, u7].drop o).take 1) = zs[j]? := by
    obtain ⟨f, hj, rfl, rfl⟩ := field_of hfs ht
    have := hf j f hj
    rw [h1] at this
    exact this
  obtain ⟨k0, e0⟩ := dec_str (key 0 _ _ rfl o_str) (hzs 0 (by omega))
  obtain ⟨k1, e1, w1⟩ := dec_i64 (key 1 _ _ rfl o_int) (hzs 1 (by omega))
  obtain ⟨k2, e2, w2⟩ := dec_i64 (key 2 _ _ rfl o_int) (hzs 2 (by omega))
  obtain ⟨k3, e3, w3⟩ := dec_i64 (key 3 _ _ rfl o_int) (hzs 3 (by omega))
  obtain ⟨k4, e4, w4⟩ := dec_i64 (key 4 _ _ rfl o_int) (hzs 4 (by omega))
  obtain ⟨k5, e5, w5⟩ := dec_i64 (key 5 _ _ rfl o_int) (hzs 5 (by omega))
  obtain ⟨k6, e6, w6⟩ := dec_i64 (key 6 _ _ rfl o_int) (hzs 6 (by omega))
  obtain ⟨k7, e7, w7⟩ := dec_i64 (key 7 _ _ rfl o_int) (hzs 7 (by omega))
  simp at e0 e1 e2 e3 e4 e5 e6 e7
  subst e0 e1 e2 e3 e4 e5 e6 e7
  exact ⟨⟨k0, k1, k2, k3, k4, k5, k6, k7⟩, rfl, w1, w2, w3, w4, w5, w6, w7⟩
set_option maxRecDepth 100000 in
theorem dec_sc {n : Nat} {cs : List Value} {y : DataW H × List MemPlace} (h : DataW.trod enc Try.prog W base sp hd n 72 cs = some y) (_hz : ∀ z ∈ y.1.weights Try.prog 72, z ≤ 140737488351232) : ∃ x : Sc, cs = encSc x ∧ EntOk x.e := by
  obtain ⟨fs, hu, hfs⟩ := sc_fields
  obtain ⟨zs, m, _, hy, hlen, hyl, hf⟩ := DataW.trod_struct hu h
  have hsz : fs.size = 2 := by have := congrArg List.length hfs; simpa using this
  rw [sc_cellsN] at hlen
  have hzs (j : Nat) (hj : j < 2) : zs[j]? = some (zs[j]'(by omega)) := List.getElem?_eq_getElem (by omega)
  obtain ⟨u0, u1, u2, u3, u4, u5, u6, u7, u8, rfl⟩ : ∃ u0 u1 u2 u3 u4 u5 u6 u7 u8, cs = [u0, u1, u2, u3, u4, u5, u6, u7, u8] := by
    match cs, hlen with
    | [u0, u1, u2, u3, u4, u5, u6, u7, u8], _ => exact ⟨_, _, _, _, _, _, _, _, _, rfl⟩
  have key (j : Nat) (t : TypeId) (o k : Nat) (ht : ([(3, 0), (70, 1)] : List (TypeId × Nat))[j]? = some (t, o)) (h1 : Try.prog.cellsOf t = k) : DataW.trod enc Try.prog W base sp hd m t (([u0, u1, u2, u3, u4, u5, u6, u7, u8].drop o).take k) = zs[j]? := by
    obtain ⟨f, hj, rfl, rfl⟩ := field_of hfs ht
    have := hf j f hj
    rw [h1] at this
    exact this
  obtain ⟨k0, e0, w0⟩ := dec_i64 (key 0 _ _ 1 rfl o_int) (hzs 0 (by omega))
  obtain ⟨x, e1, hx⟩ := dec_ent (key 1 _ _ 8 rfl ent_cellsN) (hzs 1 (by omega))
  simp at e0
  subst e0
  have e1' : [u1, u2, u3, u4, u5, u6, u7, u8] = encEnt x := e1
  unfold encEnt at e1'
  simp only [List.cons.injEq, and_true] at e1'
  obtain ⟨rfl, rfl, rfl, rfl, rfl, rfl, rfl, rfl⟩ := e1'
  exact ⟨⟨k0, x⟩, rfl, hx⟩
/-- A slice of calls: what it reads as. -/
def ScsAt (w : World) (v : Value) (l : List Sc) : Prop := ∃ a cap, v = .slice a l.length cap ∧ ∀ (j : Nat) u, (l.flatMap encSc)[j]? = some u → ∃ g off, a = some ⟨g, off, none⟩ ∧ w.cell? ⟨g, off + j, none⟩ = some u
theorem open_scs {fuel : Nat} {v : Value} {x : DataW H × List MemPlace} (hz : ∀ z ∈ x.1.weights Try.prog 62, z ≤ 140737488351232) (h : DataW.trod enc Try.prog W base sp hd fuel 62 [v] = some x) : ∃ l, ScsAt W v l ∧ ∀ y ∈ l, EntOk y.e := by
  obtain ⟨l, a, cap, hv, _, _, hq, hc⟩ := open_enc encSc 9 encSc_len (by decide) (fun y => EntOk y.e) Try.underlying62 sc_cellsN (fun n cs y h1 h2 => dec_sc h1 h2) hz h
  exact ⟨l, ⟨a, cap, hv, hc⟩, hq⟩
end
theorem ScsAt.at {w : World} {v : Value} {l : List Sc} (h : ScsAt w v l) {k : Nat} {x : Sc} (hx : l[k]? = some x) : ∃ g off cap, v = .slice (some ⟨g, off, none⟩) l.length cap ∧ ∀ i u, (encSc x)[i]? = some u → w.cell? ⟨g, off + (k * 9 + i), none⟩ = some u := by
  obtain ⟨a, cap, rfl, hc⟩ := h
  have key : ∀ i u, (encSc x)[i]? = some u → (l.flatMap encSc)[k * 9 + i]? = some u := fun i u hu => by
    have hi : i < 9 := by rw [← encSc_len x]; exact (List.getElem?_eq_some_iff.1 hu).1
    rw [flat_at encSc 9 encSc_len i hx hi]
    exact hu
  obtain ⟨g, off, rfl, _⟩ := hc _ _ (key 0 _ rfl)
  refine ⟨g, off, cap, rfl, fun i u hu => ?_⟩
  obtain ⟨g', off', he, h0⟩ := hc _ _ (key i u hu)
  cases he
  exact h0
theorem ScsAt.below {w w' : World} {v : Value} {l : List Sc} (h : ScsAt w v l) (hb : Below w.heap.size w w') : ScsAt w' v l := by
  obtain ⟨a, cap, rfl, hc⟩ := h
  exact ⟨a, cap, rfl, fun j u hu => by obtain ⟨g, off, ha, h0⟩ := hc j u hu; exact ⟨g, off, ha, cell_below hb h0⟩⟩
theorem ScsAt.form {w : World} {v : Value} {l : List Sc} (h : ScsAt w v l) : ∃ a cap, v = .slice a l.length cap := by
  obtain ⟨a, cap, rfl, _⟩ := h
  exact ⟨a, cap, rfl⟩
end Go.Proofs.Ytohkchilogmneaa
