/-
  Arguments that came in, opened: structs and slices of structs, whatever the number of fields; what a datum weighs.
-/
import Derived.Test.YtohkchilogmneaaLaw
import Derived.Deep.Slices
import Derived.Deep.Fields
import Derived.ChangeSame
namespace Go.Proofs.Ytohkchilogmneaa
open Go.ChangeShapes Go.WideShapes Go.ChangeAt Go.RowKit Go.Deep

section
variable {H : Type} {enc : TypeId × Value → H} {P : Program} {w : World} {base : Nat} {spare : Nat → Bool} {held : Bool}

theorem cell_spot {w : World} {a : Addr} {u : Value} (h : w.cell? a = some u) : a.spot = none := by
  unfold World.cell? at h
  split at h
  · split at h
    · cases h
    · rename_i hs; simpa using hs
  · cases h

/-- What one field of a row reads as. -/
def FieldAt (enc : TypeId × Value → H) (P : Program) (w : World) (base : Nat) (spare : Nat → Bool) (held : Bool) (n : Nat) (t : TypeId) (v : Value) (y : DataW H × List MemPlace) : Prop := DataW.trod enc P w base spare held n t [v] = some y

/-- A struct of any number of fields of one cell, by value. -/
theorem open_struct {r : Reach} {b0 : Nat} {t : TypeId} {fs : Array Field} {v : Value} {d : DataW H} {p : List MemPlace} (hs : P.underlying t = some (.struct fs)) (hone : oneCellFields P fs = true) (hC : P.cellsOf t = fs.size)
    (hv : Value.okWide P w r b0 t v) (h : DataW.Trod enc P w base spare held t v d p) :
    ∃ (cs : Array Value) (ys : List (DataW H × List MemPlace)) (n : Nat), v = .agg cs ∧ d = .agg (ys.map (·.1)) ∧ p = ys.flatMap (·.2) ∧ cs.size = fs.size ∧ ys.length = fs.size ∧
      ∀ (j : Nat) (f : Field), fs[j]? = some f → ∃ (u : Value) (y : DataW H × List MemPlace), cs[j]? = some u ∧ ys[j]? = some y ∧ FieldAt enc P w base spare held n f.type u y := by
  obtain ⟨cs, rfl, hsz⟩ := okWide_struct hs hv
  obtain ⟨fuel, hf⟩ := h
  obtain ⟨ys, n, _, hx, _, hlen, hg⟩ := DataW.trod_struct hs hf
  simp only [Prod.mk.injEq] at hx
  refine ⟨cs, ys, n, rfl, hx.1, hx.2, hsz.trans hC, hlen, fun j f hj => ?_⟩
  obtain ⟨ho, hk⟩ := hone_of hone j f hj
  have hjl : j < fs.size := (Array.getElem?_eq_some_iff.1 hj).1
  have hjc : j < cs.size := by omega
  have hjy : j < ys.length := by omega
  have h1 := hg j f hj
  rw [ho, hk] at h1
  have e1 : ((Value.agg cs).cells.toList.drop j).take 1 = [cs[j]] := by
    simp only [Value.cells]
    rw [List.drop_eq_getElem_cons (by simpa using hjc)]
    simp
  rw [show ∀ l : List Value, l = (Value.agg cs).cells.toList → (l.drop j).take 1 = [cs[j]] from fun l hl => by rw [hl]; exact e1] at h1
  · have e2 : ys[j]? = some ys[j] := List.getElem?_eq_getElem hjy
    exact ⟨cs[j], ys[j], Array.getElem?_eq_getElem hjc, e2, h1.trans e2⟩
  · rfl

/-- A slice of structs of any number of fields of one cell. -/
theorem open_rows {t e : TypeId} {fs : Array Field} {fuel : Nat} {v : Value} {x : DataW H × List MemPlace} (ht : P.underlying t = some (.slice e)) (he : P.underlying e = some (.struct fs))
    (hone : oneCellFields P fs = true) (hC : P.cellsOf e = fs.size) (h0 : 0 < fs.size) (h : FieldAt enc P w base spare held fuel t v x) :
    ∃ (a : Option Addr) (len cap : Nat) (D : Nat → DataW H), v = .slice a len cap ∧ (len = 0 ∨ ∃ sp : List (DataW H), x.1 = .slice ((List.range len).map D) sp) ∧ len ≤ cap ∧
      ∀ i, i < len → ∃ (b off : Nat) (ys : List (DataW H × List MemPlace)) (n : Nat), a = some ⟨b, off, none⟩ ∧ D i = .agg (ys.map (·.1)) ∧ ys.length = fs.size ∧
        ∀ (j : Nat) (f : Field), fs[j]? = some f → ∃ (u : Value) (y : DataW H × List MemPlace), w.cell? ⟨b, off + (i * fs.size + j), none⟩ = some u ∧ ys[j]? = some y ∧ FieldAt enc P w base spare held n f.type u y := by
  rcases open_slice ht h with ⟨h1, h2⟩ | ⟨a, len, cap, m, n, D, Pl, hcs, hb, hl, hm, hmm, hx, hi⟩
  · have : v = .slice none 0 0 := by simpa using h1
    subst this
    exact ⟨none, 0, 0, fun _ => .nil, rfl, .inl rfl, Nat.le_refl _, fun i hi => absurd hi (by omega)⟩
  · have : v = .slice (some a) len cap := by simpa using hcs
    subst this
    have hlm : len ≤ m := by rw [hmm]; split <;> omega
    refine ⟨some a, len, cap, D, rfl, .inr ⟨_, by rw [hx]⟩, hl, fun i hil => ?_⟩
    obtain ⟨cs', hc, ht'⟩ := hi i (by omega)
    rw [hC] at hc
    obtain ⟨ys, n', hn', hy, hlen, hyl, hf⟩ := DataW.trod_struct he ht'
    obtain ⟨_, hcl, hat⟩ := World.cells?_some hc
    simp only [Prod.mk.injEq] at hy
    have key : ∀ (j : Nat) (f : Field), fs[j]? = some f → ∃ (u : Value) (y : DataW H × List MemPlace), w.cell? (a.add (i * fs.size + j)) = some u ∧ ys[j]? = some y ∧ FieldAt enc P w base spare held n' f.type u y := by
      intro j f hj
      obtain ⟨ho, hk⟩ := hone_of hone j f hj
      have hjl : j < fs.size := (Array.getElem?_eq_some_iff.1 hj).1
      have hcell := hat j hjl
      have hv : cs'[j]? = some (cs'[j]'(by omega)) := List.getElem?_eq_getElem (by omega)
      have h1 := hf j f hj
      rw [ho, hk] at h1
      have hone' : (cs'.drop j).take 1 = [cs'[j]'(by omega)] := by
        rw [List.drop_eq_getElem_cons (by omega)]
        rfl
      rw [hone'] at h1
      have hys : ys[j]? = some (ys[j]'(by omega)) := List.getElem?_eq_getElem (by omega)
      refine ⟨_, _, ?_, hys, h1.trans hys⟩
      rw [← Go.Deep.add_add, hcell, hv]
    obtain ⟨b, off, spot⟩ := a
    have hsp : spot = none := by
      obtain ⟨cs0, hc0, _⟩ := hi 0 (by omega)
      rw [hC] at hc0
      obtain ⟨_, hcl0, hat0⟩ := World.cells?_some hc0
      have h1 := hat0 0 h0
      rw [List.getElem?_eq_getElem (show 0 < cs0.length by omega)] at h1
      simp only [Nat.zero_mul, Addr.add, if_true] at h1
      exact cell_spot h1
    subst hsp
    refine ⟨b, off, ys, n', rfl, hy.1, hyl, fun j f hj => ?_⟩
    obtain ⟨u, y, hcell, hy', hf'⟩ := key j f hj
    refine ⟨u, y, ?_, hy', hf'⟩
    rw [← hcell]
    congr 1
    unfold Addr.add
    split <;> simp_all

theorem weightsAll_mem {e : TypeId} {d : DataW H} {x : Nat} : ∀ {l : List (DataW H)}, d ∈ l → x ∈ d.weights P e → x ∈ DataW.weightsAll P e l
  | [], h, _ => by cases h
  | a :: r, h, hx => by
    rw [DataW.weightsAll]
    rcases List.mem_cons.1 h with rfl | h
    · exact List.mem_append_left _ hx
    · exact List.mem_append_right _ (weightsAll_mem h hx)
theorem weightsEach_mem {t : TypeId} {d : DataW H} {x : Nat} : ∀ {ts : List TypeId} {ds : List (DataW H)} {i : Nat}, ts[i]? = some t → ds[i]? = some d → x ∈ d.weights P t → x ∈ DataW.weightsEach P ts ds
  | [], _, _, h, _, _ => by simp at h
  | _ :: _, [], _, _, h, _ => by simp at h
  | t0 :: ts, d0 :: ds, i, ht, hd, hx => by
    rw [DataW.weightsEach]
    cases i with
    | zero =>
      simp at ht hd
      subst ht hd
      exact List.mem_append_left _ hx
    | succ i => exact List.mem_append_right _ (weightsEach_mem (i := i) (by simpa using ht) (by simpa using hd) hx)
theorem weights_slice_len {t e : TypeId} {l sp : List (DataW H)} (ht : P.underlying t = some (.slice e)) : (l.length + sp.length) * P.bytesOf e ∈ DataW.weights P t (.slice l sp) := by
  simp [DataW.weights, ht]
theorem weights_slice_mem {t e : TypeId} {l sp : List (DataW H)} {d : DataW H} {x : Nat} (ht : P.underlying t = some (.slice e)) (hd : d ∈ l) (hx : x ∈ d.weights P e) : x ∈ DataW.weights P t (.slice l sp) := by
  simp only [DataW.weights, ht]
  exact List.mem_cons_of_mem _ (List.mem_append_left _ (weightsAll_mem hd hx))
theorem weights_struct_mem {t : TypeId} {fs : Array Field} {l : List (DataW H)} {d : DataW H} {x j : Nat} {f : Field} (ht : P.underlying t = some (.struct fs)) (hf : fs[j]? = some f) (hd : l[j]? = some d) (hx : x ∈ d.weights P f.type) : x ∈ DataW.weights P t (.agg l) := by
  simp only [DataW.weights, ht]
  exact weightsEach_mem (i := j) (by simp [hf]) hd hx
theorem weights_string (t : TypeId) (l : List UInt8) : l.length ∈ DataW.weights (H := H) P t (.lit (.string l)) := by simp [DataW.weights]
end
end Go.Proofs.Ytohkchilogmneaa
