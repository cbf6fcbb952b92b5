/-
  What came in, cell by cell.
-/
import Derived.Test.YtjfcjpbolokfcaaGreatDoorLawE
import Derived.Deep.Fields
import Derived.ChangeSame
namespace Go.Proofs.YtjfcjpbolokfcaaGreatDoor
open Go.ChangeShapes Go.WideShapes Go.ChangeAt Go.RowKit Go.Deep

theorem oo_int : Tryz.prog.cellsOf 3 = 1 := by kernel_rfl
theorem oo_str : Tryz.prog.cellsOf 9 = 1 := by kernel_rfl
theorem oo_bool : Tryz.prog.cellsOf 4 = 1 := by kernel_rfl
theorem ofield_of {fs : Array Field} {l : List (TypeId × Nat)} (h : fs.toList.map (fun f => (f.type, f.offset)) = l) {j : Nat} {t : TypeId} {o : Nat} (ht : l[j]? = some (t, o)) : ∃ f, fs[j]? = some f ∧ f.type = t ∧ f.offset = o := by
  rw [← h, List.getElem?_map] at ht
  cases hj : fs.toList[j]? with
  | none => rw [hj] at ht; cases ht
  | some f =>
    rw [hj] at ht
    simp at ht
    exact ⟨f, by simpa using hj, ht.1, ht.2⟩

section
variable {H : Type} {enc : TypeId × Value → H} {W : World} {base : Nat} {sp : Nat → Bool} {hd : Bool}

theorem odec_int {n : Nat} {cs : List Value} {y : Option (DataW H × List MemPlace)} {ys : DataW H × List MemPlace} (h : DataW.trod enc Tryz.prog W base sp hd n 3 cs = y) (hy : y = some ys) : ∃ k : Int, cs = [.int .i64 k] := by
  subst hy
  obtain ⟨k, e, _, _⟩ := DataW.trod_int Tryz.underlying3 h
  exact ⟨k, e⟩
theorem odec_string {n : Nat} {cs : List Value} {y : Option (DataW H × List MemPlace)} {ys : DataW H × List MemPlace} (h : DataW.trod enc Tryz.prog W base sp hd n 9 cs = y) (hy : y = some ys) : ∃ s : ByteArray, cs = [.string s] := by
  subst hy
  obtain ⟨s, e, rfl, _⟩ := DataW.trod_string Tryz.underlying9 h
  exact ⟨s, e⟩
theorem odec_bool {n : Nat} {cs : List Value} {y : Option (DataW H × List MemPlace)} {ys : DataW H × List MemPlace} (h : DataW.trod enc Tryz.prog W base sp hd n 4 cs = y) (hy : y = some ys) : ∃ b : Bool, cs = [.bool b] := by
  subst hy
  obtain ⟨b, e, _⟩ := DataW.trod_bool Tryz.underlying4 h
  exact ⟨b, e⟩

end
end Go.Proofs.YtjfcjpbolokfcaaGreatDoor
