/-
  An action that came in.
-/
import Derived.Test.YtamehgbagkkofaaDoorLaw
namespace Go.Proofs.YtamehgbagkkofaaDoor
open Go.ChangeShapes Go.WideShapes Go.ChangeAt Go.RowKit Go.Joins

theorem act_cells3 : Tryd.prog.cellsOf 41 = 3 := by kernel_rfl
set_option maxRecDepth 100000 in
theorem open_action {H : Type} {enc : TypeId × Value → H} {W : World} {base : Nat} {v : Value} {d : DataW H} {p : List MemPlace} {sp : Nat → Bool} {hd : Bool}
    (hv : Value.okWide Tryd.prog W .any base 41 v) (h : DataW.Trod enc Tryd.prog W 0 sp hd 41 v d p) :
    ∃ k c n : ByteArray, v = .agg #[.string k, .string c, .string n] ∧ d = .agg [.lit (.string k.data.toList), .lit (.string c.data.toList), .lit (.string n.data.toList)] ∧ p = [] := by
  obtain ⟨v0, v1, v2, y0, y1, y2, m, rfl, rfl, rfl, h0, h1, h2⟩ := open_agg3 Tryd.underlying41 (by kernel_rfl) act_cells3 hv h
  obtain ⟨k, e0, rfl, _⟩ := DataW.trod_string Tryd.underlying9 h0
  obtain ⟨c, e1, rfl, _⟩ := DataW.trod_string Tryd.underlying9 h1
  obtain ⟨n, e2, rfl, _⟩ := DataW.trod_string Tryd.underlying9 h2
  simp at e0 e1 e2
  subst e0 e1 e2
  exact ⟨k, c, n, rfl, rfl, rfl⟩
theorem weights_action {H : Type} (k c n : List UInt8) : DataW.weights (H := H) Tryd.prog 41 (.agg [.lit (.string k), .lit (.string c), .lit (.string n)]) = [k.length, c.length, n.length] := by
  simp [DataW.weights, Tryd.underlying41, DataW.weightsEach]
end Go.Proofs.YtamehgbagkkofaaDoor
