/-
  Proved: for every pair of actions and every pair of numbers the law ActionApart answers true, and its arguments read behind the call as they read before. No condition.
-/
import Derived.Test.YtcojnjfpoiohoaaApt
import Derived.Test.YtcojnjfpoiohoaaLaw
namespace Go.Proofs.Ytcojnjfpoiohoaa.actionApart
open Go.ChangeShapes Go.WideShapes Go.ChangeAt Go.RowKit Go.Joins
open Go.ChangeMaps (open_string)

set_option maxHeartbeats 400000 in
/-- THE WALK: an action that is too long. -/
theorem apart_great1 (k1 c1 n1 k2 c2 n2 : ByteArray) (d0 d1 : Nat) (w : World) (hk1 : k1.size ≤ 140737488351232) (hc1 : c1.size ≤ 140737488351232) (hn1 : n1.size ≤ 140737488351232) (hA : 1000 < k1.size + c1.size + n1.size) :
    Calls Try.prog 3 #[.agg #[.string k1, .string c1, .string n1], .agg #[.string k2, .string c2, .string n2], .agg #[.int .u64 d0, .int .u64 d1]] w
      fun e w' => e = .returned (.bool true) ∧ Below w.heap.size w w' := by
  go_enter Try.func3, Try.ntmps3
  go_wp2_with fail
  refine (live18_any _).mono ?_
  rintro e w1 ⟨rfl, hb⟩
  go_wp2
  go_ret
  exact ⟨rfl, ((((Below.refl _ _).alloc (Nat.le_refl _) _).alloc (by simp) _).alloc (by simp; omega) _).trans (hb.mono (by simp; omega))⟩

set_option maxHeartbeats 400000 in
/-- THE WALK: the other action is too long. -/
theorem apart_great2 (k1 c1 n1 k2 c2 n2 : ByteArray) (d0 d1 : Nat) (w : World) (hk1 : k1.size ≤ 140737488351232) (hc1 : c1.size ≤ 140737488351232) (hn1 : n1.size ≤ 140737488351232)
    (hk2 : k2.size ≤ 140737488351232) (hc2 : c2.size ≤ 140737488351232) (hn2 : n2.size ≤ 140737488351232) (hA : k1.size + c1.size + n1.size ≤ 1000) (hB : 1000 < k2.size + c2.size + n2.size) :
    Calls Try.prog 3 #[.agg #[.string k1, .string c1, .string n1], .agg #[.string k2, .string c2, .string n2], .agg #[.int .u64 d0, .int .u64 d1]] w
      fun e w' => e = .returned (.bool true) ∧ Below w.heap.size w w' := by
  go_enter Try.func3, Try.ntmps3
  go_wp2_with fail
  refine (live18_any _).mono ?_
  rintro e w1 ⟨rfl, hb⟩
  go_wp2
  go_ret
  exact ⟨rfl, ((((Below.refl _ _).alloc (Nat.le_refl _) _).alloc (by simp) _).alloc (by simp; omega) _).trans (hb.mono (by simp; omega))⟩

/-- THE WALK, whatever the arguments. -/
theorem apart_any (k1 c1 n1 k2 c2 n2 : ByteArray) (d0 d1 : Nat) (w : World) (hk1 : k1.size ≤ 140737488351232) (hc1 : c1.size ≤ 140737488351232) (hn1 : n1.size ≤ 140737488351232)
    (hk2 : k2.size ≤ 140737488351232) (hc2 : c2.size ≤ 140737488351232) (hn2 : n2.size ≤ 140737488351232) (h0 : U64 d0) (h1 : U64 d1) :
    Calls Try.prog 3 #[.agg #[.string k1, .string c1, .string n1], .agg #[.string k2, .string c2, .string n2], .agg #[.int .u64 d0, .int .u64 d1]] w
      fun e w' => e = .returned (.bool true) ∧ Below w.heap.size w w' := by
  by_cases hA : k1.size + c1.size + n1.size ≤ 1000
  · by_cases hB : k2.size + c2.size + n2.size ≤ 1000
    · by_cases hk : k1 = k2
      · subst hk
        by_cases hc : c1 = c2
        · subst hc
          by_cases hn : n1 = n2
          · subst hn
            by_cases hd : d0 = d1
            · subst hd; exact apart_like_same k1 c1 n1 d0 w hk1 hc1 hn1 h0 hA
            · exact apart_like_other k1 c1 n1 d0 d1 w hk1 hc1 hn1 h0 h1 hA hd
          · by_cases hd : d0 = d1
            · subst hd; exact apart_need_same k1 c1 n1 n2 d0 w hk1 hc1 hn1 hn2 h0 hA hB hn
            · exact apart_need_other k1 c1 n1 n2 d0 d1 w hk1 hc1 hn1 hn2 h0 h1 hA hB hn hd
        · by_cases hd : d0 = d1
          · subst hd; exact apart_command_same k1 c1 n1 c2 n2 d0 w hk1 hc1 hn1 hc2 hn2 h0 hA hB hc
          · exact apart_command_other k1 c1 n1 c2 n2 d0 d1 w hk1 hc1 hn1 hc2 hn2 h0 h1 hA hB hc hd
      · by_cases hd : d0 = d1
        · subst hd; exact apart_key_same k1 c1 n1 k2 c2 n2 d0 w hk1 hc1 hn1 hk2 hc2 hn2 h0 hA hB hk
        · exact apart_key_other k1 c1 n1 k2 c2 n2 d0 d1 w hk1 hc1 hn1 hk2 hc2 hn2 h0 h1 hA hB hk hd
    · exact apart_great2 k1 c1 n1 k2 c2 n2 d0 d1 w hk1 hc1 hn1 hk2 hc2 hn2 hA (by omega)
  · exact apart_great1 k1 c1 n1 k2 c2 n2 d0 d1 w hk1 hc1 hn1 (by omega)

theorem cells3 : Try.prog.cellsOf 23 = 3 := by kernel_rfl
theorem cells2 : Try.prog.cellsOf 25 = 2 := by kernel_rfl
theorem cells1 : Try.prog.cellsOf 24 = 1 := by kernel_rfl

set_option maxRecDepth 100000 in
/-- An action that came in. -/
theorem open_action {H : Type} {enc : TypeId × Value → H} {W : World} {base : Nat} {v : Value} {d : DataW H} {p : List MemPlace} {sp : Nat → Bool} {hd : Bool}
    (hv : Value.okWide Try.prog W .any base 23 v) (h : DataW.Trod enc Try.prog W 0 sp hd 23 v d p) :
    ∃ k c n : ByteArray, v = .agg #[.string k, .string c, .string n] ∧ d = .agg [.lit (.string k.data.toList), .lit (.string c.data.toList), .lit (.string n.data.toList)] ∧ p = [] := by
  obtain ⟨v0, v1, v2, y0, y1, y2, m, rfl, rfl, rfl, h0, h1, h2⟩ := open_agg3 Try.underlying23 (by kernel_rfl) cells3 hv h
  obtain ⟨k, e0, rfl, _⟩ := DataW.trod_string Try.underlying9 h0
  obtain ⟨c, e1, rfl, _⟩ := DataW.trod_string Try.underlying9 h1
  obtain ⟨n, e2, rfl, _⟩ := DataW.trod_string Try.underlying9 h2
  simp at e0 e1 e2
  subst e0 e1 e2
  exact ⟨k, c, n, rfl, rfl, rfl⟩

theorem weights_action {H : Type} (k c n : List UInt8) : DataW.weights (H := H) Try.prog 23 (.agg [.lit (.string k), .lit (.string c), .lit (.string n)]) = [k.length, c.length, n.length] := by
  simp [DataW.weights, Try.underlying23, DataW.weightsEach]

set_option maxRecDepth 100000 in
theorem lifted (os : Os) (started : os.Started) (H : Type) (enc : TypeId × Value → H) :
    ReturnsInHanded {} Try.checked os 3 .any (Rows.actionApartSpec.pre6 enc Try.prog Try.f3 Rows.actionApartRow.domain false) (Rows.actionApartSpec.post enc Try.prog Try.f3 false true false false) := by
  refine law_lift (C := Try.checked) (P := Try.prog) (ts := [23, 23, 25]) rfl own started (by kernel_rfl) Try.func3 (by rw [Try.params3]) laidOut (by decide +kernel) rfl
    (fun ds hd => by match ds, hd with | [a, b, c], _ => rfl) rfl Try.underlying4
    (ChangeSpec.witness6 (enc := enc) (C := Try.checked) false ⟨#[], #[.agg #[.string ⟨#[]⟩, .string ⟨#[]⟩, .string ⟨#[]⟩], .agg #[.string ⟨#[]⟩, .string ⟨#[]⟩, .string ⟨#[]⟩], .agg #[.int .u64 0, .int .u64 0]], []⟩ 8 (by kernel_rfl) (by kernel_rfl) (by kernel_rfl) (by kernel_rfl)) ?_
  intro W base args ds ps hval hA hz
  obtain ⟨v0, vs0, d0, ds0, p0, q0, rfl, rfl, rfl, h0, r0⟩ := trodAll_cons hA
  obtain ⟨v1, vs1, d1, ds1, p1, q1, rfl, rfl, rfl, h1, r1⟩ := trodAll_cons r0
  obtain ⟨v2, vs2, d2, ds2, p2, q2, rfl, rfl, rfl, h2, r2⟩ := trodAll_cons r1
  obtain ⟨rfl, rfl, rfl⟩ := trodAll_nil r2
  obtain ⟨k1, c1, n1, rfl, rfl, rfl⟩ := open_action (hval 0 _ v0 rfl rfl) h0
  obtain ⟨k2, c2, n2, rfl, rfl, rfl⟩ := open_action (hval 1 _ v1 rfl rfl) h1
  obtain ⟨xs, rfl, hxs, hwf⟩ := open_int_array Try.underlying25 Try.underlying24 cells1 cells2 (hval 2 _ v2 rfl rfl) h2
  simp only [DataW.weightsEach, weights_action] at hz
  match xs, hxs with
  | [x0, x1], _ =>
    have b0 := bounds_u64 (hwf x0 (by simp))
    have b1 := bounds_u64 (hwf x1 (by simp))
    obtain ⟨y0, rfl⟩ := Int.eq_ofNat_of_zero_le b0.1
    obtain ⟨y1, rfl⟩ := Int.eq_ofNat_of_zero_le b1.1
    exact apart_any k1 c1 n1 k2 c2 n2 y0 y1 W (hz k1.size (by simp)) (hz c1.size (by simp)) (hz n1.size (by simp)) (hz k2.size (by simp)) (hz c2.size (by simp)) (hz n2.size (by simp)) (by unfold U64; omega) (by unfold U64; omega)

theorem proved : Rows.ActionApartSaid :=
  OpenClaim.holds_of_wide 3 Try.f3 rfl rfl rfl rfl rfl rfl rfl ⟨rfl, rfl, rfl, rfl, rfl⟩ rfl rfl rfl rfl rfl (by kernel_rfl) Try.func3 (by kernel_rfl)
    (of_decide_eq_true (by kernel_rfl)) (by unfold Func.isWrapper; first | (rw [if_pos (by decide +kernel)]; kernel_rfl) | (rw [if_neg (by decide +kernel)]; exact ⟨rfl, rfl⟩))
    (fun os started H enc _ => lifted os started H enc)
end Go.Proofs.Ytcojnjfpoiohoaa.actionApart
