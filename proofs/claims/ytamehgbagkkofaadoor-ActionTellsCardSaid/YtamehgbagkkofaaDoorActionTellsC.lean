/-
  Proved: ActionTells, its row and its card. No condition.
-/
import Derived.Test.YtamehgbagkkofaaDoorLawL
import Derived.Test.YtamehgbagkkofaaDoorActLaws
import Derived.Test.YtamehgbagkkofaaDoorOpenAct
namespace Go.Proofs.YtamehgbagkkofaaDoor.actionTells
open Go.ChangeShapes Go.WideShapes Go.ChangeAt Go.RowKit Go.Joins Go.Proofs.YtamehgbagkkofaaDoor 

theorem reads (os : Os) {H : Type} (enc : TypeId × Value → H) : ∃ places, DataW.whole enc Tryd.prog ((laidWorld os).forCall (fun _ _ => 0) ⟨#[], #[.agg #[.string ⟨#[]⟩, .string ⟨#[]⟩, .string ⟨#[]⟩], .int .u64 0], []⟩).memory Tryd.f7.params.toList Rows.actionTellsSpec.vars false (#[.agg #[.string ⟨#[]⟩, .string ⟨#[]⟩, .string ⟨#[]⟩], .int .u64 0] : Array Value).toList 8 = some ([.agg [.lit (.string []), .lit (.string []), .lit (.string [])], .lit (.int .u64 0)], [], places) :=
  ⟨[], by kernel_rfl⟩

set_option maxRecDepth 100000 in
theorem lifted (os : Os) (started : os.Started) (H : Type) (enc : TypeId × Value → H) (F : Stop.Interp) :
    ReturnsInHanded {} Tryd.checked os 7 .any ((OpenSpec.ofChange Rows.actionTellsSpec).preRow enc Tryd.prog Tryd.f7 Rows.actionTellsRow.domain false Rows.actionTellsRow.laid) (((OpenSpec.ofChange Rows.actionTellsSpec).at F).post enc Tryd.prog Tryd.f7 false true false false) := by
  obtain ⟨places, hx⟩ := reads os enc
  refine returnsInHanded_of_row (C := Tryd.checked) (s := OpenSpec.ofChange Rows.actionTellsSpec) own started (by kernel_rfl) Tryd.func7
    (witness_row_at (enc := enc) (C := Tryd.checked) false (laidWorld os) #[.agg #[.string ⟨#[]⟩, .string ⟨#[]⟩, .string ⟨#[]⟩], .int .u64 0] rfl (by kernel_rfl) (by kernel_rfl) (by kernel_rfl)
      (OpenSpec.preRow_of_cond 8 hx (by kernel_rfl) (fun k hk => by cases hk) (by kernel_rfl) (laid_met os _))) ?_
  intro W base args ds gs before hval hW _ _ hz _ hsh _
  refine law_contract (C := Tryd.checked) (s := Rows.actionTellsSpec) (ts := [41, 48]) rfl (by rw [Tryd.params7]) laidOut (by decide +kernel) rfl (fun ds hd => by match ds, hd with | [a, b], _ => rfl) rfl Tryd.underlying4 hval hW hz ?_
  intro args ps hval hA hz
  obtain ⟨v0, vs0, d0, ds0, p0, q0, rfl, rfl, rfl, h0, r0⟩ := trodAll_cons hA
  obtain ⟨v1, vs1, d1, ds1, p1, q1, rfl, rfl, rfl, h1, r1⟩ := trodAll_cons r0
  obtain ⟨rfl, rfl, rfl⟩ := trodAll_nil r1
  obtain ⟨k, c, n, rfl, rfl, rfl⟩ := open_action (hval 0 _ v0 rfl rfl) h0
  obtain ⟨x, rfl, rfl, rfl, hwf⟩ := open_int Tryd.underlying48 (hval 1 _ v1 rfl rfl) h1
  have hz : ∀ u ∈ DataW.weightsEach (H := H) Tryd.prog [41, 48] [.agg [.lit (.string k.data.toList), .lit (.string c.data.toList), .lit (.string n.data.toList)], .lit (.int .u64 x)], u ≤ 140737488351232 := hz
  simp only [DataW.weightsEach, weights_action] at hz
  have b0 := bounds_u64 hwf
  obtain ⟨y, rfl⟩ := Int.eq_ofNat_of_zero_le b0.1
  exact actionTells_any k c n y W (ready_shaped hsh) (by unfold U64; omega) (hz k.size (by simp)) (hz c.size (by simp)) (hz n.size (by simp))

theorem said : Rows.ActionTellsSaid :=
  OpenClaim.holds_of_cond 7 Tryd.f7 rfl rfl rfl rfl rfl rfl rfl ⟨rfl, rfl, rfl, rfl, rfl⟩ rfl rfl rfl rfl rfl (by kernel_rfl) Tryd.func7 (by kernel_rfl)
    (of_decide_eq_true (by kernel_rfl)) (by unfold Func.isWrapper; first | (rw [if_pos (by decide +kernel)]; kernel_rfl) | (rw [if_neg (by decide +kernel)]; exact ⟨rfl, rfl⟩))
    (fun os started H enc _ F => by rw [OpenClaim.pre_eq_preRow]; exact lifted os started H enc F)

theorem plain (f : FuncId) (fn : Func) (hf : Tryd.pinned.checked.prog.funcNamed "billet/billetlaw18.ActionTells" = some f) (hfn : Tryd.pinned.checked.prog.funcs[f]? = some fn) :
    false = Tryd.pinned.checked.prog.looks [] ∧ ∀ (j : Nat) t, fn.params[j]? = some t → Tryd.pinned.checked.prog.wantsStandIn t = false := by
  obtain rfl : f = 7 := Option.some.inj ((show Tryd.prog.funcNamed "billet/billetlaw18.ActionTells" = some 7 by kernel_rfl).symm.trans hf) |>.symm
  obtain rfl : fn = Tryd.f7 := (Option.some.inj (Tryd.func7.symm.trans hfn)).symm
  refine ⟨by kernel_rfl, fun j t ht => ?_⟩
  rw [Tryd.params7] at ht
  have hm : t ∈ [41, 48] := by simpa using Array.mem_of_getElem? ht
  have hall : ([41, 48].all fun u => !Tryd.prog.wantsStandIn u) = true := by kernel_rfl
  exact (show Tryd.prog.wantsStandIn t = false by simpa using List.all_eq_true.1 hall t hm)

/-- ████ THE CARD ████ -/
theorem card : Rows.ActionTellsCardSaid :=
  Claim7.holds_tied_plain_at .later [] _ _ _ _ said (fun _ h => by cases h) (by kernel_rfl) (fun _ h => by cases h) actionTells_row_tie rfl ⟨rfl, rfl⟩ (by kernel_rfl) rfl plain (by kernel_rfl)
end Go.Proofs.YtamehgbagkkofaaDoor.actionTells
