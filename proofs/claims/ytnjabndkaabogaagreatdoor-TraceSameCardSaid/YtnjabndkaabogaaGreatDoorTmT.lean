/-
  Proved: TraceSame, its row and its card. No condition.
-/
import Derived.Test.YtnjabndkaabogaaGreatDoorTm01
import Derived.Test.YtnjabndkaabogaaGreatDoorTm09
import Derived.Test.YtnjabndkaabogaaGreatDoorTm03
namespace Go.Proofs.YtnjabndkaabogaaGreatDoor.traceSame
open Go.ChangeShapes Go.WideShapes Go.ChangeAt Go.RowKit Go.Joins Go.Proofs.YtnjabndkaabogaaGreatDoor 
theorem reads (os : Os) {H : Type} (enc : TypeId × Value → H) : ∃ places, DataW.whole enc Tryz.prog ((laidWorld os).forCall (fun _ _ => 0) ⟨#[], #[.slice none 0 0, .slice none 0 0], []⟩).memory Tryz.f3.params.toList Rows.traceSameSpec.vars false (#[.slice none 0 0, .slice none 0 0] : Array Value).toList 8 = some ([.nil, .nil], [], places) :=
  ⟨[], by kernel_rfl⟩
set_option maxRecDepth 100000 in
theorem lifted (os : Os) (started : os.Started) (H : Type) (enc : TypeId × Value → H) (F : Stop.Interp) :
    ReturnsInHanded {} Tryz.checked os 3 .any ((OpenSpec.ofChange Rows.traceSameSpec).preRow enc Tryz.prog Tryz.f3 Rows.traceSameRow.domain false Rows.traceSameRow.laid) (((OpenSpec.ofChange Rows.traceSameSpec).at F).post enc Tryz.prog Tryz.f3 false true false false) := by
  obtain ⟨places, hx⟩ := reads os enc
  refine returnsInHanded_of_row (C := Tryz.checked) (s := OpenSpec.ofChange Rows.traceSameSpec) own started (by kernel_rfl) Tryz.func3
    (witness_row_at (enc := enc) (C := Tryz.checked) false (laidWorld os) #[.slice none 0 0, .slice none 0 0] rfl (by kernel_rfl) (by kernel_rfl) (by kernel_rfl)
      (OpenSpec.preRow_of_cond 8 hx (by kernel_rfl) (fun k hk => by cases hk) (by kernel_rfl) (laid_met os _))) ?_
  intro W base args ds gs before hval hW _ _ hz _ hsh _
  refine law_contract (C := Tryz.checked) (s := Rows.traceSameSpec) (ts := [22, 22]) rfl (by rw [Tryz.params3]) laidOut (by decide +kernel) rfl (fun ds hd => by match ds, hd with | [a, b], _ => rfl) rfl Tryz.underlying4 hval hW hz ?_
  intro args ps hval hA hz
  obtain ⟨v0, vs0, d0, ds0, p0, q0, rfl, rfl, rfl, h0, r0⟩ := trodAll_cons hA
  obtain ⟨v1, vs1, d1, ds1, p1, q1, rfl, rfl, rfl, h1, r1⟩ := trodAll_cons r0
  obtain ⟨rfl, rfl, rfl⟩ := trodAll_nil r1
  obtain ⟨sa0, sl0, sc0, rfl⟩ := Go.WideShapes.okWide_slice Tryz.underlying22 (hval 0 _ v0 rfl rfl)
  obtain ⟨n0, e0⟩ := h0
  obtain ⟨l, hL0, hn0, hq0⟩ := s3_open_marks (x := (d0, p0)) (fun x hx => hz x (weightsEach_mem (i := 0) rfl rfl hx)) e0
  obtain ⟨sa1, sl1, sc1, rfl⟩ := Go.WideShapes.okWide_slice Tryz.underlying22 (hval 1 _ v1 rfl rfl)
  obtain ⟨n1, e1⟩ := h1
  obtain ⟨m, hL1, hn1, hq1⟩ := s3_open_marks (x := (d1, p1)) (fun x hx => hz x (weightsEach_mem (i := 1) rfl rfl hx)) e1
  exact traceSame_any _ _ l m W ⟨hL0, fun x hx => (hq0 x hx).1⟩ ⟨hL1, fun x hx => (hq1 x hx).1⟩ hn0 hn1 (fun x hx => (hq0 x hx).2) (fun x hx => (hq1 x hx).2)
theorem said : Rows.TraceSameSaid :=
  OpenClaim.holds_of_cond 3 Tryz.f3 rfl rfl rfl rfl rfl rfl rfl ⟨rfl, rfl, rfl, rfl, rfl⟩ rfl rfl rfl rfl rfl (by kernel_rfl) Tryz.func3 facts
    (of_decide_eq_true (by kernel_rfl)) (by unfold Func.isWrapper; first | (rw [if_pos (by decide +kernel)]; kernel_rfl) | (rw [if_neg (by decide +kernel)]; exact ⟨rfl, rfl⟩))
    (fun os started H enc _ F => by rw [OpenClaim.pre_eq_preRow]; exact lifted os started H enc F)
theorem plain (f : FuncId) (fn : Func) (hf : Tryz.pinned.checked.prog.funcNamed "billet/billetlaw42.TraceSame" = some f) (hfn : Tryz.pinned.checked.prog.funcs[f]? = some fn) :
    true = Tryz.pinned.checked.prog.looks [] ∧ ∀ (j : Nat) t, fn.params[j]? = some t → Tryz.pinned.checked.prog.wantsStandIn t = false := by
  obtain rfl : f = 3 := Option.some.inj ((show Tryz.prog.funcNamed "billet/billetlaw42.TraceSame" = some 3 by kernel_rfl).symm.trans hf) |>.symm
  obtain rfl : fn = Tryz.f3 := (Option.some.inj (Tryz.func3.symm.trans hfn)).symm
  refine ⟨by kernel_rfl, fun j t ht => ?_⟩
  rw [Tryz.params3] at ht
  have hm : t ∈ [22, 22] := by simpa using Array.mem_of_getElem? ht
  have hall : ([22, 22].all fun u => !Tryz.prog.wantsStandIn u) = true := by kernel_rfl
  exact (show Tryz.prog.wantsStandIn t = false by simpa using List.all_eq_true.1 hall t hm)
theorem cw : Rows.traceSameRow.wfByText (OpenSpec.ofChange Rows.traceSameSpec) = true := by kernel_rfl
theorem cm : Tryz.pinned.checked.prog.mainIs = some (Rows.traceSameCard.stood.harness.1, Rows.traceSameCard.stood.harness.2.toList) := by kernel_rfl
theorem cg : false = Rows.traceSameRow.goesBy Tryz.pinned.checked.prog := goes_not (P := Tryz.prog) no_goes rfl
/-- ████ THE CARD ████ -/
theorem card : Rows.TraceSameCardSaid :=
  Claim7.holds_tied_plain_at .later [] _ _ _ _ said (fun _ h => by cases h) cw (fun _ h => by cases h) traceSame_row_tie rfl ⟨rfl, rfl⟩ cm rfl plain cg
end Go.Proofs.YtnjabndkaabogaaGreatDoor.traceSame
