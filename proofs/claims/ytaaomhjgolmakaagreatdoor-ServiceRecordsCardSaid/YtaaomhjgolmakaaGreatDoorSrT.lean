/-
  Proved: ServiceRecords, its row and its card. No condition.
-/
import Derived.Test.YtaaomhjgolmakaaGreatDoorSr11
import Derived.Test.YtaaomhjgolmakaaGreatDoorSr10
import Derived.Test.YtaaomhjgolmakaaGreatDoorSr12
import Derived.Test.YtaaomhjgolmakaaGreatDoorCards
import Derived.Test.YtaaomhjgolmakaaGreatDoorSr13
namespace Go.Proofs.YtaaomhjgolmakaaGreatDoor.serviceRecords
open Go.ChangeShapes Go.WideShapes Go.ChangeAt Go.RowKit Go.Joins Go.Proofs.YtaaomhjgolmakaaGreatDoor 
theorem reads (os : Os) {H : Type} (enc : TypeId × Value → H) : ∃ places, DataW.whole enc Tryz.prog ((laidWorld os).forCall (fun _ _ => 0) ⟨#[], #[.int .u64 0, .string ⟨#[]⟩, .agg #[.slice none 0 0, .slice none 0 0, .int .i64 0, .int .i64 0, .int .i64 0, .int .i64 0, .int .i64 0, .int .i64 0, .int .i64 0, .int .i64 0, .int .i64 0, .int .i64 0, .int .i64 0, .int .i64 0, .int .i64 0, .int .i64 0, .int .i64 0, .int .i64 0, .int .i64 0]], []⟩).memory Tryz.f3.params.toList Rows.serviceRecordsSpec.vars false (#[.int .u64 0, .string ⟨#[]⟩, .agg #[.slice none 0 0, .slice none 0 0, .int .i64 0, .int .i64 0, .int .i64 0, .int .i64 0, .int .i64 0, .int .i64 0, .int .i64 0, .int .i64 0, .int .i64 0, .int .i64 0, .int .i64 0, .int .i64 0, .int .i64 0, .int .i64 0, .int .i64 0, .int .i64 0, .int .i64 0]] : Array Value).toList 8 = some ([.lit (.int .u64 0), .lit (.string []), .agg [.nil, .nil, .lit (.int .i64 0), .lit (.int .i64 0), .lit (.int .i64 0), .lit (.int .i64 0), .lit (.int .i64 0), .lit (.int .i64 0), .lit (.int .i64 0), .lit (.int .i64 0), .lit (.int .i64 0), .lit (.int .i64 0), .lit (.int .i64 0), .lit (.int .i64 0), .lit (.int .i64 0), .lit (.int .i64 0), .lit (.int .i64 0), .lit (.int .i64 0), .lit (.int .i64 0)]], [], places) :=
  ⟨[], by kernel_rfl⟩
set_option maxRecDepth 100000 in
theorem lifted (os : Os) (started : os.Started) (H : Type) (enc : TypeId × Value → H) (F : Stop.Interp) :
    ReturnsInHanded {} Tryz.checked os 3 .any ((OpenSpec.ofChange Rows.serviceRecordsSpec).preRow enc Tryz.prog Tryz.f3 Rows.serviceRecordsRow.domain false Rows.serviceRecordsRow.laid) (((OpenSpec.ofChange Rows.serviceRecordsSpec).at F).post enc Tryz.prog Tryz.f3 false true false false) := by
  obtain ⟨places, hx⟩ := reads os enc
  refine returnsInHanded_of_row (C := Tryz.checked) (s := OpenSpec.ofChange Rows.serviceRecordsSpec) own started (by kernel_rfl) Tryz.func3
    (witness_row_at (enc := enc) (C := Tryz.checked) false (laidWorld os) #[.int .u64 0, .string ⟨#[]⟩, .agg #[.slice none 0 0, .slice none 0 0, .int .i64 0, .int .i64 0, .int .i64 0, .int .i64 0, .int .i64 0, .int .i64 0, .int .i64 0, .int .i64 0, .int .i64 0, .int .i64 0, .int .i64 0, .int .i64 0, .int .i64 0, .int .i64 0, .int .i64 0, .int .i64 0, .int .i64 0]] rfl (by kernel_rfl) (by kernel_rfl) (by kernel_rfl)
      (OpenSpec.preRow_of_cond 8 hx (by kernel_rfl) (fun k hk => by cases hk) (by kernel_rfl) (laid_met os _))) ?_
  intro W base args ds gs before hval hW _ _ hz hL hsh _
  refine law_contract (C := Tryz.checked) (s := Rows.serviceRecordsSpec) (ts := [22, 9, 26]) rfl (by rw [Tryz.params3]) laidOut (by decide +kernel) rfl (fun ds hd => by match ds, hd with | [a, b, c], _ => rfl) rfl Tryz.underlying4 hval hW hz ?_
  intro args ps hval hA hz
  obtain ⟨v0, vs0, d0, ds0, p0, q0, rfl, rfl, rfl, h0, r0⟩ := trodAll_cons hA
  obtain ⟨v1, vs1, d1, ds1, p1, q1, rfl, rfl, rfl, h1, r1⟩ := trodAll_cons r0
  obtain ⟨v2, vs2, d2, ds2, p2, q2, rfl, rfl, rfl, h2, r2⟩ := trodAll_cons r1
  obtain ⟨rfl, rfl, rfl⟩ := trodAll_nil r2
  obtain ⟨x, rfl, rfl, rfl, hwf⟩ := open_int Tryz.underlying22 (hval 0 _ v0 rfl rfl) h0
  have b0 := bounds_u64 hwf
  obtain ⟨now, rfl⟩ := Int.eq_ofNat_of_zero_le b0.1
  obtain ⟨t, rfl, rfl, rfl, _⟩ := Go.ChangeMaps.open_string Tryz.underlying9 (hval 1 _ v1 rfl rfl) h1
  obtain ⟨cs, tv, lv, c, rfl, hc, hC⟩ := open_config (hval 2 _ v2 rfl rfl) h2 (fun x hx => hz x (weightsEach_mem (i := 2) rfl rfl hx))
  exact records_any cs tv lv c now t W hc hC (et_block hsh (et_cell hL)) (by have := b0.2; omega)
theorem said : Rows.ServiceRecordsSaid :=
  OpenClaim.holds_of_cond 3 Tryz.f3 rfl rfl rfl rfl rfl rfl rfl ⟨rfl, rfl, rfl, rfl, rfl⟩ rfl rfl rfl rfl rfl (by kernel_rfl) Tryz.func3 facts
    (of_decide_eq_true (by kernel_rfl)) (by unfold Func.isWrapper; first | (rw [if_pos (by decide +kernel)]; kernel_rfl) | (rw [if_neg (by decide +kernel)]; exact ⟨rfl, rfl⟩))
    (fun os started H enc _ F => by rw [OpenClaim.pre_eq_preRow]; exact lifted os started H enc F)
theorem plain (f : FuncId) (fn : Func) (hf : Tryz.pinned.checked.prog.funcNamed "billet/billetlaw38.ServiceRecords" = some f) (hfn : Tryz.pinned.checked.prog.funcs[f]? = some fn) :
    true = Tryz.pinned.checked.prog.looks [] ∧ ∀ (j : Nat) t, fn.params[j]? = some t → Tryz.pinned.checked.prog.wantsStandIn t = false := by
  obtain rfl : f = 3 := Option.some.inj ((show Tryz.prog.funcNamed "billet/billetlaw38.ServiceRecords" = some 3 by kernel_rfl).symm.trans hf) |>.symm
  obtain rfl : fn = Tryz.f3 := (Option.some.inj (Tryz.func3.symm.trans hfn)).symm
  refine ⟨by kernel_rfl, fun j t ht => ?_⟩
  rw [Tryz.params3] at ht
  have hm : t ∈ [22, 9, 26] := by simpa using Array.mem_of_getElem? ht
  have hall : ([22, 9, 26].all fun u => !Tryz.prog.wantsStandIn u) = true := by kernel_rfl
  exact (show Tryz.prog.wantsStandIn t = false by simpa using List.all_eq_true.1 hall t hm)
theorem cw : Rows.serviceRecordsRow.wfByText (OpenSpec.ofChange Rows.serviceRecordsSpec) = true := by kernel_rfl
theorem cm : Tryz.pinned.checked.prog.mainIs = some (Rows.serviceRecordsCard.stood.harness.1, Rows.serviceRecordsCard.stood.harness.2.toList) := by kernel_rfl
theorem cg : false = Rows.serviceRecordsRow.goesBy Tryz.pinned.checked.prog := goes_not (P := Tryz.prog) no_goes rfl
/-- ████ THE CARD ████ -/
theorem card : Rows.ServiceRecordsCardSaid :=
  Claim7.holds_tied_plain_at .later [] _ _ _ _ said (fun _ h => by cases h) cw (fun _ h => by cases h) Tied.rowTie rfl ⟨rfl, rfl⟩ cm rfl plain cg
end Go.Proofs.YtaaomhjgolmakaaGreatDoor.serviceRecords
