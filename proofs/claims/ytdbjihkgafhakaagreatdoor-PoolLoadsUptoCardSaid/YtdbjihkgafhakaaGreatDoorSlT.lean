/-
 Proved: PoolLoads, its second row and its card. Condition: what is read is of bulk at most 1048576.
-/
import Derived.Test.YtdbjihkgafhakaaGreatDoorSl16
import Derived.Test.YtdbjihkgafhakaaGreatDoorSl28
namespace Go.Proofs.YtdbjihkgafhakaaGreatDoor.poolLoads
open Go.ChangeShapes Go.WideShapes Go.ChangeAt Go.RowKit Go.Joins Go.Proofs.YtdbjihkgafhakaaGreatDoor 
theorem reads (os : Os) {H : Type} (enc : TypeId × Value → H) : ∃ places, DataW.whole enc Tryz.prog ((laidWorld os).forCall (fun _ _ => 0) ⟨#[], #[.agg #[.int .i64 0, .int .i64 0, .int .i64 0, .slice none 0 0, .int .i64 0], .slice none 0 0], []⟩).memory Tryz.f5.params.toList Rows.poolLoadsSpec.vars false (#[.agg #[.int .i64 0, .int .i64 0, .int .i64 0, .slice none 0 0, .int .i64 0], .slice none 0 0] : Array Value).toList 8 = some ([.agg [.agg [.lit (.int .i64 0), .lit (.int .i64 0), .lit (.int .i64 0)], .nil, .lit (.int .i64 0)], .nil], [], places) :=
 ⟨[], by kernel_rfl⟩
set_option maxRecDepth 100000 in
theorem Zor (os : Os) (started : os.Started) (H : Type) (enc : TypeId × Value → H) (F : Stop.Interp) :
 ReturnsInHanded {} Tryz.checked os 5 .any ((Rows.OpenSpec.upto Rows.poolLoadsSpec).preRow enc Tryz.prog Tryz.f5 Rows.poolLoadsUptoRow.domain false Rows.poolLoadsUptoRow.laid) (((Rows.OpenSpec.upto Rows.poolLoadsSpec).at F).post enc Tryz.prog Tryz.f5 false true false false) := by
 obtain ⟨places, hx⟩ := reads os enc
 refine returnsInHanded_of_row (C := Tryz.checked) (s := Rows.OpenSpec.upto Rows.poolLoadsSpec) own started (by kernel_rfl) Tryz.func5
  (witness_row_at (enc := enc) (C := Tryz.checked) false (laidWorld os) #[.agg #[.int .i64 0, .int .i64 0, .int .i64 0, .slice none 0 0, .int .i64 0], .slice none 0 0] rfl (by kernel_rfl) (by kernel_rfl) (by kernel_rfl)
    (OpenSpec.preRow_of_cond 8 hx (by kernel_rfl) (fun k hk => by cases hk; kernel_rfl) (by kernel_rfl) (Znj os _))) ?_
 intro W base args ds gs before hval hW _ hcond hz _ hsh _
 refine Zij (C := Tryz.checked) (s := Rows.poolLoadsSpec) (ts := [51, 23]) rfl (by rw [Tryz.params5]) ZnX (by decide +kernel) rfl (fun ds hd => by match ds, hd with | [a, b], _ => rfl) rfl Tryz.underlying4 hval hW hz ?_
 intro args ps hval hA hz
 obtain ⟨v0, vs0, d0, ds0, p0, q0, rfl, rfl, rfl, h0, r0⟩ := trodAll_cons hA
 obtain ⟨v1, vs1, d1, ds1, p1, q1, rfl, rfl, rfl, h1, r1⟩ := trodAll_cons r0
 obtain ⟨rfl, rfl, rfl⟩ := trodAll_nil r1
 obtain ⟨a, b, c, next, u, lx, rfl, hnx, hx1, hx2, hx3⟩ := ZjP (hval 0 _ v0 rfl rfl) h0 (fun x hx => hz x (Zbw (i := 0) rfl rfl hx)) (ZlZ (hcond _ rfl) (d := d0) (by simp))
 obtain ⟨sa1, sl1, sc1, rfl⟩ := Go.WideShapes.okWide_slice Tryz.underlying23 (hval 1 _ v1 rfl rfl)
 obtain ⟨n1, e1⟩ := h1
 obtain ⟨l, hL, _⟩ := Znm (x := (d1, p1)) (fun x hx => hz x (Zbw (i := 1) rfl rfl hx)) e1
 exact ZhE a b c next u _ lx l W (Zii hsh) hx1 hx2 hx3 hnx hL
theorem said : Rows.PoolLoadsUptoSaid :=
 OpenClaim.holds_of_cond 5 Tryz.f5 rfl rfl rfl rfl rfl rfl rfl ⟨rfl, rfl, rfl, rfl, rfl⟩ rfl rfl rfl rfl rfl (by kernel_rfl) Tryz.func5 (by kernel_rfl)
  (of_decide_eq_true (by kernel_rfl)) (by unfold Func.isWrapper; first | (rw [if_pos (by decide +kernel)]; kernel_rfl) | (rw [if_neg (by decide +kernel)]; exact ⟨rfl, rfl⟩))
  (fun os started H enc _ F => by rw [OpenClaim.pre_eq_preRow]; exact Zor os started H enc F)
theorem plain (f : FuncId) (fn : Func) (hf : Tryz.pinned.checked.prog.funcNamed "billet/billetlaw17.PoolLoads" = some f) (hfn : Tryz.pinned.checked.prog.funcs[f]? = some fn) :
 true = Tryz.pinned.checked.prog.looks [] ∧ ∀ (j : Nat) t, fn.params[j]? = some t → Tryz.pinned.checked.prog.wantsStandIn t = false := by
 obtain rfl : f = 5 := Option.some.inj ((show Tryz.prog.funcNamed "billet/billetlaw17.PoolLoads" = some 5 by kernel_rfl).symm.trans hf) |>.symm
 obtain rfl : fn = Tryz.f5 := (Option.some.inj (Tryz.func5.symm.trans hfn)).symm
 refine ⟨by kernel_rfl, fun j t ht => ?_⟩
 rw [Tryz.params5] at ht
 have hm : t ∈ [51, 23] := by simpa using Array.mem_of_getElem? ht
 have hall : ([51, 23].all fun u => !Tryz.prog.wantsStandIn u) = true := by kernel_rfl
 exact (show Tryz.prog.wantsStandIn t = false by simpa using List.all_eq_true.1 hall t hm)
/-- ████ THE CARD ████ -/
theorem card : Rows.PoolLoadsUptoCardSaid :=
 Claim7.holds_tied_plain_at .later [] _ _ _ _ said (fun _ h => by cases h) (by kernel_rfl) (fun _ h => by cases h) poolLoadsUpto_row_tie rfl ⟨rfl, rfl⟩ (by kernel_rfl) rfl plain (by kernel_rfl)
end Go.Proofs.YtdbjihkgafhakaaGreatDoor.poolLoads
