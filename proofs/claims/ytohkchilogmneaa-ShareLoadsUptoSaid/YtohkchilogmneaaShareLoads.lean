/-
  Proved: for every quantum, all rows, given or not, of bulk at most 1048576 together, the law ShareLoads answers true, and its arguments read behind the call as they read before. Its condition is that bound.
-/
import Derived.Test.YtohkchilogmneaaOpenDV
namespace Go.Proofs.Ytohkchilogmneaa.shareLoads
open Go.ChangeShapes Go.WideShapes Go.ChangeAt Go.RowKit Go.Joins Go.Deep Go.Proofs.Ytohkchilogmneaa

set_option maxRecDepth 100000 in
theorem lifted (os : Os) (started : os.Started) (H : Type) (enc : TypeId × Value → H) (F : Stop.Interp) :
    ReturnsInHanded {} Try.checked os 9 .any ((Rows.OpenSpec.upto Rows.shareLoadsSpec).pre6 enc Try.prog Try.f9 Rows.shareLoadsUptoRow.domain false) (((Rows.OpenSpec.upto Rows.shareLoadsSpec).at F).post enc Try.prog Try.f9 false true false false) := by
  refine returnsInHanded_of_cond_sized (C := Try.checked) (s := Rows.OpenSpec.upto Rows.shareLoadsSpec) (k := Rows.uptoSmall) rfl own started (by kernel_rfl) Try.func9
    (OpenSpec.witness (enc := enc) (C := Try.checked) (s := Rows.OpenSpec.upto Rows.shareLoadsSpec) (k := Rows.uptoSmall) rfl false ⟨#[], #[.int .i64 0, .slice none 0 0, .bool false], []⟩ 8 (by kernel_rfl) (by kernel_rfl) (by kernel_rfl)
      (x := ([.lit (.int .i64 0), .nil, .lit (.bool false)], [], [])) (by kernel_rfl) rfl (by kernel_rfl)) ?_
  intro W base args ds gs before hval hW _ hk hz _
  refine law_contract (C := Try.checked) (P := Try.prog) (s := Rows.shareLoadsSpec) (ts := [3, 82, 4]) rfl (by rw [Try.params9]) laidOut (by decide +kernel) rfl (fun ds hd => by match ds, hd with | [a, b, c], _ => rfl) rfl Try.underlying4 hval hW hz hk ?_
  intro args ps hval hA hz hb
  obtain ⟨v0, vs0, d0, ds0, p0, q0, rfl, rfl, rfl, h0, r0⟩ := trodAll_cons hA
  obtain ⟨v1, vs1, d1, ds1, p1, q1, rfl, rfl, rfl, h1, r1⟩ := trodAll_cons r0
  obtain ⟨v2, vs2, d2, ds2, p2, q2, rfl, rfl, rfl, h2, r2⟩ := trodAll_cons r1
  obtain ⟨rfl, rfl, rfl⟩ := trodAll_nil r2
  obtain ⟨q, rfl, _⟩ := open_int Try.underlying3 (hval 0 _ v0 rfl rfl) h0
  obtain ⟨sa, sl, sc, rfl⟩ := Go.WideShapes.okWide_slice Try.underlying82 (hval 1 _ v1 rfl rfl)
  obtain ⟨fuel1, hf1⟩ := h1
  obtain ⟨l, hl, hq, hm⟩ := open_drs (fun x hx => hz x (weightsEach_mem (i := 1) rfl rfl hx)) hf1
  obtain ⟨gv, rfl, _⟩ := open_bool Try.underlying4 (hval 2 _ v2 rfl rfl) h2
  have hb1 := Nat.le_trans (bulk_mem (d := d1) (by simp)) hb
  exact shareLoads_any q gv _ l W hl hq (by have h : 2 * totT (l.map Prod.fst) ≤ Rows.uptoBulk d1 := hm; omega)

theorem proved : Rows.ShareLoadsUptoSaid :=
  OpenClaim.holds_of_cond 9 Try.f9 rfl rfl rfl rfl rfl rfl rfl ⟨rfl, rfl, rfl, rfl, rfl⟩ rfl rfl rfl rfl rfl (by kernel_rfl) Try.func9 (by kernel_rfl)
    (of_decide_eq_true (by kernel_rfl)) (by unfold Func.isWrapper; first | (rw [if_pos (by decide +kernel)]; kernel_rfl) | (rw [if_neg (by decide +kernel)]; exact ⟨rfl, rfl⟩))
    (fun os started H enc _ F => lifted os started H enc F)
end Go.Proofs.Ytohkchilogmneaa.shareLoads
