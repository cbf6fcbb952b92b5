/-
  Proved: for every quantum and every list of calls the law ShareActs answers true, and its arguments read behind the call as they read before. No condition.
-/
import Derived.Test.YtohkchilogmneaaSActs
import Derived.Test.YtohkchilogmneaaLaw
namespace Go.Proofs.Ytohkchilogmneaa.shareActs
open Go.ChangeShapes Go.WideShapes Go.ChangeAt Go.RowKit Go.Joins Go.Proofs.Ytohkchilogmneaa

set_option maxRecDepth 100000 in
theorem lifted (os : Os) (started : os.Started) (H : Type) (enc : TypeId × Value → H) :
    ReturnsInHanded {} Try.checked os 8 .any (Rows.shareActsSpec.pre6 enc Try.prog Try.f8 Rows.shareActsRow.domain false) (Rows.shareActsSpec.post enc Try.prog Try.f8 false true false false) := by
  refine law_lift (C := Try.checked) (P := Try.prog) (ts := [3, 62]) rfl own started (by kernel_rfl) Try.func8 (by rw [Try.params8]) laidOut (by decide +kernel) rfl
    (fun ds hd => by match ds, hd with | [a, b], _ => rfl) rfl Try.underlying4
    (ChangeSpec.witness6 (enc := enc) (C := Try.checked) false ⟨#[], #[.int .i64 0, .slice none 0 0], []⟩ 8 (by kernel_rfl) (by kernel_rfl) (by kernel_rfl) (by kernel_rfl)) ?_
  intro W base args ds ps hval hA hz
  obtain ⟨v0, vs0, d0, ds0, p0, q0, rfl, rfl, rfl, h0, r0⟩ := trodAll_cons hA
  obtain ⟨v1, vs1, d1, ds1, p1, q1, rfl, rfl, rfl, h1, r1⟩ := trodAll_cons r0
  obtain ⟨rfl, rfl, rfl⟩ := trodAll_nil r1
  obtain ⟨q, rfl, _⟩ := open_int Try.underlying3 (hval 0 _ v0 rfl rfl) h0
  obtain ⟨sa, sl, sc, rfl⟩ := Go.WideShapes.okWide_slice Try.underlying62 (hval 1 _ v1 rfl rfl)
  obtain ⟨fuel1, hf1⟩ := h1
  obtain ⟨l, hl, hq⟩ := open_scs (fun x hx => hz x (weightsEach_mem (i := 1) rfl rfl hx)) hf1
  exact shareActs_any q _ l W hl hq

theorem proved : Rows.ShareActsSaid :=
  OpenClaim.holds_of_wide 8 Try.f8 rfl rfl rfl rfl rfl rfl rfl ⟨rfl, rfl, rfl, rfl, rfl⟩ rfl rfl rfl rfl rfl (by kernel_rfl) Try.func8 (by kernel_rfl)
    (of_decide_eq_true (by kernel_rfl)) (by unfold Func.isWrapper; first | (rw [if_pos (by decide +kernel)]; kernel_rfl) | (rw [if_neg (by decide +kernel)]; exact ⟨rfl, rfl⟩))
    (fun os started H enc _ => lifted os started H enc)
end Go.Proofs.Ytohkchilogmneaa.shareActs
