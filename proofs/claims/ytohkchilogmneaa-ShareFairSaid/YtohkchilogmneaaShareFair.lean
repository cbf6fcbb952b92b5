/-
  Proved: for every quantum, all weights and every list of calls the law ShareFair answers true, and its arguments read behind the call as they read before. No condition.
-/
import Derived.Test.YtohkchilogmneaaSFair
import Derived.Test.YtohkchilogmneaaOpenW3
import Derived.Test.YtohkchilogmneaaLaw
namespace Go.Proofs.Ytohkchilogmneaa.shareFair
open Go.ChangeShapes Go.WideShapes Go.ChangeAt Go.RowKit Go.Joins Go.Proofs.Ytohkchilogmneaa

set_option maxRecDepth 100000 in
theorem lifted (os : Os) (started : os.Started) (H : Type) (enc : TypeId × Value → H) :
    ReturnsInHanded {} Try.checked os 7 .any (Rows.shareFairSpec.pre6 enc Try.prog Try.f7 Rows.shareFairRow.domain false) (Rows.shareFairSpec.post enc Try.prog Try.f7 false true false false) := by
  refine law_lift (C := Try.checked) (P := Try.prog) (ts := [3, 61, 62]) rfl own started (by kernel_rfl) Try.func7 (by rw [Try.params7]) laidOut (by decide +kernel) rfl
    (fun ds hd => by match ds, hd with | [a, b, c], _ => rfl) rfl Try.underlying4
    (ChangeSpec.witness6 (enc := enc) (C := Try.checked) false ⟨#[], #[.int .i64 0, .agg #[.int .i64 0, .int .i64 0, .int .i64 0, .int .i64 0, .int .i64 0, .int .i64 0, .int .i64 0, .int .i64 0, .int .i64 0, .int .i64 0, .int .i64 0, .int .i64 0], .slice none 0 0], []⟩ 8 (by kernel_rfl) (by kernel_rfl) (by kernel_rfl) (by kernel_rfl)) ?_
  intro W base args ds ps hval hA hz
  obtain ⟨v0, vs0, d0, ds0, p0, q0, rfl, rfl, rfl, h0, r0⟩ := trodAll_cons hA
  obtain ⟨v1, vs1, d1, ds1, p1, q1, rfl, rfl, rfl, h1, r1⟩ := trodAll_cons r0
  obtain ⟨v2, vs2, d2, ds2, p2, q2, rfl, rfl, rfl, h2, r2⟩ := trodAll_cons r1
  obtain ⟨rfl, rfl, rfl⟩ := trodAll_nil r2
  obtain ⟨q, rfl, _⟩ := open_int Try.underlying3 (hval 0 _ v0 rfl rfl) h0
  obtain ⟨x0, x1, x2, x3, y0, y1, y2, y3, z0, z1, z2, z3, rfl⟩ := open_w3 (hval 1 _ v1 rfl rfl) h1
  obtain ⟨sa, sl, sc, rfl⟩ := Go.WideShapes.okWide_slice Try.underlying62 (hval 2 _ v2 rfl rfl)
  obtain ⟨fuel2, hf2⟩ := h2
  obtain ⟨l, hl, hq⟩ := open_scs (fun x hx => hz x (weightsEach_mem (i := 2) rfl rfl hx)) hf2
  exact shareFair_any q _ _ l W hl hq (fun p h => w3Of_all (p := p) h)

theorem proved : Rows.ShareFairSaid :=
  OpenClaim.holds_of_wide 7 Try.f7 rfl rfl rfl rfl rfl rfl rfl ⟨rfl, rfl, rfl, rfl, rfl⟩ rfl rfl rfl rfl rfl (by kernel_rfl) Try.func7 (by kernel_rfl)
    (of_decide_eq_true (by kernel_rfl)) (by unfold Func.isWrapper; first | (rw [if_pos (by decide +kernel)]; kernel_rfl) | (rw [if_neg (by decide +kernel)]; exact ⟨rfl, rfl⟩))
    (fun os started H enc _ => lifted os started H enc)
end Go.Proofs.Ytohkchilogmneaa.shareFair
