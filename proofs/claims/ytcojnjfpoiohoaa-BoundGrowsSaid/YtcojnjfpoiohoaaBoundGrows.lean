/-
  Proved: for every configuration, all numbers and every window the law BoundGrows answers true, and its arguments read behind the call as they read before. No condition.
-/
import Derived.Test.YtcojnjfpoiohoaaGrows2
import Derived.Test.YtcojnjfpoiohoaaOpenCfg
namespace Go.Proofs.Ytcojnjfpoiohoaa.boundGrows
open Go.ChangeShapes Go.WideShapes Go.ChangeAt Go.RowKit Go.Joins Go.Proofs.Ytcojnjfpoiohoaa

theorem six_cells : Try.prog.cellsOf 39 = 6 := by kernel_rfl
set_option maxRecDepth 100000 in
theorem lifted (os : Os) (started : os.Started) (H : Type) (enc : TypeId × Value → H) :
    ReturnsInHanded {} Try.checked os 5 .any (Rows.boundGrowsSpec.pre6 enc Try.prog Try.f5 Rows.boundGrowsRow.domain false) (Rows.boundGrowsSpec.post enc Try.prog Try.f5 false true false false) := by
  refine law_lift (C := Try.checked) (P := Try.prog) (ts := [34, 39, 3]) rfl own started (by kernel_rfl) Try.func5 (by rw [Try.params5]) laidOut (by decide +kernel) rfl
    (fun ds hd => by match ds, hd with | [a, b, c], _ => rfl) rfl Try.underlying4
    (ChangeSpec.witness6 (enc := enc) (C := Try.checked) false ⟨#[], #[.agg #[.slice none 0 0, .slice none 0 0, .int .i64 0, .int .i64 0, .int .i64 0, .int .i64 0, .int .i64 0, .int .i64 0, .int .i64 0, .int .i64 0, .int .i64 0, .int .i64 0, .int .i64 0, .int .i64 0, .int .i64 0, .int .i64 0, .int .i64 0, .int .i64 0, .int .i64 0], .agg #[.int .i64 0, .int .i64 0, .int .i64 0, .int .i64 0, .int .i64 0, .int .i64 0], .int .i64 0], []⟩ 8 (by kernel_rfl) (by kernel_rfl) (by kernel_rfl) (by kernel_rfl)) ?_
  intro W base args ds ps hval hA hz
  obtain ⟨v0, vs0, d0, ds0, p0, q0, rfl, rfl, rfl, h0, r0⟩ := trodAll_cons hA
  obtain ⟨v1, vs1, d1, ds1, p1, q1, rfl, rfl, rfl, h1, r1⟩ := trodAll_cons r0
  obtain ⟨v2, vs2, d2, ds2, p2, q2, rfl, rfl, rfl, h2, r2⟩ := trodAll_cons r1
  obtain ⟨rfl, rfl, rfl⟩ := trodAll_nil r2
  obtain ⟨cs, tv, lv, c, rfl, hc, hC⟩ := open_config (hval 0 _ v0 rfl rfl) h0 (fun x hx => hz x (weightsEach_mem (i := 0) rfl rfl hx))
  obtain ⟨xs, rfl, hxs, _⟩ := open_int_array Try.underlying39 Try.underlying3 int_cells six_cells (hval 1 _ v1 rfl rfl) h1
  obtain ⟨n, rfl, _⟩ := open_int Try.underlying3 (hval 2 _ v2 rfl rfl) h2
  exact grows_any cs tv lv c xs n W hc hC hxs

theorem proved : Rows.BoundGrowsSaid :=
  OpenClaim.holds_of_wide 5 Try.f5 rfl rfl rfl rfl rfl rfl rfl ⟨rfl, rfl, rfl, rfl, rfl⟩ rfl rfl rfl rfl rfl (by kernel_rfl) Try.func5 (by kernel_rfl)
    (of_decide_eq_true (by kernel_rfl)) (by unfold Func.isWrapper; first | (rw [if_pos (by decide +kernel)]; kernel_rfl) | (rw [if_neg (by decide +kernel)]; exact ⟨rfl, rfl⟩))
    (fun os started H enc _ => lifted os started H enc)
end Go.Proofs.Ytcojnjfpoiohoaa.boundGrows
