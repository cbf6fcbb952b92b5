/-
  What the row lists is what the program's text lays: the tie's closed facts, one theorem each (in one theorem they outgrow the kernel's memory at this program's size).
-/
import Derived.Test.YthdjicolicokcaaGreatDoorRows
import Derived.LaidByTextLater
import Derived.LaidOnce
import Derived.SevenTiedAt
namespace Go.Proofs.YthdjicolicokcaaGreatDoor.TiedN
open Go Go.Proofs.YthdjicolicokcaaGreatDoor
set_option maxRecDepth 100000
abbrev listed : List (String × DataW Unit) := [("internal/strconv.uint64pow10", Rows.laid_internal_strconv_uint64pow10), ("math/bits.deBruijn32tab", Rows.laid_math_bits_deBruijn32tab), ("math/bits.deBruijn64tab", Rows.laid_math_bits_deBruijn64tab), ("unicode/utf8.acceptRanges", Rows.laid_unicode_utf8_acceptRanges), ("errors.errorType", Rows.laid_errors_errorType)]
theorem t0 : varsId Tryz.prog = 756 := by kernel_rfl
theorem t1 : Tryz.prog.worded (varsWordLater true) = true := by kernel_rfl
theorem t2 : Tryz.prog.worded (varsWordLater !true) = false := by kernel_rfl
theorem t3 : Tryz.prog.worded rootWordLater = true := by kernel_rfl
theorem t4 : listed.map (fun x => Tryz.prog.kindOfLater x.1) = [.data, .data, .data, .data, .handle].map some := by kernel_rfl
theorem t5 : (Tryz.prog.funcNamed "gosem.cut.vars").isSome = true := by kernel_rfl
theorem t6k : varsNamedLaterB Tryz.prog 756 listed = true := by kernel_rfl
theorem t6 : varsNamedLaterB Tryz.prog (varsId Tryz.prog) listed = true := (congrArg (fun k => varsNamedLaterB Tryz.prog k listed) t0).trans t6k
theorem t7 : ∀ os tape, doorLeaves Tryz.prog 60 8 80 listed os tape = some (listed.filter fun x => x.2.handleName?.isNone, (funcsListed listed).map (·.2.funcsOut)) := fun _ _ => by kernel_rfl
theorem tie : Tryz.prog.laidByTextLater listed [.data, .data, .data, .data, .handle] true := Program.laidByTextLater_by_one 60 8 80 t1 t2 t3 t4 t5 t6 t7
theorem pin : Tryz.pinned.checked.prog.pinnedFits "unicode/utf8.first" = true := by kernel_rfl
theorem noOwn : Tryz.pinned.checked.prog.headLifts.contains "ownunsafe" = false := by kernel_rfl
theorem fits : Tryz.pinned.checked.prog.listedFits [("internal/strconv.uint64pow10", Rows.laid_internal_strconv_uint64pow10), ("math/bits.deBruijn32tab", Rows.laid_math_bits_deBruijn32tab), ("math/bits.deBruijn64tab", Rows.laid_math_bits_deBruijn64tab), ("unicode/utf8.first", Rows.laid_unicode_utf8_first), ("unicode/utf8.acceptRanges", Rows.laid_unicode_utf8_acceptRanges), ("errors.errorType", Rows.laid_errors_errorType)] = true := by
  unfold Program.listedFits
  rw [noOwn]
  kernel_rfl
theorem rowTie : Rows.deskNilRow.laidByTextAt .later Tryz.pinned [.data, .data, .data, .pinned, .data, .handle] true :=
  OpenClaim.laidByTextAt_pinned rfl rfl tie rfl rfl rfl rfl (fun y hy _e => by
    simp only [Rows.deskNilRow, List.zip_cons_cons, List.zip_nil_right, List.mem_cons, List.mem_nil_iff, or_false] at hy
    rcases hy with rfl | rfl | rfl | rfl | rfl | rfl
    · cases _e
    · cases _e
    · cases _e
    · exact ⟨pin, by kernel_rfl⟩
    · cases _e
    · cases _e) fits
end Go.Proofs.YthdjicolicokcaaGreatDoor.TiedN
