/-
  No function of the program starts a goroutine.
-/
import Derived.Test.YtjfcjpbolokfcaaGreatDoorRows
import GoSem.ClaimGoes
namespace Go.Proofs.YtjfcjpbolokfcaaGreatDoor
open Go

theorem goes_not {P : Program} (h : P.funcs.toList.any Func.goes = false) {c : OpenClaim} (hs : c.start = .entering) : false = c.goesBy P := by
  have one : ∀ g : Nat, (P.funcs[g]?).any Func.goes = false := fun g => by
    cases hg : P.funcs[g]? with
    | none => rfl
    | some fn =>
      have hm : fn ∈ P.funcs.toList := Array.mem_toList_iff.2 (Array.mem_of_getElem? hg)
      have := List.any_eq_false.1 h fn hm
      simpa using this
  have all : ∀ f : FuncId, P.goes f = false := fun f => by
    unfold Program.goes
    have h1 : ((P.closure f).any fun g => (P.funcs[g]?).any Func.goes) = false := by
      first
        | (rw [List.any_eq_false]; intro g _; rw [one g]; decide)
        | (rw [Array.any_eq_false]; intro g _; rw [one _]; decide)
    have h2 : P.funcs.any Func.goes = false := by rw [← Array.any_toList]; exact h
    rw [h1, h2, Bool.and_false, Bool.or_false]
  unfold OpenClaim.goesBy Program.goesAt Program.goesFrom
  rw [hs]
  cases P.funcNamed c.func with
  | none => rfl
  | some f => simp [all f]
theorem no_goes : Tryz.prog.funcs.toList.any Func.goes = false := by kernel_rfl
end Go.Proofs.YtjfcjpbolokfcaaGreatDoor
