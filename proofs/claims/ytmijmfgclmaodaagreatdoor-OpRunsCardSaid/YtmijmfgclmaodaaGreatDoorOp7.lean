/-
  A new operation: the plain law.
-/
import Derived.Test.YtmijmfgclmaodaaGreatDoorOp2
namespace Go.Proofs.YtmijmfgclmaodaaGreatDoor
open Go.RowKit

/-- May the operation be, by what it is made of? -/
def mayB (c : Cfg) (o : Opr) : Bool := (checkE c == 0) && rightB o.key o.cmd o.need && decide (0 ≤ o.id) && decide (0 ≤ o.tenant) && decide (0 ≤ o.inv) && decide (1 ≤ o.cost) && decide (o.cost ≤ c.cost) && decide (0 ≤ o.cls) && decide (o.cls < classesV c)
/-- An operation made anew out of another one. -/
def againO (o : Opr) : Opr := newO o.id o.tenant o.inv o.key o.cmd o.need o.cost o.cls o.dl
theorem news_law (c : Cfg) (o : Opr) : opB c (againO o) = mayB c o := by
  unfold opB mayB
  by_cases h : checkE c = 0
  · have hk := cfgOk_of h
    obtain ⟨r0, r1⟩ := hk.retries
    obtain ⟨p0, p1⟩ := hk.preempts
    have e1 : countsB c (againO o) = true := by simp [countsB, againO, newO, r0, p0]
    have e2 : stateB (againO o) = true := by simp [stateB, againO, newO, triedB, moreV]
    have e3 : runsB (againO o) = true := by simp [runsB, againO, newO]
    have e4 : wakeB (againO o) = true := by simp [wakeB, againO, newO]
    rw [e1, e2, e3, e4, show (checkE c == 0) = true by simp [h], show rightB (againO o).key (againO o).cmd (againO o).need = rightB o.key o.cmd o.need from rfl]
    rcases rightB o.key o.cmd o.need with _ | _
    · simp
    · simp [numbersB, againO, newO]; rfl
  · have e : numbersB c (againO o) = false := by
      unfold numbersB againO newO classesV
      rw [if_neg h]
      by_cases g : 0 ≤ o.cls
      · have g2 : decide (o.cls < 0) = false := decide_eq_false (by omega)
        simp [g2]
      · simp [g]
    rw [e, show (checkE c == 0) = false by simp [h]]
    simp
theorem again_small (o : Opr) : OpSmall (againO o) := ⟨by simp [againO, newO], by simp [againO, newO], by simp [againO, newO], by simp [againO, newO], by simp [againO, newO], by simp [againO, newO]⟩
end Go.Proofs.YtmijmfgclmaodaaGreatDoor
