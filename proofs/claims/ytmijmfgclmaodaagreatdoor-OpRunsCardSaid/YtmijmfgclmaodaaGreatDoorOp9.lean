/-
  What becomes of an operation: the plain law.
-/
import Derived.Test.YtmijmfgclmaodaaGreatDoorOp4
import Derived.Test.YtmijmfgclmaodaaGreatDoorOp7
namespace Go.Proofs.YtmijmfgclmaodaaGreatDoor
open Go.RowKit

/-- What an operation that may be holds. -/
structure OpOk (c : Cfg) (o : Opr) : Prop where
  chk : checkE c = 0
  id : 0 ≤ o.id
  tenant : 0 ≤ o.tenant
  inv : 0 ≤ o.inv
  cost0 : 1 ≤ o.cost
  cost1 : o.cost ≤ c.cost
  cls0 : 0 ≤ o.cls
  cls1 : o.cls ≤ c.ls.length
  ret0 : 0 ≤ o.ret
  ret1 : o.ret ≤ c.retries
  pre0 : 0 ≤ o.pre
  pre1 : o.pre ≤ c.preempts
  code0 : 0 ≤ o.code
  code1 : o.code ≤ 256
  st0 : 1 ≤ o.state
  st1 : o.state ≤ 7
  tr1 : o.state ≤ 2 → o.att = o.ret + o.pre
  tr2 : 3 ≤ o.state → o.state ≤ 5 → o.att = o.ret + o.pre + 1
  tr3 : 6 ≤ o.state → o.att = o.ret + o.pre ∨ o.att = o.ret + o.pre + 1
  run : o.state = 3 → 1 ≤ o.ep ∧ 1 ≤ o.wk
  rest : o.state ≠ 3 → o.ep = 0 ∧ o.wk = 0 ∧ o.st = 0
  wake : o.wake = 0 ∨ o.state = 2
  act : rightB o.key o.cmd o.need = true
theorem OpOk.opB {c : Cfg} {o : Opr} (h : OpOk c o) : opB c o = true := by
  have e1 : numbersB c o = true := by
    have := h.cls1
    have hk : classesV c = (c.ls.length : Int) + 1 := by unfold classesV; rw [if_pos h.chk]
    simp [numbersB, h.id, h.tenant, h.inv, h.cost0, h.cost1, h.cls0, hk]
    omega
  have e2 : countsB c o = true := by simp [countsB, h.ret0, h.ret1, h.pre0, h.pre1, h.code0, h.code1]
  have e3 : triedB o = true := by
    have := h.tr1; have := h.tr2; have := h.tr3; have := h.st0; have := h.st1
    unfold triedB moreV
    split
    · simp; omega
    · split
      · simp; omega
      · split
        · simp; omega
        · split
          · simp; omega
          · split
            · simp; omega
            · simp; omega
  have e4 : stateB o = true := by simp [stateB, h.st0, h.st1, e3]
  have e5 : runsB o = true := by
    unfold runsB
    split
    · rename_i h3
      simp [h.run h3]
    · rename_i h3
      simp [h.rest h3]
  have e6 : wakeB o = true := by
    unfold wakeB
    rcases h.wake with h1 | h1 <;> simp [h1]
  unfold Go.Proofs.YtmijmfgclmaodaaGreatDoor.opB
  rw [e1, e2, e4, e5, e6, h.act]
  rfl
def termB (s : Int) : Bool := decide (4 ≤ s) && decide (s ≤ 7)
/-- What is kept. -/
structure Good (c : Cfg) (o x : Opr) (b : Bool) : Prop where
  ok : OpOk c x
  id : x.id = o.id
  key : x.key = o.key
  cmd : x.cmd = o.cmd
  need : x.need = o.need
  up : o.att ≤ x.att
  dl : x.dl = o.dl
  same : b = false → x = o
  term : b = true → termB o.state = false
theorem OpOk.most {c : Cfg} {o : Opr} (h : OpOk c o) : 0 ≤ o.att ∧ o.att ≤ 1 + c.retries + c.preempts ∧ o.att ≤ 11 := by
  have := h.tr1; have := h.tr2; have := h.tr3; have := h.ret0; have := h.ret1; have := h.pre0; have := h.pre1
  have hk := cfgOk_of h.chk
  have := hk.retries; have := hk.preempts
  omega
theorem OpOk.small {c : Cfg} {o : Opr} (h : OpOk c o) : OpSmall o := by
  have := h.most
  have := h.ret0; have := h.ret1; have := h.pre0; have := h.pre1
  have hk := cfgOk_of h.chk
  have := hk.retries; have := hk.preempts
  exact ⟨by omega, by omega, by omega, by omega, by omega, by omega⟩
theorem base_of {c : Cfg} (h : checkE c = 0) : 1 ≤ c.base ∧ c.base ≤ c.most := by
  unfold checkE at h
  split at h
  · rename_i hne; exact absurd h hne
  · split at h
    · cases h
    · split at h
      · cases h
      · rename_i hl
        have hab : (aOk c && bOk c && dOk c) = true := by
          rcases Bool.eq_false_or_eq_true (aOk c && bOk c && dOk c) with hx | hx
          · exact hx
          · exact absurd (.inr hx) hl
        simp only [Bool.and_eq_true, bOk, inB_iff] at hab
        exact ⟨by omega, by omega⟩
theorem OpOk.next {c : Cfg} {o : Opr} (h : OpOk c o) : IntKind.i64.wrap (o.att + 1) = o.att + 1 := by
  have := h.most
  exact IntWalk.i64_in _ (by omega)
theorem good_none {c : Cfg} {o : Opr} (h : OpOk c o) : Good c o o false := ⟨h, rfl, rfl, rfl, rfl, Int.le_refl _, rfl, fun _ => rfl, fun h => by cases h⟩
/-- An operation that is completed. -/
def doneO (o : Opr) (code : Int) : Opr := { toO o 4 with code := code }
/-- An operation that was preempted. -/
def preO (o : Opr) : Opr := { toO o 1 with cls := o.cls + 1, pre := o.pre + 1 }
theorem good_grant {c : Cfg} {o : Opr} (h : OpOk c o) (hs : o.state = 1) {ep wk now : Int} (h1 : 1 ≤ ep) (h2 : 1 ≤ wk) : Good c o (grantO o ep wk now) true := by
  have t := h.tr1 (by omega)
  refine ⟨⟨h.chk, h.id, h.tenant, h.inv, h.cost0, h.cost1, h.cls0, h.cls1, h.ret0, h.ret1, h.pre0, h.pre1, h.code0, h.code1, by simp [grantO, toO], by simp [grantO, toO], fun g => ?_, fun _ _ => ?_, fun g => ?_, fun _ => ⟨h1, h2⟩, fun g => absurd rfl g, .inl rfl, h.act⟩, rfl, rfl, rfl, rfl, ?_, rfl, (fun g => by cases g), fun _ => by rw [hs]; rfl⟩
  · simp [grantO, toO] at g
  · simp only [grantO, toO]; omega
  · simp [grantO, toO] at g
  · simp only [grantO, toO]; omega
theorem good_done {c : Cfg} {o : Opr} (h : OpOk c o) (hs : o.state = 3) {code : Int} (h1 : 0 ≤ code) (h2 : code ≤ 256) : Good c o (doneO o code) true := by
  have t := h.tr2 (by omega) (by omega)
  refine ⟨⟨h.chk, h.id, h.tenant, h.inv, h.cost0, h.cost1, h.cls0, h.cls1, h.ret0, h.ret1, h.pre0, h.pre1, h1, h2, by simp [doneO, toO], by simp [doneO, toO], fun g => ?_, fun _ _ => t, fun g => ?_, fun g => ?_, fun _ => ⟨rfl, rfl, rfl⟩, .inl rfl, h.act⟩, rfl, rfl, rfl, rfl, Int.le_refl _, rfl, (fun g => by cases g), fun _ => by rw [hs]; rfl⟩
  · simp [doneO, toO] at g
  · simp [doneO, toO] at g
  · simp [doneO, toO] at g
theorem good_dead {c : Cfg} {o : Opr} (h : OpOk c o) (hs : o.state = 3) {code : Int} (h1 : 0 ≤ code) (h2 : code ≤ 256) : Good c o (deadO o code) true := by
  have t := h.tr2 (by omega) (by omega)
  refine ⟨⟨h.chk, h.id, h.tenant, h.inv, h.cost0, h.cost1, h.cls0, h.cls1, h.ret0, h.ret1, h.pre0, h.pre1, h1, h2, by simp [deadO, toO], by simp [deadO, toO], fun g => ?_, fun _ _ => t, fun g => ?_, fun g => ?_, fun _ => ⟨rfl, rfl, rfl⟩, .inl rfl, h.act⟩, rfl, rfl, rfl, rfl, Int.le_refl _, rfl, (fun g => by cases g), fun _ => by rw [hs]; rfl⟩
  · simp [deadO, toO] at g
  · simp [deadO, toO] at g
  · simp [deadO, toO] at g
theorem good_back {c : Cfg} {o : Opr} (h : OpOk c o) (hs : o.state = 3) {code v : Int} (h1 : 0 ≤ code) (h2 : code ≤ 256) (hr : o.ret < c.retries) : Good c o (backO o code v) true := by
  have t := h.tr2 (by omega) (by omega)
  have r0 := h.ret0
  refine ⟨⟨h.chk, h.id, h.tenant, h.inv, h.cost0, h.cost1, h.cls0, h.cls1, ?_, ?_, h.pre0, h.pre1, h1, h2, by simp [backO, toO], by simp [backO, toO], fun g => ?_, fun g _ => ?_, fun g => ?_, fun g => ?_, fun _ => ⟨rfl, rfl, rfl⟩, .inr rfl, h.act⟩, rfl, rfl, rfl, rfl, Int.le_refl _, rfl, (fun g => by cases g), fun _ => by rw [hs]; rfl⟩
  · simp only [backO]; omega
  · simp only [backO]; omega
  · simp only [backO, toO]; omega
  · simp [backO, toO] at g
  · simp [backO, toO] at g
  · simp [backO, toO] at g
theorem good_wake {c : Cfg} {o : Opr} (h : OpOk c o) (hs : o.state = 2) : Good c o (toO o 1) true := by
  have t := h.tr1 (by omega)
  refine ⟨⟨h.chk, h.id, h.tenant, h.inv, h.cost0, h.cost1, h.cls0, h.cls1, h.ret0, h.ret1, h.pre0, h.pre1, h.code0, h.code1, by simp [toO], by simp [toO], fun _ => t, fun g => ?_, fun g => ?_, fun g => ?_, fun _ => ⟨rfl, rfl, rfl⟩, .inl rfl, h.act⟩, rfl, rfl, rfl, rfl, Int.le_refl _, rfl, (fun g => by cases g), fun _ => by rw [hs]; rfl⟩
  · simp [toO] at g
  · simp [toO] at g
  · simp [toO] at g
theorem good_pre {c : Cfg} {o : Opr} (h : OpOk c o) (hs : o.state = 3) (hp : o.pre < c.preempts) (hc : o.cls < c.ls.length) : Good c o (preO o) true := by
  have t := h.tr2 (by omega) (by omega)
  have p0 := h.pre0
  have c0 := h.cls0
  refine ⟨⟨h.chk, h.id, h.tenant, h.inv, h.cost0, h.cost1, ?_, ?_, h.ret0, h.ret1, ?_, ?_, h.code0, h.code1, by simp [preO, toO], by simp [preO, toO], fun g => ?_, fun g => ?_, fun g => ?_, fun g => ?_, fun _ => ⟨rfl, rfl, rfl⟩, .inl rfl, h.act⟩, rfl, rfl, rfl, rfl, Int.le_refl _, rfl, (fun g => by cases g), fun _ => by rw [hs]; rfl⟩
  · simp only [preO]; omega
  · simp only [preO]; omega
  · simp only [preO]; omega
  · simp only [preO]; omega
  · simp only [preO, toO]; omega
  · simp [preO, toO] at g
  · simp [preO, toO] at g
  · simp [preO, toO] at g
theorem good_end {c : Cfg} {o : Opr} (h : OpOk c o) (hs : o.state ≤ 3) {s : Int} (h1 : 6 ≤ s) (h2 : s ≤ 7) : Good c o (toO o s) true := by
  have s0 := h.st0
  refine ⟨⟨h.chk, h.id, h.tenant, h.inv, h.cost0, h.cost1, h.cls0, h.cls1, h.ret0, h.ret1, h.pre0, h.pre1, h.code0, h.code1, by simp only [toO]; omega, by simp only [toO]; omega, fun g => ?_, fun _ g => ?_, fun _ => ?_, fun g => ?_, fun _ => ⟨rfl, rfl, rfl⟩, .inl rfl, h.act⟩, rfl, rfl, rfl, rfl, Int.le_refl _, rfl, (fun g => by cases g), fun _ => ?_⟩
  · simp only [toO] at g; omega
  · simp only [toO] at g; omega
  · simp only [toO]
    by_cases h3 : o.state = 3
    · exact .inr (h.tr2 (by omega) (by omega))
    · exact .inl (h.tr1 (by omega))
  · simp only [toO] at g; omega
  · have : ¬ 4 ≤ o.state := by omega
    simp [termB, this]
end Go.Proofs.YtmijmfgclmaodaaGreatDoor
