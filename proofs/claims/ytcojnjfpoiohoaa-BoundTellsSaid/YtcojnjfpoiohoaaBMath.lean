/-
  The bounds of a configuration as numbers: plain.
-/
import Derived.Test.YtcojnjfpoiohoaaBound
namespace Go.Proofs.Ytcojnjfpoiohoaa
open Go.RowKit

def ceilI (a b : Int) : Int := if 0 < a % b then a / b + 1 else a / b
def roundsI (a b : Int) : Int := ceilI a b + 1
def visitV (c : Cfg) (wt : Int) : Int := c.q * wt + c.cost
def ownV (c : Cfg) : Int := c.cap * c.cost
def innerN (c : Cfg) : Int := roundsI (ownV c) c.q * c.invs * visitV c c.weight + ownV c
def greatW : List Ten → Int → Int
  | [], n => n
  | t :: r, n => greatW r (max n t.weight)
def givesN (c : Cfg) : Int := innerN c + roundsI (innerN c) c.q * c.ts.length * visitV c (greatW c.ts 0)
def pollsN (c : Cfg) : Int := givesN c * c.pools * ((c.ls.length : Int) + 1)
def windowV (n : Int) : Int := min (max n 1) 1048576
def ticksN (c : Cfg) (n : Int) : Int := (1 + c.retries + c.preempts) * (pollsN c * windowV n + windowV n + c.most) + 1
def innerV (c : Cfg) : Int := if checkE c = 0 then innerN c else 0
def givesV (c : Cfg) : Int := if checkE c = 0 then givesN c else 0
def pollsV (c : Cfg) : Int := if checkE c = 0 then pollsN c else 0
def ticksV (c : Cfg) (n : Int) : Int := if checkE c = 0 then ticksN c n else 0

theorem ceilI_bd {a b : Int} (ha : 0 ≤ a) (hb : 1 ≤ b) : 0 ≤ ceilI a b ∧ ceilI a b ≤ a + 1 ∧ ceilI a b * b ≤ a + b := by
  have h1 : 0 ≤ a / b := Int.ediv_nonneg ha (by omega)
  have h2 : a / b * b ≤ a := Int.ediv_mul_le a (by omega)
  have h3 : a / b ≤ a := by
    have : a / b * 1 ≤ a / b * b := Int.mul_le_mul_of_nonneg_left hb h1
    omega
  unfold ceilI
  split
  · refine ⟨by omega, by omega, ?_⟩
    rw [Int.add_mul]
    omega
  · refine ⟨by omega, by omega, by omega⟩
theorem rounds_bd {a b : Int} (ha : 0 ≤ a) (hb : 1 ≤ b) : 1 ≤ roundsI a b ∧ roundsI a b ≤ a + 2 ∧ roundsI a b * b ≤ a + 2 * b := by
  have := ceilI_bd ha hb
  unfold roundsI
  rw [Int.add_mul]
  omega
theorem mul_bd {a b A B : Int} (ha : 0 ≤ a) (hb : 0 ≤ b) (hA : a ≤ A) (hB : b ≤ B) : 0 ≤ a * b ∧ a * b ≤ A * B :=
  ⟨Int.mul_nonneg ha hb, Int.mul_le_mul hA hB hb (by omega)⟩
theorem visit_bd {c : Cfg} (h : CfgOk c) {wt : Int} (h0 : 0 ≤ wt) (h1 : wt ≤ 16) : 0 ≤ c.q * wt ∧ c.q * wt ≤ 1024 ∧ 1 ≤ visitV c wt ∧ visitV c wt ≤ 1088 := by
  have hq := h.q
  have hc := h.cost
  have := mul_bd (A := 64) (B := 16) (by omega : 0 ≤ c.q) h0 hq.2 h1
  unfold visitV
  omega
/-- What a round of visits comes to. -/
theorem trip_bd {c : Cfg} (h : CfgOk c) {a wt : Int} (ha : 0 ≤ a) (h0 : 0 ≤ wt) (h1 : wt ≤ 16) : 0 ≤ roundsI a c.q * visitV c wt ∧ roundsI a c.q * visitV c wt ≤ 80 * a + 2176 := by
  have hq := h.q
  have hc := h.cost
  obtain ⟨r0, r1, r2⟩ := rounds_bd ha hq.1
  generalize roundsI a c.q = R at *
  have e : R * visitV c wt = R * c.q * wt + R * c.cost := by unfold visitV; rw [Int.mul_add, Int.mul_assoc]
  have m1 := mul_bd (A := a + 2 * c.q) (B := 16) (Int.mul_nonneg (by omega) (by omega) : 0 ≤ R * c.q) h0 r2 h1
  have m2 := mul_bd (A := a + 2) (B := 64) (by omega : 0 ≤ R) (by omega : 0 ≤ c.cost) r1 hc.2
  rw [e]
  omega

theorem own_bd {c : Cfg} (h : CfgOk c) : 1 ≤ ownV c ∧ ownV c ≤ 2048 := by
  have hc := h.cost
  have hp := h.cap
  have := mul_bd (A := 32) (B := 64) (by omega : 0 ≤ c.cap) (by omega : 0 ≤ c.cost) hp.2 hc.2
  have h1 : 1 * 1 ≤ c.cap * c.cost := Int.mul_le_mul hp.1 hc.1 (by omega) (by omega)
  unfold ownV
  omega
theorem inner_parts {c : Cfg} (h : CfgOk c) : 1 ≤ roundsI (ownV c) c.q ∧ roundsI (ownV c) c.q ≤ 2050 ∧ 0 ≤ roundsI (ownV c) c.q * c.invs ∧ roundsI (ownV c) c.q * c.invs ≤ 16400 ∧
    0 ≤ roundsI (ownV c) c.q * c.invs * visitV c c.weight ∧ roundsI (ownV c) c.q * c.invs * visitV c c.weight ≤ 1328128 ∧ 1 ≤ innerN c ∧ innerN c ≤ 1330176 := by
  have ho := own_bd h
  have hq := h.q
  have hi := h.invs
  have hw := h.weight
  obtain ⟨r0, r1, _⟩ := rounds_bd (a := ownV c) (b := c.q) (by omega) hq.1
  have t := trip_bd h (a := ownV c) (wt := c.weight) (by omega) (by omega) hw.2
  have v := visit_bd h (wt := c.weight) (by omega) hw.2
  have m := mul_bd (A := 2050) (B := 8) (by omega : 0 ≤ roundsI (ownV c) c.q) (by omega : 0 ≤ c.invs) (by omega) hi.2
  have e : roundsI (ownV c) c.q * c.invs * visitV c c.weight = c.invs * (roundsI (ownV c) c.q * visitV c c.weight) := by
    rw [Int.mul_comm (roundsI (ownV c) c.q) c.invs, Int.mul_assoc]
  have m2 := mul_bd (A := 8) (B := 166016) (by omega : 0 ≤ c.invs) t.1 hi.2 (by omega)
  unfold innerN
  rw [e]
  omega
theorem greatW_bd : ∀ (ts : List Ten) (n : Int), 0 ≤ n → n ≤ 16 → (∀ t ∈ ts, 1 ≤ t.weight ∧ t.weight ≤ 16) → 0 ≤ greatW ts n ∧ greatW ts n ≤ 16
  | [], n, h0, h1, _ => ⟨h0, h1⟩
  | t :: r, n, h0, h1, h => greatW_bd r _ (by omega) (by have := h t (by simp); omega) (fun x hx => h x (List.mem_cons_of_mem _ hx))
theorem great_bd {c : Cfg} (h : CfgOk c) : 0 ≤ greatW c.ts 0 ∧ greatW c.ts 0 ≤ 16 := greatW_bd _ _ (by omega) (by omega) h.tw
theorem gives_parts {c : Cfg} (h : CfgOk c) : 1 ≤ roundsI (innerN c) c.q ∧ roundsI (innerN c) c.q ≤ 1330178 ∧ 0 ≤ roundsI (innerN c) c.q * c.ts.length ∧ roundsI (innerN c) c.q * c.ts.length ≤ 7981068 ∧
    0 ≤ roundsI (innerN c) c.q * c.ts.length * visitV c (greatW c.ts 0) ∧ roundsI (innerN c) c.q * c.ts.length * visitV c (greatW c.ts 0) ≤ 638497536 ∧ 1 ≤ givesN c ∧ givesN c ≤ 639827712 := by
  have ho := inner_parts h
  have hq := h.q
  have hl := h.ts
  have hw := great_bd h
  obtain ⟨r0, r1, _⟩ := rounds_bd (a := innerN c) (b := c.q) (by omega) hq.1
  have t := trip_bd h (a := innerN c) (wt := greatW c.ts 0) (by omega) hw.1 hw.2
  have m := mul_bd (A := 1330178) (B := 6) (by omega : 0 ≤ roundsI (innerN c) c.q) (by omega : (0 : Int) ≤ c.ts.length) (by omega) (by omega)
  have e : roundsI (innerN c) c.q * c.ts.length * visitV c (greatW c.ts 0) = c.ts.length * (roundsI (innerN c) c.q * visitV c (greatW c.ts 0)) := by
    rw [Int.mul_comm (roundsI (innerN c) c.q) c.ts.length, Int.mul_assoc]
  have m2 := mul_bd (A := 6) (B := 106416256) (by omega : (0 : Int) ≤ c.ts.length) t.1 (by omega) (by omega)
  unfold givesN
  rw [e]
  omega
theorem polls_parts {c : Cfg} (h : CfgOk c) : 0 ≤ givesN c * c.pools ∧ givesN c * c.pools ≤ 5118621696 ∧ 0 ≤ pollsN c ∧ pollsN c ≤ 20474486784 := by
  have hg := gives_parts h
  have hp := h.pools
  have hl := h.ls
  have m := mul_bd (A := 639827712) (B := 8) (by omega : 0 ≤ givesN c) (by omega : 0 ≤ c.pools) (by omega) hp.2
  have m2 := mul_bd (A := 5118621696) (B := 4) m.1 (by omega : (0 : Int) ≤ (c.ls.length : Int) + 1) (by omega) (by omega)
  unfold pollsN
  omega
theorem window_bd (n : Int) : 1 ≤ windowV n ∧ windowV n ≤ 1048576 := by unfold windowV; omega
theorem ticks_parts {c : Cfg} (h : CfgOk c) (n : Int) : 0 ≤ pollsN c * windowV n ∧ pollsN c * windowV n ≤ 21469055454019584 ∧
    0 ≤ (1 + c.retries + c.preempts) * (pollsN c * windowV n + windowV n + c.most) ∧ (1 + c.retries + c.preempts) * (pollsN c * windowV n + windowV n + c.most) ≤ 236159610017284096 := by
  have hp := polls_parts h
  have hw := window_bd n
  have hm := h.most
  have hr := h.retries
  have hq := h.preempts
  have m := mul_bd (A := 20474486784) (B := 1048576) hp.2.2.1 (by omega : 0 ≤ windowV n) hp.2.2.2 hw.2
  have m2 := mul_bd (A := 11) (B := 21469055456116736) (by omega : 0 ≤ 1 + c.retries + c.preempts) (by omega : 0 ≤ pollsN c * windowV n + windowV n + c.most) (by omega) (by omega)
  omega
end Go.Proofs.Ytcojnjfpoiohoaa
