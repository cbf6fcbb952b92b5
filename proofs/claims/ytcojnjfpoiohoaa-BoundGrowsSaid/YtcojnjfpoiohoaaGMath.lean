/-
  The bounds grow with room, tries and time to wait: plain.
-/
import Derived.Test.YtcojnjfpoiohoaaBMath
namespace Go.Proofs.Ytcojnjfpoiohoaa
open Go.RowKit

/-- More room, more tries, more time to wait. -/
def grownC (c : Cfg) (m0 m1 m2 m3 m4 m5 : Int) : Cfg :=
  { c with cap := min (c.cap + m0) 32, invs := min (c.invs + m1) 8, pools := min (c.pools + m2) 8, retries := min (c.retries + m3) 5, preempts := min (c.preempts + m4) 5, most := c.most + min m5 (1048576 - c.most) }

theorem checkE_parts {c : Cfg} (h : checkE c = 0) : tensE c.ts = 0 ∧ ¬ 3 < c.ls.length ∧ limF 0 c.ls ≠ false ∧ (aOk c && bOk c && dOk c) = true := by
  unfold checkE at h
  split at h
  · rename_i hne; exact absurd h hne
  · rename_i h0
    split at h
    · cases h
    · split at h
      · cases h
      · rename_i h3 hl
        refine ⟨by simpa using h0, h3, fun e => hl (.inl e), ?_⟩
        rcases Bool.eq_false_or_eq_true (aOk c && bOk c && dOk c) with hx | hx
        · exact hx
        · exact absurd (.inr hx) hl

theorem grown_ok {c : Cfg} {m0 m1 m2 m3 m4 m5 : Int} (h : checkE c = 0) (b0 : 0 ≤ m0) (b1 : 0 ≤ m1) (b2 : 0 ≤ m2) (b3 : 0 ≤ m3) (b4 : 0 ≤ m4) (b5 : 0 ≤ m5) : checkE (grownC c m0 m1 m2 m3 m4 m5) = 0 := by
  obtain ⟨h0, h1, h2, h3⟩ := checkE_parts h
  have h4 : (aOk (grownC c m0 m1 m2 m3 m4 m5) && bOk (grownC c m0 m1 m2 m3 m4 m5) && dOk (grownC c m0 m1 m2 m3 m4 m5)) = true := by
    simp only [Bool.and_eq_true, aOk, bOk, dOk, inB_iff, grownC] at h3 ⊢
    omega
  unfold checkE
  rw [if_neg (by simpa [grownC] using h0), if_neg (by simpa [grownC] using h1), if_neg]
  rintro (e | e)
  · exact h2 e
  · rw [h4] at e; cases e

theorem ceilI_mono {a a' b : Int} (h : a ≤ a') (hb : 1 ≤ b) : ceilI a b ≤ ceilI a' b := by
  have e1 : a = b * (a / b) + a % b := (Int.mul_ediv_add_emod a b).symm
  have e2 : a' = b * (a' / b) + a' % b := (Int.mul_ediv_add_emod a' b).symm
  have m1 := Int.emod_nonneg a (show b ≠ 0 by omega)
  have m2 := Int.emod_lt_of_pos a (show 0 < b by omega)
  have m3 := Int.emod_nonneg a' (show b ≠ 0 by omega)
  have m4 := Int.emod_lt_of_pos a' (show 0 < b by omega)
  have hd : a / b ≤ a' / b := Int.ediv_le_ediv (by omega) h
  unfold ceilI
  by_cases hlt : a / b < a' / b
  · split <;> split <;> omega
  · have he : a / b = a' / b := by omega
    rw [he] at e1
    split <;> split <;> omega
theorem roundsI_mono {a a' b : Int} (h : a ≤ a') (hb : 1 ≤ b) : roundsI a b ≤ roundsI a' b := by
  have := ceilI_mono h hb
  unfold roundsI
  omega
theorem mul_mono {a b a' b' : Int} (ha : 0 ≤ a) (hb : 0 ≤ b) (h : a ≤ a') (h' : b ≤ b') : a * b ≤ a' * b' := Int.mul_le_mul h h' hb (by omega)

section
variable {c : Cfg} {m0 m1 m2 m3 m4 m5 : Int}
theorem inner_grows (h : checkE c = 0) (b0 : 0 ≤ m0) (b1 : 0 ≤ m1) : innerN c ≤ innerN (grownC c m0 m1 m2 m3 m4 m5) := by
  have hk := cfgOk_of h
  have h1 := hk.cap; have h2 := hk.cost; have h3 := hk.q; have h4 := hk.invs; have h5 := hk.weight
  have o1 : ownV c ≤ ownV (grownC c m0 m1 m2 m3 m4 m5) := mul_mono (by omega) (by omega) (by simp only [grownC]; omega) (Int.le_refl _)
  have ho := own_bd hk
  have v := visit_bd hk (wt := c.weight) (by omega) h5.2
  have r := roundsI_mono o1 h3.1
  obtain ⟨r0, _, _⟩ := rounds_bd (a := ownV c) (b := c.q) (by omega) h3.1
  have e : visitV (grownC c m0 m1 m2 m3 m4 m5) (grownC c m0 m1 m2 m3 m4 m5).weight = visitV c c.weight := rfl
  have p := mul_mono (a := roundsI (ownV c) c.q) (b := c.invs) (a' := roundsI (ownV (grownC c m0 m1 m2 m3 m4 m5)) c.q) (b' := min (c.invs + m1) 8) (by omega) (by omega) r (by omega)
  have p2 := mul_mono (a := roundsI (ownV c) c.q * c.invs) (b := visitV c c.weight) (Int.mul_nonneg (by omega) (by omega)) (by omega) p (Int.le_refl _)
  unfold innerN
  rw [e]
  exact Int.add_le_add p2 o1
theorem gives_grows (h : checkE c = 0) (b0 : 0 ≤ m0) (b1 : 0 ≤ m1) : givesN c ≤ givesN (grownC c m0 m1 m2 m3 m4 m5) := by
  have hk := cfgOk_of h
  have i := inner_grows (m2 := m2) (m3 := m3) (m4 := m4) (m5 := m5) h b0 b1
  have h3 := hk.q
  have hi := inner_parts hk
  have g := great_bd hk
  have v := visit_bd hk g.1 g.2
  have r := roundsI_mono i h3.1
  obtain ⟨r0, _, _⟩ := rounds_bd (a := innerN c) (b := c.q) (by omega) h3.1
  have p := mul_mono (a := roundsI (innerN c) c.q) (b := (c.ts.length : Int)) (by omega) (by omega) r (Int.le_refl _)
  have p2 := mul_mono (a := roundsI (innerN c) c.q * c.ts.length) (b := visitV c (greatW c.ts 0)) (Int.mul_nonneg (by omega) (by omega)) (by omega) p (Int.le_refl _)
  unfold givesN
  exact Int.add_le_add i p2
theorem inner_lt_gives (h : checkE c = 0) : innerN c < givesN c := by
  have hk := cfgOk_of h
  have h3 := hk.q
  have hi := inner_parts hk
  have g := great_bd hk
  have v := visit_bd hk g.1 g.2
  have ht := hk.ts
  obtain ⟨r0, _, _⟩ := rounds_bd (a := innerN c) (b := c.q) (by omega) h3.1
  have p := mul_mono (a := 1) (b := 1) (a' := roundsI (innerN c) c.q) (b' := (c.ts.length : Int)) (by omega) (by omega) r0 (by omega)
  have p2 := mul_mono (a := 1) (b := 1) (a' := roundsI (innerN c) c.q * c.ts.length) (b' := visitV c (greatW c.ts 0)) (by omega) (by omega) (by omega) v.2.2.1
  unfold givesN
  omega
theorem window_mono {a b : Int} (h : a ≤ b) : windowV a ≤ windowV b := by unfold windowV; omega
theorem ticks_window {n n' : Int} (h : checkE c = 0) (hn : n ≤ n') : ticksN c n ≤ ticksN c n' := by
  have hk := cfgOk_of h
  have w := window_mono hn
  have w1 := window_bd n
  have hp := polls_parts hk
  have hr := hk.retries; have hq := hk.preempts; have hm := hk.most
  have p := mul_mono (a := pollsN c) (b := windowV n) hp.2.2.1 (by omega) (Int.le_refl _) w
  have p0 : 0 ≤ pollsN c * windowV n := Int.mul_nonneg hp.2.2.1 (by omega)
  have p2 := mul_mono (a := 1 + c.retries + c.preempts) (b := pollsN c * windowV n + windowV n + c.most) (b' := pollsN c * windowV n' + windowV n' + c.most) (by omega) (by omega) (Int.le_refl _) (by omega)
  unfold ticksN
  omega
theorem ticks_grows (n : Int) (h : checkE c = 0) (b0 : 0 ≤ m0) (b1 : 0 ≤ m1) (b2 : 0 ≤ m2) (b3 : 0 ≤ m3) (b4 : 0 ≤ m4) (b5 : 0 ≤ m5) : ticksN c n ≤ ticksN (grownC c m0 m1 m2 m3 m4 m5) n := by
  have hk := cfgOk_of h
  have g := gives_grows (m2 := m2) (m3 := m3) (m4 := m4) (m5 := m5) h b0 b1
  have gp := gives_parts hk
  have w1 := window_bd n
  have hp := polls_parts hk
  have hr := hk.retries; have hq := hk.preempts; have hm := hk.most; have ho := hk.pools; have hl := hk.ls
  have p := mul_mono (a := givesN c) (b := c.pools) (b' := min (c.pools + m2) 8) (by omega) (by omega) g (by omega)
  have p1 : pollsN c ≤ pollsN (grownC c m0 m1 m2 m3 m4 m5) := mul_mono (Int.mul_nonneg (by omega) (by omega)) (by omega) p (Int.le_refl _)
  have p2 := mul_mono (a := pollsN c) (b := windowV n) hp.2.2.1 (by omega) p1 (Int.le_refl _)
  have p0 : 0 ≤ pollsN c * windowV n := Int.mul_nonneg hp.2.2.1 (by omega)
  have p3 := mul_mono (a := 1 + c.retries + c.preempts) (b := pollsN c * windowV n + windowV n + c.most)
    (a' := 1 + min (c.retries + m3) 5 + min (c.preempts + m4) 5) (b' := pollsN (grownC c m0 m1 m2 m3 m4 m5) * windowV n + windowV n + (c.most + min m5 (1048576 - c.most))) (by omega) (by omega) (by omega) (by omega)
  unfold ticksN
  exact Int.add_le_add p3 (Int.le_refl _)
end
end Go.Proofs.Ytcojnjfpoiohoaa
