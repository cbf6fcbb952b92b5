/-
  bound and the reference's own: what they hand back, of any configuration.
-/
import Derived.Test.YtmijmfgclmaodaaGreatDoorRConf
import Derived.Test.YtmijmfgclmaodaaGreatDoorLib2
namespace Go.Proofs.YtmijmfgclmaodaaGreatDoor
open Go.RowKit

def classesV (c : Cfg) : Int := if checkE c = 0 then (c.ls.length : Int) + 1 else 0
def attemptsV (c : Cfg) : Int := if checkE c = 0 then 1 + c.retries + c.preempts else 0
theorem cfg_sz {cs : Array Value} {tv lv : Value} {c : Cfg} (hc : CfgCells cs tv lv c) : (Tryz.prog.info? 42).map (·.size) = some cs.size := by rw [hc.size]; exact cfg_info

/-- What a configuration that may be holds. -/
structure CfgOk (c : Cfg) : Prop where
  ts : 1 ≤ c.ts.length ∧ c.ts.length ≤ 6
  tw : ∀ t ∈ c.ts, 1 ≤ t.weight ∧ t.weight ≤ 16
  ls : c.ls.length ≤ 3
  q : 1 ≤ c.q ∧ c.q ≤ 64
  cost : 1 ≤ c.cost ∧ c.cost ≤ 64
  cap : 1 ≤ c.cap ∧ c.cap ≤ 32
  invs : 1 ≤ c.invs ∧ c.invs ≤ 8
  weight : 1 ≤ c.weight ∧ c.weight ≤ 16
  pools : 1 ≤ c.pools ∧ c.pools ≤ 8
  retries : 0 ≤ c.retries ∧ c.retries ≤ 5
  preempts : 0 ≤ c.preempts ∧ c.preempts ≤ 5
  most : 1 ≤ c.most ∧ c.most ≤ 1048576
theorem inB_iff {n a b : Int} : inB n a b = true ↔ a ≤ n ∧ n ≤ b := by simp [inB]
theorem tensF_ok : ∀ (ts : List Ten) (seen : List ByteArray), tensF seen ts = 0 → ∀ t ∈ ts, 1 ≤ t.weight ∧ t.weight ≤ 16
  | [], _, _ => by simp
  | x :: r, seen, h => by
    unfold tensF at h
    split at h
    · cases h
    · split at h
      · cases h
      · split at h
        · cases h
        · intro t ht
          rcases List.mem_cons.1 ht with rfl | ht
          · rename_i hb _
            simp [tenBad] at hb
            omega
          · exact tensF_ok r _ h t ht
theorem cfgOk_of {c : Cfg} (h : checkE c = 0) : CfgOk c := by
  unfold checkE at h
  split at h
  · rename_i hne; exact absurd h hne
  · rename_i h0
    have h0' : tensE c.ts = 0 := by simpa using h0
    split at h
    · cases h
    · split at h
      · cases h
      · rename_i h3 hl
        unfold tensE at h0'
        split at h0'
        · cases h0'
        · rename_i hlen
          have hab : (aOk c && bOk c && dOk c) = true := by
            rcases Bool.eq_false_or_eq_true (aOk c && bOk c && dOk c) with hx | hx
            · exact hx
            · exact absurd (.inr hx) hl
          simp only [Bool.and_eq_true, aOk, bOk, dOk, inB_iff] at hab
          exact ⟨by omega, tensF_ok _ _ h0', by omega, by omega, by omega, by omega, by omega, by omega, by omega, by omega, by omega, by omega⟩

set_option maxHeartbeats 1000000 in
/-- THE WALK: conf.Classes. -/
theorem classes_any (cs : Array Value) (tv lv : Value) (c : Cfg) (w : World) (hc : CfgCells cs tv lv c) (hC : CfgAt w tv lv c) :
    Calls Tryz.prog 51 #[.agg cs] w fun e w' => e = .returned (.int .i64 (classesV c)) ∧ Below w.heap.size w w' := by
  have HC := Lib.hid hc; clear hc
  obtain ⟨la, lcap, hlv, hlen, _⟩ := id hC.2
  subst hlv
  have HCA := Lib.hid hC; clear hC
  by_cases h0 : checkE c = 0
  · have HV := Lib.hid (show classesV c = (c.ls.length : Int) + 1 by unfold classesV; rw [if_pos h0])
    have H0 := Lib.hid h0
    clear h0
    go_enter Tryz.func51, Tryz.ntmps51
    go_wp2_with (refine wpList_load_agg 42 (heap_alloc_new w _) Tryz.underlying42 rfl (cfg_sz HC.out) rfl _ rfl rfl ?_)
    refine (check_any _ _ _ c _ HC.out (HCA.out.below box_below)).mono ?_
    rintro e w1 ⟨rfl, hb⟩
    rw [H0.out]
    have c1 := cell_below hb (cell_alloc_at (t := 42) HC.out.f1)
    go_wp2
    go_ret
    exact ⟨ret_int HV.out.symm, box_below2 hb⟩
  · have HV := Lib.hid (show classesV c = 0 by unfold classesV; rw [if_neg h0])
    have H0 := Lib.hid (show (checkE c != 0) = true by rw [bne_iff_ne]; exact h0)
    clear h0
    go_enter Tryz.func51, Tryz.ntmps51
    go_wp2_with (refine wpList_load_agg 42 (heap_alloc_new w _) Tryz.underlying42 rfl (cfg_sz HC.out) rfl _ rfl rfl ?_)
    refine (check_any _ _ _ c _ HC.out (HCA.out.below box_below)).mono ?_
    rintro e w1 ⟨rfl, hb⟩
    have hne := H0.out
    go_wp2
    go_ret
    exact ⟨ret_int HV.out.symm, box_below2 hb⟩

end Go.Proofs.YtmijmfgclmaodaaGreatDoor
