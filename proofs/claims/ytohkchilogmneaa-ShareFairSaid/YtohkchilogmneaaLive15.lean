/-
  law15.live: the walk.
-/
import Derived.Test.YtohkchilogmneaaFlowAll
namespace Go.Proofs.Ytohkchilogmneaa
open Go.RowKit

deriving instance DecidableEq for FRow
def liveR : Nat → List FRow
  | 0 => []
  | k + 1 => pushR (((k : Int) + 1) % 2) (1 + ((k : Int) + 1) % 2) ⟨(k : Int) + 1, 2⟩ (liveR k)
def takeF (q : Int) (n : Nat) (s : Bool × List FRow) : Bool × List FRow := match goR q n s.1 s.2 with
  | row :: rest => tookR row rest
  | [] => s
def liveT : Nat → Bool × List FRow
  | 0 => (false, liveR 8)
  | j + 1 => takeF 2 10 (liveT j)
def liveW : List Int := [1, 1, 0, 1, 1, 0]
theorem live_push : ∀ k : Nat, k < 8 → pushE (((k : Int) + 1) % 2) (1 + ((k : Int) + 1) % 2) ⟨(k : Int) + 1, 2⟩ (liveR k) = 0 ∧ totR (liveR k) < 1000 := by decide
theorem live_take : ∀ j : Nat, j < 6 → ends 2 10 (liveT j).1 (liveT j).2 = true ∧ (liveT j).2 ≠ [] ∧ ((goR 2 10 (liveT j).1 (liveT j).2).head?.map FRow.id) = liveW[j]? := by decide
set_option maxRecDepth 100000 in
set_option maxHeartbeats 1000000 in
theorem num15_any (e : Int) (w : World) : Calls Try.prog 12 #[.int .i64 e] w fun v w' => v = .returned (.int .i64 e) ∧ w = w' := by
  go_enter Try.func12, Try.ntmps12
  go_wp2
  go_ret
  exact ⟨rfl, rfl⟩
def LRel (w : World) (g : Nat) (i : Value) (wr : World) : Prop := ∃ (k : Nat) (ρ : Roles), g = 8 - k ∧ i = .int .i64 ((k : Int) + 1) ∧ k ≤ 8 ∧ RingAt [0] ρ wr (w.heap.size + 1) 2 false (liveR k) ∧ Below w.heap.size w wr ∧ NewRoles ρ [0] 0 ∧ ∀ k, k < w.heap.size → ρ k = []
def wantC : Array Value := #[.int .i64 1, .int .i64 1, .int .i64 0, .int .i64 1, .int .i64 1, .int .i64 0]
def LRel2 (w : World) (b : Nat) (g : Nat) (i : Value) (wr : World) : Prop := ∃ (j : Nat) (ρ : Roles), g = 6 - j ∧ i = .int .i64 j ∧ j ≤ 6 ∧ RingAt [0] ρ wr (w.heap.size + 1) 2 (liveT j).1 (liveT j).2 ∧ Below w.heap.size w wr ∧ NewRoles ρ [0] 0 ∧ (∀ k, k < w.heap.size → ρ k = []) ∧ ρ b = [] ∧ wr.heap[b]? = some (.cells wantC 3 (0, 0))
theorem below_of_fp {ρ : Roles} {w w1 w2 : World} {pre : List Int} (hpre : pre ≠ []) (hb : Below w.heap.size w w1) (hF : Fp (Part ρ pre) w1 w2) (hr : ∀ k, k < w.heap.size → ρ k = []) : Below w.heap.size w w2 :=
  hb.trans (hF.below hb.size (fun k hk ⟨s, hs⟩ => by
    rw [hr k hk] at hs
    exact hpre (List.append_eq_nil_iff.1 hs.symm).1))
theorem news_later {ρ ρ' : Roles} {w : World} {pre : List Int} (h : NewRoles ρ pre 0) (hl : Later ρ ρ' w) (hn : NewRoles ρ' pre w.heap.size) : NewRoles ρ' pre 0 := fun k _ => by
  rcases Nat.lt_or_ge k w.heap.size with hk | hk
  · rcases h k (Nat.zero_le _) with h1 | ⟨s, h1⟩
    · exact .inl ((hl k hk).trans h1)
    · exact .inr ⟨s, (hl k hk).trans h1⟩
  · exact hn k hk
theorem liveR_next (k : Nat) (h : pushE (((k : Int) + 1) % 2) (1 + ((k : Int) + 1) % 2) ⟨(k : Int) + 1, 2⟩ (liveR k) = 0) : stepPush (((k : Int) + 1) % 2) (1 + ((k : Int) + 1) % 2) ⟨(k : Int) + 1, 2⟩ (liveR k) = liveR (k + 1) := by
  unfold stepPush
  rw [if_pos h]
  rfl
theorem i64_of {n : Int} (h : -9223372036854775808 ≤ n ∧ n ≤ 9223372036854775807) : I64 n := by
  unfold I64
  exact WalkArith.wf_i64 (by omega)
set_option maxRecDepth 100000 in
set_option maxHeartbeats 4000000 in
/-- THE WALK: live. -/
theorem live15_any (w : World) : Calls Try.prog 11 #[] w (TrueBelow w) := by
  go_enter Try.func11, Try.ntmps11
  go_wp2_with fail
  refine (flowNew_any 2 _ (by decide) (by decide)).mono ?_
  rintro e w1 ⟨rfl, hw1⟩
  have HS := Lib.hid (show LRel w 8 (.int .i64 1) w1 from ⟨0, fun k => if k = w.heap.size then [0] ++ [1] else if k = w.heap.size + 1 then [0] ++ [6] else [], rfl, rfl, by omega, by rw [hw1]; exact flowNew_at w (by decide) (by decide) (by simp) (by simp), by rw [hw1]; exact box_below.alloc (by simp) _, fun k _ => by
    unfold Part
    by_cases h1 : k = w.heap.size
    · simp only [h1, if_true]
      exact .inr ⟨[1], rfl⟩
    · by_cases h2 : k = w.heap.size + 1
      · rw [h2]
        simp
      · simp [h1, h2], fun k hk => by simp [show k ≠ w.heap.size by omega, show k ≠ w.heap.size + 1 by omega]⟩)
  clear hw1
  go_wp2_with fail
  go_loopg [2] 8 (fun g i wr => LRel w g i wr)
  case atStart => exact HS.out
  case round =>
    obtain ⟨k, ρ, hg, rfl, hk, hR, hB, hN, hr⟩ := hrel
    have HR := Lib.hid hR
    have HB := Lib.hid hB
    have HG := Lib.hid hg
    have HN := Lib.hid hN
    have HRR := Lib.hid hr
    clear hg hR hB hN hr
    by_cases hlt : k < 8
    · have HP := Lib.hid (live_push k hlt)
      go_wp2_with fail
      refine (flowPush_any (pre := [0]) (by decide) _ _ ⟨(k : Int) + 1, 2⟩ _ HR.out (i64_of (by omega)) (i64_of (n := (k : Int) + 1) (by omega)) (by have := HP.out.2; omega)).mono ?_
      rintro e w2 ⟨rfl, ρ', hl, hn, hR2, hF⟩
      rw [HP.out.1]
      rw [liveR_next k HP.out.1] at hR2
      have HR2 := Lib.hid hR2
      have HB2 := Lib.hid (below_of_fp (by decide) HB.out hF HRR.out)
      have HN2 := Lib.hid (news_later HN.out hl hn)
      have HRR2 := Lib.hid (fun j hj => (hl j (Nat.lt_of_lt_of_le hj HB.out.size)).trans (HRR.out j hj) : ∀ j, j < w.heap.size → ρ' j = [])
      clear hl hn hR2 hF
      go_wp2_with fail
      refine (num15_any 0 _).mono ?_
      rintro e w3 ⟨rfl, rfl⟩
      go_wp2_with fail
      go_roundg (8 - (k + 1))
      case rel => exact ⟨k + 1, ρ', rfl, by go_num, by omega, HR2.out, HB2.out, HN2.out, HRR2.out⟩
      case measure => have := HG.out; omega
    · obtain rfl : k = 8 := by omega
      go_upto_region 9 with fail
      obtain ⟨w2, hw2⟩ : ∃ w2 : World, w2 = wr.alloc (.cells wantC 3) := ⟨_, rfl⟩
      rw [show #[Value.int .i64 1, .int .i64 1, .int .i64 0, .int .i64 1, .int .i64 1, .int .i64 0] = wantC from rfl]
      obtain ⟨b, hb⟩ : ∃ b : Nat, b = wr.heap.size := ⟨_, rfl⟩
      rw [← hw2, ← hb]
      have HS2 := Lib.hid (show LRel2 w b 6 (.int .i64 0) w2 from ⟨0, fence ρ wr, rfl, rfl, by omega, by rw [hw2]; exact (HR.out.later (fence_later ρ wr)).below box_below, by rw [hw2]; exact HB.out.alloc HB.out.size _, fun k _ => by
        by_cases h : k < wr.heap.size
        · have e := fence_later ρ wr k h
          rcases HN.out k (Nat.zero_le _) with h1 | ⟨s, h1⟩
          · exact .inl (e.trans h1)
          · exact .inr ⟨s, e.trans h1⟩
        · exact .inl (by simp [fence, h]), fun k hk => (fence_later ρ wr k (Nat.lt_of_lt_of_le hk HB.out.size)).trans (HRR.out k hk), by rw [hb]; simp [fence], by rw [hw2, hb]; exact fr_alloc_at⟩)
      clear hw2 hb HR HB HN HRR HG
      go_loopg [4] 6 (fun g i wr => LRel2 w b g i wr)
      case atStart => exact HS2.out
      case round =>
        obtain ⟨j, ρ, hg, rfl, hj, hR, hB, hN, hr, hbr, hbc⟩ := hrel
        have HR := Lib.hid hR
        have HB := Lib.hid hB
        have HG := Lib.hid hg
        have HN := Lib.hid hN
        have HRR := Lib.hid hr
        have HBR := Lib.hid hbr
        have HBC := Lib.hid hbc
        clear hg hR hB hN hr hbr hbc
        by_cases hlt : j < 6
        · have HT := Lib.hid (live_take j hlt)
          go_wp2_with fail
          refine (flowTake_cons (pre := [0]) (by decide) _ HR.out HT.out.2.1).mono ?_
          rintro e w3 ⟨row, rest, ρ', rfl, hp, hl, hn, hR3, hF⟩
          have hg := hp.once (goR_picks HT.out.1)
          have hnext : liveT (j + 1) = tookR row rest := by
            show takeF 2 10 (liveT j) = _
            unfold takeF
            rw [← hg]
          have hw := HT.out.2.2
          rw [← hg] at hw
          have hw2 : liveW[j]? = some row.id := hw.symm
          rw [← hnext] at hR3
          have HR3 := Lib.hid hR3
          have HB3 := Lib.hid (below_of_fp (by decide) HB.out hF HRR.out)
          have HN3 := Lib.hid (news_later HN.out hl hn)
          have HRR3 := Lib.hid (fun j hj => (hl j (Nat.lt_of_lt_of_le hj HB.out.size)).trans (HRR.out j hj) : ∀ j, j < w.heap.size → ρ' j = [])
          have HBR3 := Lib.hid ((hl b (fp_lt_of_heap HBC.out)).trans HBR.out)
          have hbc3 := hF.heap HBC.out (fun ⟨s, hs⟩ => by rw [HBR.out] at hs; simp at hs)
          have HBC3 := Lib.hid hbc3
          have hcell : wantC[j]? = some (.int .i64 row.id) := by
            have e : wantC = (liveW.map (fun y => Value.int .i64 y)).toArray := rfl
            rw [e]
            simp [hw2]
          clear hp hl hn hR3 hF hg hnext hw hw2
          obtain ⟨x, hx⟩ : ∃ x, x = row.its.headD ⟨0, 0⟩ := ⟨_, rfl⟩
          rw [← hx]
          unfold itV
          clear hx
          go_upto_region 12 with fail
          have b3 : (w3.alloc (.cells #[.int .i64 x.id, .int .i64 x.cost] 37)).cell? ⟨b, j, none⟩ = some (.int .i64 row.id) := fr_cell_of_heap (fr_alloc_old hbc3) hcell
          have hne : (row.id != row.id) = false := by simp
          clear hbc3 hcell
          go_wp2_with fail
          go_roundg (6 - (j + 1))
          case rel => exact ⟨j + 1, ρ', rfl, by go_num, by omega, HR3.out.below box_below, HB3.out.alloc HB3.out.size _, HN3.out, HRR3.out, HBR3.out, fr_alloc_old HBC3.out⟩
          case measure => have := HG.out; omega
        · go_wp2_with fail
          go_ret
          exact ⟨rfl, HB.out⟩
end Go.Proofs.Ytohkchilogmneaa
