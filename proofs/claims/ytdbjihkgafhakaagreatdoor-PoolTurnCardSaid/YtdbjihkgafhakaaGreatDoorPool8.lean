/-
  pool.New; Enter: the walks.
-/
import Derived.Test.YtdbjihkgafhakaaGreatDoorPool7
namespace Go.Proofs.YtdbjihkgafhakaaGreatDoor
open Go.RowKit

set_option maxRecDepth 100000 in
set_option maxHeartbeats 2000000 in
/-- THE WALK: New, where there can be none. -/
theorem pnew_nil (a m q : Int) (w : World) (h : ¬ (1 ≤ a ∧ 1 ≤ m ∧ 1 ≤ q ∧ q ≤ 64)) : Calls Tryz.prog 6 #[.int .i64 a, .int .i64 m, .int .i64 q] w fun e w' => e = .returned (.pointer none) ∧ Below w.heap.size w w' := by
  have h2 : a < 1 ∨ (¬ a < 1 ∧ m < 1) ∨ (¬ a < 1 ∧ ¬ m < 1 ∧ ¬ (1 ≤ q ∧ q ≤ 64)) := by omega
  clear h
  rcases h2 with h1 | ⟨h1, h2⟩ | ⟨h1, h2, h3⟩
  · go_enter Tryz.func6, Tryz.ntmps6
    go_wp2_with fail
    go_ret
    exact ⟨rfl, Below.refl _ _⟩
  · go_enter Tryz.func6, Tryz.ntmps6
    go_wp2_with fail
    go_ret
    exact ⟨rfl, Below.refl _ _⟩
  · have H3 := Lib.hid h3
    clear h3
    go_enter Tryz.func6, Tryz.ntmps6
    go_wp2_with fail
    refine (shareNew_nil q _ H3.out).mono ?_
    rintro e w1 ⟨rfl, hb⟩
    have HB := Lib.hid hb
    clear hb
    go_wp2_with fail
    go_ret
    exact ⟨rfl, HB.out⟩
def newRho (w : World) : Roles := fun k => if k = w.heap.size + 2 then [0, 1] else []
set_option maxRecDepth 100000 in
set_option maxHeartbeats 2000000 in
/-- THE WALK: New. -/
theorem pnew_any (a q : Int) (m : Nat) (w : World) (h1 : 1 ≤ a) (h2 : 1 ≤ m) (h3 : 1 ≤ q) (h4 : q ≤ 64) : Calls Tryz.prog 6 #[.int .i64 a, .int .i64 m, .int .i64 q] w fun e w' => e = .returned (.pointer (some ⟨w.heap.size + 2, 0, none⟩)) ∧ Below w.heap.size w w' ∧ PoolAt (newRho w) w' (w.heap.size + 2) ⟨a, m, q⟩ 0 (.slice none 0 0) [] := by
  have H := Lib.hid (And.intro h3 h4)
  have h1' : ¬ a < 1 := by omega
  have h2' : ¬ (m : Int) < 1 := by omega
  clear h1 h2 h3 h4
  go_enter Tryz.func6, Tryz.ntmps6
  go_wp2_with fail
  refine (shareNew_any q _ H.out.1 H.out.2).mono ?_
  rintro e w1 ⟨rfl, hw1⟩
  have hb1 : Below w.heap.size w w1 := by rw [hw1]; exact box_below.alloc (by simp) _
  have hz1 : w1.heap.size = w.heap.size + 2 := by rw [hw1]; simp
  have HB1 := Lib.hid hb1
  have HZ1 := Lib.hid hz1
  clear hw1 hb1 hz1
  go_wp2_with fail
  go_ret
  refine ⟨by rw [← HZ1.out]; rfl, HB1.out.trans (box_below.mono HB1.out.size), ⟨by rw [← HZ1.out]; exact fr_alloc_at, by simp [newRho], .inl ⟨rfl, rfl⟩, (fun k hk => by cases hk), (fun i n hn => by simp at hn), (by simp)⟩⟩
section
variable {ρ : Roles} {P : Nat} {x : PX} {next : Int} {v : Value} {L : List PN} {w : World}
set_option maxRecDepth 100000 in
set_option maxHeartbeats 2000000 in
/-- THE WALK: Enter, where there is no room. -/
theorem penter_full (s : ByteArray) (w : World) (hS : PoolAt ρ w P x next v L) (hO : PoolOk x L) (hp : placeP s L = -1) (hf : x.pools ≤ (L.length : Int)) :
    Calls Tryz.prog 9 #[.pointer (some ⟨P, 0, none⟩), .string s] w fun e w' => e = .returned (.int .i64 14) ∧ Below w.heap.size w w' := by
  have HS := Lib.hid hS
  have HO := Lib.hid hO
  have HP := Lib.hid hp
  clear hS hO hp
  go_enter Tryz.func9, Tryz.ntmps9
  go_wp2_with fail
  refine (pfind_any s _ HS.out HO.out.few).mono ?_
  rintro e w1 ⟨rfl, hb1⟩
  rw [HP.out]
  have HB1 := Lib.hid hb1
  have hS1 := HS.out.below hb1
  obtain ⟨a, cap, hv, -⟩ := hS1.form
  have c4 : w1.cell? ⟨P, 4, none⟩ = some (.slice a L.length cap) := by rw [← hv]; exact fr_cell_of_heap hS1.head rfl
  have c0 : w1.cell? ⟨P, 0, none⟩ = some (.int .i64 x.pools) := fr_cell_of_heap hS1.head rfl
  clear hb1 hS1 hv
  go_upto_region 7 with fail
  go_region
  go_wp2_with fail
  go_ret
  exact ⟨rfl, below_drewN HB1.out 1⟩
set_option maxRecDepth 100000 in
set_option maxHeartbeats 4000000 in
/-- THE WALK: Enter of a need that is there. -/
theorem penter_old (s : ByteArray) (i : Nat) (n : PN) (w : World) (hS : PoolAt ρ w P x next v L) (hO : PoolOk x L) (hp : placeP s L = i) (hn : L[i]? = some n) (hu : 0 ≤ n.uses ∧ n.uses ≤ 1000000000) :
    Calls Tryz.prog 9 #[.pointer (some ⟨P, 0, none⟩), .string s] w fun e w' => e = .returned (.int .i64 0) ∧ TurnPost ρ w P x next v (L.set i { n with uses := n.uses + 1 }) w' := by
  have HS := Lib.hid (hS.later (fence_later ρ w))
  have HO := Lib.hid hO
  have HP := Lib.hid hp
  have HN := Lib.hid hn
  have hil : i < L.length := (List.getElem?_eq_some_iff.1 hn).1
  have e1 : wrap64 (n.uses + 1) = n.uses + 1 := by unfold wrap64; omega
  have hl6 := hO.few
  clear hS hO hp hn hu
  go_enter Tryz.func9, Tryz.ntmps9
  go_wp2_with fail
  refine (pfind_any s _ HS.out HO.out.few).mono ?_
  rintro e w1 ⟨rfl, hb1⟩
  rw [HP.out]
  have HB1 := Lib.hid hb1
  have hS1 := HS.out.below hb1
  have hN1 := hS1.need i n HN.out
  obtain ⟨g, off, cap, hv, hg⟩ := hS1.at HN.out
  have c4 : w1.cell? ⟨P, 4, none⟩ = some (.slice (some ⟨g, off, none⟩) L.length cap) := by rw [← hv]; exact fr_cell_of_heap hS1.head rfl
  have n1 : w1.cell? ⟨n.blk, 1, none⟩ = some (.int .i64 n.uses) := fr_cell_of_heap hN1.blk rfl
  have f1 : w1.frozen? ⟨n.blk, 1, none⟩ = false := fr_free_of_heap hN1.blk
  have h2 : (i : Int) < (L.length : Int) := by omega
  have HS1 := Lib.hid hS1
  clear hb1 hS1 hN1 hv
  go_upto_region 6 with fail
  try rw [e1]
  obtain ⟨w2, hw2⟩ : ∃ w2 : World, w2 = w1.setCell ⟨n.blk, 1, none⟩ (.int .i64 (n.uses + 1)) := ⟨_, rfl⟩
  rw [← hw2]
  have hF2 : Fp (fun j => j = n.blk) w1 w2 := by rw [hw2]; exact (Fp.refl (fun j => j = n.blk) w1).setCell (p := ⟨n.blk, 1, none⟩) (fun _ => rfl) _
  have hh2 : w2.heap[n.blk]? = some (pnO { n with uses := n.uses + 1 }) := by rw [hw2]; exact fr_setCell_at (HS1.out.need i n HN.out).blk
  have HS2 := Lib.hid (HS1.out.used HN.out hF2 hh2)
  have hin : ∀ {k : Nat} {r : List Int}, k < w.heap.size → Proofs.YtdbjihkgafhakaaGreatDoor.fence ρ w k = 0 :: r → Part ρ [0] k := fun {k r} hk e => ⟨r, by rw [← fence_later ρ w k hk, e]; rfl⟩
  have HFW := Lib.hid ((Fp.of_below (S := Part ρ [0]) HB1.out).trans hF2 (fun k hk e => by rw [e] at hk ⊢; exact hin hk (HS.out.need i n HN.out).role))
  clear hw2 hF2 hh2 hin f1 e1 n1 c4 hg
  go_wp2_with fail
  go_ret
  exact ⟨rfl, fence ρ w, fence_later ρ w, fun _ hk => .inl (fence_far hk), HS2.out, HFW.out⟩
end
end Go.Proofs.YtdbjihkgafhakaaGreatDoor
