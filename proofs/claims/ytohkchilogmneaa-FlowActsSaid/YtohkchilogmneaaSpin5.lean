/-
  flow's source: Empty; spin's Tidy: the walks.
-/
import Derived.Test.YtohkchilogmneaaSpin4
import Derived.Test.YtohkchilogmneaaFifo5
namespace Go.Proofs.Ytohkchilogmneaa
open Go.RowKit

section
variable {pre : List Int} {ρ : Roles} {q : Nat} {l : List It}
set_option maxRecDepth 100000 in
set_option maxHeartbeats 1000000 in
theorem srcEmpty_any (w : World) (hQ : QueAt pre ρ w q l) : Calls Try.prog 114 #[.agg #[.pointer (some ⟨q, 0, none⟩)]] w fun e w' => e = .returned (.bool ((l.length : Int) == 0)) ∧ Below w.heap.size w w' := by
  have HQ := Lib.hid hQ
  clear hQ
  go_enter Try.func114, Try.ntmps114
  go_wp2_with fail
  have HB := Lib.hid ((Below.refl w.heap.size w).alloc (Nat.le_refl _) (.cells #[.pointer (some ⟨q, 0, none⟩)] 116))
  refine (fifoLen_any _ (HQ.out.below HB.out)).mono ?_
  rintro e w1 ⟨rfl, rfl⟩
  go_wp2
  go_ret
  exact ⟨rfl, HB.out⟩
end
section
variable {pre : List Int} {ρ : Roles} {sp : Nat} {q : Int} {gv : Bool} {v : Value} {ns : List Nd}
set_option maxRecDepth 100000 in
set_option maxHeartbeats 1000000 in
/-- Tidy, the source not empty. -/
theorem spinTidy_not (k : Nat) (n : Nd) (w : World) (hS : SpinAt pre ρ w sp q gv v ns) (hn : ns[k]? = some n) (T K : Nat) (u u' : Value) (hsrc : n.src = .iface T u)
    (hm : ∀ w, (method 285 T u "Empty").run Try.prog w = .ok (K, u') w) (hk : ∀ w, (callFunc K #[u']).run Try.prog w = .ok (.enter K #[u']) w)
    (hE : ∀ w', Below w.heap.size w w' → Calls Try.prog K #[u'] w' fun e w2 => e = .returned (.bool false) ∧ Below w'.heap.size w' w2) :
    Calls Try.prog 52 #[.pointer (some ⟨sp, 0, none⟩), .pointer (some ⟨n.blk, 0, none⟩)] w fun e w' => e = .returned (.tuple #[]) ∧ Below w.heap.size w w' := by
  have HS := Lib.hid hS
  have HN := Lib.hid hn
  have c3 : w.cell? ⟨n.blk, 3, none⟩ = some (.iface T u) := by rw [← hsrc]; exact fr_cell_of_heap (hS.node k n hn).2 rfl
  clear hS hn
  go_enter Try.func52, Try.ntmps52
  go_wp2_with fail
  refine (hE _ (Below.refl _ _)).mono ?_
  rintro e w1 ⟨rfl, hb⟩
  have HB := Lib.hid hb
  clear hb
  go_wp2
  (try simp only [Exit.inBlock, Exit.then])
  refine bodyPost_ret (results_none rfl _ _ _) rfl ?_
  exact ⟨rfl, HB.out⟩
end
end Go.Proofs.Ytohkchilogmneaa
