/-
  slices.Index at nodes: the walk.
-/
import Derived.Test.YtohkchilogmneaaSpin2
import Derived.LaidEqlPtr
namespace Go.Proofs.Ytohkchilogmneaa
open Go.RowKit

theorem nd_info : ∃ j, Try.prog.info? 111 = some j ∧ j.size ≠ 0 := by
  have h : (Try.prog.info? 111).map (·.size) = some 4 := by kernel_rfl
  obtain ⟨j, hj, hs⟩ := Option.map_eq_some_iff.1 h
  exact ⟨j, hj, by rw [hs]; decide⟩
section
variable {pre : List Int} {ρ : Roles} {w : World} {sp : Nat} {q : Int} {gv : Bool} {v : Value} {ns : List Nd}
theorem SpinAt.apart (h : SpinAt pre ρ w sp q gv v ns) {i j : Nat} {m n : Nd} (hm : ns[i]? = some m) (hn : ns[j]? = some n) (hij : i ≠ j) : m.blk ≠ n.blk := fun e => by
  have h1 := (h.node i m hm).1
  rw [e, (h.node j n hn).1] at h1
  simp at h1
  have h2 : (ns.map Nd.id)[i]? = some m.id := by simp [hm]
  have h3 : (ns.map Nd.id)[j]? = some m.id := by simp [hn, h1]
  exact hij ((List.getElem?_inj (List.getElem?_eq_some_iff.1 h2).1 h.once).1 (h2.trans h3.symm))
end
section
variable {pre : List Int} {ρ : Roles} {sp : Nat} {q : Int} {gv : Bool} {v : Value} {ns : List Nd}
set_option maxRecDepth 100000 in
set_option maxHeartbeats 1000000 in
/-- THE WALK: slices.Index. -/
theorem spinIndex_any (k : Nat) (n : Nd) (w : World) (hS : SpinAt pre ρ w sp q gv v ns) (hn : ns[k]? = some n) :
    Calls Try.prog 85 #[v, .pointer (some ⟨n.blk, 0, none⟩)] w fun e w' => e = .returned (.int .i64 k) ∧ w = w' := by
  have HS := Lib.hid hS
  have HN := Lib.hid hn
  have hkl : k < ns.length := (List.getElem?_eq_some_iff.1 hn).1
  obtain ⟨a, cap, rfl, -⟩ := hS.form
  have hfew := hS.few
  clear hS hn
  go_enter Try.func85, Try.ntmps85
  go_wp2
  go_loop [8] (fun i => ∃ j : Nat, i = .int .i64 j ∧ j ≤ k) (fun i => ns.length - (intOf i).toNat)
  case atStart => exact ⟨0, rfl, Nat.zero_le _⟩
  case round =>
    obtain ⟨j, rfl, hj⟩ := hrel
    have hjl : j < ns.length := by omega
    obtain ⟨x, hx⟩ : ∃ x, ns[j]? = some x := ⟨_, List.getElem?_eq_getElem hjl⟩
    obtain ⟨g, off, cap', hv, hc⟩ := HS.out.at hx
    cases hv
    by_cases hjk : j = k
    · subst hjk
      obtain rfl : n = x := Option.some.inj (HN.out.symm.trans hx)
      obtain ⟨nj, hnj, hnz⟩ := nd_info
      have heq := run_eql_ptr_same (P := Try.prog) w ⟨n.blk, 0, none⟩ Try.underlying104 hnj
      clear hx hnj hnz
      go_wp2
      go_ret
      exact ⟨rfl, rfl⟩
    · have hne := HS.out.apart HN.out hx (Ne.symm hjk)
      obtain ⟨nj, hnj, hnz⟩ := nd_info
      have heq := run_eql_ptr_other (P := Try.prog) w (a := ⟨n.blk, 0, none⟩) (b := ⟨x.blk, 0, none⟩) Try.underlying104 hnj hnz (fun e => hne (congrArg Addr.block e)) (HS.out.node k n HN.out).2 (HS.out.node j x hx).2
      clear hnj hnz
      have HJ := Lib.hid (show j + 1 ≤ k by omega)
      clear hx hjk
      go_wp2
      go_round
      case rel => exact ⟨j + 1, by go_num, HJ.out⟩
      case measure => simp [intOf]; omega
end
end Go.Proofs.Ytohkchilogmneaa
