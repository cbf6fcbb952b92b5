/-
  How many items wait behind a pick, and behind a Take.
-/
import Derived.Test.YtdbjihkgafhakaaGreatDoorRef15All
namespace Go.Proofs.YtdbjihkgafhakaaGreatDoor

theorem picks_tot {q : Int} {gv : Bool} {l l2 : List FRow} (h : PicksR q gv l l2) : totR l2 = totR l := by
  induction h with
  | @grant gv x r h => simp [totR, (chargeR_its q gv x).1]
  | @rotate gv x r l2 h hr ih =>
    rw [ih]
    simp [totR, (chargeR_its q gv x).1]
    omega
theorem took_tot (row : FRow) (rest : List FRow) : totR (tookR row rest).2 ≤ totR (row :: rest) := by
  unfold tookR withR
  split
  · simp [totR]
  · simp [totR]
theorem RowsIn.rows {T : TypeId} {w : World} {base : Nat} {v : Value} {l : List (FRow × Value)} (h : RowsIn T w base v l) : RowsAt w v l := rows_own h.own (fun p hp => ItsAt.own (h.its p hp))
end Go.Proofs.YtdbjihkgafhakaaGreatDoor
