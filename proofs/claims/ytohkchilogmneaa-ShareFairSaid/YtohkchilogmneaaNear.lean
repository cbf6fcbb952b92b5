/-
  ref05.Near; law15.fair: the walks.
-/
import Derived.Test.YtohkchilogmneaaOpen15
import Derived.Test.YtohkchilogmneaaFairP3
import Derived.BigQuiet
namespace Go.Proofs.Ytohkchilogmneaa
open Go.RowKit

theorem mul_lt_of {a b A B : Int} (ha : 0 ≤ a) (ha2 : a < A) (hb : 0 ≤ b) (hb2 : b < B) : 0 ≤ a * b ∧ a * b < A * B := by
  refine ⟨Int.mul_nonneg ha hb, ?_⟩
  have h1 : a * b ≤ a * B := Int.mul_le_mul_of_nonneg_left (by omega) ha
  have h2 : a * B < A * B := Int.mul_lt_mul_of_pos_right ha2 (by omega)
  omega
theorem wrap_u64 {n : Int} (h : 0 ≤ n ∧ n < 18446744073709551616) : IntKind.u64.wrap n = n := by
  rw [show IntKind.u64.wrap n = n % 18446744073709551616 from rfl]
  omega
def nearC (x v y w q c : Int) : Array Value := #[.int .u64 x, .int .u64 v, .int .u64 y, .int .u64 w, .int .u64 q, .int .u64 c]
def NRel (w0 : World) (cs : Array Value) (g : Nat) (i : Value) (wr : World) : Prop := ∃ k : Nat, g = 6 - k ∧ i = .int .i64 k ∧ k ≤ 6 ∧ wr = w0.alloc (.cells cs 155)
set_option maxRecDepth 100000 in
set_option maxHeartbeats 2000000 in
/-- THE WALK: Near, where it is so. -/
theorem near_any (x v y w q c : Int) (W : World) (hx : 0 ≤ x ∧ x < 1048576) (hv : 1 ≤ v ∧ v < 1048576) (hy : 0 ≤ y ∧ y < 1048576) (hw : 1 ≤ w ∧ w < 1048576) (hq : 0 ≤ q ∧ q < 1048576) (hc : 0 ≤ c ∧ c < 1048576)
    (h1 : x * w ≤ y * v + (q * v * w + c * w + c * v)) (h2 : y * v ≤ x * w + (q * v * w + c * w + c * v)) :
    Calls Try.prog 87 #[.int .u64 x, .int .u64 v, .int .u64 y, .int .u64 w, .int .u64 q, .int .u64 c] W (TrueBelow W) := by
  have m1 := mul_lt_of (B := 1048576) hq.1 hq.2 (by omega) hv.2
  have m2 := mul_lt_of (A := 1048576 * 1048576) (B := 1048576) m1.1 (by omega) (by omega) hw.2
  have m3 := mul_lt_of (B := 1048576) hc.1 hc.2 (by omega) hw.2
  have m4 := mul_lt_of (B := 1048576) hc.1 hc.2 (by omega) hv.2
  have m5 := mul_lt_of (B := 1048576) hx.1 hx.2 (by omega) hw.2
  have m6 := mul_lt_of (B := 1048576) hy.1 hy.2 (by omega) hv.2
  have HALL := Lib.hid (show ∀ k : Nat, k < 6 → ∃ n, (nearC x v y w q c)[k]? = some (.int .u64 n) ∧ 0 ≤ n ∧ n < 1048576 by
    intro k hk
    match k, hk with
    | 0, _ => exact ⟨x, rfl, hx⟩
    | 1, _ => exact ⟨v, rfl, by omega⟩
    | 2, _ => exact ⟨y, rfl, hy⟩
    | 3, _ => exact ⟨w, rfl, by omega⟩
    | 4, _ => exact ⟨q, rfl, hq⟩
    | 5, _ => exact ⟨c, rfl, hc⟩)
  have HM := Lib.hid (And.intro m1 (And.intro m2 (And.intro m3 (And.intro m4 (And.intro m5 m6)))))
  have HV := Lib.hid (And.intro hv (And.intro hw (And.intro h1 h2)))
  clear m1 m2 m3 m4 m5 m6 hx hv hy hw hq hc h1 h2
  go_enter Try.func87, Try.ntmps87
  go_wp2_with fail
  rw [show #[Value.int .u64 x, .int .u64 v, .int .u64 y, .int .u64 w, .int .u64 q, .int .u64 c] = nearC x v y w q c from rfl]
  go_loopg [14] 6 (fun g i wr => NRel W (nearC x v y w q c) g i wr)
  case atStart => exact ⟨0, rfl, rfl, by omega, rfl⟩
  case round =>
    obtain ⟨k, hg, rfl, hk, rfl⟩ := hrel
    have HG := Lib.hid hg
    clear hg
    by_cases hlt : k < 6
    · obtain ⟨n, hn, n0, n1⟩ := HALL.out k hlt
      have c0 : (W.alloc (.cells (nearC x v y w q c) 155)).cell? ⟨W.heap.size, k, none⟩ = some (.int .u64 n) := cell_alloc_at hn
      have hd : ¬ 1048576 ≤ n := by omega
      clear hn
      go_wp2_with fail
      go_roundg (6 - (k + 1))
      case rel => exact ⟨k + 1, rfl, by go_num, by omega, rfl⟩
      case measure => have := HG.out; omega
    · obtain ⟨⟨v1, v2⟩, ⟨w1, w2⟩, h1, h2⟩ := HV.out
      obtain ⟨m1, m2, m3, m4, m5, m6⟩ := HM.out
      have z1 : (v == 0) = false := beq_eq_false_iff_ne.2 (by omega)
      have z2 : (w == 0) = false := beq_eq_false_iff_ne.2 (by omega)
      clear v1 v2 w1 w2
      go_upto_region 9 with fail
      have e1 : IntKind.u64.wrap (q * v) = q * v := wrap_u64 (by omega)
      have e2 : IntKind.u64.wrap (q * v * w) = q * v * w := wrap_u64 (by omega)
      have e3 : IntKind.u64.wrap (c * w) = c * w := wrap_u64 (by omega)
      have e4 : IntKind.u64.wrap (c * v) = c * v := wrap_u64 (by omega)
      have e5 : IntKind.u64.wrap (q * v * w + c * w) = q * v * w + c * w := wrap_u64 (by omega)
      have e6 : IntKind.u64.wrap (q * v * w + c * w + c * v) = q * v * w + c * w + c * v := wrap_u64 (by omega)
      have e7 : IntKind.u64.wrap (x * w) = x * w := wrap_u64 (by omega)
      have e8 : IntKind.u64.wrap (y * v) = y * v := wrap_u64 (by omega)
      have e9 : IntKind.u64.wrap (y * v + (q * v * w + c * w + c * v)) = y * v + (q * v * w + c * w + c * v) := wrap_u64 (by omega)
      have e10 : IntKind.u64.wrap (x * w + (q * v * w + c * w + c * v)) = x * w + (q * v * w + c * w + c * v) := wrap_u64 (by omega)
      have HH := Lib.hid (And.intro h1 h2)
      clear m1 m2 m3 m4 m5 m6 h1 h2
      go_upto_region 10 with fail
      have h1 := HH.out.1
      have h2 := HH.out.2
      clear e1 e2 e3 e4 e5 e6
      obtain ⟨A, hA⟩ : ∃ A, A = x * w := ⟨_, rfl⟩
      obtain ⟨B, hB⟩ : ∃ B, B = y * v := ⟨_, rfl⟩
      obtain ⟨R, hR⟩ : ∃ R, R = q * v * w + c * w + c * v := ⟨_, rfl⟩
      rw [← hA, ← hB, ← hR] at h1 h2
      rw [← hB, ← hR] at e9
      rw [← hA, ← hR] at e10
      rw [← hA] at e7
      rw [← hB] at e8
      have e7' : IntKind.u64.wrap (x * w) = A := by rw [← hA]; exact e7
      have e8' : IntKind.u64.wrap (y * v) = B := by rw [← hB]; exact e8
      rw [← hR]
      clear hA hB hR e7 e8
      go_wp2_with fail
      go_ret
      exact ⟨rfl, box_below⟩
end Go.Proofs.Ytohkchilogmneaa
