/-
  action.Digest, action.Hex: what they hand back; the law's example.
-/
import Derived.Test.YtamehgbagkkofaaDoorOctet
import Derived.Test.YtamehgbagkkofaaDoorShelf
namespace Go.Proofs.YtamehgbagkkofaaDoor
open Go.RowKit

/-- FNV-1a, byte by byte. -/
def fnvStep (d : Int) (b : UInt8) : Int := IntKind.u64.wrap (bits BinOp.xor IntKind.u64 d (IntKind.u64.wrap b.toNat) * 1099511628211)
def fnv (l : List UInt8) : Int := l.foldl fnvStep 14695981039346656037
def digestV (k c n : ByteArray) : Int := fnv (bytesB k c n).data.toList

theorem fnv_snoc (s : ByteArray) (k : Nat) (h : k < s.size) : fnv (s.data.toList.take (k + 1)) = IntKind.u64.wrap (bits BinOp.xor IntKind.u64 (fnv (s.data.toList.take k)) (IntKind.u64.wrap s[k].toNat) * 1099511628211) := by
  rw [List.take_succ_eq_append_getElem (by simpa using h)]
  simp [fnv, List.foldl_append]
  rfl

set_option maxRecDepth 100000 in
set_option maxHeartbeats 400000 in
/-- THE WALK: action.Digest. -/
theorem digest_any (k c n : ByteArray) (w : World) (hk : k.size ≤ 140737488351232) (hc : c.size ≤ 140737488351232) (hn : n.size ≤ 140737488351232) :
    Calls Tryd.prog 28 #[.agg #[.string k, .string c, .string n]] w fun e w' => e = .returned (.int .u64 (digestV k c n)) ∧ Below w.heap.size w w' := by
  have hs : (bytesB k c n).size ≤ 9223372036854775807 := by
    have h1 := textB_le hk
    have h2 := textB_le hc
    have h3 := textB_le hn
    simp only [bytesB, ByteArray.size_append]; omega
  go_enter Tryd.func28, Tryd.ntmps28
  go_wp2_with fail
  refine (bytes_any k c n _ hk hc hn).mono ?_
  rintro e w1 ⟨rfl, hb⟩
  generalize hB : bytesB k c n = B at *
  go_wp2
  go_loop [3, 10] (fun x i => ∃ k : Nat, k ≤ B.size ∧ i = .int .i64 k ∧ x = .int .u64 (fnv (B.data.toList.take k))) (fun _ i => B.size - (intOf i).toNat)
  case atStart => exact ⟨0, Nat.zero_le _, rfl, rfl⟩
  case round =>
    obtain ⟨k, hk', rfl, rfl⟩ := hrel
    by_cases hlt : k < B.size
    · have HS := Lib.hid (fnv_snoc B k hlt)
      go_wp2
      go_round
      case rel => exact ⟨k + 1, by omega, by go_num, by rw [HS.out]⟩
      case measure => simp [intOf]; omega
    · go_wp2
      go_ret
      refine ⟨ret_int (by unfold digestV; rw [hB, List.take_of_length_le (by simp; omega)]), ?_⟩
      exact ((Below.refl _ _).alloc (Nat.le_refl _) _).trans (hb.mono (by simp))

/-- A digit's byte. -/
def hexd (n : Nat) : Nat := if n < 10 then 48 + n else 87 + n

set_option maxHeartbeats 400000 in
/-- THE WALK: action.digit. -/
theorem digit_any (n : Nat) (w : World) (hn : n < 16) :
    Calls Tryd.prog 62 #[.int .u64 n] w fun e w' => e = .returned (.int .i32 (hexd n : Nat)) ∧ w = w' := by
  by_cases h : n < 10
  · have H := Lib.hid (show (hexd n : Int) = 48 + n by unfold hexd; rw [if_pos h]; omega)
    go_enter Tryd.func62, Tryd.ntmps62
    go_wp2
    go_ret
    exact ⟨ret_int (by rw [H.out]), rfl⟩
  · have H := Lib.hid (show (hexd n : Int) = 97 + (n - 10) by unfold hexd; rw [if_neg h]; omega)
    go_enter Tryd.func62, Tryd.ntmps62
    go_wp2
    go_ret
    exact ⟨ret_int (by rw [H.out]), rfl⟩

/-- The first k digits of sixteen. -/
def hexF (d : Nat) : Nat → List UInt8
  | 0 => []
  | k + 1 => hexF d k ++ [UInt8.ofNat (hexd (d / 16 ^ (15 - k) % 16))]

theorem hexF_len (d k : Nat) : (hexF d k).length = k := by
  induction k with
  | zero => rfl
  | succ k ih => simp [hexF, ih]
theorem hexd_lt (n : Nat) (h : n < 16) : hexd n < 103 := by unfold hexd; split <;> omega
theorem hex_digit (d e : Nat) (h : U64 d) : bits BinOp.and IntKind.u64 ((d : Int) / 2 ^ (4 * e)) 15 = ((d / 16 ^ e % 16 : Nat) : Int) := by
  have h2 : d / 16 ^ e < 18446744073709551616 := Nat.lt_of_le_of_lt (Nat.div_le_self _ _) h
  have h3 := u64_and_nat (d / 16 ^ e) 15 h2 (by omega)
  rw [Nat.and_two_pow_sub_one_eq_mod (d / 16 ^ e) 4] at h3
  have h4 : ((d / 16 ^ e : Nat) : Int) = (d : Int) / 2 ^ (4 * e) := by
    rw [show (16 : Nat) = 2 ^ 4 from rfl, ← Nat.pow_mul]
    push_cast
    rfl
  rw [← h3, h4]
  rfl
theorem hex_more {T e : TypeId} {B b d k : Nat} {p : Value} {w : World} (h : Lib.BuilderAtF T e B b p (Lib.byteCells (hexF d k) ++ Lib.runeCells (hexd (d / 16 ^ (15 - k) % 16) : Nat)) w) :
    Lib.BuilderAtF T e B b p (Lib.byteCells (hexF d (k + 1))) w := by
  have h1 := hexd_lt (d / 16 ^ (15 - k) % 16) (Nat.mod_lt _ (by omega))
  have h2 : Lib.runeCells ((hexd (d / 16 ^ (15 - k) % 16) : Nat) : Int) = Lib.byteCells [UInt8.ofNat (hexd (d / 16 ^ (15 - k) % 16))] := by
    generalize hexd (d / 16 ^ (15 - k) % 16) = x at *
    have key : ∀ x : Fin 103, Lib.runeCells ((x.val : Nat) : Int) = Lib.byteCells [UInt8.ofNat x.val] := by
      intro x
      unfold Lib.runeCells
      rw [Lib.encodeRuneZ_one (by omega) (by omega)]
      simp [Lib.byteCells]
      omega
    exact key ⟨x, h1⟩
  rw [h2] at h
  simpa [hexF, Lib.byteCells] using h

def hexB (d : Nat) : ByteArray := ⟨(hexF d 16).toArray⟩

set_option maxRecDepth 100000 in
set_option maxHeartbeats 400000 in
/-- THE WALK: action.Hex. -/
theorem hex_any (d : Nat) (w : World) (h1 : U64 d) :
    Calls Tryd.prog 30 #[.int .u64 d] w fun e w' => e = .returned (.string (hexB d)) ∧ Below w.heap.size w w' := by
  go_enter Tryd.func30, Tryd.ntmps30
  go_wp2
  go_loopw [4] (fun i wr => ∃ k : Nat, k ≤ 16 ∧ i = .int .i64 (15 - k) ∧ Lib.IsBuilderF 96 5 w.heap.size w.heap.size (Lib.byteCells (hexF d k)) wr ∧ Below w.heap.size w wr)
    (fun i _ => (intOf i + 1).toNat)
  case atStart => exact ⟨0, Nat.zero_le _, rfl, Lib.IsBuilderF.of (Lib.fresh_isBuilder _ _ w), (Below.refl _ w).alloc (Nat.le_refl _) _⟩
  case round =>
    obtain ⟨k, hk, rfl, hI, hb⟩ := hrel
    by_cases hlt : k < 16
    · go_wp2_with fail
      have hX : bits BinOp.and IntKind.u64 ((d : Int) / 2 ^ (4 * (15 - k))) 15 = ((d / 16 ^ (15 - k) % 16 : Nat) : Int) := hex_digit d (15 - k) h1
      rw [hX]
      clear hX
      refine (digit_any _ _ (Nat.mod_lt _ (by omega))).mono ?_
      rintro e w1 ⟨rfl, rfl⟩
      go_wp2_with fail
      refine (write_rune _ _ _ _ (by omega) (by have := hexd_lt (d / 16 ^ (15 - k) % 16) (Nat.mod_lt _ (by omega)); omega) _ hI (by simp [Lib.byteCells]; have := hexF_len d k; omega) hb.size).mono ?_
      rintro e w1 ⟨rfl, hI1, hb1, _⟩
      go_wp2
      go_roundw
      case rel => exact ⟨k + 1, by omega, by go_num, .inr (hex_more hI1), hb.trans hb1⟩
      case measure => simp [intOf]; omega
    · have hk16 : k = 16 := by omega
      subst hk16
      go_wp2_with fail
      refine (builder_string _ _ _ _ hI hb.size).mono ?_
      rintro e w1 ⟨rfl, hI1, hb1⟩
      go_wp2
      go_ret
      exact ⟨rfl, hb.trans hb1⟩

end Go.Proofs.YtamehgbagkkofaaDoor
