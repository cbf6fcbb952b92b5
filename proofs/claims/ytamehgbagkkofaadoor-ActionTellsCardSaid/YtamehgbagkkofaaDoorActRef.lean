/-
  The document's Chain, Text, Bytes, Digest, Hex: what they hand back.
-/
import Derived.Test.YtamehgbagkkofaaDoorApart
namespace Go.Proofs.YtamehgbagkkofaaDoor
open Go.RowKit

/-- A block of one cell, made just now, is a slice of the call's own. -/
theorem own_one (w : World) (e : TypeId) (v : Value) : (w.alloc (.cells #[v] e)).ownsRow w.heap.size e 1 (.slice (some ⟨w.heap.size, 0, none⟩) 1 1) 1 [v] :=
  ⟨by simp, .inr ⟨w.heap.size, 1, #[v], rfl, Nat.le_refl _, by show (w.heap.push _)[w.heap.size]? = _; simp, by decide, by decide, by simp, by simp⟩⟩

set_option maxRecDepth 100000 in
set_option maxHeartbeats 400000 in
/-- THE WALK: billetref01.Chain. -/
theorem rchain_any (v : Nat) (w : World) (h1 : U64 v) :
    Calls Tryd.prog 88 #[.int .u64 v] w fun e w' => e = .returned (.string ⟨(chainL v).toArray⟩) ∧ Below w.heap.size w w' := by
  have HL := Lib.hid (chainL_len10 h1)
  have hv : v < 18446744073709551616 := h1
  clear h1
  go_enter Tryd.func88, Tryd.ntmps88
  go_wp2
  go_loopw [0, 3] (fun x s wr => ∃ (k : Nat) (bs : List UInt8), k ≤ v ∧ x = .int .u64 k ∧ bs ++ chainL k = chainL v ∧ s = .string ⟨bs.toArray⟩ ∧ Below w.heap.size w wr)
    (fun x _ _ => (intOf x).toNat)
  case atStart => exact ⟨v, [], Nat.le_refl _, rfl, rfl, rfl, Below.refl _ _⟩
  case round =>
    obtain ⟨k, bs, hkv, rfl, hc, rfl, hb⟩ := hrel
    have HC := Lib.hid hc; clear hc
    have HB := Lib.hid hb; clear hb
    have hl := chain_last HC.out HL.out
    by_cases hlt : k < 128
    · have hcv := run_string_own (P := Tryd.prog) (wr.alloc (.cells #[.int .u8 (k : Int)] 5)) 94 9 5 Tryd.underlying94 Tryd.underlying5 Tryd.underlying9 (bs := [UInt8.ofNat k]) (by have h := own_one wr 5 (.int .u8 (k : Int)); rw [← bv_ofNat k (by omega)] at h ⊢; exact h)
      go_wp2
      go_ret
      exact ⟨ret_str (by rw [← HC.out, chainL_small hlt]), HB.out.alloc HB.out.size _⟩
    · have hcv := run_string_own (P := Tryd.prog) (wr.alloc (.cells #[.int .u8 ((k % 128 + 128 : Nat) : Int)] 5)) 94 9 5 Tryd.underlying94 Tryd.underlying5 Tryd.underlying9 (bs := [UInt8.ofNat (k % 128 + 128)]) (by have h := own_one wr 5 (.int .u8 ((k % 128 + 128 : Nat) : Int)); rw [← bv_ofNat _ (by omega)] at h ⊢; exact h)
      rw [show ((k % 128 + 128 : Nat) : Int) = (k : Int) % 128 + 128 by omega] at hcv
      go_wp2
      exact ⟨⟨k / 128, bs ++ [UInt8.ofNat (k % 128 + 128)], by omega, by go_num, (chain_round HC.out hlt HL.out).1, congrArg Value.string (ba_ext (by simp [UInt8.ofNat_add])), HB.out.alloc HB.out.size _⟩, by simp [intOf]; omega⟩
set_option maxRecDepth 100000 in
/-- THE WALK: billetref01.Text. -/
theorem rtext_any (s : ByteArray) (w : World) (hs : s.size ≤ 140737488351232) :
    Calls Tryd.prog 60 #[.string s] w fun e w' => e = .returned (.string (textB s)) ∧ Below w.heap.size w w' := by
  have hl := chainL_len10 (v := s.size) (by unfold U64; omega)
  go_enter Tryd.func60, Tryd.ntmps60
  go_wp2_with fail
  refine (rchain_any s.size _ (by unfold U64; omega)).mono ?_
  rintro e w1 ⟨rfl, hb⟩
  go_wp2
  go_ret
  exact ⟨congrArg (fun b => Ending.returned (Value.string b)) (ba_ext (by simp [textB, textL])), hb⟩
set_option maxHeartbeats 400000 in
/-- THE WALK: billetref18.Bytes. -/
theorem rbytes_any (k c n : ByteArray) (w : World) (hk : k.size ≤ 140737488351232) (hc : c.size ≤ 140737488351232) (hn : n.size ≤ 140737488351232) :
    Calls Tryd.prog 27 #[.agg #[.string k, .string c, .string n]] w fun e w' => e = .returned (.string (bytesB k c n)) ∧ Below w.heap.size w w' := by
  have h1 := textB_le hk
  have h2 := textB_le hc
  have h3 := textB_le hn
  have h4 : ¬ 9223372036854775807 < (textB k).size + (textB c).size := by omega
  have h5 : ¬ 9223372036854775807 < (textB k).size + (textB c).size + (textB n).size := by omega
  have k0 := cell_regrown (w := w.alloc (.cells #[.string k, .string c, .string n] 41)) (a := ⟨w.heap.size, 0, none⟩) (v := .string k) (by simp)
  have k1 := cell_regrown (w := w.alloc (.cells #[.string k, .string c, .string n] 41)) (a := ⟨w.heap.size, 1, none⟩) (v := .string c) (by simp)
  have k2 := cell_regrown (w := w.alloc (.cells #[.string k, .string c, .string n] 41)) (a := ⟨w.heap.size, 2, none⟩) (v := .string n) (by simp)
  go_enter Tryd.func27, Tryd.ntmps27
  go_wp2_with fail
  refine wp_region_quiet_below (by kernel_rfl) (by kernel_rfl) ?_
  repeat (go_big_quiet_step ((exact Calls.regrown_of (rtext_any _ _ (by assumption)))))
  refine wpQuiet_nil ?_
  rintro _ ⟨⟨dq, osq⟩, rfl⟩
  go_wp2
  go_ret
  exact ⟨rfl, below_of_regrown ((Below.refl _ _).alloc (Nat.le_refl _) _) (by simp)⟩

set_option maxRecDepth 100000 in
set_option maxHeartbeats 400000 in
/-- THE WALK: billetref18.Digest. -/
theorem rdigest_any (k c n : ByteArray) (w : World) (hk : k.size ≤ 140737488351232) (hc : c.size ≤ 140737488351232) (hn : n.size ≤ 140737488351232) :
    Calls Tryd.prog 29 #[.agg #[.string k, .string c, .string n]] w fun e w' => e = .returned (.int .u64 (digestV k c n)) ∧ Below w.heap.size w w' := by
  have hs : (bytesB k c n).size ≤ 9223372036854775807 := by
    have h1 := textB_le hk
    have h2 := textB_le hc
    have h3 := textB_le hn
    simp only [bytesB, ByteArray.size_append]; omega
  go_enter Tryd.func29, Tryd.ntmps29
  go_wp2_with fail
  refine (rbytes_any k c n _ hk hc hn).mono ?_
  rintro e w1 ⟨rfl, hb⟩
  generalize hB : bytesB k c n = B at *
  go_wp2
  go_loop [4, 5] (fun x i => ∃ k : Nat, k ≤ B.size ∧ i = .int .i64 k ∧ x = .int .u64 (fnv (B.data.toList.take k))) (fun _ i => B.size - (intOf i).toNat)
  case atStart => exact ⟨0, Nat.zero_le _, rfl, rfl⟩
  case round =>
    obtain ⟨k, hk', rfl, rfl⟩ := hrel
    by_cases hlt : k < B.size
    · have HS := Lib.hid (fnv_snoc B k hlt)
      go_wp2
      go_round
      case rel => exact ⟨k + 1, by omega, by go_num, by rw [HS.out]⟩
      case measure => simp [intOf]; omega
    · go_wp2
      go_ret
      refine ⟨ret_int (by unfold digestV; rw [hB, List.take_of_length_le (by simp; omega)]), ?_⟩
      exact ((Below.refl _ _).alloc (Nat.le_refl _) _).trans (hb.mono (by simp))

theorem hexF_step {d i : Nat} (hi : i < 16) : hexF d (16 - i) = hexF d (16 - (i + 1)) ++ [UInt8.ofNat (hexd (d / 16 ^ i % 16))] := by
  rw [show 16 - i = (16 - (i + 1)) + 1 by omega, hexF, show 15 - (16 - (i + 1)) = i by omega]
/-- The digits' text. -/
def digitsB : ByteArray := ⟨#[48, 49, 50, 51, 52, 53, 54, 55, 56, 57, 97, 98, 99, 100, 101, 102]⟩
theorem digits_at : ∀ k : Fin 16, digitsB.extract k.val (k.val + 1) = ⟨#[UInt8.ofNat (hexd k.val)]⟩ := by decide +kernel
set_option maxRecDepth 100000 in
set_option maxHeartbeats 400000 in
/-- THE WALK: billetref18.Hex. -/
theorem rhex_any (d : Nat) (w : World) (h1 : U64 d) :
    Calls Tryd.prog 31 #[.int .u64 d] w fun e w' => e = .returned (.string (hexB d)) ∧ w = w' := by
  have hd : d < 18446744073709551616 := h1
  clear h1
  go_enter Tryd.func31, Tryd.ntmps31
  go_wp2
  go_loop [0, 4, 5] (fun x s i => ∃ (k m : Nat) (l : List UInt8), k ≤ 16 ∧ i = .int .i64 k ∧ m < 18446744073709551616 ∧ m = d / 16 ^ k ∧ x = .int .u64 m ∧ s = .string ⟨l.toArray⟩ ∧ l.length = k ∧ hexF d (16 - k) ++ l = hexF d 16) (fun _ _ i => 16 - (intOf i).toNat)
  case atStart => exact ⟨0, d, [], by omega, rfl, hd, by simp, rfl, rfl, rfl, by simp⟩
  case round =>
    obtain ⟨k, m, l, hk, rfl, hm, hmd, rfl, rfl, hl, hh⟩ := hrel
    have HM := Lib.hid hmd
    have HH := Lib.hid hh
    have HL := Lib.hid hl
    have hl2 : l.length ≤ 16 := by omega
    clear hmd hh hl
    by_cases hlt : k < 16
    · have HD := Lib.hid (digits_at ⟨m % 16, Nat.mod_lt _ (by omega)⟩)
      go_wp2
      refine ⟨⟨k + 1, m / 16, UInt8.ofNat (hexd (m % 16)) :: l, by omega, by go_num, by omega, ?_, by go_num, ?_, by simp; exact HL.out, ?_⟩, by simp [intOf]; omega⟩
      · rw [HM.out, Nat.div_div_eq_div_mul, Nat.pow_succ]
      · have h := HD.out
        simp only [digitsB] at h
        rw [h]
        exact congrArg Value.string (ba_ext (by simp))
      · rw [← HH.out, hexF_step hlt, ← HM.out]
        simp
    · obtain rfl : k = 16 := by omega
      go_wp2
      go_ret
      exact ⟨by unfold hexB; rw [← HH.out]; rfl, rfl⟩
end Go.Proofs.YtamehgbagkkofaaDoor
