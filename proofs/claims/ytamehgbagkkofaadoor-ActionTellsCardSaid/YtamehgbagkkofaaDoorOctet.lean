/-
  octet.Chain, octet.Text: what they hand back.
-/
import Derived.Test.YtamehgbagkkofaaDoorLib
namespace Go.Proofs.YtamehgbagkkofaaDoor
open Go.RowKit

theorem info_u8 : (Tryd.prog.info? 5).map (fun i => (i.zero, i.size, i.bytes)) = some (some (.int .u8 0), 1, 1) := by kernel_rfl

/-- A number as a chain. -/
def chainL (v : Nat) : List UInt8 := if _h : v < 128 then [UInt8.ofNat v] else UInt8.ofNat (v % 128 + 128) :: chainL (v / 128)
termination_by v

theorem chainL_small {v : Nat} (h : v < 128) : chainL v = [UInt8.ofNat v] := by rw [chainL]; simp [h]
theorem chainL_great {v : Nat} (h : ¬ v < 128) : chainL v = UInt8.ofNat (v % 128 + 128) :: chainL (v / 128) := by rw [chainL]; simp [h]

def U64 (v : Nat) : Prop := v < 18446744073709551616

theorem or128 (m : Nat) (h : m < 256) : bits BinOp.or IntKind.u8 (m : Int) 128 = ((m % 128 + 128 : Nat) : Int) := by
  have key : ∀ m : Fin 256, bits BinOp.or IntKind.u8 ((m.val : Nat) : Int) 128 = ((m.val % 128 + 128 : Nat) : Int) := by decide +kernel
  exact key ⟨m, h⟩

theorem chainL_len : ∀ (n v : Nat), v < 128 ^ (n + 1) → (chainL v).length ≤ n + 1
  | 0, v, h => by rw [chainL_small (by omega)]; simp
  | n + 1, v, h => by
    by_cases hv : v < 128
    · rw [chainL_small hv]; simp
    · rw [chainL_great hv]
      have := chainL_len n (v / 128) (by rw [Nat.div_lt_iff_lt_mul (by omega)]; rw [Nat.pow_succ] at h; exact h)
      simp; omega
theorem chainL_len10 {v : Nat} (h : U64 v) : (chainL v).length ≤ 10 :=
  chainL_len 9 v (by unfold U64 at h; omega)
theorem chainL_pos (v : Nat) : 0 < (chainL v).length := by
  by_cases hv : v < 128
  · rw [chainL_small hv]; simp
  · rw [chainL_great hv]; simp

theorem chain_more {w : World} {base n : Nat} {e : TypeId} {v : Value} {bs : List UInt8} {m : Nat} {x : Int} (h : w.ownsRow base e 1 v n (List.map bv bs ++ [Value.int IntKind.u8 x])) (hm : m < 256) (hx : x = (m : Int)) :
    w.ownsRow base e 1 v n ((bs ++ [UInt8.ofNat m]).map bv) := by
  rw [List.map_append, List.map_singleton, bv_ofNat m hm, ← hx]; exact h

/-- One round of the loop. -/
theorem chain_round {v k : Nat} {bs : List UInt8} (h : bs ++ chainL k = chainL v) (hk : ¬ k < 128) (hl : (chainL v).length ≤ 10) :
    (bs ++ [UInt8.ofNat (k % 128 + 128)]) ++ chainL (k / 128) = chainL v ∧ bs.length < 10 := by
  rw [← h] at hl ⊢
  rw [chainL_great hk] at hl ⊢
  have := chainL_pos (k / 128)
  simp at hl ⊢
  omega
theorem chain_last {v k : Nat} {bs : List UInt8} (h : bs ++ chainL k = chainL v) (hl : (chainL v).length ≤ 10) : bs.length < 10 := by
  have := chainL_pos k
  rw [← h] at hl
  simp at hl
  omega

set_option maxRecDepth 100000 in
set_option maxHeartbeats 400000 in
/-- THE WALK: octet.Chain. -/
theorem chain_any (v : Nat) (w : World) (h1 : U64 v) :
    Calls Tryd.prog 87 #[.int .u64 v] w fun e w' => e = .returned (.string ⟨(chainL v).toArray⟩) ∧ Below w.heap.size w w' := by
  have HL := Lib.hid (chainL_len10 h1)
  clear h1
  go_enter Tryd.func87, Tryd.ntmps87
  go_wp2
  go_loopw [0, 3] (fun x s wr => ∃ (k : Nat) (bs : List UInt8), x = .int .u64 k ∧ bs ++ chainL k = chainL v ∧ wr.ownsRow w.heap.size 5 1 s bs.length (bs.map bv) ∧ Below w.heap.size w wr)
    (fun x _ _ => (intOf x).toNat)
  case atStart => exact ⟨v, [], rfl, rfl, World.ownsRow_nil _ _ _ _, Below.refl _ _⟩
  case round =>
    obtain ⟨k, bs, rfl, hc, how, hb⟩ := hrel
    have HC := Lib.hid hc; clear hc
    have HO := Lib.hid how; clear how
    have hl := chain_last HC.out HL.out
    by_cases hlt : k < 128
    · go_wp2_with (at_builtin; go_must (refine wpList_append_one rfl _ _ 94 rfl w.heap.size (.int .u8 0) 1 Tryd.underlying94 info_u8 rfl _ _ _ rfl HO.out rfl rfl hb.size (by omega) (by omega) ?_); intro v' w1 how1 hg _)
      have how2 := chain_more how1 (m := k) (by omega) rfl
      have hcv := run_string_own (P := Tryd.prog) w1 94 9 5 Tryd.underlying94 Tryd.underlying5 Tryd.underlying9 how2
      clear how1 how2
      go_wp2
      rw [hcv]
      go_wp2
      go_ret
      exact ⟨ret_str (by rw [← HC.out, chainL_small hlt]), hb.grown hg hb.size (fun k hk => (HO.out.lt k hk).1)⟩
    · go_wp2_with (at_builtin; go_must (refine wpList_append_one rfl _ _ 94 rfl w.heap.size (.int .u8 0) 1 Tryd.underlying94 info_u8 rfl _ _ _ rfl HO.out rfl rfl hb.size (by omega) (by omega) ?_); intro v' w1 how1 hg _)
      have how2 := Lib.hid how1
      clear how1
      go_wp2
      go_roundw
      case rel =>
        refine ⟨k / 128, bs ++ [UInt8.ofNat (k % 128 + 128)], by go_num, (chain_round HC.out hlt HL.out).1, ?_, hb.grown hg hb.size (fun k hk => (HO.out.lt k hk).1)⟩
        have h3 := chain_more how2.out (m := k % 128 + 128) (by omega) (by have h4 := or128 (k % 256) (by omega); rw [show ((k : Int) % 256) = ((k % 256 : Nat) : Int) from by omega, h4]; congr 2; omega)
        simpa using h3
      case measure => simp [intOf]; omega

/-- A text with its length. -/
def textL (s : List UInt8) : List UInt8 := chainL s.length ++ s

def textB (s : ByteArray) : ByteArray := ⟨(textL s.data.toList).toArray⟩
theorem textB_size (s : ByteArray) : (textB s).size = (chainL s.size).length + s.size := by
  show (textL s.data.toList).toArray.size = _
  simp [textL]
theorem textB_le {s : ByteArray} (hs : s.size ≤ 140737488351232) : (textB s).size ≤ 140737488351242 := by
  have := chainL_len10 (v := s.size) (by unfold U64; omega)
  rw [textB_size]; omega

set_option maxHeartbeats 400000 in
/-- THE WALK: octet.Text. -/
theorem text_any (s : ByteArray) (w : World) (hs : s.size ≤ 140737488351232) :
    Calls Tryd.prog 59 #[.string s] w fun e w' => e = .returned (.string (textB s)) ∧ Below w.heap.size w w' := by
  have h1 := chainL_len10 (v := s.size) (by unfold U64; omega)
  have h2 : ¬ 9223372036854775807 < (chainL s.size).length + s.size := by omega
  go_enter Tryd.func59, Tryd.ntmps59
  go_wp2_with fail
  refine (chain_any s.size _ (by unfold U64; omega)).mono ?_
  rintro e w1 ⟨rfl, hb⟩
  go_wp2
  go_ret
  exact ⟨rfl, hb⟩

def bytesB (k c n : ByteArray) : ByteArray := textB k ++ textB c ++ textB n

set_option maxHeartbeats 400000 in
/-- THE WALK: action.Bytes, of an action that is handed over as an aggregate. -/
theorem bytes_any (k c n : ByteArray) (w : World) (hk : k.size ≤ 140737488351232) (hc : c.size ≤ 140737488351232) (hn : n.size ≤ 140737488351232) :
    Calls Tryd.prog 26 #[.agg #[.string k, .string c, .string n]] w fun e w' => e = .returned (.string (bytesB k c n)) ∧ Below w.heap.size w w' := by
  have h1 := textB_le hk
  have h2 := textB_le hc
  have h3 := textB_le hn
  have h4 : ¬ 9223372036854775807 < (textB k).size + (textB c).size := by omega
  have h5 : ¬ 9223372036854775807 < (textB k).size + (textB c).size + (textB n).size := by omega
  have k0 := cell_regrown (w := w.alloc (.cells #[.string k, .string c, .string n] 41)) (a := ⟨w.heap.size, 0, none⟩) (v := .string k) (by simp)
  have k1 := cell_regrown (w := w.alloc (.cells #[.string k, .string c, .string n] 41)) (a := ⟨w.heap.size, 1, none⟩) (v := .string c) (by simp)
  have k2 := cell_regrown (w := w.alloc (.cells #[.string k, .string c, .string n] 41)) (a := ⟨w.heap.size, 2, none⟩) (v := .string n) (by simp)
  go_enter Tryd.func26, Tryd.ntmps26
  go_wp2_with fail
  refine wp_region_quiet_below (by kernel_rfl) (by kernel_rfl) ?_
  repeat (go_big_quiet_step ((exact Calls.regrown_of (text_any _ _ (by assumption)))))
  refine wpQuiet_nil ?_
  rintro _ ⟨⟨dq, osq⟩, rfl⟩
  go_wp2
  go_ret
  exact ⟨rfl, below_of_regrown ((Below.refl _ _).alloc (Nat.le_refl _) _) (by simp)⟩

end Go.Proofs.YtamehgbagkkofaaDoor
