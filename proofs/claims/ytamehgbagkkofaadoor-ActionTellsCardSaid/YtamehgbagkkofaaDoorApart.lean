/-
  'ActionApart': the walk of the law.
-/
import Derived.Test.YtamehgbagkkofaaDoorAction
namespace Go.Proofs.YtamehgbagkkofaaDoor
open Go.RowKit

theorem hex255 : hexB 255 = ⟨#[48, 48, 48, 48, 48, 48, 48, 48, 48, 48, 48, 48, 48, 48, 102, 102]⟩ := by decide +kernel
theorem chainL0 : chainL 0 = [0] := by rw [chainL_small (by omega)]; rfl
theorem bytes0 : bytesB ⟨#[]⟩ ⟨#[]⟩ ⟨#[]⟩ = ⟨#[0, 0, 0]⟩ := by
  have h : textB ⟨#[]⟩ = ⟨#[0]⟩ := by
    unfold textB textL
    simp [chainL0]
  unfold bytesB
  rw [h]
  decide +kernel

set_option maxHeartbeats 400000 in
/-- THE WALK: the law's example. -/
theorem live18_any (w : World) :
    Calls Tryd.prog 20 #[] w fun e w' => e = .returned (.bool true) ∧ Below w.heap.size w w' := by
  go_enter Tryd.func20, Tryd.ntmps20
  go_wp2_with fail
  refine (hex_any 255 _ (by unfold U64; omega)).mono ?_
  rintro e w1 ⟨rfl, hb⟩
  rw [hex255]
  go_wp2_with fail
  refine (bytes_any _ _ _ _ (by decide) (by decide) (by decide)).mono ?_
  rintro e w2 ⟨rfl, hb2⟩
  rw [bytes0]
  go_wp2_with fail
  go_ret
  exact ⟨rfl, hb.trans (hb2.mono hb.size)⟩

theorem chain_cat : ∀ (n a b : Nat) (r s : List UInt8), a < n → chainL a ++ r = chainL b ++ s → a = b ∧ r = s
  | 0, _, _, _, _, h, _ => by omega
  | n + 1, a, b, r, s, hn, h => by
    have key : ∀ x : Nat, x < 256 → (UInt8.ofNat x).toNat = x := fun x hx => by simp [Nat.mod_eq_of_lt hx]
    by_cases ha : a < 128
    · by_cases hb : b < 128
      · rw [chainL_small ha, chainL_small hb] at h
        simp only [List.singleton_append, List.cons.injEq] at h
        have h2 := congrArg UInt8.toNat h.1
        rw [key a (by omega), key b (by omega)] at h2
        exact ⟨h2, h.2⟩
      · rw [chainL_small ha, chainL_great hb] at h
        simp only [List.cons_append, List.nil_append, List.cons.injEq] at h
        have h2 := congrArg UInt8.toNat h.1
        rw [key a (by omega), key _ (by omega)] at h2
        omega
    · by_cases hb : b < 128
      · rw [chainL_great ha, chainL_small hb] at h
        simp only [List.cons_append, List.nil_append, List.cons.injEq] at h
        have h2 := congrArg UInt8.toNat h.1
        rw [key _ (by omega), key b (by omega)] at h2
        omega
      · rw [chainL_great ha, chainL_great hb] at h
        simp only [List.cons_append, List.cons.injEq] at h
        have h2 := congrArg UInt8.toNat h.1
        rw [key _ (by omega), key _ (by omega)] at h2
        obtain ⟨h3, h4⟩ := chain_cat n (a / 128) (b / 128) r s (by omega) h.2
        exact ⟨by omega, h4⟩

theorem text_cat {a b r s : List UInt8} (h : textL a ++ r = textL b ++ s) : a = b ∧ r = s := by
  simp only [textL, List.append_assoc] at h
  obtain ⟨h1, h2⟩ := chain_cat (a.length + 1) a.length b.length _ _ (by omega) h
  exact List.append_inj h2 h1

theorem bytes_inj {k1 c1 n1 k2 c2 n2 : ByteArray} (h : bytesB k1 c1 n1 = bytesB k2 c2 n2) : k1 = k2 ∧ c1 = c2 ∧ n1 = n2 := by
  have h1 := congrArg (fun b : ByteArray => b.data.toList) h
  simp only [bytesB, ByteArray.data_append, Array.toList_append, textB, List.append_assoc] at h1
  obtain ⟨h2, h3⟩ := text_cat h1
  obtain ⟨h4, h5⟩ := text_cat h3
  have h6 := text_cat (r := []) (s := []) (by simpa using h5)
  exact ⟨ba_ext h2, ba_ext h4, ba_ext h6.1⟩

theorem hexd_inj : ∀ a b : Fin 16, UInt8.ofNat (hexd a.val) = UInt8.ofNat (hexd b.val) → a = b := by decide +kernel
theorem hexF_inj (a b : Nat) : ∀ k, k ≤ 16 → hexF a k = hexF b k → a / 16 ^ (16 - k) % 16 ^ k = b / 16 ^ (16 - k) % 16 ^ k
  | 0, _, _ => by simp [Nat.mod_one]
  | k + 1, hk, h => by
    simp only [hexF] at h
    obtain ⟨h1, h2⟩ := List.append_inj h (by rw [hexF_len, hexF_len])
    have h3 := hexF_inj a b k (by omega) h1
    have h4 := hexd_inj ⟨a / 16 ^ (15 - k) % 16, Nat.mod_lt _ (by omega)⟩ ⟨b / 16 ^ (15 - k) % 16, Nat.mod_lt _ (by omega)⟩ (by simpa using h2)
    have h5 : a / 16 ^ (15 - k) % 16 = b / 16 ^ (15 - k) % 16 := congrArg Fin.val h4
    have e : 16 - (k + 1) = 15 - k := by omega
    have e2 : 16 ^ (16 - k) = 16 ^ (15 - k) * 16 := by rw [← Nat.pow_succ]; congr 1; omega
    rw [e2, ← Nat.div_div_eq_div_mul, ← Nat.div_div_eq_div_mul] at h3
    rw [e, Nat.pow_succ, Nat.mul_comm, Nat.mod_mul, Nat.mod_mul, h5, h3]
theorem hex_inj {a b : Nat} (ha : U64 a) (hb : U64 b) (h : hexF a 16 = hexF b 16) : a = b := by
  have h1 := hexF_inj a b 16 (by omega) h
  unfold U64 at ha hb
  simpa [Nat.mod_eq_of_lt ha, Nat.mod_eq_of_lt hb] using h1

theorem hexB_inj {a b : Nat} (ha : U64 a) (hb : U64 b) (h : hexB a = hexB b) : a = b :=
  hex_inj ha hb (by simpa [hexB] using congrArg (fun x : ByteArray => x.data.toList) h)

end Go.Proofs.YtamehgbagkkofaaDoor
