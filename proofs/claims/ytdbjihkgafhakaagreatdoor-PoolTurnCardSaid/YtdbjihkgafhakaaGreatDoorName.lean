/-
  Names: the runes of a text, their kinds; plain.
-/
import Derived.Test.YtdbjihkgafhakaaGreatDoorLib
namespace Go.Proofs.YtdbjihkgafhakaaGreatDoor
open Go.RowKit

/-- The runes of a text, as a range goes through them. -/
def runesF (s : ByteArray) : Nat → Nat → List Nat
  | 0, _ => []
  | f + 1, pos => if pos < s.size then (Utf8.decode s pos).1 :: runesF s f (pos + (Utf8.decode s pos).2) else []
def runes (s : ByteArray) : List Nat := runesF s s.size 0

theorem runesF_end (s : ByteArray) (f pos : Nat) (h : ¬ pos < s.size) : runesF s f pos = [] := by cases f <;> simp [runesF, h]
theorem runesF_more (s : ByteArray) (f pos : Nat) (h : pos < s.size) (hf : s.size ≤ pos + f) : ∃ g, f = g + 1 ∧ runesF s f pos = (Utf8.decode s pos).1 :: runesF s g (pos + (Utf8.decode s pos).2) := by
  obtain ⟨g, rfl⟩ : ∃ g, f = g + 1 := ⟨f - 1, by omega⟩
  exact ⟨g, rfl, by simp [runesF, h]⟩

def DecOk (d : Nat × Nat) : Prop := d.1 < 1114112 ∧ 1 ≤ d.2 ∧ (d.1 < 1104 → d.2 ≤ 2)
theorem decOk_ite {c : Prop} [Decidable c] {a b : Nat × Nat} (ha : c → DecOk a) (hb : DecOk b) : DecOk (if c then a else b) := by
  by_cases h : c
  · rw [if_pos h]; exact ha h
  · rw [if_neg h]; exact hb
theorem decOk_err : DecOk (Utf8.runeError, 1) := ⟨by decide, by decide, by decide⟩
theorem valid_lt {c : Nat} (h : Utf8.valid c = true) : c < 1114112 := by
  simp [Utf8.valid] at h
  omega
theorem decode_ok (s : ByteArray) (pos : Nat) : DecOk (Utf8.decode s pos) := by
  unfold Utf8.decode
  refine decOk_ite (fun h => ?_) (decOk_ite (fun _ => decOk_ite (fun _ => ?_) decOk_err) (decOk_ite (fun _ => decOk_ite (fun h => ?_) decOk_err) (decOk_ite (fun _ => decOk_ite (fun h => ?_) decOk_err) decOk_err)))
  · refine ⟨?_, by simp only []; omega, fun _ => by simp only []; omega⟩
    show (s.get! (pos + 0)).toNat < 1114112
    have := UInt8.toNat_lt (s.get! (pos + 0))
    omega
  · refine ⟨?_, by simp only []; omega, fun _ => by simp only []; omega⟩
    show (s.get! (pos + 0)).toNat % 32 * 64 + (s.get! (pos + 1)).toNat % 64 < 1114112
    omega
  · simp only [Bool.and_eq_true, decide_eq_true_eq] at h
    exact ⟨valid_lt h.2, by simp only []; omega, fun h2 => absurd h.1 (by simp only [] at h2; omega)⟩
  · simp only [Bool.and_eq_true, decide_eq_true_eq] at h
    exact ⟨valid_lt h.2, by simp only []; omega, fun h2 => absurd h.1 (by simp only [] at h2; omega)⟩
theorem decode_small (s : ByteArray) (pos : Nat) : (Utf8.decode s pos).1 < 1114112 ∧ 1 ≤ (Utf8.decode s pos).2 ∧ ((Utf8.decode s pos).1 < 1104 → (Utf8.decode s pos).2 ≤ 2) := decode_ok s pos

def btw (a r b : Nat) : Bool := decide (a ≤ r) && decide (r ≤ b)
def smallN (r : Nat) : Bool := btw 97 r 122 || (btw 224 r 254 && decide (r ≠ 247)) || (btw 945 r 969 && decide (r ≠ 962)) || btw 1072 r 1103
def greatN (r : Nat) : Bool := btw 65 r 90 || (btw 192 r 222 && decide (r ≠ 215)) || (btw 913 r 937 && decide (r ≠ 930)) || btw 1040 r 1071
theorem smallN_rows (r : Nat) : smallN r = (btw 97 r 122 || (btw 224 r 254 && decide (r ≠ 247)) || (btw 945 r 969 && decide (r ≠ 962)) || btw 1072 r 1103) := rfl
theorem greatN_rows (r : Nat) : greatN r = (btw 65 r 90 || (btw 192 r 222 && decide (r ≠ 215)) || (btw 913 r 937 && decide (r ≠ 930)) || btw 1040 r 1071) := rfl
theorem greatN_small (r : Nat) : greatN r = (decide (65 ≤ r) && smallN (r + 32)) := by
  rw [Bool.eq_iff_iff]
  simp [greatN, smallN, btw]
  omega
def kindN (r : Nat) : Nat := if smallN r then 1 else if 48 ≤ r ∧ r ≤ 57 then 2 else if r = 45 ∨ r = 46 then 3 else if greatN r then 4 else 0
def okR (r : Nat) : Bool := kindN r != 0 && kindN r != 4
def nameB (s : ByteArray) : Bool := (runes s).all okR && decide (1 ≤ (runes s).length ∧ (runes s).length ≤ 16)

theorem okR_lt {r : Nat} (h : okR r = true) : r < 1104 := by
  by_cases hr : r < 1104
  · exact hr
  · have h1 : smallN r = false := by simp [smallN, btw]; omega
    have h2 : greatN r = false := by simp [greatN, btw]; omega
    have : kindN r = 0 := by
      unfold kindN
      rw [h1, h2, if_neg (by simp), if_neg (by omega), if_neg (by omega), if_neg (by simp)]
    simp [okR, this] at h

theorem runesF_size (s : ByteArray) : ∀ f pos, s.size ≤ pos + f → (runesF s f pos).all okR = true → s.size ≤ pos + 2 * (runesF s f pos).length
  | 0, pos, h, _ => by simp [runesF]; omega
  | f + 1, pos, h, ha => by
    by_cases hp : pos < s.size
    · have hd := decode_small s pos
      simp only [runesF, hp, if_true, List.all_cons, Bool.and_eq_true, List.length_cons] at ha ⊢
      have hw := hd.2.2 (okR_lt ha.1)
      have := runesF_size s f (pos + (Utf8.decode s pos).2) (by omega) ha.2
      omega
    · simp [runesF, hp]; omega

/-- A name is no longer than 32 bytes. -/
theorem nameB_size {s : ByteArray} (h : nameB s = true) : s.size ≤ 32 := by
  simp only [nameB, Bool.and_eq_true, decide_eq_true_eq] at h
  have := runesF_size s s.size 0 (by omega) h.1
  have h2 := h.2
  unfold runes at h2
  omega

end Go.Proofs.YtdbjihkgafhakaaGreatDoor
