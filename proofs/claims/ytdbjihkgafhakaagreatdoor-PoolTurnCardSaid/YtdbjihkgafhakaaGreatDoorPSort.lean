/-
  Platforms by rising keys, plain.
-/
import Derived.Test.YtdbjihkgafhakaaGreatDoorPMath
import Derived.Lib.Bytealg
namespace Go.Proofs.YtdbjihkgafhakaaGreatDoor
open Go.RowKit

theorem cmp_self : ∀ a : List UInt8, Lib.compareBytes a a = 0
  | [] => rfl
  | x :: r => by rw [Lib.compareBytes, if_neg (by simp), if_neg (by simp), cmp_self r]
theorem cmp_eq0 : ∀ {a b : List UInt8}, Lib.compareBytes a b = 0 → a = b
  | [], [], _ => rfl
  | [], _ :: _, h => by simp [Lib.compareBytes] at h
  | _ :: _, [], h => by simp [Lib.compareBytes] at h
  | x :: r, y :: t, h => by
    rw [Lib.compareBytes] at h
    split at h
    · cases h
    · split at h
      · cases h
      · rename_i h1 h2
        have e : x = y := by
          rw [UInt8.lt_iff_toNat_lt] at h1 h2
          exact UInt8.toNat_inj.1 (by omega)
        rw [e, cmp_eq0 h]
theorem cmp_neg : ∀ (a b : List UInt8), Lib.compareBytes b a = - Lib.compareBytes a b
  | [], [] => rfl
  | [], _ :: _ => rfl
  | _ :: _, [] => rfl
  | x :: r, y :: t => by
    rw [Lib.compareBytes, Lib.compareBytes]
    have := cmp_neg r t
    simp only [UInt8.lt_iff_toNat_lt]
    split <;> split <;> try omega
    all_goals first | rfl | (split <;> first | rfl | omega)
theorem cmp_trans : ∀ {a b c : List UInt8}, Lib.compareBytes a b < 0 → Lib.compareBytes b c < 0 → Lib.compareBytes a c < 0
  | [], [], _, h, _ => by simp [Lib.compareBytes] at h
  | [], _ :: _, [], _, h => by simp [Lib.compareBytes] at h
  | [], _ :: _, _ :: _, _, _ => by simp [Lib.compareBytes]
  | _ :: _, [], _, h, _ => by simp [Lib.compareBytes] at h
  | _ :: _, _ :: _, [], _, h => by simp [Lib.compareBytes] at h
  | x :: r, y :: t, z :: u, h1, h2 => by
    have ih := @cmp_trans r t u
    rw [Lib.compareBytes] at h1 h2 ⊢
    simp only [UInt8.lt_iff_toNat_lt] at h1 h2 ⊢
    split at h1
    · split at h2
      · rw [if_pos (by omega)]; omega
      · split at h2
        · omega
        · rw [if_pos (by omega)]; omega
    · split at h1
      · omega
      · split at h2
        · rw [if_pos (by omega)]; omega
        · split at h2
          · omega
          · rw [if_neg (by omega), if_neg (by omega)]; exact ih h1 h2
def kCmp (p q : Pr) : Int := Lib.compareBytes p.1.data.toList q.1.data.toList
def kLt (p q : Pr) : Bool := decide (kCmp p q < 0)
theorem kLt_t {p q : Pr} : kLt p q = true ↔ kCmp p q < 0 := by unfold kLt; exact decide_eq_true_iff
theorem kLt_f {p q : Pr} : kLt p q = false ↔ 0 ≤ kCmp p q := by unfold kLt; rw [decide_eq_false_iff_not]; omega
theorem kCmp_neg (p q : Pr) : kCmp q p = - kCmp p q := cmp_neg _ _
theorem kCmp_key {p q : Pr} (h : kCmp p q = 0) : p.1 = q.1 := ba_ext (cmp_eq0 h)
theorem kCmp_of {p q r : Pr} (h : p.1 = q.1) : kCmp p r = kCmp q r := by unfold kCmp; rw [h]
theorem kCmp_of2 {p q r : Pr} (h : p.1 = q.1) : kCmp r p = kCmp r q := by unfold kCmp; rw [h]
theorem kLt_irrefl (p : Pr) : kLt p p = false := by rw [kLt_f]; unfold kCmp; rw [cmp_self]; exact Int.le_refl _
theorem kLt_trans {p q r : Pr} (h1 : kLt p q = true) (h2 : kLt q r = true) : kLt p r = true := by
  rw [kLt_t] at *
  exact cmp_trans h1 h2
theorem kLt_asymm {p q : Pr} (h : kLt p q = true) : kLt q p = false := by
  rw [kLt_t] at h
  rw [kLt_f, kCmp_neg p q]
  omega
theorem kLt_total {p q : Pr} (h : p.1 ≠ q.1) (h1 : kLt p q = false) : kLt q p = true := by
  rw [kLt_f] at h1
  rw [kLt_t, kCmp_neg p q]
  have : kCmp p q ≠ 0 := fun e => h (kCmp_key e)
  omega
theorem kLt_ntrans {p q r : Pr} (h1 : kLt p q = false) (h2 : kLt q r = false) : kLt p r = false := by
  by_cases e1 : p.1 = q.1
  · rw [kLt_f] at *; rw [kCmp_of e1]; exact h2
  · by_cases e2 : q.1 = r.1
    · rw [kLt_f] at *; rw [← kCmp_of2 e2]; exact h1
    · exact kLt_asymm (kLt_trans (kLt_total e2 h2) (kLt_total e1 h1))

/-- Keys that are met once. -/
def Once (l : List Pr) : Prop := l.Pairwise fun p q => p.1 ≠ q.1
def Rising (l : List Pr) : Prop := l.Pairwise fun p q => kLt q p = false
theorem Once.perm {l m : List Pr} (h : Once l) (hp : l.Perm m) : Once m := hp.pairwise h fun e e' => e e'.symm
theorem once_eq {l : List Pr} (h : Once l) {p q : Pr} (hp : p ∈ l) (hq : q ∈ l) (e : p.1 = q.1) : p = q := by
  induction h with
  | nil => cases hp
  | cons hx _ ih =>
    rcases List.mem_cons.1 hp with rfl | hp
    · rcases List.mem_cons.1 hq with rfl | hq
      · rfl
      · exact absurd e (hx q hq)
    · rcases List.mem_cons.1 hq with rfl | hq
      · exact absurd e.symm (hx p (by assumption))
      · exact ih hp hq
/-- Sorted lists of the same pairs are one list. -/
theorem rising_unique {l m : List Pr} (ho : Once l) (hp : l.Perm m) (hl : Rising l) (hm : Rising m) : l = m := by
  refine List.Perm.eq_of_pairwise (le := fun p q => kLt q p = false) ?_ hl hm hp
  intro a b ha hb h1 h2
  refine once_eq ho ha (hp.mem_iff.2 hb) ?_
  by_cases e : a.1 = b.1
  · exact e
  · have := kLt_total e h2
    rw [h1] at this
    cases this

/-- The sorted list. -/
def sortP (l : List Pr) : List Pr := l.mergeSort fun p q => !kLt q p
theorem sortP_perm (l : List Pr) : (sortP l).Perm l := List.mergeSort_perm _ _
theorem sortP_rising (l : List Pr) : Rising (sortP l) := by
  have h := List.pairwise_mergeSort (le := fun p q : Pr => !kLt q p) (fun a b c h1 h2 => by
    simp only [Bool.not_eq_true'] at *
    exact kLt_ntrans h2 h1) (fun a b => by
    rcases h1 : kLt b a with _ | _
    · simp
    · rw [kLt_asymm h1]; rfl) l
  exact h.imp fun {a b} h => by simpa using h
theorem sortP_of {l m : List Pr} (ho : Once l) (hp : m.Perm l) (hm : Rising m) : m = sortP l :=
  rising_unique (ho.perm hp.symm) (hp.trans (sortP_perm l).symm) hm (sortP_rising l)

theorem hasKey_false {l : List Pr} {k : ByteArray} (h : hasKey l k = false) : ∀ p ∈ l, p.1 ≠ k := by
  intro p hp e
  have : hasKey l k = true := by
    unfold hasKey
    rw [List.any_eq_true]
    exact ⟨p, hp, by simp [e]⟩
  rw [h] at this; cases this
theorem hasKey_true {l : List Pr} {k : ByteArray} (h : hasKey l k = true) : ∃ p ∈ l, p.1 = k := by
  unfold hasKey at h
  rw [List.any_eq_true] at h
  obtain ⟨p, hp, e⟩ := h
  exact ⟨p, hp, ba_ext (by simpa using e)⟩
theorem parseF_once : ∀ (ps : List (List UInt8)) (acc : List Pr), Once acc → Once (parseF acc ps).1
  | [], acc, h => h
  | x :: r, acc, h => by
    rw [parseF]
    split
    · exact List.Pairwise.nil
    · split
      · exact List.Pairwise.nil
      · rename_i hk
        refine parseF_once r _ ?_
        unfold Once
        rw [List.pairwise_append]
        refine ⟨h, List.pairwise_singleton _ _, fun p hp q hq => ?_⟩
        rw [List.mem_singleton] at hq
        subst hq
        exact hasKey_false (by simpa using hk) p hp
theorem parseP_once (s : ByteArray) : Once (parseP s).1 := by
  unfold parseP
  split
  · exact List.Pairwise.nil
  · split
    · exact List.Pairwise.nil
    · exact parseF_once _ _ List.Pairwise.nil
def canonE (s : ByteArray) : Int := (parseP s).2
def canonP (s : ByteArray) : List UInt8 := if canonE s = 0 then showP (sortP (parseP s).1) else []
end Go.Proofs.YtdbjihkgafhakaaGreatDoor
