/-
  Platforms whose pieces stand another way, plain.
-/
import Derived.Test.YtamehgbagkkofaaDoorRMatch
namespace Go.Proofs.YtamehgbagkkofaaDoor
open Go.RowKit

/-- A pair that a piece gave. -/
def GoodP (p : Pr) : Prop := (44 : UInt8) ∉ shown p ∧ oneE (shown p) = 0 ∧ oneV (shown p) = p
theorem splitL_parts (c : UInt8) : ∀ (s : List UInt8) (x : List UInt8), x ∈ splitL c s → c ∉ x
  | [], x, h => by simp [splitL] at h; subst h; simp
  | y :: r, x, h => by
    rw [splitL] at h
    split at h
    · rcases List.mem_cons.1 h with rfl | h
      · simp
      · exact splitL_parts c r x h
    · rename_i hne
      split at h
      · rename_i e
        exact absurd e (splitL_ne c r)
      · rename_i q qs e
        rcases List.mem_cons.1 h with rfl | h
        · intro hc
          rcases List.mem_cons.1 hc with hc | hc
          · exact hne hc.symm
          · exact splitL_parts c r q (by rw [e]; simp) hc
        · exact splitL_parts c r x (by rw [e]; exact List.mem_cons_of_mem _ h)
theorem parseF_good : ∀ (ps : List (List UInt8)) (acc : List Pr), (∀ x ∈ ps, (44 : UInt8) ∉ x) → (∀ p ∈ acc, GoodP p) → ∀ p ∈ (parseF acc ps).1, GoodP p
  | [], acc, _, h, p, hp => h p hp
  | x :: r, acc, hx, h, p, hp => by
    rw [parseF] at hp
    split at hp
    · cases hp
    · rename_i he
      split at hp
      · cases hp
      · refine parseF_good r _ (fun y hy => hx y (List.mem_cons_of_mem _ hy)) (fun q hq => ?_) p hp
        rcases List.mem_append.1 hq with hq | hq
        · exact h q hq
        · rw [List.mem_singleton] at hq
          subst hq
          have h0 : oneE x = 0 := Decidable.of_not_not he
          have hs := shown_one h0
          exact ⟨by rw [hs]; exact hx x (by simp), by rw [hs]; exact h0, by rw [hs]⟩
theorem parseP_good (s : ByteArray) : ∀ p ∈ (parseP s).1, GoodP p := by
  unfold parseP
  split
  · intro p hp; cases hp
  · split
    · intro p hp; cases hp
    · exact parseF_good _ _ (splitL_parts 44 _) (fun p hp => by cases hp)
theorem splitL_show : ∀ {l : List Pr}, l ≠ [] → (∀ p ∈ l, GoodP p) → splitL 44 (showP l) = l.map shown
  | [], h, _ => absurd rfl h
  | [p], _, h => by
    have : showP [p] = shown p := by simp [showP, Lib.join, List.intercalate]
    rw [this, splitL_none (h p (by simp)).1]
    rfl
  | p :: q :: r, _, h => by
    have ih := splitL_show (l := q :: r) (by simp) (fun x hx => h x (List.mem_cons_of_mem _ hx))
    have : showP (p :: q :: r) = shown p ++ 44 :: showP (q :: r) := by simp [showP, Lib.join, List.intercalate]
    rw [this, splitL_app (h p (by simp)).1, ih]
    rfl
theorem parseF_all : ∀ (l acc : List Pr), (∀ p ∈ l, GoodP p) → Once (acc ++ l) → parseF acc (l.map shown) = (acc ++ l, 0)
  | [], acc, _, _ => by simp [parseF]
  | p :: r, acc, h, ho => by
    obtain ⟨_, h1, h2⟩ := h p (by simp)
    have hk : hasKey acc p.1 = false := by
      rcases hh : hasKey acc p.1 with _ | _
      · rfl
      · obtain ⟨q, hq, e⟩ := hasKey_true hh
        exact absurd e ((List.pairwise_append.1 ho).2.2 q hq p (by simp))
    rw [List.map_cons, parseF, if_neg (by rw [h1]; simp), if_neg (by rw [h2, hk]; simp), h2, parseF_all r (acc ++ [p]) (fun x hx => h x (List.mem_cons_of_mem _ hx)) (by simpa using ho)]
    simp
theorem shown_ne (p : Pr) : shown p ≠ [] := by unfold shown; simp
/-- What is shown is parsed again. -/
theorem parse_show {l : List Pr} (h : ∀ p ∈ l, GoodP p) (ho : Once l) (h6 : l.length ≤ 6) : parseP (ba (showP l)) = (l, 0) := by
  unfold parseP
  by_cases hl : l = []
  · subst hl
    rfl
  · have e := splitL_show hl h
    have hne : ¬ (ba (showP l)).size = 0 := by
      rw [ba_size]
      intro h0
      rw [List.length_eq_zero_iff.1 h0] at e
      obtain ⟨p, r, rfl⟩ := List.exists_cons_of_ne_nil hl
      simp [splitL] at e
      first | exact shown_ne p e.1 | exact shown_ne p e.1.symm
    rw [if_neg hne, ba_toList, e, if_neg (by simp; omega)]
    simpa using parseF_all l [] h (by simpa using ho)
theorem good_perm {l m : List Pr} (h : ∀ p ∈ l, GoodP p) (hp : m.Perm l) : ∀ p ∈ m, GoodP p := fun p hm => h p (hp.mem_iff.1 hm)
theorem sortP_sort {l : List Pr} (ho : Once l) : sortP (sortP l) = sortP l := (sortP_of (ho.perm (sortP_perm l).symm) (List.Perm.refl _) (sortP_rising l)).symm
theorem sortP_perm2 {l m : List Pr} (ho : Once l) (hp : m.Perm l) : sortP m = sortP l := sortP_of ho ((sortP_perm m).trans hp) (sortP_rising m)

/-- What is canonical stays so. -/
theorem canon_twice {s : ByteArray} (h : canonE s = 0) : canonE (ba (canonP s)) = 0 ∧ canonP (ba (canonP s)) = canonP s := by
  have e : canonP s = showP (sortP (parseP s).1) := by unfold canonP; rw [if_pos h]
  have hp : parseP (ba (canonP s)) = (sortP (parseP s).1, 0) := by
    rw [e]
    exact parse_show (good_perm (parseP_good s) (sortP_perm _)) ((parseP_once s).perm (sortP_perm _).symm) (by rw [(sortP_perm _).length_eq]; exact parseP_len s)
  have h0 : canonE (ba (canonP s)) = 0 := by unfold canonE; rw [hp]
  refine ⟨h0, ?_⟩
  have e2 : canonP (ba (canonP s)) = showP (sortP (parseP (ba (canonP s))).1) := by generalize ba (canonP s) = x at h0; unfold canonP; rw [if_pos h0]
  rw [e2, hp, e, sortP_sort (parseP_once s)]
theorem parse_back (s : ByteArray) : parseP (ba (showP (parseP s).1.reverse)) = ((parseP s).1.reverse, 0) :=
  parse_show (good_perm (parseP_good s) (List.reverse_perm _)) ((parseP_once s).perm (List.reverse_perm _).symm) (by rw [List.length_reverse]; exact parseP_len s)
theorem canon_back {s : ByteArray} (h : canonE s = 0) : canonE (ba (showP (parseP s).1.reverse)) = 0 ∧ canonP (ba (showP (parseP s).1.reverse)) = canonP s := by
  have h0 : canonE (ba (showP (parseP s).1.reverse)) = 0 := by unfold canonE; rw [parse_back]
  refine ⟨h0, ?_⟩
  unfold canonP
  rw [if_pos h0, if_pos h, parse_back, sortP_perm2 (parseP_once s) (List.reverse_perm _)]
theorem find_perm {l m : List Pr} (ho : Once l) (hp : m.Perm l) (k : ByteArray) : m.find? (keyB k) = l.find? (keyB k) := by
  rcases hl : l.find? (keyB k) with _ | q
  · rw [List.find?_eq_none] at hl ⊢
    exact fun x hx => hl x (hp.mem_iff.1 hx)
  · have hq := List.mem_of_find?_eq_some hl
    have hk : keyB k q = true := List.find?_some hl
    rcases hm : m.find? (keyB k) with _ | r
    · rw [List.find?_eq_none] at hm
      exact absurd hk (hm q (hp.mem_iff.2 hq))
    · have hr := hp.mem_iff.1 (List.mem_of_find?_eq_some hm)
      have hk2 : keyB k r = true := List.find?_some hm
      have e1 : q.1 = k := ba_ext (beq_iff_eq.1 hk)
      have e2 : r.1 = k := ba_ext (beq_iff_eq.1 hk2)
      rw [once_eq ho hr hq (e2.trans e1.symm)]
theorem okNeed_perm {l m : List Pr} (ho : Once l) (hp : m.Perm l) (p : Pr) : okNeed m p = okNeed l p := by unfold okNeed; rw [find_perm ho hp]
/-- Pieces the other way about: what matches is the same. -/
theorem match_back {s : ByteArray} (t : ByteArray) (h : canonE s = 0) : matchP (ba (showP (parseP s).1.reverse)) t = matchP s t := by
  unfold matchP
  rw [(canon_back h).1, h, parse_back]
  congr 2
  exact congrArg (fun f => (parseP t).1.all f) (funext fun p => okNeed_perm (parseP_once s) (List.reverse_perm _) p)
theorem match_canon {s : ByteArray} (t : ByteArray) (h : canonE s = 0) : matchP t (ba (canonP s)) = matchP t s := by
  have e : canonP s = showP (sortP (parseP s).1) := by unfold canonP; rw [if_pos h]
  have hp : parseP (ba (canonP s)) = (sortP (parseP s).1, 0) := by
    rw [e]
    exact parse_show (good_perm (parseP_good s) (sortP_perm _)) ((parseP_once s).perm (sortP_perm _).symm) (by rw [(sortP_perm _).length_eq]; exact parseP_len s)
  unfold matchP
  rw [(canon_twice h).1, h, hp]
  congr 2
  exact (sortP_perm _).all_eq
theorem match_self {s : ByteArray} (h : canonE s = 0) : matchP s s = true := by
  unfold matchP
  rw [h]
  simp only [decide_true, Bool.true_and, List.all_eq_true]
  intro p hp
  have hk : keyB p.1 p = true := by unfold keyB; exact beq_self_eq_true _
  rcases hf : (parseP s).1.find? (keyB p.1) with _ | q
  · rw [List.find?_eq_none] at hf
    exact absurd hk (hf p hp)
  · have hq := List.mem_of_find?_eq_some hf
    have hk2 : keyB p.1 q = true := List.find?_some hf
    have e : q = p := once_eq (parseP_once s) hq hp (ba_ext (beq_iff_eq.1 hk2))
    unfold okNeed
    rw [hf, e]
    simp
end Go.Proofs.YtamehgbagkkofaaDoor
