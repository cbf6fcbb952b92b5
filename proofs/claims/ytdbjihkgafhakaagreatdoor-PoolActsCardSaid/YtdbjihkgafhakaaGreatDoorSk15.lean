/-
  Whose turn it is: the plain law.
  Whose turn it is: what each call leaves of it.
  Whose turn it is: what a Take leaves of it.
  billetref04.Match: the walk.
  law17: pools in a law's walk; a call's texts' length: the walks.
  law17.live: the plain side.
  law17.live: the walk.
  law17: each call of pools, in a law's round.
  law17: Waits and Take, in a law's round.
-/
import Derived.Test.YtdbjihkgafhakaaGreatDoorSk14
import Derived.Test.YtdbjihkgafhakaaGreatDoorSk11
namespace Go.Proofs.YtdbjihkgafhakaaGreatDoor
def sv (L : List PN) : List Int := L.flatMap (fun n => n.cls.map PC.served)
theorem sv_append (A B : List PN) : sv (A ++ B) = sv A ++ sv B := by simp [sv]
theorem split_at {α : Type} : ∀ {l : List α} {i : Nat} {x : α}, l[i]? = some x → ∃ A B, l = A ++ x :: B ∧ A.length = i ∧ ∀ y, l.set i y = A ++ y :: B
  | [], _, _, h => by simp at h
  | a :: l, 0, x, h => by
    simp at h
    subst h
    exact ⟨[], l, rfl, rfl, fun y => rfl⟩
  | a :: l, i + 1, x, h => by
    obtain ⟨A, B, h1, h2, h3⟩ := split_at (l := l) (i := i) (by simpa using h)
    exact ⟨a :: A, B, by rw [h1]; rfl, by simp [h2], fun y => by rw [List.set_cons_succ, h3]; rfl⟩
theorem sv_split {L : List PN} {i k : Nat} {n : PN} {c : PC} (hn : L[i]? = some n) (hc : n.cls[k]? = some c) : ∃ A B, sv L = A ++ c.served :: B ∧ ∀ c' : PC, sv (L.set i { n with cls := n.cls.set k c' }) = A ++ c'.served :: B := by
  obtain ⟨A, B, h1, _, h3⟩ := split_at hn
  obtain ⟨C, D, g1, _, g3⟩ := split_at hc
  refine ⟨sv A ++ C.map PC.served, D.map PC.served ++ sv B, ?_, fun c' => ?_⟩
  · rw [h1, sv_append]
    show sv A ++ (n.cls.map PC.served ++ sv B) = _
    rw [g1]
    simp
  · rw [h3, sv_append]
    show sv A ++ ((n.cls.set k c').map PC.served ++ sv B) = _
    rw [g3]
    simp
theorem sv_same {L : List PN} {i k : Nat} {n : PN} {c c' : PC} (hn : L[i]? = some n) (hc : n.cls[k]? = some c) (h : c'.served = c.served) : sv (L.set i { n with cls := n.cls.set k c' }) = sv L := by
  obtain ⟨A, B, h1, h2⟩ := sv_split hn hc
  rw [h1, h2, h]
theorem sv_uses {L : List PN} {i : Nat} {n : PN} {u : Int} (hn : L[i]? = some n) : sv (L.set i { n with uses := u }) = sv L := by
  obtain ⟨A, B, h1, _, h3⟩ := split_at hn
  rw [h3, h1, sv_append, sv_append]
  rfl
structure PInv (x : PX) (next : Int) (L : List PN) : Prop where
  few : (L.length : Int) ≤ x.pools
  len : ∀ n ∈ L, n.cls.length = x.classes
  low : ∀ s ∈ sv L, 0 ≤ s ∧ s < next
  once : (sv L).Nodup
  names : ∀ (i j : Nat) n m, L[i]? = some n → L[j]? = some m → n.name = m.name → i = j
  uses : ∀ n ∈ L, 1 ≤ n.uses
section
variable {x : PX} {next n : Int} {L L' : List PN} {s : ByteArray} {k : Int}
end
end Go.Proofs.YtdbjihkgafhakaaGreatDoor
namespace Go.Proofs.YtdbjihkgafhakaaGreatDoor
theorem flat_sub {α β : Type} (f : α → List β) {A B : List α} (h : A.Sublist B) : (A.flatMap f).Sublist (B.flatMap f) := by
  induction h with
  | slnil => exact List.Sublist.slnil
  | cons a _ ih =>
    rw [List.flatMap_cons]
    exact ih.trans (List.sublist_append_right _ _)
  | cons_cons a _ ih =>
    rw [List.flatMap_cons, List.flatMap_cons]
    exact (List.Sublist.refl _).append ih
section
variable {x : PX} {next next' n m : Int} {L L' : List PN} {s : ByteArray} {k : Int}
theorem names_set (hp : PInv x next L) {i : Nat} {a a' : PN} (ha : L[i]? = some a) (hn : a'.name = a.name) : ∀ (i' j' : Nat) p q, (L.set i a')[i']? = some p → (L.set i a')[j']? = some q → p.name = q.name → i' = j' := by
  have key : ∀ (i' : Nat) p, (L.set i a')[i']? = some p → ∃ p', L[i']? = some p' ∧ p.name = p'.name := fun i' p h => by
    by_cases e : i = i'
    · subst e
      rw [List.getElem?_set_self (List.getElem?_eq_some_iff.1 ha).1] at h
      cases h
      exact ⟨a, ha, hn⟩
    · rw [List.getElem?_set_ne e] at h
      exact ⟨p, h, rfl⟩
  intro i' j' p q h1 h2 e
  obtain ⟨p', g1, e1⟩ := key i' p h1
  obtain ⟨q', g2, e2⟩ := key j' q h2
  exact hp.names i' j' p' q' g1 g2 (by rw [← e1, ← e2, e])
theorem mem_set_or {i : Nat} {a' p : PN} (h : p ∈ L.set i a') : p ∈ L ∨ p = a' := by
  obtain ⟨j, hj⟩ := List.getElem?_of_mem h
  by_cases e : i = j
  · subst e
    have hlt : i < L.length := by have := (List.getElem?_eq_some_iff.1 hj).1; rwa [List.length_set] at this
    rw [List.getElem?_set_self hlt] at hj
    cases hj
    exact .inr rfl
  · rw [List.getElem?_set_ne e] at hj
    exact .inl (List.mem_of_getElem? hj)
theorem pinv_cls (hp : PInv x next L) {i j : Nat} {a : PN} {c c' : PC} (ha : L[i]? = some a) (hc : a.cls[j]? = some c) (hs : c'.served = c.served) : PInv x next (L.set i { a with cls := a.cls.set j c' }) := by
  have ham := List.mem_of_getElem? ha
  have hsv := sv_same ha hc hs
  refine ⟨by rw [List.length_set]; exact hp.few, fun p hm => ?_, by rw [hsv]; exact hp.low, by rw [hsv]; exact hp.once, names_set hp ha rfl, fun p hm => ?_⟩
  · rcases mem_set_or hm with h | rfl
    · exact hp.len p h
    · show (a.cls.set j c').length = _
      rw [List.length_set]
      exact hp.len a ham
  · rcases mem_set_or hm with h | rfl
    · exact hp.uses p h
    · exact hp.uses a ham
theorem pinv_uses (hp : PInv x next L) {i : Nat} {a : PN} {u : Int} (ha : L[i]? = some a) (hu : 1 ≤ u) : PInv x next (L.set i { a with uses := u }) := by
  have ham := List.mem_of_getElem? ha
  have hsv := sv_uses (u := u) ha
  refine ⟨by rw [List.length_set]; exact hp.few, fun p hm => ?_, by rw [hsv]; exact hp.low, by rw [hsv]; exact hp.once, names_set hp ha rfl, fun p hm => ?_⟩
  · rcases mem_set_or hm with h | rfl
    · exact hp.len p h
    · exact hp.len a ham
  · rcases mem_set_or hm with h | rfl
    · exact hp.uses p h
    · exact hu
theorem pinv_gone (hp : PInv x next L) (i : Nat) : PInv x next (L.eraseIdx i) := by
  have hmem : ∀ {p}, p ∈ L.eraseIdx i → p ∈ L := fun h => List.mem_of_mem_eraseIdx h
  have hsub : (sv (L.eraseIdx i)).Sublist (sv L) := by
    unfold sv
    exact flat_sub _ (List.eraseIdx_sublist L i)
  refine ⟨?_, fun p h => hp.len p (hmem h), fun t ht => hp.low t (hsub.subset ht), hp.once.sublist hsub, fun i' j' p q h1 h2 e => ?_, fun p h => hp.uses p (hmem h)⟩
  · have h1 := (List.eraseIdx_sublist L i).length_le
    have h2 := hp.few
    omega
  · have key : ∀ (t : Nat) p, (L.eraseIdx i)[t]? = some p → L[if t < i then t else t + 1]? = some p := fun t p h => by
      rw [List.getElem?_eraseIdx] at h
      by_cases e : t < i
      · rw [if_pos e] at h ⊢
        exact h
      · rw [if_neg e] at h ⊢
        exact h
    have h3 := hp.names _ _ p q (key i' p h1) (key j' q h2) e
    split at h3 <;> split at h3 <;> omega
theorem pow_sv {a : PN} (h : ∀ (j : Nat) c, a.cls[j]? = some c → c.served = next + j) : ∀ t ∈ a.cls.map PC.served, next ≤ t ∧ t < next + a.cls.length := fun t ht => by
  obtain ⟨c, hc, rfl⟩ := List.mem_map.1 ht
  obtain ⟨j, hj⟩ := List.getElem?_of_mem hc
  have h1 := h j c hj
  have h2 := (List.getElem?_eq_some_iff.1 hj).1
  omega
theorem run_once : ∀ {l : List PC} {t : Int}, (∀ (j : Nat) c, l[j]? = some c → c.served = t + j) → (l.map PC.served).Nodup
  | [], _, _ => by simp
  | c :: l, t, h => by
    rw [List.map_cons, List.nodup_cons]
    have h0 := h 0 c rfl
    have hl : ∀ (j : Nat) d, l[j]? = some d → d.served = (t + 1) + j := fun j d hd => by
      have := h (j + 1) d (by simpa using hd)
      omega
    refine ⟨fun hm => ?_, run_once hl⟩
    obtain ⟨d, hd, e⟩ := List.mem_map.1 hm
    obtain ⟨j, hj⟩ := List.getElem?_of_mem hd
    have := hl j d hj
    omega
theorem pinv_join (hp : PInv x next L) {a : PN} (hl : a.cls.length = x.classes) (hs : ∀ (j : Nat) c, a.cls[j]? = some c → c.served = next + j) (hnx : 0 ≤ next) (hroom : (L.length : Int) < x.pools) (hnew : ∀ p ∈ L, p.name ≠ a.name) (hu : 1 ≤ a.uses) : PInv x (next + x.classes) (L ++ [a]) := by
  have hsv : sv (L ++ [a]) = sv L ++ a.cls.map PC.served := by
    rw [sv_append]
    congr 1
    simp [sv]
  have hb := pow_sv hs
  rw [hl] at hb
  refine ⟨by rw [List.length_append, List.length_singleton]; omega, fun p h => ?_, fun t ht => ?_, ?_, fun i j p q h1 h2 e => ?_, fun p h => ?_⟩
  · rcases List.mem_append.1 h with h | h
    · exact hp.len p h
    · rw [List.mem_singleton] at h
      rw [h]
      exact hl
  · rw [hsv] at ht
    rcases List.mem_append.1 ht with h | h
    · have := hp.low t h
      omega
    · have := hb t h
      omega
  · rw [hsv, List.nodup_append]
    refine ⟨hp.once, run_once hs, fun t ht u hu e => ?_⟩
    have h1 := hp.low t ht
    have h2 := hb u hu
    omega
  · have hlen : ∀ {i : Nat} {p : PN}, (L ++ [a])[i]? = some p → (i < L.length ∧ L[i]? = some p) ∨ (i = L.length ∧ p = a) := fun {i p} h => by
      rcases Nat.lt_or_ge i L.length with hi | hi
      · rw [List.getElem?_append_left hi] at h
        exact .inl ⟨hi, h⟩
      · rw [List.getElem?_append_right hi] at h
        have hz := (List.getElem?_eq_some_iff.1 h).1
        simp at hz
        have hi0 : i = L.length := by omega
        subst hi0
        simp at h
        exact .inr ⟨rfl, h.symm⟩
    rcases hlen h1 with ⟨_, g1⟩ | ⟨e1, g1⟩ <;> rcases hlen h2 with ⟨_, g2⟩ | ⟨e2, g2⟩
    · exact hp.names i j p q g1 g2 e
    · exact absurd (e.trans (by rw [g2])) (hnew p (List.mem_of_getElem? g1))
    · exact absurd (e.symm.trans (by rw [g1])) (hnew q (List.mem_of_getElem? g2))
    · omega
  · rcases List.mem_append.1 h with h | h
    · exact hp.uses p h
    · rw [List.mem_singleton] at h
      rw [h]
      exact hu
end
end Go.Proofs.YtdbjihkgafhakaaGreatDoor
namespace Go.Proofs.YtdbjihkgafhakaaGreatDoor
section
variable {most : Int} {pl : ByteArray} {b : Option PB}
end
section
variable {x : PX} {next n m most : Int} {L : List PN} {s pl : ByteArray} {k : Int} {y : PB} {row : TRow} {rest : List TRow}
theorem pinv_take (hp : PInv x next L) (hn : L[y.i]? = some y.n) (hc : y.n.cls[y.k]? = some y.c) (hnx : 0 ≤ next) : PInv x (next + 1) (L.set y.i (tookN y next row rest)) := by
  have ham := List.mem_of_getElem? hn
  obtain ⟨A, B, h1, h2⟩ := sv_split hn hc
  have hsv : sv (L.set y.i (tookN y next row rest)) = A ++ next :: B := h2 { y.c with served := next, gv := (tookT row rest).1, rows := (tookT row rest).2 }
  have hlow := hp.low
  have hon := hp.once
  rw [h1] at hlow hon
  refine ⟨by rw [List.length_set]; exact hp.few, fun p hm => ?_, fun t ht => ?_, ?_, names_set hp hn rfl, fun p hm => ?_⟩
  · rcases mem_set_or hm with h | rfl
    · exact hp.len p h
    · show (y.n.cls.set y.k _).length = _
      rw [List.length_set]
      exact hp.len y.n ham
  · rw [hsv] at ht
    rcases List.mem_append.1 ht with h | h
    · have := hlow t (List.mem_append_left _ h)
      omega
    · rcases List.mem_cons.1 h with h | h
      · omega
      · have := hlow t (List.mem_append_right _ (List.mem_cons_of_mem _ h))
        omega
  · rw [hsv]
    rw [List.nodup_append] at hon ⊢
    obtain ⟨o1, o2, o3⟩ := hon
    rw [List.nodup_cons] at o2
    refine ⟨o1, List.nodup_cons.2 ⟨fun h => ?_, o2.2⟩, fun t ht u hu e => ?_⟩
    · have := hlow next (List.mem_append_right _ (List.mem_cons_of_mem _ h))
      omega
    · rcases List.mem_cons.1 hu with h | h
      · have := hlow t (List.mem_append_left _ ht)
        omega
      · exact o3 t ht u (List.mem_cons_of_mem _ h) e
  · rcases mem_set_or hm with h | rfl
    · exact hp.uses p h
    · exact hp.uses y.n ham
end
end Go.Proofs.YtdbjihkgafhakaaGreatDoor
namespace Go.Proofs.YtdbjihkgafhakaaGreatDoor
open Go.RowKit
theorem findV_eq {l : List Pr} {k : ByteArray} {q : Pr} (h : l.find? (keyB k) = some q) : findV l k = q.2 := (find_some h).1
set_option maxRecDepth 100000 in
set_option maxHeartbeats 1000000 in
theorem rmatch_bad1 (s t : ByteArray) (w : World) (hs : s.size ≤ 1048576) (ht : t.size ≤ 1048576) (h0 : canonE s ≠ 0) :
    Calls Tryz.prog 15 #[.string s, .string t] w fun e w' => e = .returned (.bool (matchP s t)) ∧ Below w.heap.size w w' := by
  have HV := Lib.hid (show matchP s t = false by unfold matchP; simp [h0])
  have hne : (canonE s != 0) = true := by rw [bne_iff_ne]; exact h0
  have HE1 := Lib.hid (show (parseP s).2 = canonE s from rfl)
  have HE2 := Lib.hid (show (parseP t).2 = canonE t from rfl)
  clear h0
  go_enter Tryz.func15, Tryz.ntmps15
  go_wp2_with fail
  refine (rparse_any s _ hs).mono ?_
  rintro e w1 ⟨v1, rfl, hown1, hb1⟩
  rw [HE1.out]
  have HB1 := Lib.hid hb1
  clear hb1 hown1
  go_wp2_with fail
  refine (rparse_any t _ ht).mono ?_
  rintro e w2 ⟨v2, rfl, hown2, hb2⟩
  rw [HE2.out]
  have HB2 := Lib.hid (HB1.out.trans (hb2.mono HB1.out.size))
  clear hb2 hown2
  go_wp2
  go_ret
  rw [HV.out]
  exact ⟨rfl, HB2.out⟩
set_option maxRecDepth 100000 in
set_option maxHeartbeats 1000000 in
theorem rmatch_bad2 (s t : ByteArray) (w : World) (hs : s.size ≤ 1048576) (ht : t.size ≤ 1048576) (h0 : canonE s = 0) (h1 : canonE t ≠ 0) :
    Calls Tryz.prog 15 #[.string s, .string t] w fun e w' => e = .returned (.bool (matchP s t)) ∧ Below w.heap.size w w' := by
  have HV := Lib.hid (show matchP s t = false by unfold matchP; simp [h1])
  have hne : (canonE t != 0) = true := by rw [bne_iff_ne]; exact h1
  have HE1 := Lib.hid (show (parseP s).2 = 0 from h0)
  have HE2 := Lib.hid (show (parseP t).2 = canonE t from rfl)
  clear h0 h1
  go_enter Tryz.func15, Tryz.ntmps15
  go_wp2_with fail
  refine (rparse_any s _ hs).mono ?_
  rintro e w1 ⟨v1, rfl, hown1, hb1⟩
  rw [HE1.out]
  have HB1 := Lib.hid hb1
  clear hb1 hown1
  go_wp2_with fail
  refine (rparse_any t _ ht).mono ?_
  rintro e w2 ⟨v2, rfl, hown2, hb2⟩
  rw [HE2.out]
  have HB2 := Lib.hid (HB1.out.trans (hb2.mono HB1.out.size))
  clear hb2 hown2
  go_wp2
  go_ret
  rw [HV.out]
  exact ⟨rfl, HB2.out⟩
set_option maxRecDepth 100000 in
set_option maxHeartbeats 2000000 in
theorem rmatch_good (s t : ByteArray) (w : World) (hs : s.size ≤ 1048576) (ht : t.size ≤ 1048576) (h0 : canonE s = 0) (h1 : canonE t = 0) :
    Calls Tryz.prog 15 #[.string s, .string t] w fun e w' => e = .returned (.bool (matchP s t)) ∧ Below w.heap.size w w' := by
  have HM2 := Lib.hid (modest_parse ht)
  have h6 := parseP_len s
  have h7 := parseP_len t
  have HV := Lib.hid (show matchP s t = (parseP t).1.all (okNeed (parseP s).1) by unfold matchP; simp [h0, h1])
  have HE1 := Lib.hid (show (parseP s).2 = 0 from h0)
  have HE2 := Lib.hid (show (parseP t).2 = 0 from h1)
  clear h0 h1
  go_enter Tryz.func15, Tryz.ntmps15
  go_wp2_with fail
  refine (rparse_any s _ hs).mono ?_
  rintro e w1 ⟨v1, rfl, hown1, hb1⟩
  rw [HE1.out]
  have HB1 := Lib.hid hb1
  have HO1 := Lib.hid hown1
  clear hb1 hown1
  go_wp2_with fail
  refine (rparse_any t _ ht).mono ?_
  rintro e w2 ⟨v2, rfl, hown2, hb2⟩
  rw [HE2.out]
  have HB2 := Lib.hid (HB1.out.trans (hb2.mono HB1.out.size))
  have HA1 := Lib.hid ((pairsAt_own HO1.out).below hb2)
  have HA2 := Lib.hid (pairsAt_own hown2)
  clear hb2 hown2 HO1
  generalize hl1 : (parseP s).1 = l1 at *
  generalize hl2 : (parseP t).1 = l2 at *
  clear hl1 hl2
  obtain ⟨a1, cap1, rfl, hcap1, hmax1, hcell1⟩ := id HA1.out
  obtain ⟨a2, cap2, rfl, hcap2, hmax2, hcell2⟩ := id HA2.out
  have HC2 := Lib.hid hcell2
  clear hcell1 hcell2
  go_wp2_with fail
  go_loop [9] (fun i => ∃ k : Nat, i = .int .i64 k ∧ k ≤ l2.length ∧ (l2.take k).all (okNeed l1) = true) (fun i => l2.length - (intOf i).toNat)
  case atStart => exact ⟨0, rfl, Nat.zero_le _, by simp⟩
  case round =>
    obtain ⟨k, rfl, hk2, hall⟩ := hrel
    have HA := Lib.hid hall
    clear hall
    by_cases hlt : k < l2.length
    · obtain ⟨p, hp⟩ : ∃ p, l2[k]? = some p := ⟨_, List.getElem?_eq_getElem hlt⟩
      obtain ⟨g, rfl, hgl, c0⟩ := HC2.out (k * 2) (.string p.1) (by have := flatP_get 0 hp (by omega); simpa [encP] using this)
      obtain ⟨g', hg', -, c1⟩ := HC2.out (k * 2 + 1) (.string p.2) (by have := flatP_get 1 hp (by omega); simpa [encP] using this)
      cases hg'
      obtain ⟨hs0, hs1⟩ := pairsAt_sizes HM2.out hp
      have HQ := Lib.hid hp
      clear hp
      go_wp2_with fail
      refine (rfind_any _ l1 p.1 _ HA1.out).mono ?_
      rintro e w5 ⟨rfl, rfl⟩
      rcases hh : hasKey l1 p.1 with _ | _
      · have HF := Lib.hid (all_bad HQ.out (okNeed_none hh))
        go_wp2
        go_ret
        rw [HV.out, HF.out]
        exact ⟨rfl, HB2.out⟩
      · obtain ⟨q, hq, hok⟩ := okNeed_some hh
        have HK := Lib.hid (findV_eq hq)
        have e1 : (q.2.data.toList == p.2.data.toList) = (q.2.toList == p.2.toList) := by rw [ByteArray.toList_eq, ByteArray.toList_eq]
        have e2 : (q.2.data.toList == [42]) = (q.2.toList == [42]) := by rw [ByteArray.toList_eq]
        have e3 : (p.2.data.toList == [42]) = (p.2.toList == [42]) := by rw [ByteArray.toList_eq]
        rw [e1, e2, e3] at hok
        have HOK := Lib.hid hok
        rw [HK.out]
        clear e1 e2 e3 hok hq
        rcases b1 : (q.2.toList == p.2.toList) with _ | _
        · rcases b2 : (q.2.toList == [42]) with _ | _
          · rcases b3 : (p.2.toList == [42]) with _ | _
            · have HF := Lib.hid (all_bad HQ.out (show okNeed l1 p = false by rw [HOK.out, b1, b2, b3]; rfl))
              go_wp2
              go_ret
              rw [HV.out, HF.out]
              exact ⟨rfl, HB2.out⟩
            · have HF := Lib.hid (all_take_succ HA.out HQ.out (show okNeed l1 p = true by rw [HOK.out, b1, b2, b3]; simp))
              go_wp2
              go_round
              case rel => exact ⟨k + 1, by go_num, by omega, HF.out⟩
              case measure => simp [intOf]; omega
          · have HF := Lib.hid (all_take_succ HA.out HQ.out (show okNeed l1 p = true by rw [HOK.out, b1, b2]; simp))
            go_wp2
            go_round
            case rel => exact ⟨k + 1, by go_num, by omega, HF.out⟩
            case measure => simp [intOf]; omega
        · have HF := Lib.hid (all_take_succ HA.out HQ.out (show okNeed l1 p = true by rw [HOK.out, b1]; simp))
          go_wp2
          go_round
          case rel => exact ⟨k + 1, by go_num, by omega, HF.out⟩
          case measure => simp [intOf]; omega
    · have HF := Lib.hid (show l2.all (okNeed l1) = true by have h := HA.out; rwa [List.take_of_length_le (by omega)] at h)
      go_wp2
      go_ret
      rw [HV.out, HF.out]
      exact ⟨rfl, HB2.out⟩
theorem rmatch_any (s t : ByteArray) (w : World) (hs : s.size ≤ 1048576) (ht : t.size ≤ 1048576) :
    Calls Tryz.prog 15 #[.string s, .string t] w fun e w' => e = .returned (.bool (matchP s t)) ∧ Below w.heap.size w w' := by
  by_cases h0 : canonE s = 0
  · by_cases h1 : canonE t = 0
    · exact rmatch_good s t w hs ht h0 h1
    · exact rmatch_bad2 s t w hs ht h0 h1
  · exact rmatch_bad1 s t w hs ht h0
end Go.Proofs.YtdbjihkgafhakaaGreatDoor
namespace Go.Proofs.YtdbjihkgafhakaaGreatDoor
open Go.RowKit
structure PlState (W : World) (P : Nat) (x : PX) (next : Int) (v : Value) (L : List PN) (ρ : Roles) (wr : World) : Prop where
  pool : PoolAt ρ wr P x next v L
  below : Below W.heap.size W wr
  old : ∀ j, j < W.heap.size → ρ j = []
section
variable {W wr w' : World} {P : Nat} {x : PX} {next next' : Int} {v v' : Value} {L L' : List PN} {ρ ρ' : Roles}
theorem PlState.on (h : PlState W P x next v L ρ wr) (hb : Below wr.heap.size wr w') : PlState W P x next v L ρ w' := ⟨h.pool.below hb, h.below.trans (hb.mono h.below.size), h.old⟩
theorem PlState.step (h : PlState W P x next v L ρ wr) (hl : Later ρ ρ' wr) (hp : PoolAt ρ' w' P x next' v' L') (hF : Fp (Part ρ [0]) wr w') : PlState W P x next' v' L' ρ' w' :=
  ⟨hp, h.below.trans (hF.below h.below.size (fun j hj ⟨t, e⟩ => by rw [h.old j hj] at e; simp at e)), fun j hj => (hl j (Nat.lt_of_lt_of_le hj h.below.size)).trans (h.old j hj)⟩
theorem PlState.fence (h : PlState W P x next v L ρ wr) : PlState W P x next v L (fence ρ wr) wr :=
  ⟨h.pool.later (fence_later ρ wr), h.below, fun j hj => (fence_later ρ wr j (Nat.lt_of_lt_of_le hj h.below.size)).trans (h.old j hj)⟩
theorem pkeep (hF : Fp (Part ρ [0]) wr w') {b : Nat} {o : Obj} (hb : wr.heap[b]? = some o) (hr : ρ b = []) : w'.heap[b]? = some o := hF.heap hb (fun ⟨t, e⟩ => by rw [hr] at e; simp at e)
end
set_option maxRecDepth 100000 in
set_option maxHeartbeats 1000000 in
theorem num17_any (e : Int) (w : World) : Calls Tryz.prog 26 #[.int .i64 e] w fun v w' => v = .returned (.int .i64 e) ∧ w = w' := by
  go_enter Tryz.func26, Tryz.ntmps26
  go_wp2
  go_ret
  exact ⟨rfl, rfl⟩
structure Pa where
  kind : Int
  e : Ent
  plat : ByteArray
def encPa (a : Pa) : List Value := [.int .i64 a.kind, .string a.e.need, .int .i64 a.e.cls, .int .i64 a.e.ten, .int .i64 a.e.tw, .int .i64 a.e.inv, .int .i64 a.e.iw, .int .i64 a.e.id, .int .i64 a.e.cost, .string a.plat]
def paC (a : Pa) : Array Value := #[.int .i64 a.kind, .string a.e.need, .int .i64 a.e.cls, .int .i64 a.e.ten, .int .i64 a.e.tw, .int .i64 a.e.inv, .int .i64 a.e.iw, .int .i64 a.e.id, .int .i64 a.e.cost, .string a.plat]
theorem pa_szE (a : Pa) : (Tryz.prog.info? 27).map (·.size) = some (encPa a).length := by
  rw [show (encPa a).length = 10 from rfl]
  kernel_rfl
def longB (a : Pa) : Bool := decide (200 < (a.e.need.size : Int)) || decide (200 < (a.plat.size : Int))
set_option maxRecDepth 100000 in
set_option maxHeartbeats 2000000 in
theorem long17_any (a : Pa) (w : World) : Calls Tryz.prog 7 #[.agg (paC a)] w fun e w' => e = .returned (.bool (longB a)) ∧ Below w.heap.size w w' := by
  unfold paC
  by_cases g1 : 200 < (a.e.need.size : Int)
  · have HV := Lib.hid (show longB a = true by unfold longB; rw [decide_eq_true g1]; rfl)
    go_enter Tryz.func7, Tryz.ntmps7
    go_wp2_with fail
    go_ret
    exact ⟨by rw [HV.out]; rfl, box_below⟩
  · have HV := Lib.hid (show longB a = decide (200 < (a.plat.size : Int)) by unfold longB; rw [decide_eq_false g1]; rfl)
    go_enter Tryz.func7, Tryz.ntmps7
    go_wp2_with fail
    go_ret
    refine ⟨?_, box_below⟩
    rw [HV.out]
    rfl
end Go.Proofs.YtdbjihkgafhakaaGreatDoor
namespace Go.Proofs.YtdbjihkgafhakaaGreatDoor
open Go.RowKit
theorem took_ge (row : FRow) (rest : List FRow) : totR (row :: rest) ≤ totR (tookR row rest).2 + 1 := by
  unfold tookR withR
  split
  · rename_i h
    have h1 : row.its.length ≤ 1 := by
      have := congrArg List.length h
      simp at this
      omega
    simp [totR]
    omega
  · simp [totR]
    omega
theorem tookA_ge (s : Bool × List FRow) : totR s.2 ≤ totR (tookA s).2 + 1 := by
  unfold tookA
  split
  · rename_i r rs h
    rw [h]
    exact took_ge r rs
  · exact Nat.le_succ _
theorem totT_took_ge (row : TRow) (rest : List TRow) : totT (row :: rest) ≤ totT (tookT row rest).2 + 1 := by
  have h1 := tookA_ge (row.gv, row.rows)
  unfold tookT withT
  split
  · rename_i h
    change (tookA (row.gv, row.rows)).2 = [] at h
    rw [h] at h1
    simp [totT, totR] at h1 ⊢
    omega
  · simp [totT]
    simp only at h1
    omega
def livE (id : Int) (c : Int) : Ent := ⟨⟨#[]⟩, c, 0, 1, 0, 1, id, 1⟩
def liv0 : Nat → List TRow
  | 0 => []
  | 1 => []
  | 2 => (pushT (livE 2 0) []).2
  | 3 => (pushT (livE 2 0) []).2
  | _ => (pushT (livE 4 0) (pushT (livE 2 0) []).2).2
def liv1 : Nat → List TRow
  | 0 => []
  | 1 => (pushT (livE 1 1) []).2
  | 2 => (pushT (livE 1 1) []).2
  | _ => (pushT (livE 3 1) (pushT (livE 1 1) []).2).2
theorem liv_tot : totT (liv0 4) = 2 ∧ totT (liv1 4) = 2 := by decide
theorem liv_code : (pushT (livE 1 1) (liv1 0)).1 = 0 ∧ (pushT (livE 2 0) (liv0 1)).1 = 0 ∧ (pushT (livE 3 1) (liv1 2)).1 = 0 ∧ (pushT (livE 4 0) (liv0 3)).1 = 0 := by decide
structure OneN (L : List PN) (a b : Int) (r0 r1 : List TRow) (nn : PN) (c0 c1 : PC) : Prop where
  L : L = [nn]
  name : nn.name = ⟨#[]⟩
  uses : nn.uses = 2
  cls : nn.cls = [c0, c1]
  s0 : c0.served = a
  s1 : c1.served = b
  w0 : c0.rows = r0
  w1 : c1.rows = r1
theorem match_nil : matchP ⟨#[]⟩ ⟨#[]⟩ = true := by decide
theorem one_best {L : List PN} {a b : Int} {r0 r1 : List TRow} {nn : PN} {c0 c1 : PC} (h : OneN L a b r0 r1 nn c0 c1) (h0 : 0 < totT r0) (h1 : 0 < totT r1) : bestTo 1 ⟨#[]⟩ L L.length = some (if b < a then ⟨0, nn, 1, c1⟩ else ⟨0, nn, 0, c0⟩) := by
  rw [h.L]
  have e1 : bestTo 1 ⟨#[]⟩ [nn] [nn].length = needTo 1 ⟨#[]⟩ 0 nn none 2 := by
    show bestTo 1 ⟨#[]⟩ [nn] (0 + 1) = _
    rw [bestTo_succ (n := nn) rfl, h.cls]
    rfl
  rw [e1, needTo_succ (c := c1) (by rw [h.cls]; rfl), needTo_succ (c := c0) (by rw [h.cls]; rfl)]
  have f0 : stepB 1 ⟨#[]⟩ (needTo 1 ⟨#[]⟩ 0 nn none 0) ⟨0, nn, 0, c0⟩ = some ⟨0, nn, 0, c0⟩ := by
    unfold stepB
    refine if_pos ?_
    show fitB 1 ⟨#[]⟩ none ⟨0, nn, 0, c0⟩ = true
    unfold fitB betterB
    simp [h.name, match_nil, h.w0, h0]
  rw [f0]
  unfold stepB fitB betterB
  simp only [h.name, match_nil, h.w1, h.s0, h.s1]
  by_cases hb : b < a
  · simp [h1, hb]
  · simp [hb]
end Go.Proofs.YtdbjihkgafhakaaGreatDoor
namespace Go.Proofs.YtdbjihkgafhakaaGreatDoor
open Go.RowKit
theorem place_one {nn : PN} {s : ByteArray} (h : nn.name = s) : placeP s [nn] = ((0 : Nat) : Int) := by
  refine placeP_of (x := nn) rfl ?_ (fun j y hj => absurd hj (Nat.not_lt_zero _))
  unfold eqS
  rw [h]
  simp
theorem one_ok {L : List PN} {a b : Int} {r0 r1 : List TRow} {nn : PN} {c0 c1 : PC} (h : OneN L a b r0 r1 nn c0 c1) (h0 : totT r0 ≤ 1000) (h1 : totT r1 ≤ 1000) : PoolOk ⟨1, 2, 1⟩ L := by
  refine ⟨by rw [h.L]; show 1 ≤ 1000000; decide, by decide, fun n hn => ?_, fun n hn c hc => ?_⟩
  · rw [h.L, List.mem_singleton] at hn
    rw [hn, h.name]
    decide
  · rw [h.L, List.mem_singleton] at hn
    rw [hn, h.cls] at hc
    rcases List.mem_cons.1 hc with rfl | hc
    · rw [h.w0]
      omega
    · rw [List.mem_singleton] at hc
      rw [hc, h.w1]
      omega
theorem one_set0 {L : List PN} {a b a' : Int} {r0 r1 r : List TRow} {nn : PN} {c0 c1 c' : PC} (h : OneN L a b r0 r1 nn c0 c1) (hs : c'.served = a') (hr : c'.rows = r) : OneN (L.set 0 { nn with cls := nn.cls.set 0 c' }) a' b r r1 { nn with cls := nn.cls.set 0 c' } c' c1 :=
  ⟨by rw [h.L]; rfl, h.name, h.uses, by show nn.cls.set 0 c' = _; rw [h.cls]; rfl, hs, h.s1, hr, h.w1⟩
theorem one_set1 {L : List PN} {a b b' : Int} {r0 r1 r : List TRow} {nn : PN} {c0 c1 c' : PC} (h : OneN L a b r0 r1 nn c0 c1) (hs : c'.served = b') (hr : c'.rows = r) : OneN (L.set 0 { nn with cls := nn.cls.set 1 c' }) a b' r0 r { nn with cls := nn.cls.set 1 c' } c0 c' :=
  ⟨by rw [h.L]; rfl, h.name, h.uses, by show nn.cls.set 1 c' = _; rw [h.cls]; rfl, h.s0, hs, h.w0, hr⟩
theorem liv_few (k : Nat) : totT (liv0 k) ≤ 1000 ∧ totT (liv1 k) ≤ 1000 := by
  match k with
  | 0 => decide
  | 1 => decide
  | 2 => decide
  | 3 => decide
  | k + 4 => exact ⟨by show totT (liv0 4) ≤ 1000; decide, by show totT (liv1 4) ≤ 1000; decide⟩
set_option maxRecDepth 100000 in
set_option maxHeartbeats 8000000 in
theorem live17_any (w : World) (hr : Ready w) : Calls Tryz.prog 8 #[] w (TrueBelow w) := by
  have HR := Lib.hid hr
  clear hr
  go_enter Tryz.func8, Tryz.ntmps8
  go_wp2_with fail
  refine (pnew_any 1 1 2 w (by decide) (by decide) (by decide) (by decide)).mono ?_
  rintro e w1 ⟨rfl, hb1, hp1⟩
  have HP1 := Lib.hid (show PlState w (w.heap.size + 2) ⟨1, 2, 1⟩ 0 (.slice none 0 0) [] (newRho w) w1 from ⟨hp1, hb1, fun j hj => by simp [newRho]; omega⟩)
  clear hb1 hp1
  obtain ⟨P, hP⟩ : ∃ P : Nat, P = w.heap.size + 2 := ⟨_, rfl⟩
  rw [← hP] at HP1
  rw [← hP]
  clear hP
  go_wp2_with fail
  refine (penter_new ⟨#[]⟩ w1 HP1.out.pool ⟨by decide, by decide, (fun n hn => by cases hn), (fun n hn => by cases hn)⟩ rfl (by decide) (by decide) (by decide) (by decide)).mono ?_
  rintro e w2 ⟨rfl, v2, nb, nn, hnew, hlen, ρ2, hl2, hn2, hp2, hF2⟩
  have HP2 := Lib.hid (HP1.out.step hl2 hp2 hF2)
  obtain ⟨c0, c1, hcl⟩ : ∃ c0 c1, nn.cls = [c0, c1] := by
    match nn.cls, hlen with
    | [c0, c1], _ => exact ⟨c0, c1, rfl⟩
  have HN := Lib.hid (And.intro hnew hcl)
  have HOK2 := Lib.hid (show PoolOk ⟨1, 2, 1⟩ ([] ++ [nn]) from ⟨by show 1 ≤ 1000000; decide, by decide, (fun n hn => by rw [List.nil_append, List.mem_singleton] at hn; rw [hn, hnew.1]; decide), (fun n hn c hc => by
    rw [List.nil_append, List.mem_singleton] at hn
    rw [hn] at hc
    obtain ⟨j, hj⟩ := List.getElem?_of_mem hc
    rw [(hnew.2.2.2 j c hj).2.2]
    decide)⟩)
  clear hl2 hn2 hp2 hF2 hnew hcl hlen
  go_wp2_with fail
  refine (penter_old ⟨#[]⟩ 0 nn w2 HP2.out.pool HOK2.out (place_one HN.out.1.1) rfl (by rw [HN.out.1.2.1]; decide)).mono ?_
  rintro e w3 ⟨rfl, ρ3, hl3, hn3, hp3, hF3⟩
  have HP3 := Lib.hid (HP2.out.step hl3 hp3 hF3)
  have HO3 := Lib.hid (show OneN ([nn].set 0 { nn with uses := nn.uses + 1 }) 0 1 (liv0 0) (liv1 0) { nn with uses := nn.uses + 1 } c0 c1 from
    ⟨rfl, HN.out.1.1, by show nn.uses + 1 = 2; rw [HN.out.1.2.1]; rfl, HN.out.2, by have h := (HN.out.1.2.2.2 0 c0 (by rw [HN.out.2]; rfl)).1; simpa using h, by have h := (HN.out.1.2.2.2 1 c1 (by rw [HN.out.2]; rfl)).1; simpa using h, (HN.out.1.2.2.2 0 c0 (by rw [HN.out.2]; rfl)).2.2, (HN.out.1.2.2.2 1 c1 (by rw [HN.out.2]; rfl)).2.2⟩)
  clear hl3 hn3 hp3 hF3
  go_wp2_with fail
  go_loopg [4] 4 (fun g i wr => ∃ (k : Nat) (v : Value) (L : List PN) (nn : PN) (c0 c1 : PC) (ρ : Roles), g = 4 - k ∧ i = .int .i64 ((k : Int) + 1) ∧ k ≤ 4 ∧ OneN L 0 1 (liv0 k) (liv1 k) nn c0 c1 ∧ PlState w P ⟨1, 2, 1⟩ (0 + 2) v L ρ wr)
  case atStart => exact ⟨0, _, _, _, _, _, _, rfl, rfl, by decide, HO3.out, HP3.out⟩
  case round =>
    obtain ⟨k, v, L, nn, c0, c1, ρ, hg, rfl, hk, hO, hP⟩ := hrel
    have HG := Lib.hid hg
    have HO := Lib.hid hO
    have HP := Lib.hid hP
    have HOK := Lib.hid (one_ok hO (liv_few k).1 (liv_few k).2)
    clear hg hO hP
    obtain rfl | rfl | rfl | rfl | rfl : k = 0 ∨ k = 1 ∨ k = 2 ∨ k = 3 ∨ k = 4 := by omega
    · go_wp2_with fail
      refine (ppush_some (livE 1 1) 0 1 nn c1 wr HP.out.pool HOK.out (by rw [HO.out.L]; exact place_one HO.out.name) (by rw [HO.out.L]; rfl) rfl (by rw [HO.out.cls]; rfl) (by unfold I64; decide) (by unfold I64; decide) (by unfold I64; decide) (by rw [HO.out.w1]; decide) (by rw [HO.out.w1]; decide)).mono ?_
      rintro e w4 ⟨rfl, ρ4, hl4, hn4, hp4, hF4⟩
      rw [show (pushT (livE 1 1) c1.rows).1 = 0 by rw [HO.out.w1]; exact liv_code.1]
      have HP4 := Lib.hid (HP.out.step hl4 hp4 hF4)
      have HO4 := Lib.hid (one_set1 (c' := { c1 with rows := (pushT (livE 1 1) c1.rows).2 }) HO.out (HO.out.s1) (show (pushT (livE 1 1) c1.rows).2 = liv1 1 by rw [HO.out.w1]; rfl))
      clear hl4 hn4 hp4 hF4
      go_wp2_with fail
      refine (num17_any _ _).mono ?_
      rintro e w5 ⟨rfl, rfl⟩
      go_wp2_with fail
      go_roundg (4 - (0 + 1))
      case rel => exact ⟨1, _, _, _, _, _, _, rfl, rfl, by decide, HO4.out, HP4.out⟩
      case measure => have := HG.out; omega
    · go_wp2_with fail
      refine (ppush_some (livE 2 0) 0 0 nn c0 wr HP.out.pool HOK.out (by rw [HO.out.L]; exact place_one HO.out.name) (by rw [HO.out.L]; rfl) rfl (by rw [HO.out.cls]; rfl) (by unfold I64; decide) (by unfold I64; decide) (by unfold I64; decide) (by rw [HO.out.w0]; decide) (by rw [HO.out.w0]; decide)).mono ?_
      rintro e w4 ⟨rfl, ρ4, hl4, hn4, hp4, hF4⟩
      rw [show (pushT (livE 2 0) c0.rows).1 = 0 by rw [HO.out.w0]; exact liv_code.2.1]
      have HP4 := Lib.hid (HP.out.step hl4 hp4 hF4)
      have HO4 := Lib.hid (one_set0 (c' := { c0 with rows := (pushT (livE 2 0) c0.rows).2 }) HO.out (HO.out.s0) (show (pushT (livE 2 0) c0.rows).2 = liv0 2 by rw [HO.out.w0]; rfl))
      clear hl4 hn4 hp4 hF4
      go_wp2_with fail
      refine (num17_any _ _).mono ?_
      rintro e w5 ⟨rfl, rfl⟩
      go_wp2_with fail
      go_roundg (4 - (1 + 1))
      case rel => exact ⟨2, _, _, _, _, _, _, rfl, rfl, by decide, HO4.out, HP4.out⟩
      case measure => have := HG.out; omega
    · go_wp2_with fail
      refine (ppush_some (livE 3 1) 0 1 nn c1 wr HP.out.pool HOK.out (by rw [HO.out.L]; exact place_one HO.out.name) (by rw [HO.out.L]; rfl) rfl (by rw [HO.out.cls]; rfl) (by unfold I64; decide) (by unfold I64; decide) (by unfold I64; decide) (by rw [HO.out.w1]; decide) (by rw [HO.out.w1]; decide)).mono ?_
      rintro e w4 ⟨rfl, ρ4, hl4, hn4, hp4, hF4⟩
      rw [show (pushT (livE 3 1) c1.rows).1 = 0 by rw [HO.out.w1]; exact liv_code.2.2.1]
      have HP4 := Lib.hid (HP.out.step hl4 hp4 hF4)
      have HO4 := Lib.hid (one_set1 (c' := { c1 with rows := (pushT (livE 3 1) c1.rows).2 }) HO.out (HO.out.s1) (show (pushT (livE 3 1) c1.rows).2 = liv1 3 by rw [HO.out.w1]; rfl))
      clear hl4 hn4 hp4 hF4
      go_wp2_with fail
      refine (num17_any _ _).mono ?_
      rintro e w5 ⟨rfl, rfl⟩
      go_wp2_with fail
      go_roundg (4 - (2 + 1))
      case rel => exact ⟨3, _, _, _, _, _, _, rfl, rfl, by decide, HO4.out, HP4.out⟩
      case measure => have := HG.out; omega
    · go_wp2_with fail
      refine (ppush_some (livE 4 0) 0 0 nn c0 wr HP.out.pool HOK.out (by rw [HO.out.L]; exact place_one HO.out.name) (by rw [HO.out.L]; rfl) rfl (by rw [HO.out.cls]; rfl) (by unfold I64; decide) (by unfold I64; decide) (by unfold I64; decide) (by rw [HO.out.w0]; decide) (by rw [HO.out.w0]; decide)).mono ?_
      rintro e w4 ⟨rfl, ρ4, hl4, hn4, hp4, hF4⟩
      rw [show (pushT (livE 4 0) c0.rows).1 = 0 by rw [HO.out.w0]; exact liv_code.2.2.2]
      have HP4 := Lib.hid (HP.out.step hl4 hp4 hF4)
      have HO4 := Lib.hid (one_set0 (c' := { c0 with rows := (pushT (livE 4 0) c0.rows).2 }) HO.out (HO.out.s0) (show (pushT (livE 4 0) c0.rows).2 = liv0 4 by rw [HO.out.w0]; rfl))
      clear hl4 hn4 hp4 hF4
      go_wp2_with fail
      refine (num17_any _ _).mono ?_
      rintro e w5 ⟨rfl, rfl⟩
      go_wp2_with fail
      go_roundg (4 - (3 + 1))
      case rel => exact ⟨4, _, _, _, _, _, _, rfl, rfl, by decide, HO4.out, HP4.out⟩
      case measure => have := HG.out; omega
    · have HT0a := Lib.hid (show totT (liv0 4) = 2 from liv_tot.1)
      have HT0b := Lib.hid (show totT (liv1 4) = 2 from liv_tot.2)
      go_wp2_with fail
      have HOK1 := Lib.hid (one_ok HO.out (by have := HT0a.out; omega) (by have := HT0b.out; omega))
      refine (ptake_some (most := 1) (pl := ⟨#[]⟩) ⟨0, nn, 0, c0⟩ wr (HR.out.below HP.out.below) HP.out.pool HOK1.out (by decide) (by rw [one_best HO.out (by have := HT0a.out; omega) (by have := HT0b.out; omega), if_neg (by decide)]) (by decide)).mono ?_
      rintro e wa1 ⟨row1, rest1, ρa1, rfl, hpk, hl, hn, hp, hF⟩
      have HT1 := Lib.hid (show 1 ≤ totT (tookT row1 rest1).2 + (2 - totT c0.rows) ∧ totT (tookT row1 rest1).2 ≤ totT c0.rows ∧ totT c0.rows ≤ totT (tookT row1 rest1).2 + 1 from by
        have h1 := picksT_tot hpk
        have h2 := totT_took_ge row1 rest1
        have h3 := totT_took row1 rest1
        have h4 : 1 ≤ totT c0.rows := by rw [HO.out.w0]; have := HT0a.out; omega
        simp only at h1
        omega)
      obtain ⟨E1, hE1⟩ : ∃ E : Ent, E = { entOf row1 with need := nn.name, cls := ((0 : Nat) : Int) } := ⟨_, rfl⟩
      rw [← hE1]
      have HE1 := Lib.hid (show E1.cls = 0 by rw [hE1]; rfl)
      have HQ1 := Lib.hid (HP.out.step hl hp hF).fence
      have HO1x := Lib.hid (one_set0 (c' := { c0 with served := 2, gv := (tookT row1 rest1).1, rows := (tookT row1 rest1).2 }) HO.out rfl rfl)
      clear hpk hl hn hp hF hE1
      go_upto_region 9 with (refine wpList_store_new rfl 25 _ _ rfl wa1.heap.size rfl (entC E1) rfl rfl (ent_sz E1) rfl (ent_one E1) ?_)
      obtain ⟨wb1, hwb⟩ : ∃ wb : World, wb = wa1.alloc (.cells (entC E1) 25) := ⟨_, rfl⟩
      obtain ⟨eb1, heb⟩ : ∃ eb : Nat, eb = wa1.heap.size := ⟨_, rfl⟩
      try simp only [Act.put]
      rw [← hwb, ← heb]
      have HP1x := Lib.hid (show PlState w P ⟨1, 2, 1⟩ (2 + 1) _ _ (fence ρa1 wa1) wb1 by rw [hwb]; exact HQ1.out.on box_below)
      have HX1_1 := Lib.hid (show wb1.heap[eb1]? = some (.cells (entC E1) 25 (0, 0)) by rw [hwb, heb]; exact fr_alloc_at)
      have HZ1_1 := Lib.hid (show fence ρa1 wa1 eb1 = [] by rw [heb]; exact fence_far (Nat.le_refl _))
      clear hwb heb
      obtain ⟨d1, hd1⟩ : ∃ d : PC, d = { c0 with served := 2, gv := (tookT row1 rest1).1, rows := (tookT row1 rest1).2 } := ⟨_, rfl⟩
      obtain ⟨m1, hm1⟩ : ∃ m : PN, m = { nn with cls := nn.cls.set 0 d1 } := ⟨_, rfl⟩
      rw [← hd1, ← hm1] at HO1x
      have HT1a := Lib.hid (show 1 ≤ totT (tookT row1 rest1).2 ∧ totT (tookT row1 rest1).2 ≤ 2 by have h := HT1.out; rw [HO.out.w0] at h; have := HT0a.out; omega)
      replace HP1x := Lib.hid (show PlState w P ⟨1, 2, 1⟩ (2 + 1) _ (L.set 0 m1) (fence ρa1 wa1) wb1 by rw [hm1, hd1]; exact HP1x.out)
      clear hd1 hm1
      go_wp2_with fail
      have HOK2 := Lib.hid (one_ok HO1x.out (by have := HT1a.out; omega) (by have := HT0b.out; omega))
      refine (ptake_some (most := 1) (pl := ⟨#[]⟩) ⟨0, m1, 1, c1⟩ wb1 (HR.out.below HP1x.out.below) HP1x.out.pool HOK2.out (by decide) (by rw [one_best HO1x.out (by have := HT1a.out; omega) (by have := HT0b.out; omega), if_pos (by decide)]) (by decide)).mono ?_
      rintro e wa2 ⟨row2, rest2, ρa2, rfl, hpk, hl, hn, hp, hF⟩
      have HT2 := Lib.hid (show 1 ≤ totT (tookT row2 rest2).2 + (2 - totT c1.rows) ∧ totT (tookT row2 rest2).2 ≤ totT c1.rows ∧ totT c1.rows ≤ totT (tookT row2 rest2).2 + 1 from by
        have h1 := picksT_tot hpk
        have h2 := totT_took_ge row2 rest2
        have h3 := totT_took row2 rest2
        have h4 : 1 ≤ totT c1.rows := by rw [HO1x.out.w1]; have := HT0b.out; omega
        simp only at h1
        omega)
      obtain ⟨E2, hE2⟩ : ∃ E : Ent, E = { entOf row2 with need := m1.name, cls := ((1 : Nat) : Int) } := ⟨_, rfl⟩
      rw [← hE2]
      have HE2 := Lib.hid (show E2.cls = 1 by rw [hE2]; rfl)
      have HQ2 := Lib.hid (HP1x.out.step hl hp hF).fence
      have HO2x := Lib.hid (one_set1 (c' := { c1 with served := 3, gv := (tookT row2 rest2).1, rows := (tookT row2 rest2).2 }) HO1x.out rfl rfl)
      have HX1_2 := Lib.hid (pkeep hF HX1_1.out HZ1_1.out)
      have HZ1_2 := Lib.hid (show fence ρa2 wa2 eb1 = [] by rw [fence_later ρa2 wa2 eb1 (fp_lt_of_heap HX1_2.out), hl eb1 (fp_lt_of_heap HX1_1.out)]; exact HZ1_1.out)
      clear hpk hl hn hp hF hE2
      go_upto_region 10 with (refine wpList_store_new rfl 25 _ _ rfl wa2.heap.size rfl (entC E2) rfl rfl (ent_sz E2) rfl (ent_one E2) ?_)
      obtain ⟨wb2, hwb⟩ : ∃ wb : World, wb = wa2.alloc (.cells (entC E2) 25) := ⟨_, rfl⟩
      obtain ⟨eb2, heb⟩ : ∃ eb : Nat, eb = wa2.heap.size := ⟨_, rfl⟩
      try simp only [Act.put]
      rw [← hwb, ← heb]
      have HP2x := Lib.hid (show PlState w P ⟨1, 2, 1⟩ (3 + 1) _ _ (fence ρa2 wa2) wb2 by rw [hwb]; exact HQ2.out.on box_below)
      have HX2_2 := Lib.hid (show wb2.heap[eb2]? = some (.cells (entC E2) 25 (0, 0)) by rw [hwb, heb]; exact fr_alloc_at)
      have HZ2_2 := Lib.hid (show fence ρa2 wa2 eb2 = [] by rw [heb]; exact fence_far (Nat.le_refl _))
      replace HX1_2 := Lib.hid (show wb2.heap[eb1]? = some (.cells (entC E1) 25 (0, 0)) by rw [hwb]; exact fr_alloc_old HX1_2.out)
      clear hwb heb
      obtain ⟨d2, hd2⟩ : ∃ d : PC, d = { c1 with served := 3, gv := (tookT row2 rest2).1, rows := (tookT row2 rest2).2 } := ⟨_, rfl⟩
      obtain ⟨m2, hm2⟩ : ∃ m : PN, m = { m1 with cls := m1.cls.set 1 d2 } := ⟨_, rfl⟩
      rw [← hd2, ← hm2] at HO2x
      have HT2a := Lib.hid (show 1 ≤ totT (tookT row2 rest2).2 ∧ totT (tookT row2 rest2).2 ≤ 2 by have h := HT2.out; rw [HO.out.w1] at h; have := HT0b.out; omega)
      replace HP2x := Lib.hid (show PlState w P ⟨1, 2, 1⟩ (3 + 1) _ ((L.set 0 m1).set 0 m2) (fence ρa2 wa2) wb2 by rw [hm2, hd2]; exact HP2x.out)
      clear hd2 hm2
      go_wp2_with fail
      have HOK3 := Lib.hid (one_ok HO2x.out (by have := HT1a.out; omega) (by have := HT2a.out; omega))
      refine (ptake_some (most := 1) (pl := ⟨#[]⟩) ⟨0, m2, 0, d1⟩ wb2 (HR.out.below HP2x.out.below) HP2x.out.pool HOK3.out (by decide) (by rw [one_best HO2x.out (by have := HT1a.out; omega) (by have := HT2a.out; omega), if_neg (by decide)]) (by decide)).mono ?_
      rintro e wa3 ⟨row3, rest3, ρa3, rfl, hpk, hl, hn, hp, hF⟩
      have HT3 := Lib.hid (show 1 ≤ totT (tookT row3 rest3).2 + (2 - totT d1.rows) ∧ totT (tookT row3 rest3).2 ≤ totT d1.rows ∧ totT d1.rows ≤ totT (tookT row3 rest3).2 + 1 from by
        have h1 := picksT_tot hpk
        have h2 := totT_took_ge row3 rest3
        have h3 := totT_took row3 rest3
        have h4 : 1 ≤ totT d1.rows := by rw [HO2x.out.w0]; have := HT1a.out; omega
        simp only at h1
        omega)
      obtain ⟨E3, hE3⟩ : ∃ E : Ent, E = { entOf row3 with need := m2.name, cls := ((0 : Nat) : Int) } := ⟨_, rfl⟩
      rw [← hE3]
      have HE3 := Lib.hid (show E3.cls = 0 by rw [hE3]; rfl)
      have HQ3 := Lib.hid (HP2x.out.step hl hp hF).fence
      have HO3x := Lib.hid (one_set0 (c' := { d1 with served := 4, gv := (tookT row3 rest3).1, rows := (tookT row3 rest3).2 }) HO2x.out rfl rfl)
      have HX1_3 := Lib.hid (pkeep hF HX1_2.out HZ1_2.out)
      have HZ1_3 := Lib.hid (show fence ρa3 wa3 eb1 = [] by rw [fence_later ρa3 wa3 eb1 (fp_lt_of_heap HX1_3.out), hl eb1 (fp_lt_of_heap HX1_2.out)]; exact HZ1_2.out)
      have HX2_3 := Lib.hid (pkeep hF HX2_2.out HZ2_2.out)
      have HZ2_3 := Lib.hid (show fence ρa3 wa3 eb2 = [] by rw [fence_later ρa3 wa3 eb2 (fp_lt_of_heap HX2_3.out), hl eb2 (fp_lt_of_heap HX2_2.out)]; exact HZ2_2.out)
      clear hpk hl hn hp hF hE3
      go_upto_region 11 with (refine wpList_store_new rfl 25 _ _ rfl wa3.heap.size rfl (entC E3) rfl rfl (ent_sz E3) rfl (ent_one E3) ?_)
      obtain ⟨wb3, hwb⟩ : ∃ wb : World, wb = wa3.alloc (.cells (entC E3) 25) := ⟨_, rfl⟩
      obtain ⟨eb3, heb⟩ : ∃ eb : Nat, eb = wa3.heap.size := ⟨_, rfl⟩
      try simp only [Act.put]
      rw [← hwb, ← heb]
      have HP3x := Lib.hid (show PlState w P ⟨1, 2, 1⟩ (4 + 1) _ _ (fence ρa3 wa3) wb3 by rw [hwb]; exact HQ3.out.on box_below)
      have HX3_3 := Lib.hid (show wb3.heap[eb3]? = some (.cells (entC E3) 25 (0, 0)) by rw [hwb, heb]; exact fr_alloc_at)
      have HZ3_3 := Lib.hid (show fence ρa3 wa3 eb3 = [] by rw [heb]; exact fence_far (Nat.le_refl _))
      replace HX1_3 := Lib.hid (show wb3.heap[eb1]? = some (.cells (entC E1) 25 (0, 0)) by rw [hwb]; exact fr_alloc_old HX1_3.out)
      replace HX2_3 := Lib.hid (show wb3.heap[eb2]? = some (.cells (entC E2) 25 (0, 0)) by rw [hwb]; exact fr_alloc_old HX2_3.out)
      clear hwb heb
      obtain ⟨d3, hd3⟩ : ∃ d : PC, d = { d1 with served := 4, gv := (tookT row3 rest3).1, rows := (tookT row3 rest3).2 } := ⟨_, rfl⟩
      obtain ⟨m3, hm3⟩ : ∃ m : PN, m = { m2 with cls := m2.cls.set 0 d3 } := ⟨_, rfl⟩
      rw [← hd3, ← hm3] at HO3x
      have HOK4 := Lib.hid (one_ok HO3x.out (by have h := HT3.out; rw [HO2x.out.w0] at h; have := HT1a.out; omega) (by have := HT2a.out; omega))
      replace HP3x := Lib.hid (show PlState w P ⟨1, 2, 1⟩ (4 + 1) _ (((L.set 0 m1).set 0 m2).set 0 m3) (fence ρa3 wa3) wb3 by rw [hm3, hd3]; exact HP3x.out)
      clear hd3 hm3
      have z1 : wb3.cell? ⟨eb1, 1, none⟩ = some (.int .i64 0) := by rw [← HE1.out]; exact fr_cell_of_heap HX1_3.out rfl
      have z2 : wb3.cell? ⟨eb2, 1, none⟩ = some (.int .i64 1) := by rw [← HE2.out]; exact fr_cell_of_heap HX2_3.out rfl
      have z3 : wb3.cell? ⟨eb3, 1, none⟩ = some (.int .i64 0) := by rw [← HE3.out]; exact fr_cell_of_heap HX3_3.out rfl
      go_wp2_with fail
      refine (num17_any _ _).mono ?_
      rintro e w5 ⟨rfl, rfl⟩
      go_wp2_with fail
      refine (num17_any _ _).mono ?_
      rintro e w5 ⟨rfl, rfl⟩
      go_wp2_with fail
      refine (puses_some ⟨#[]⟩ 0 m3 wb3 HP3x.out.pool HOK4.out (by rw [HO3x.out.L]; exact place_one HO3x.out.name) (by rw [HO3x.out.L]; rfl)).mono ?_
      rintro e w6 ⟨rfl, hb6⟩
      rw [HO3x.out.uses]
      have HP6 := Lib.hid (HP3x.out.on hb6)
      clear hb6 z1 z2 z3
      go_wp2_with fail
      refine (penter_full ⟨#[97, 61, 98]⟩ w6 HP6.out.pool HOK4.out (by rw [HO3x.out.L]; refine placeP_none (fun j y _ hy => ?_); have hm := List.mem_of_getElem? hy; rw [List.mem_singleton] at hm; rw [hm]; unfold eqS; rw [HO3x.out.name]; exact ba_list_ne (fun e => by have h := congrArg ByteArray.size e; exact absurd h (by decide))) (by rw [HO3x.out.L]; show (1 : Int) ≤ 1; decide)).mono ?_
      rintro e w7 ⟨rfl, hb7⟩
      have HB7 := Lib.hid (HP6.out.below.trans (hb7.mono HP6.out.below.size))
      clear hb7
      go_wp2_with fail
      refine (num17_any _ _).mono ?_
      rintro e w8 ⟨rfl, rfl⟩
      go_wp2_with fail
      go_ret
      exact ⟨rfl, HB7.out⟩
end Go.Proofs.YtdbjihkgafhakaaGreatDoor
namespace Go.Proofs.YtdbjihkgafhakaaGreatDoor
open Go.RowKit
structure Lw (x : PX) (next : Int) (L : List PN) (k : Nat) : Prop where
  inv : PInv x next L
  nx : 0 ≤ next ∧ next ≤ 8 * k
  us : ∀ n ∈ L, n.uses ≤ k
  tot : ∀ n ∈ L, ∀ c ∈ n.cls, totT c.rows ≤ k
  nm : ∀ n ∈ L, n.name.size ≤ 200
  px : (1 ≤ x.pools ∧ x.pools ≤ 8) ∧ (1 ≤ x.classes ∧ x.classes ≤ 4) ∧ (1 ≤ x.q ∧ x.q ≤ 64)
theorem erase_mid {α : Type} : ∀ (A : List α) (x : α) (B : List α), (A ++ x :: B).eraseIdx A.length = A ++ B
  | [], _, _ => rfl
  | a :: A, x, B => by
    rw [List.cons_append, List.length_cons, List.eraseIdx_cons_succ, erase_mid A]
    rfl
section
variable {x : PX} {next : Int} {L : List PN} {k : Nat}
theorem Lw.ok (h : Lw x next L k) (hk : k ≤ 200) : PoolOk x L := by
  have h1 := h.inv.few
  have h2 := h.px
  exact ⟨by omega, by omega, fun n hn => by have := h.nm n hn; omega, fun n hn c hc => by have := h.tot n hn c hc; omega⟩
theorem Lw.more (h : Lw x next L k) : Lw x next L (k + 1) :=
  ⟨h.inv, by have := h.nx; omega, fun n hn => by have := h.us n hn; omega, fun n hn c hc => by have := h.tot n hn c hc; omega, h.nm, h.px⟩
theorem mem_cls_set {n : PN} {j : Nat} {c' d : PC} (h : d ∈ n.cls.set j c') : d ∈ n.cls ∨ d = c' := by
  obtain ⟨t, ht⟩ := List.getElem?_of_mem h
  by_cases e : j = t
  · subst e
    have hlt : j < n.cls.length := by have := (List.getElem?_eq_some_iff.1 ht).1; rwa [List.length_set] at this
    rw [List.getElem?_set_self hlt] at ht
    cases ht
    exact .inr rfl
  · rw [List.getElem?_set_ne e] at ht
    exact .inl (List.mem_of_getElem? ht)
theorem Lw.cls (h : Lw x next L k) {i j : Nat} {a : PN} {c c' : PC} {next' : Int} (ha : L[i]? = some a) (_hc : a.cls[j]? = some c) (ht : totT c'.rows ≤ k + 1) (hp : PInv x next' (L.set i { a with cls := a.cls.set j c' })) (hn : 0 ≤ next' ∧ next' ≤ 8 * ((k + 1 : Nat) : Int)) : Lw x next' (L.set i { a with cls := a.cls.set j c' }) (k + 1) := by
  have ham := List.mem_of_getElem? ha
  refine ⟨hp, hn, fun n hm => ?_, fun n hm d hd => ?_, fun n hm => ?_, h.px⟩
  · rcases mem_set_or hm with h1 | rfl
    · have := h.us n h1; omega
    · have := h.us a ham; show a.uses ≤ _; omega
  · rcases mem_set_or hm with h1 | rfl
    · have := h.tot n h1 d hd; omega
    · rcases mem_cls_set hd with h2 | rfl
      · have := h.tot a ham d h2; omega
      · exact ht
  · rcases mem_set_or hm with h1 | rfl
    · exact h.nm n h1
    · exact h.nm a ham
theorem Lw.uses (h : Lw x next L k) {i : Nat} {a : PN} {u : Int} (ha : L[i]? = some a) (hu : 1 ≤ u ∧ u ≤ k + 1) : Lw x next (L.set i { a with uses := u }) (k + 1) := by
  have ham := List.mem_of_getElem? ha
  refine ⟨pinv_uses h.inv ha hu.1, by have := h.nx; omega, fun n hm => ?_, fun n hm d hd => ?_, fun n hm => ?_, h.px⟩
  · rcases mem_set_or hm with h1 | rfl
    · have := h.us n h1; omega
    · show u ≤ _; omega
  · rcases mem_set_or hm with h1 | rfl
    · have := h.tot n h1 d hd; omega
    · have := h.tot a ham d hd; omega
  · rcases mem_set_or hm with h1 | rfl
    · exact h.nm n h1
    · exact h.nm a ham
theorem Lw.gone (h : Lw x next L k) (i : Nat) : Lw x next (L.eraseIdx i) k :=
  ⟨pinv_gone h.inv i, h.nx, fun n hn => h.us n (List.mem_of_mem_eraseIdx hn), fun n hn => h.tot n (List.mem_of_mem_eraseIdx hn), fun n hn => h.nm n (List.mem_of_mem_eraseIdx hn), h.px⟩
theorem eqS_eq {a b : ByteArray} (h : eqS a b = true) : a = b := by
  refine Classical.byContradiction fun hn => ?_
  have := ba_list_ne hn
  unfold eqS at h
  rw [this] at h
  cases h
theorem eqS_ne {a b : ByteArray} (h : eqS a b = false) : a ≠ b := by
  rintro rfl
  unfold eqS at h
  rw [ba_list_self] at h
  cases h
variable {ρ : Roles} {P : Nat} {v : Value} {w : World}
end
end Go.Proofs.YtdbjihkgafhakaaGreatDoor
namespace Go.Proofs.YtdbjihkgafhakaaGreatDoor
open Go.RowKit
def PasAt (w : World) (v : Value) (l : List Pa) : Prop := ∃ a cap, v = .slice a l.length cap ∧ ∀ (k : Nat) y, l[k]? = some y → ∃ g off, a = some ⟨g, off, none⟩ ∧ w.rangeAt g (off + k * 10) (encPa y)
theorem PasAt.below {w w' : World} {v : Value} {l : List Pa} (h : PasAt w v l) (hb : Below w.heap.size w w') : PasAt w' v l := by
  obtain ⟨a, cap, rfl, hc⟩ := h
  exact ⟨a, cap, rfl, fun k y hy => by obtain ⟨g, off, ha, h0⟩ := hc k y hy; exact ⟨g, off, ha, fun j u hu => cell_below hb (h0 j u hu)⟩⟩
theorem PasAt.at {w : World} {v : Value} {l : List Pa} (h : PasAt w v l) {k : Nat} {y : Pa} (hy : l[k]? = some y) : ∃ g off cap, v = .slice (some ⟨g, off, none⟩) l.length cap ∧ w.rangeAt g (off + k * 10) (encPa y) := by
  obtain ⟨a, cap, rfl, hc⟩ := h
  obtain ⟨g, off, rfl, h0⟩ := hc k y hy
  exact ⟨g, off, cap, rfl, h0⟩
section
variable {x : PX} {next : Int} {L : List PN} {k : Nat} {ρ : Roles} {P : Nat} {v : Value}
end
end Go.Proofs.YtdbjihkgafhakaaGreatDoor
