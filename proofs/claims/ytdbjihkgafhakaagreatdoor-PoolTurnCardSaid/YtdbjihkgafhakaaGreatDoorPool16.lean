/-
  law17: each call of pools, in a law's round.
-/
import Derived.Test.YtdbjihkgafhakaaGreatDoorPool15
namespace Go.Proofs.YtdbjihkgafhakaaGreatDoor
open Go.RowKit

/-- Pools behind k calls. -/
structure Lw (x : PX) (next : Int) (L : List PN) (k : Nat) : Prop where
  inv : PInv x next L
  nx : 0 ≤ next ∧ next ≤ 8 * k
  us : ∀ n ∈ L, n.uses ≤ k
  tot : ∀ n ∈ L, ∀ c ∈ n.cls, totT c.rows ≤ k
  nm : ∀ n ∈ L, n.name.size ≤ 200
  px : (1 ≤ x.pools ∧ x.pools ≤ 8) ∧ (1 ≤ x.classes ∧ x.classes ≤ 4) ∧ (1 ≤ x.q ∧ x.q ≤ 64)
/-- What a call that is no Take leaves of the claim. -/
def Eff (x : PX) (L L' : List PN) : Prop := ∀ (s : ByteArray) (k n m : Int), TurnInv x L s k n → (m = 0 ∨ (m = n ∧ ∃ d, Asked L' s k d ∧ 0 < totT d.rows)) → TurnInv x L' s k m
theorem erase_mid {α : Type} : ∀ (A : List α) (x : α) (B : List α), (A ++ x :: B).eraseIdx A.length = A ++ B
  | [], _, _ => rfl
  | a :: A, x, B => by
    rw [List.cons_append, List.length_cons, List.eraseIdx_cons_succ, erase_mid A]
    rfl
section
variable {x : PX} {next : Int} {L : List PN} {k : Nat}
theorem Lw.ok (h : Lw x next L k) (hk : k ≤ 200) : PoolOk x L := by
  have h1 := h.inv.few
  have h2 := h.px
  exact ⟨by omega, by omega, fun n hn => by have := h.nm n hn; omega, fun n hn c hc => by have := h.tot n hn c hc; omega⟩
theorem Lw.more (h : Lw x next L k) : Lw x next L (k + 1) :=
  ⟨h.inv, by have := h.nx; omega, fun n hn => by have := h.us n hn; omega, fun n hn c hc => by have := h.tot n hn c hc; omega, h.nm, h.px⟩
theorem eff_refl (hp : PInv x next L) : Eff x L L := fun _ _ _ _ h hm => turn_keep h hp hp (fun d hd _ => ⟨d, hd, rfl⟩) (fun _ _ _ => Nat.le_refl _) hm
theorem mem_cls_set {n : PN} {j : Nat} {c' d : PC} (h : d ∈ n.cls.set j c') : d ∈ n.cls ∨ d = c' := by
  obtain ⟨t, ht⟩ := List.getElem?_of_mem h
  by_cases e : j = t
  · subst e
    have hlt : j < n.cls.length := by have := (List.getElem?_eq_some_iff.1 ht).1; rwa [List.length_set] at this
    rw [List.getElem?_set_self hlt] at ht
    cases ht
    exact .inr rfl
  · rw [List.getElem?_set_ne e] at ht
    exact .inl (List.mem_of_getElem? ht)
/-- A class set: its rows no more than one more. -/
theorem Lw.cls (h : Lw x next L k) {i j : Nat} {a : PN} {c c' : PC} {next' : Int} (ha : L[i]? = some a) (_hc : a.cls[j]? = some c) (ht : totT c'.rows ≤ k + 1) (hp : PInv x next' (L.set i { a with cls := a.cls.set j c' })) (hn : 0 ≤ next' ∧ next' ≤ 8 * ((k + 1 : Nat) : Int)) : Lw x next' (L.set i { a with cls := a.cls.set j c' }) (k + 1) := by
  have ham := List.mem_of_getElem? ha
  refine ⟨hp, hn, fun n hm => ?_, fun n hm d hd => ?_, fun n hm => ?_, h.px⟩
  · rcases mem_set_or hm with h1 | rfl
    · have := h.us n h1; omega
    · have := h.us a ham; show a.uses ≤ _; omega
  · rcases mem_set_or hm with h1 | rfl
    · have := h.tot n h1 d hd; omega
    · rcases mem_cls_set hd with h2 | rfl
      · have := h.tot a ham d h2; omega
      · exact ht
  · rcases mem_set_or hm with h1 | rfl
    · exact h.nm n h1
    · exact h.nm a ham
theorem Lw.uses (h : Lw x next L k) {i : Nat} {a : PN} {u : Int} (ha : L[i]? = some a) (hu : 1 ≤ u ∧ u ≤ k + 1) : Lw x next (L.set i { a with uses := u }) (k + 1) := by
  have ham := List.mem_of_getElem? ha
  refine ⟨pinv_uses h.inv ha hu.1, by have := h.nx; omega, fun n hm => ?_, fun n hm d hd => ?_, fun n hm => ?_, h.px⟩
  · rcases mem_set_or hm with h1 | rfl
    · have := h.us n h1; omega
    · show u ≤ _; omega
  · rcases mem_set_or hm with h1 | rfl
    · have := h.tot n h1 d hd; omega
    · have := h.tot a ham d hd; omega
  · rcases mem_set_or hm with h1 | rfl
    · exact h.nm n h1
    · exact h.nm a ham
theorem Lw.gone (h : Lw x next L k) (i : Nat) : Lw x next (L.eraseIdx i) k :=
  ⟨pinv_gone h.inv i, h.nx, fun n hn => h.us n (List.mem_of_mem_eraseIdx hn), fun n hn => h.tot n (List.mem_of_mem_eraseIdx hn), fun n hn => h.nm n (List.mem_of_mem_eraseIdx hn), h.px⟩
theorem eqS_eq {a b : ByteArray} (h : eqS a b = true) : a = b := by
  refine Classical.byContradiction fun hn => ?_
  have := ba_list_ne hn
  unfold eqS at h
  rw [this] at h
  cases h
theorem eqS_ne {a b : ByteArray} (h : eqS a b = false) : a ≠ b := by
  rintro rfl
  unfold eqS at h
  rw [ba_list_self] at h
  cases h
variable {ρ : Roles} {P : Nat} {v : Value} {w : World}
def OpPost (ρ : Roles) (w : World) (P : Nat) (x : PX) (L : List PN) (k : Nat) (e : Ending) (w' : World) : Prop := ∃ u next' v' L', e = .returned u ∧ TurnPost ρ w P x next' v' L' w' ∧ Lw x next' L' (k + 1) ∧ Eff x L L'
/-- Push, in whatever case. -/
theorem pl_push (E : Ent) (hS : PoolAt ρ w P x next v L) (h : Lw x next L k) (hk : k ≤ 200) (hten : I64 E.ten) (hinv : I64 E.inv) (hid : I64 E.id) : Calls Tryz.prog 11 #[.pointer (some ⟨P, 0, none⟩), entV E] w (OpPost ρ w P x L k) := by
  have hO := h.ok hk
  rcases placeP_cases E.need L with ⟨hp, _⟩ | ⟨i, a, hp, ha, _⟩
  · refine (ppush_none E w hS hO hp).mono ?_
    rintro e w' ⟨rfl, hb⟩
    exact ⟨_, _, _, _, rfl, turn_same hS hb, h.more, eff_refl h.inv⟩
  · by_cases hc : E.cls < 0 ∨ (x.classes : Int) ≤ E.cls
    · refine (ppush_bad E w hS hO (by omega) hc).mono ?_
      rintro e w' ⟨rfl, hb⟩
      exact ⟨_, _, _, _, rfl, turn_same hS hb, h.more, eff_refl h.inv⟩
    · obtain ⟨j, hj⟩ : ∃ j : Nat, E.cls = j := ⟨E.cls.toNat, by omega⟩
      have hal := h.inv.len a (List.mem_of_getElem? ha)
      obtain ⟨c, hcc⟩ : ∃ c, a.cls[j]? = some c := ⟨_, List.getElem?_eq_getElem (by omega)⟩
      have ht := h.tot a (List.mem_of_getElem? ha) c (List.mem_of_getElem? hcc)
      have hlen := totT_len (((hS.need i a ha).cls j c hcc).share.fullT)
      refine (ppush_some E i j a c w hS hO hp ha hj hcc hten hinv hid (by omega) (by omega)).mono ?_
      rintro e w' ⟨rfl, hT⟩
      refine ⟨_, _, _, _, rfl, hT, h.cls ha hcc ?_ (pinv_cls h.inv ha hcc rfl) (by have := h.nx; omega), fun s k' n m ht hm => turn_cls ht h.inv ha hcc rfl hm⟩
      have := totT_push (e := E) (rows := c.rows)
      show totT (pushT E c.rows).2 ≤ k + 1
      omega
theorem pl_drop (E : Ent) (hS : PoolAt ρ w P x next v L) (h : Lw x next L k) (hk : k ≤ 200) (hid : I64 E.id) : Calls Tryz.prog 12 #[.pointer (some ⟨P, 0, none⟩), entV E] w (OpPost ρ w P x L k) := by
  have hO := h.ok hk
  by_cases hno : placeP E.need L = -1 ∨ E.cls < 0 ∨ (x.classes : Int) ≤ E.cls
  · refine (pdrop_none E w hS hO hno).mono ?_
    rintro e w' ⟨rfl, hb⟩
    exact ⟨_, _, _, _, rfl, turn_same hS hb, h.more, eff_refl h.inv⟩
  · rcases placeP_cases E.need L with ⟨hp, _⟩ | ⟨i, a, hp, ha, _⟩
    · exact absurd (.inl hp) hno
    · obtain ⟨j, hj⟩ : ∃ j : Nat, E.cls = j := ⟨E.cls.toNat, by omega⟩
      have hal := h.inv.len a (List.mem_of_getElem? ha)
      obtain ⟨c, hcc⟩ : ∃ c, a.cls[j]? = some c := ⟨_, List.getElem?_eq_getElem (by omega)⟩
      have ht := h.tot a (List.mem_of_getElem? ha) c (List.mem_of_getElem? hcc)
      refine (pdrop_some E i j a c w hS hO hp ha hj hcc hid).mono ?_
      rintro e w' ⟨rfl, hT⟩
      refine ⟨_, _, _, _, rfl, hT, h.cls ha hcc ?_ (pinv_cls h.inv ha hcc rfl) (by have := h.nx; omega), fun s k' n m ht hm => turn_cls ht h.inv ha hcc rfl hm⟩
      have := totT_drop (id := E.ten) (inv := E.inv) (i := E.id) (gv := c.gv) (rows := c.rows)
      show totT (dropT E.ten E.inv E.id c.gv c.rows).2.2 ≤ k + 1
      omega
theorem pl_leave (s : ByteArray) (hS : PoolAt ρ w P x next v L) (h : Lw x next L k) (hk : k ≤ 200) : Calls Tryz.prog 10 #[.pointer (some ⟨P, 0, none⟩), .string s] w (OpPost ρ w P x L k) := by
  have hO := h.ok hk
  rcases placeP_cases s L with ⟨hp, _⟩ | ⟨i, a, hp, ha, _⟩
  · refine (pleave_none s w hS hO hp).mono ?_
    rintro e w' ⟨rfl, hb⟩
    exact ⟨_, _, _, _, rfl, turn_same hS hb, h.more, eff_refl h.inv⟩
  · have hu1 := h.inv.uses a (List.mem_of_getElem? ha)
    have hu2 := h.us a (List.mem_of_getElem? ha)
    refine (pleave_some s i a w hS hO hp ha (by omega)).mono ?_
    rintro e w' ⟨rfl, v', hT⟩
    refine ⟨_, _, _, _, rfl, hT, ?_⟩
    unfold leftL
    by_cases h0 : a.uses - 1 = 0
    · rw [if_pos h0]
      have he : (L.set i { a with uses := a.uses - 1 }).eraseIdx i = L.eraseIdx i := by
        obtain ⟨A, B, e1, e2, e3⟩ := split_at ha
        rw [e3, e1, ← e2, erase_mid, erase_mid]
      rw [he]
      exact ⟨(h.gone i).more, fun s k' n m ht hm => turn_gone ht h.inv hm⟩
    · rw [if_neg h0]
      exact ⟨h.uses ha (by omega), fun s k' n m ht hm => turn_uses ht h.inv ha (by omega) hm⟩
theorem pl_enter (s : ByteArray) (hS : PoolAt ρ w P x next v L) (h : Lw x next L k) (hk : k ≤ 200) (hs : s.size ≤ 200) : Calls Tryz.prog 9 #[.pointer (some ⟨P, 0, none⟩), .string s] w (OpPost ρ w P x L k) := by
  have hO := h.ok hk
  rcases placeP_cases s L with ⟨hp, hno⟩ | ⟨i, a, hp, ha, _⟩
  · by_cases hf : x.pools ≤ (L.length : Int)
    · refine (penter_full s w hS hO hp hf).mono ?_
      rintro e w' ⟨rfl, hb⟩
      exact ⟨_, _, _, _, rfl, turn_same hS hb, h.more, eff_refl h.inv⟩
    · have hnx := h.nx
      have hpx := h.px
      have hfew := h.inv.few
      refine (penter_new s w hS hO hp (by omega) h.px.2.2 (by omega) (by omega)).mono ?_
      rintro e w' ⟨rfl, v', nb, n, hn, hlen, hT⟩
      have hsv : ∀ (j : Nat) c, n.cls[j]? = some c → c.served = next + j := fun j c hc => (hn.2.2.2 j c hc).1
      have hnew : ∀ p ∈ L, p.name ≠ n.name := fun p hp' => by rw [hn.1]; exact eqS_ne (hno p hp')
      refine ⟨_, _, _, _, rfl, hT, ⟨pinv_join h.inv hlen hsv hnx.1 (by omega) hnew (by rw [hn.2.1]; decide), by push_cast; omega, fun p hp' => ?_, fun p hp' c hc => ?_, fun p hp' => ?_, h.px⟩, fun s' k' n' m ht hm => turn_join ht h.inv hlen (fun j c hc => ⟨(hn.2.2.2 j c hc).1, (hn.2.2.2 j c hc).2.2⟩) hnx.1 (by omega) hnew (by rw [hn.2.1]; decide) hm⟩
      · rcases List.mem_append.1 hp' with h1 | h1
        · have := h.us p h1; omega
        · rw [List.mem_singleton] at h1
          rw [h1, hn.2.1]
          omega
      · rcases List.mem_append.1 hp' with h1 | h1
        · have := h.tot p h1 c hc; omega
        · rw [List.mem_singleton] at h1
          rw [h1] at hc
          obtain ⟨j, hj⟩ := List.getElem?_of_mem hc
          rw [(hn.2.2.2 j c hj).2.2]
          simp [totT]
      · rcases List.mem_append.1 hp' with h1 | h1
        · exact h.nm p h1
        · rw [List.mem_singleton] at h1
          rw [h1, hn.1]
          exact hs
  · have hu1 := h.inv.uses a (List.mem_of_getElem? ha)
    have hu2 := h.us a (List.mem_of_getElem? ha)
    refine (penter_old s i a w hS hO hp ha (by omega)).mono ?_
    rintro e w' ⟨rfl, hT⟩
    exact ⟨_, _, _, _, rfl, hT, h.uses ha (by omega), fun s k' n m ht hm => turn_uses ht h.inv ha (by omega) hm⟩
end
end Go.Proofs.YtdbjihkgafhakaaGreatDoor
