/-
  law17: Waits and Take, in a law's round.
-/
import Derived.Test.YtdbjihkgafhakaaGreatDoorPool16
namespace Go.Proofs.YtdbjihkgafhakaaGreatDoor
open Go.RowKit

/-- Calls in a slice. -/
def PasAt (w : World) (v : Value) (l : List Pa) : Prop := ∃ a cap, v = .slice a l.length cap ∧ ∀ (k : Nat) y, l[k]? = some y → ∃ g off, a = some ⟨g, off, none⟩ ∧ w.rangeAt g (off + k * 10) (encPa y)
theorem PasAt.below {w w' : World} {v : Value} {l : List Pa} (h : PasAt w v l) (hb : Below w.heap.size w w') : PasAt w' v l := by
  obtain ⟨a, cap, rfl, hc⟩ := h
  exact ⟨a, cap, rfl, fun k y hy => by obtain ⟨g, off, ha, h0⟩ := hc k y hy; exact ⟨g, off, ha, fun j u hu => cell_below hb (h0 j u hu)⟩⟩
theorem PasAt.at {w : World} {v : Value} {l : List Pa} (h : PasAt w v l) {k : Nat} {y : Pa} (hy : l[k]? = some y) : ∃ g off cap, v = .slice (some ⟨g, off, none⟩) l.length cap ∧ w.rangeAt g (off + k * 10) (encPa y) := by
  obtain ⟨a, cap, rfl, hc⟩ := h
  obtain ⟨g, off, rfl, h0⟩ := hc k y hy
  exact ⟨g, off, cap, rfl, h0⟩
section
variable {x : PX} {next : Int} {L : List PN} {k : Nat} {ρ : Roles} {P : Nat} {v : Value}
/-- Does something wait in the class asked for? -/
def WaitsB (L : List PN) (s : ByteArray) (q : Int) (t : Nat) : Prop := 0 < t ↔ ∃ d, Asked L s q d ∧ 0 < totT d.rows
theorem eqS_refl (a : ByteArray) : eqS a a = true := by
  unfold eqS
  exact ba_list_self a
theorem waits_any (s : ByteArray) (q : Int) (w : World) (hS : PoolAt ρ w P x next v L) (h : Lw x next L k) (hk : k ≤ 200) : ∃ t : Nat, Calls Tryz.prog 13 #[.pointer (some ⟨P, 0, none⟩), .string s, .int .i64 q] w (fun e w' => e = .returned (.int .i64 t) ∧ Below w.heap.size w w') ∧ WaitsB L s q t := by
  have hO := h.ok hk
  by_cases hno : placeP s L = -1 ∨ q < 0 ∨ (x.classes : Int) ≤ q
  · refine ⟨0, pwaits_none s q w hS hO hno, fun h0 => absurd h0 (Nat.lt_irrefl 0), fun ⟨d, ⟨i, j, n, h1, h2, h3, h4⟩, _⟩ => ?_⟩
    exfalso
    have hl := h.inv.len n (List.mem_of_getElem? h1)
    have hj := (List.getElem?_eq_some_iff.1 h4).1
    rcases hno with hno | hno
    · rcases placeP_cases s L with ⟨_, hne⟩ | ⟨i', a, hp, _, _⟩
      · have := hne n (List.mem_of_getElem? h1)
        rw [h2, eqS_refl] at this
        cases this
      · omega
    · omega
  · rcases placeP_cases s L with ⟨hp, _⟩ | ⟨i, a, hp, ha, he⟩
    · exact absurd (.inl hp) hno
    · obtain ⟨j, rfl⟩ : ∃ j : Nat, q = j := ⟨q.toNat, by omega⟩
      have hal := h.inv.len a (List.mem_of_getElem? ha)
      obtain ⟨c, hcc⟩ : ∃ c, a.cls[j]? = some c := ⟨_, List.getElem?_eq_getElem (by omega)⟩
      have hA : Asked L s j c := ⟨i, j, a, ha, eqS_eq he, rfl, hcc⟩
      refine ⟨totT c.rows, pwaits_some s i j a c w hS hO hp ha hcc, fun h0 => ⟨c, hA, h0⟩, fun ⟨d, hd, h0⟩ => ?_⟩
      rw [asked_once h.inv hA hd]
      exact h0
/-- How many turns went by, behind a Take. -/
def tookM (wt cd ok : Bool) (E : Ent) (s : ByteArray) (q n : Int) : Int :=
  if (ok && eqS E.need s && E.cls == q) = true then 0 else if (wt && cd) = true then n + 1 else n
def couldB (pl : ByteArray) (most : Int) (s : ByteArray) (q : Int) : Bool := matchP pl s && decide (q ≤ most)
/-- What a Take leaves of the claim. -/
def TakeEff (x : PX) (L L' : List PN) (pl : ByteArray) (most : Int) (E : Ent) (ok : Bool) : Prop := ∀ (s : ByteArray) (q n : Int) (t : Nat), WaitsB L s q t → TurnInv x L s q n →
  (decide (0 < t) && couldB pl most s q && !ok) = false ∧ ∀ m, (m = 0 ∨ (m = tookM (decide (0 < t)) (couldB pl most s q) ok E s q n ∧ ∃ d, Asked L' s q d ∧ 0 < totT d.rows)) → TurnInv x L' s q m
def TkPost (ρ : Roles) (w : World) (P : Nat) (x : PX) (L : List PN) (k : Nat) (pl : ByteArray) (most : Int) (e : Ending) (w' : World) : Prop :=
  ∃ E ok next' v' L', e = .returned (.tuple #[entV E, .bool ok]) ∧ TurnPost ρ w P x next' v' L' w' ∧ Lw x next' L' (k + 1) ∧ TakeEff x L L' pl most E ok
theorem could_fit {pl s : ByteArray} {most q : Int} (h : couldB pl most s q = true) : q ≤ most ∧ matchP pl s = true := by
  unfold couldB at h
  simp only [Bool.and_eq_true, decide_eq_true_iff] at h
  exact ⟨h.2, h.1⟩
theorem takeEff_none {pl : ByteArray} {most : Int} (hp : PInv x next L) (hb : bestTo most pl L L.length = none) : TakeEff x L L pl most ent0 false := by
  intro s q n t ht hT
  have hw : (decide (0 < t) && couldB pl most s q) = false := by
    refine Bool.eq_false_iff.2 fun hc => ?_
    simp only [Bool.and_eq_true, decide_eq_true_iff] at hc
    obtain ⟨d, ⟨i, j, a, h1, h2, h3, h4⟩, h5⟩ := ht.1 hc.1
    obtain ⟨g1, g2⟩ := could_fit hc.2
    obtain ⟨z, hz, _⟩ := bestTo_fitMin (most := most) (pl := pl) h1 h4 (by rw [← h3]; exact g1) h5 (by rw [h2]; exact g2) L.length (List.getElem?_eq_some_iff.1 h1).1
    rw [hb] at hz
    cases hz
  refine ⟨by rw [hw]; rfl, fun m hm => eff_refl hp s q n m hT ?_⟩
  rcases hm with h | ⟨h, hd⟩
  · exact .inl h
  · refine .inr ⟨?_, hd⟩
    rw [h]
    unfold tookM
    rw [hw]
    simp
theorem takeEff_some {pl : ByteArray} {most : Int} {y : PB} {row : TRow} {rest : List TRow} {E : Ent} (hp : PInv x next L) (hnx : 0 ≤ next) (hb : bestTo most pl L L.length = some y) (h1 : E.need = y.n.name) (h2 : E.cls = y.k) : TakeEff x L (L.set y.i (tookN y next row rest)) pl most E true := by
  intro s q n t ht hT
  obtain ⟨hn, hc⟩ := bestTo_in L.length y hb
  refine ⟨by simp, fun m hm => turn_take hT hp hn hc hnx hb ?_⟩
  rcases hm with h | ⟨h, d, hd, hdw⟩
  · exact .inl h
  · by_cases hy : y.n.name = s ∧ (y.k : Int) = q
    · left
      rw [h]
      unfold tookM
      rw [h1, h2, hy.1, hy.2, eqS_refl]
      simp
    · refine .inr ⟨hy, ⟨d, hd, hdw⟩, ?_⟩
      have hdL : Asked L s q d := by
        rcases asked_set2 (c' := { y.c with served := next, gv := (tookT row rest).1, rows := (tookT row rest).2 }) hn hc hd with h3 | ⟨_, g1, g2⟩
        · exact h3
        · exact absurd ⟨g1, g2.symm⟩ hy
      have ht0 : decide (0 < t) = true := decide_eq_true (ht.2 ⟨d, hdL, hdw⟩)
      have hno : (true && eqS E.need s && E.cls == q) = false := by
        refine Bool.eq_false_iff.2 fun hc => hy ?_
        simp only [Bool.and_eq_true, beq_iff_eq] at hc
        exact ⟨by rw [← h1]; exact eqS_eq hc.1.2, by rw [← h2]; exact hc.2⟩
      rw [h]
      unfold tookM
      rw [hno, ht0]
      unfold couldB
      by_cases g1 : q ≤ most
      · by_cases g2 : matchP pl s = true
        · simp [g1, g2]
        · simp [g1, g2]
      · simp [g1]
/-- Take, in whatever case. -/
theorem pl_take (pl : ByteArray) (most : Int) (w : World) (hr : Ready w) (hS : PoolAt ρ w P x next v L) (h : Lw x next L k) (hk : k ≤ 200) (hpl : pl.size ≤ 200) : Calls Tryz.prog 14 #[.pointer (some ⟨P, 0, none⟩), .string pl, .int .i64 most] w (TkPost ρ w P x L k pl most) := by
  have hO := h.ok hk
  have hnx := h.nx
  rcases hb : bestTo most pl L L.length with _ | y
  · refine (ptake_none w hr hS hO (by omega) hb).mono ?_
    rintro e w' ⟨rfl, hb'⟩
    exact ⟨_, _, _, _, _, rfl, turn_same hS hb', h.more, takeEff_none h.inv hb⟩
  · refine (ptake_some y w hr hS hO (by omega) hb ⟨hnx.1, by omega⟩).mono ?_
    rintro e w' ⟨row, rest, ρ', rfl, hpk, hl, hN, hA, hF⟩
    obtain ⟨hn, hc⟩ := bestTo_in L.length y hb
    have ht := h.tot y.n (List.mem_of_getElem? hn) y.c (List.mem_of_getElem? hc)
    have h1 := totT_took row rest
    have h2 := picksT_tot hpk
    refine ⟨_, _, _, _, _, rfl, ⟨ρ', hl, hN, hA, hF⟩, h.cls hn hc ?_ (pinv_take h.inv hn hc hnx.1) (by omega), takeEff_some h.inv hnx.1 hb rfl rfl⟩
    show totT (tookT row rest).2 ≤ k + 1
    omega
end
end Go.Proofs.YtdbjihkgafhakaaGreatDoor
