/-
  ref15 (flows): Push in one law; Drop in one law.
-/
import Derived.Test.YtohkchilogmneaaRef15h
namespace Go.Proofs.Ytohkchilogmneaa
open Go.RowKit
variable {G : Nat → Prop}
theorem placeF_none {id : Int} {rows : List FRow} (h : findF id rows = none) : placeF id rows = -1 := by unfold placeF; rw [h]
theorem placeF_some {id : Int} {rows : List FRow} {k : Nat} (h : findF id rows = some k) : placeF id rows = k := by unfold placeF; rw [h]
theorem row_val {l : List (FRow × Value)} {k : Nat} {r : FRow} (h : (l.map Prod.fst)[k]? = some r) : ∃ p, l[k]? = some p ∧ p.1 = r := by
  rw [List.getElem?_map] at h
  cases hl : l[k]? with
  | none => rw [hl] at h; cases h
  | some p =>
    rw [hl] at h
    exact ⟨p, rfl, Option.some.inj h⟩
/-- What the document's call leaves: what it tells, and the ring then. -/
def DocPost (G : Nat → Prop) (b : Nat) (q : Int) (u : Value) (gv : Bool) (rows : List FRow) (w : World) (e : Ending) (w' : World) : Prop :=
  e = .returned u ∧ Fp (fun j => j = b) w w' ∧ ∃ v' l', RefAt G w' b q gv v' l' ∧ l'.map Prod.fst = rows
theorem r15Push_any (id wt : Int) (x : It) (b : Nat) (q : Int) (gv : Bool) (v : Value) (l : List (FRow × Value)) (w : World) (h : RefAt G w b q gv v l) (hfull : ∀ r ∈ l.map Prod.fst, r.its ≠ []) (hf : totR (l.map Prod.fst) < 1000000) :
    Calls Try.prog 58 #[.pointer (some ⟨b, 0, none⟩), .int .i64 id, .int .i64 wt, .agg #[.int .i64 x.id, .int .i64 x.cost]] w (DocPost G b q (.int .i64 (pushE id wt x (l.map Prod.fst))) gv (stepPush id wt x (l.map Prod.fst)) w) := by
  have hsame : ∀ {w'}, Below w.heap.size w w' → pushE id wt x (l.map Prod.fst) = 1 → DocPost G b q (.int .i64 (pushE id wt x (l.map Prod.fst))) gv (stepPush id wt x (l.map Prod.fst)) w (.returned (.int .i64 1)) w' := fun {w'} hb he => by
    unfold stepPush
    rw [he, if_neg (by decide)]
    exact ⟨rfl, Fp.of_below hb, v, l, h.below hb, rfl⟩
  by_cases hbad : argBad id wt
  · have he : pushE id wt x (l.map Prod.fst) = 1 := by
      unfold pushE
      split
      · rw [if_pos (.inl hbad)]
      · rw [if_pos hbad]
    refine (r15Push_bad id wt x b q gv v l w h hbad).mono ?_
    rintro e w' ⟨rfl, hb⟩
    exact hsame hb he
  · rcases find_at (id := id) (rows := l.map Prod.fst) with ⟨h1, h2⟩ | ⟨k, r, h1, h2, h3, h4⟩
    · have he : pushE id wt x (l.map Prod.fst) = itE [] x := by
        unfold pushE
        rw [h2]
        exact if_neg hbad
      have hlen : l.length < 1000000 := by
        have := tot_len hfull
        rw [List.length_map] at this
        omega
      refine (r15Push_new id wt x b q gv v l w h (placeF_none h1) hbad hlen).mono ?_
      rintro e w' ⟨rfl, hF, v', l', hR, hm⟩
      unfold stepPush pushR
      rw [he, h1]
      exact ⟨rfl, hF, v', l', hR, hm⟩
    · obtain ⟨p, hp, rfl⟩ := row_val h2
      subst h3
      by_cases hw : p.1.wt = wt
      · subst hw
        have he : pushE p.1.id p.1.wt x (l.map Prod.fst) = itE p.1.its x := by
          unfold pushE
          rw [h4]
          exact if_neg (by rintro (h | h); exact hbad h; exact h rfl)
        have hlen : p.1.its.length < 1000000 := Nat.lt_of_le_of_lt (tot_mem (List.mem_of_getElem? h2)) hf
        refine (r15Push_there x b q gv v l k p w h hp (placeF_some h1) hbad hfull hlen).mono ?_
        rintro e w' ⟨rfl, hF, v', l', hR, hm⟩
        unfold stepPush pushR
        rw [he, h1]
        refine ⟨rfl, hF, v', l', hR, ?_⟩
        rw [hm]
        by_cases h0 : itE p.1.its x = 0
        · rw [if_pos h0, if_pos h0]
          simp only
          rw [modify_set h2]
        · rw [if_neg h0, if_neg h0]
          exact set_same h2
      · have he : pushE p.1.id wt x (l.map Prod.fst) = 1 := by
          unfold pushE
          rw [h4]
          exact if_pos (.inr hw)
        refine (r15Push_wt wt x b q gv v l k p w h hp (placeF_some h1) hbad hw).mono ?_
        rintro e w' ⟨rfl, hb⟩
        exact hsame hb he
theorem placeI_cases (i : Int) (l : List It) : (placeI i l = -1 ∧ hasIt i l = false) ∨ ∃ (j : Nat) (x : It), placeI i l = j ∧ l[j]? = some x ∧ x.id = i ∧ hasIt i l = true := by
  rcases h : l.findIdx? (fun x => x.id == i) with _ | j
  · left
    have hp : placeI i l = -1 := by unfold placeI; rw [h]
    refine ⟨hp, ?_⟩
    rcases hh : hasIt i l with _ | _
    · rfl
    · have := placeI_has.2 hh
      rw [hp] at this
      omega
  · right
    have hp : placeI i l = j := by unfold placeI; rw [h]
    obtain ⟨hj, hx, _⟩ := List.findIdx?_eq_some_iff_getElem.1 h
    exact ⟨j, l[j], hp, List.getElem?_eq_getElem hj, by simpa using hx, placeI_has.1 (by rw [hp]; omega)⟩
/-- What Drop tells, and the rows then. -/
def dropE (id i : Int) (gv : Bool) (rows : List FRow) : Bool × Bool × List FRow := match findF id rows, atF id rows with
  | some k, some r => if hasIt i r.its = true then (true, withR k { r with its := dropIt r.its i } gv rows) else (false, gv, rows)
  | _, _ => (false, gv, rows)
theorem dropE_none {id i : Int} {gv : Bool} {rows : List FRow} (h : findF id rows = none) : dropE id i gv rows = (false, gv, rows) := by unfold dropE; rw [h]
theorem dropE_not {id i : Int} {gv : Bool} {rows : List FRow} {k : Nat} {r : FRow} (h : findF id rows = some k) (h2 : atF id rows = some r) (hi : hasIt i r.its = false) : dropE id i gv rows = (false, gv, rows) := by
  unfold dropE
  rw [h, h2]
  exact if_neg (by rw [hi]; decide)
theorem dropE_some {id i : Int} {gv : Bool} {rows : List FRow} {k : Nat} {r : FRow} (h : findF id rows = some k) (h2 : atF id rows = some r) (hi : hasIt i r.its = true) : dropE id i gv rows = (true, withR k { r with its := dropIt r.its i } gv rows) := by
  unfold dropE
  rw [h, h2]
  exact if_pos hi
theorem r15Drop_any (id i : Int) (b : Nat) (q : Int) (gv : Bool) (v : Value) (l : List (FRow × Value)) (w : World) (h : RefAt G w b q gv v l) (hfull : ∀ r ∈ l.map Prod.fst, r.its ≠ []) :
    Calls Try.prog 61 #[.pointer (some ⟨b, 0, none⟩), .int .i64 id, .int .i64 i] w (DocPost G b q (.bool (dropE id i gv (l.map Prod.fst)).1) (dropE id i gv (l.map Prod.fst)).2.1 (dropE id i gv (l.map Prod.fst)).2.2 w) := by
  rcases find_at (id := id) (rows := l.map Prod.fst) with ⟨h1, h2⟩ | ⟨k, r, h1, h2, h3, h4⟩
  · rw [dropE_none h1]
    refine (r15Drop_none id i b q gv v l w h (placeF_none h1)).mono ?_
    rintro e w' ⟨rfl, hb⟩
    exact ⟨rfl, Fp.of_below hb, v, l, h.below hb, rfl⟩
  · obtain ⟨p, hp, rfl⟩ := row_val h2
    subst h3
    rcases placeI_cases i p.1.its with ⟨hi, hn⟩ | ⟨j, x, hi, hx, rfl, hn⟩
    · rw [dropE_not h1 h4 hn]
      refine (r15Drop_not i b q gv v l k p w h hp (placeF_some h1) hi).mono ?_
      rintro e w' ⟨rfl, hb⟩
      exact ⟨rfl, Fp.of_below hb, v, l, h.below hb, rfl⟩
    · rw [dropE_some h1 h4 hn]
      refine (r15Drop_some x j b q gv v l k p w h hp (placeF_some h1) hi hfull).mono ?_
      rintro e w' ⟨rfl, hF, v', l', hR, hm⟩
      exact ⟨rfl, hF, v', l', hR, hm⟩
theorem tot_erase : ∀ {rows : List FRow} {k : Nat}, totR (rows.eraseIdx k) ≤ totR rows
  | [], _ => by simp
  | x :: l, 0 => by simp [totR]
  | x :: l, k + 1 => by
    have := tot_erase (rows := l) (k := k)
    simp [totR] at this ⊢
    omega
section
variable {pre : List Int} {ρ : Roles} {f : Nat} {q : Int} {gv : Bool} {rows : List FRow}
/-- Drop, whatever becomes of it. -/
theorem flowDrop_any (id i : Int) (w : World) (hR : RingAt pre ρ w f q gv rows) (hi : I64 i) : Calls Try.prog 16 #[.pointer (some ⟨f, 0, none⟩), .int .i64 id, .int .i64 i] w
    fun e w' => e = .returned (.bool (dropE id i gv rows).1) ∧ RingAt pre ρ w' f q (dropE id i gv rows).2.1 (dropE id i gv rows).2.2 ∧ Fp (Part ρ pre) w w' := by
  rcases find_at (id := id) (rows := rows) with ⟨h1, h2⟩ | ⟨k, r, h1, h2, h3, h4⟩
  · rw [dropE_none h1]
    refine (flowDrop_none id i w hR h2).mono ?_
    rintro e w' ⟨rfl, hb⟩
    exact ⟨rfl, hR.below hb, Fp.of_below hb⟩
  · subst h3
    rcases placeI_cases i r.its with ⟨hp, hn⟩ | ⟨j, x, hp, hx, rfl, hn⟩
    · rw [dropE_not h1 h4 hn]
      refine (flowDrop_not k r i w hR h2 hi hn).mono ?_
      rintro e w' ⟨rfl, hb⟩
      exact ⟨rfl, hR.below hb, Fp.of_below hb⟩
    · rw [dropE_some h1 h4 hn]
      exact flowDrop_some k r x j w hR h2 hx
theorem drop_tot {id i : Int} : totR (dropE id i gv rows).2.2 ≤ totR rows := by
  rcases find_at (id := id) (rows := rows) with ⟨h1, h2⟩ | ⟨k, r, h1, h2, h3, h4⟩
  · rw [dropE_none h1]
    exact Nat.le_refl _
  · rcases hn : hasIt i r.its with _ | _
    · rw [dropE_not h1 h4 hn]
      exact Nat.le_refl _
    · rw [dropE_some h1 h4 hn]
      have hd : (dropIt r.its i).length ≤ r.its.length := List.length_filter_le _ _
      unfold withR
      split
      · exact tot_erase
      · have := tot_set (y := { r with its := dropIt r.its i }) h2
        simp only at this ⊢
        omega
end
end Go.Proofs.Ytohkchilogmneaa
