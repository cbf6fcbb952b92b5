/-
  Two tenants treated alike: the looks at a share.
-/
import Derived.Test.YtohkchilogmneaaFairT3
import Derived.Test.YtohkchilogmneaaSAdd
import Derived.Test.YtohkchilogmneaaSAll
namespace Go.Proofs.Ytohkchilogmneaa

theorem lenF_has {ws : Int → Int} {q C i : Int} {gv : Bool} : ∀ {rows : List FRow}, FOk ws q C gv rows → ((0 : Int) < lenF i rows ↔ hasF i rows) := by
  intro rows h
  have key : ∀ l : List FRow, (∀ r ∈ l, r.its ≠ []) → ((0 : Int) < lenF i l ↔ hasF i l) := by
    intro l
    induction l with
    | nil => intro _; simp [lenF, atF, hasF]
    | cons y l ih =>
      intro hl
      have ih := ih (fun r hr => hl r (List.mem_cons_of_mem _ hr))
      have hy := List.length_pos_iff.2 (hl y List.mem_cons_self)
      unfold lenF at ih ⊢
      rw [atF_cons, hasF_cons]
      by_cases e : y.id = i
      · rw [if_pos e]
        simp only [e, true_or, iff_true]
        omega
      · rw [if_neg e]
        simp only [e, false_or]
        exact ih
  exact key rows (fun r hr => (h.low r hr).2)
/-- A look, and the share as it was. -/
abbrev GstT := Lt × Bool × List TRow
def projO (g : GstT) : Gst := (⟨fun u => g.1.t u 3, fun u => g.1.d u 3, fun u => if u = 3 then false else g.1.b u 3⟩, g.2.1, g.2.2.map fl)
def projI (u : Int) (g : GstT) : Gst := (⟨g.1.t u, g.1.d u, fun i => if i = 3 then false else g.1.b u i⟩, (inT u g.2.2).1, (inT u g.2.2).2)
structure LooksT (ws : Int → Int) (wi : Int → Int → Int) (q C : Int) (gs : List GstT) : Prop where
  out : LooksOk ws q C (gs.map projO)
  inn : ∀ u : Nat, u < 3 → LooksOk (wi u) q C (gs.map (projI u))
  ok : ∀ g ∈ gs, TOk ws wi q C g.2.1 g.2.2
section
variable {ws : Int → Int} {wi : Int → Int → Int} {q C C' : Int} {gv gv' : Bool} {rows rows' : List TRow} {t d t' d' : Int → Int → Int} {b b' : Int → Int → Bool} {gs : List GstT}
theorem lenT_in (u i : Int) (rows : List TRow) : lenT u i rows = lenF i (inT u rows).2 := by
  unfold lenT inT
  cases rows.find? (fun r => r.id == u) with
  | none => rfl
  | some x => rfl
theorem len_has (h : TOk ws wi q C gv rows) (u i : Int) : (0 : Int) < lenT u i rows ↔ hasF i (inT u rows).2 := by
  rw [lenT_in]
  exact lenF_has (h.inner u)
theorem has_any (h : TOk ws wi q C gv rows) (u : Int) : anyT rows u 3 = true ↔ hasF u (rows.map fl) := by
  have e : anyT rows u 3 = true ↔ ∃ i : Nat, i < 3 ∧ hasF i (inT u rows).2 := by
    unfold anyT
    rw [List.any_eq_true]
    constructor
    · rintro ⟨i, hi, hd⟩
      exact ⟨i, List.mem_range.1 hi, (len_has h u i).1 (of_decide_eq_true hd)⟩
    · rintro ⟨i, hi, hd⟩
      exact ⟨i, List.mem_range.2 hi, decide_eq_true ((len_has h u i).2 hd)⟩
  rw [e, hasF_fl]
  constructor
  · rintro ⟨i, hi, hh⟩
    refine Classical.byContradiction fun hn => ?_
    rw [inT_none (fun x hx e => hn ⟨x, hx, e⟩)] at hh
    obtain ⟨r, hr, _⟩ := hh
    cases hr
  · rintro ⟨x, hx, rfl⟩
    obtain ⟨k, hk⟩ := List.getElem?_of_mem hx
    rw [inT_at h.once hk]
    have hne := (h.inn x hx).2
    have hids := (h.ids x hx).2
    cases hr : x.rows with
    | nil => exact absurd hr hne
    | cons r l =>
      have hid := hids r (by rw [hr]; exact List.mem_cons_self)
      refine ⟨r.id.toNat, by omega, r, List.mem_cons_self, by omega⟩
theorem proj_bO (h : TOk ws wi q C gv rows) (hb : ∀ u : Nat, u < 3 → RowB rows b u) : ∀ i, In4 i → ((if i = 3 then false else b i 3) = true ↔ hasF i (rows.map fl)) := by
  intro i hi
  by_cases e : i = 3
  · rw [if_pos e]
    constructor
    · intro h0
      cases h0
    · intro h0
      rw [hasF_fl] at h0
      obtain ⟨x, hx, e2⟩ := h0
      have := (h.ids x hx).1
      omega
  · rw [if_neg e]
    have hu : i.toNat < 3 := by have := hi.1; have := hi.2; omega
    have hc : ((i.toNat : Nat) : Int) = i := by have := hi.1; omega
    have h1 := (hb i.toNat hu).2
    rw [hc] at h1
    rw [h1]
    exact has_any h i
theorem proj_bI (h : TOk ws wi q C gv rows) (hb : ∀ u : Nat, u < 3 → RowB rows b u) (u : Nat) (hu : u < 3) : ∀ i, In4 i → ((if i = 3 then false else b u i) = true ↔ hasF i (inT u rows).2) := by
  intro i hi
  by_cases e : i = 3
  · rw [if_pos e, e]
    constructor
    · intro h0
      cases h0
    · intro h0
      exact absurd h0 (no3 h u)
  · rw [if_neg e]
    have hi3 : i.toNat < 3 := by have := hi.1; have := hi.2; omega
    have hc : ((i.toNat : Nat) : Int) = i := by have := hi.1; omega
    have h1 := (hb u hu).1 i.toNat hi3
    rw [hc] at h1
    rw [h1, decide_eq_true_iff]
    exact len_has h u i
theorem LooksT.snoc (h : LooksT ws wi q C gs) (hl : gs[gs.length - 1]? = some (⟨t, d, b⟩, gv, rows)) (hm : MidT ws wi q t d gv rows C t' d' gv' rows' C') (hb : ∀ u : Nat, u < 3 → RowB rows' b' u) :
    LooksT ws wi q C' (gs ++ [(⟨t', d', b'⟩, gv', rows')]) := by
  have hlen : ∀ f : GstT → Gst, (gs.map f)[(gs.map f).length - 1]? = some (f (⟨t, d, b⟩, gv, rows)) := fun f => by
    rw [List.length_map, List.getElem?_map, hl]
    rfl
  refine ⟨?_, fun u hu => ?_, fun g hg => ?_⟩
  · rw [List.map_append]
    exact h.out.snoc (hlen projO) hm.out (proj_bO hm.ok hb)
  · rw [List.map_append]
    exact (h.inn u hu).snoc (hlen (projI u)) (hm.inn u) (proj_bI hm.ok hb u hu)
  · rcases List.mem_append.1 hg with hg | hg
    · exact (h.ok g hg).more hm.out.grow
    · rw [List.mem_singleton] at hg
      subst hg
      exact hm.ok
theorem looksT_one : LooksT ws wi q 1 [(lt0, false, [])] := by
  have h : LooksOk ws q 1 [projO (lt0, false, [])] := by
    have := looks_one (ws := ws) (q := q)
    have e : projO (lt0, false, []) = (⟨fun _ => 0, fun _ => 0, fun _ => false⟩, false, []) := by
      unfold projO lt0
      simp
    rw [e]
    exact this
  refine ⟨h, fun u _ => ?_, fun g hg => ?_⟩
  · have := looks_one (ws := wi u) (q := q)
    have e : projI u (lt0, false, []) = (⟨fun _ => 0, fun _ => 0, fun _ => false⟩, false, []) := by
      unfold projI lt0
      rw [inT_none (fun x hx => by cases hx)]
      simp
    show LooksOk (wi u) q 1 [projI u (lt0, false, [])]
    rw [e]
    exact this
  · rw [List.mem_singleton] at hg
    subst hg
    exact ⟨fok_nil, (fun x hx => by cases hx), (fun x hx => by cases hx)⟩
theorem allT_of {w3 : Int → Int → Int} (h : LooksT (fun u => w3 u 3) w3 q C gs) (hlen : gs.length ≤ 151) (hq : 0 ≤ q) (hw : ∀ u i, 1 ≤ w3 u i) : AllT w3 q C (gs.map Prod.fst) := by
  refine ⟨fun t u hut ht k a last hlast ha hall => ?_, fun t i j ht hji hi k a last hlast ha hall => ?_⟩
  · rw [List.length_map] at hlast
    rw [List.getElem?_map] at hlast ha
    obtain ⟨gl, hgl, rfl⟩ := Option.map_eq_some_iff.1 hlast
    obtain ⟨ga, hga, rfl⟩ := Option.map_eq_some_iff.1 ha
    have hk : k < gs.length := (List.getElem?_eq_some_iff.1 hga).1
    have := looks_fair h.out (by rw [List.length_map]; exact hlen) hq (fun i => hw i 3) (i := t) (j := u) (by omega) ⟨by omega, by omega⟩ ⟨by omega, by omega⟩ (a := projO ga) (last := projO gl) (k := k) (n := gs.length - 1 - k) (by rw [List.getElem?_map, hga]; rfl) (by rw [show k + (gs.length - 1 - k) = gs.length - 1 by omega, List.getElem?_map, hgl]; rfl) (fun m g hm1 _ hg => by
      rw [List.getElem?_map] at hg
      obtain ⟨g', hg', rfl⟩ := Option.map_eq_some_iff.1 hg
      obtain ⟨h1, h2, h3, h4⟩ := hall m g'.1 hm1 (by rw [List.getElem?_map, hg']; rfl)
      exact ⟨by show (if (t : Int) = 3 then false else _) = true; rw [if_neg (by omega)]; exact h1, by show (if (u : Int) = 3 then false else _) = true; rw [if_neg (by omega)]; exact h2, h3, h4⟩)
    exact this
  · rw [List.length_map] at hlast
    rw [List.getElem?_map] at hlast ha
    obtain ⟨gl, hgl, rfl⟩ := Option.map_eq_some_iff.1 hlast
    obtain ⟨ga, hga, rfl⟩ := Option.map_eq_some_iff.1 ha
    have hk : k < gs.length := (List.getElem?_eq_some_iff.1 hga).1
    have := looks_fair (h.inn t ht) (by rw [List.length_map]; exact hlen) hq (fun i => hw t i) (i := i) (j := j) (by omega) ⟨by omega, by omega⟩ ⟨by omega, by omega⟩ (a := projI t ga) (last := projI t gl) (k := k) (n := gs.length - 1 - k) (by rw [List.getElem?_map, hga]; rfl) (by rw [show k + (gs.length - 1 - k) = gs.length - 1 by omega, List.getElem?_map, hgl]; rfl) (fun m g hm1 _ hg => by
      rw [List.getElem?_map] at hg
      obtain ⟨g', hg', rfl⟩ := Option.map_eq_some_iff.1 hg
      obtain ⟨h1, h2, h3, h4⟩ := hall m g'.1 hm1 (by rw [List.getElem?_map, hg']; rfl)
      exact ⟨by show (if (i : Int) = 3 then false else _) = true; rw [if_neg (by omega)]; exact h1, by show (if (j : Int) = 3 then false else _) = true; rw [if_neg (by omega)]; exact h2, h3, h4⟩)
    exact this
end
end Go.Proofs.Ytohkchilogmneaa
