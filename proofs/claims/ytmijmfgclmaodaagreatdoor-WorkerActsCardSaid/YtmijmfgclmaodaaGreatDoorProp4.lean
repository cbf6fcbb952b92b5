/-
  prop.Show: the walk.
-/
import Derived.Test.YtmijmfgclmaodaaGreatDoorProp3
namespace Go.Proofs.YtmijmfgclmaodaaGreatDoor
open Go.RowKit

/-- Pairs that are not too long. -/
def Modest (l : List Pr) : Prop := l.length ≤ 1000 ∧ ∀ p ∈ l, p.1.size ≤ 1048576 ∧ p.2.size ≤ 1048576
theorem ba_append (a b : ByteArray) : a ++ b = ba (a.data.toList ++ b.data.toList) := by apply ba_ext; simp [ba_toList]
theorem shown_ba (p : Pr) : p.1 ++ ⟨#[61]⟩ ++ p.2 = ba (shown p) := by
  apply ba_ext
  simp [ba_toList, shown]
theorem join_len_le (c : UInt8) (M : Nat) : ∀ l : List (List UInt8), (∀ x ∈ l, x.length ≤ M) → (Lib.join l [c]).length ≤ l.length * (M + 1)
  | [], _ => by simp [Lib.join, List.intercalate]
  | [x], h => by have := h x (by simp); simp [Lib.join, List.intercalate, List.intersperse]; omega
  | x :: y :: r, h => by
    have ih := join_len_le c M (y :: r) (fun z hz => h z (List.mem_cons_of_mem _ hz))
    have h1 := h x (by simp)
    have e2 : Lib.join (x :: y :: r) [c] = x ++ c :: Lib.join (y :: r) [c] := by simp [Lib.join, List.intercalate, List.intersperse]
    rw [e2]
    simp only [List.length_append, List.length_cons] at ih ⊢
    rw [Nat.add_mul]
    omega
theorem showP_len {l : List Pr} (h : Modest l) : (showP l).length ≤ 2097154000 := by
  have h1 := join_len_le 44 2097153 (l.map shown) (fun x hx => by
    obtain ⟨p, hp, rfl⟩ := List.mem_map.1 hx
    obtain ⟨h1, h2⟩ := h.2 p hp
    have e1 : p.1.data.toList.length = p.1.size := by simp
    have e2 : p.2.data.toList.length = p.2.size := by simp
    simp only [shown, List.length_append, List.length_cons]
    omega)
  have h2 := h.1
  unfold showP
  simp only [List.length_map] at h1
  have : l.length * (2097153 + 1) ≤ 1000 * 2097154 := Nat.mul_le_mul h2 (Nat.le_refl _)
  omega
def showCells (l : List Pr) : List Value := l.map fun p => .string (ba (shown p))
theorem showCells_snoc (l : List Pr) (p : Pr) : showCells (l ++ [p]) = showCells l ++ [.string (p.1 ++ ⟨#[61]⟩ ++ p.2)] := by simp [showCells, shown_ba]
theorem take_snoc_of {l : List Pr} {k : Nat} {p : Pr} (h : l[k]? = some p) : l.take (k + 1) = l.take k ++ [p] := by
  obtain ⟨hk, rfl⟩ := List.getElem?_eq_some_iff.1 h
  exact List.take_succ_eq_append_getElem hk
theorem string_info : (Tryz.prog.info? 9).map (fun i => (i.zero, i.size, i.bytes)) = some (some (.string ⟨#[]⟩), 1, 16) := by kernel_rfl

theorem one_string (s : ByteArray) : ∀ u ∈ (#[Value.string s] : Array Value).toList, u.oneCell' = true := by
  intro u hu
  simp at hu
  subst hu
  rfl
/-- A slice of pairs, in one block from its head on. -/
def PairsAt (w : World) (v : Value) (l : List Pr) : Prop := ∃ a cap, v = .slice a l.length cap ∧ l.length ≤ cap ∧ cap ≤ maxLen ∧ ∀ i u, (flatP l)[i]? = some u → ∃ g, a = some ⟨g, 0, none⟩ ∧ g < w.heap.size ∧ w.cell? ⟨g, i, none⟩ = some u
theorem pairsAt_own {w : World} {base : Nat} {v : Value} {l : List Pr} (h : w.ownsRow base 123 2 v l.length (flatP l)) : PairsAt w v l := by
  obtain ⟨a, cap, rfl, hcap, hmax, hlen, hcell⟩ := own_cells h
  exact ⟨a, cap, rfl, hcap, hmax, fun i u hu => by obtain ⟨g, h1, _, h2, h3, _⟩ := hcell i u hu; exact ⟨g, h1, h2, h3⟩⟩
theorem PairsAt.below {w w' : World} {v : Value} {l : List Pr} (h : PairsAt w v l) (hb : Below w.heap.size w w') : PairsAt w' v l := by
  obtain ⟨a, cap, rfl, hcap, hmax, hcell⟩ := h
  exact ⟨a, cap, rfl, hcap, hmax, fun i u hu => by obtain ⟨g, h1, h2, h3⟩ := hcell i u hu; exact ⟨g, h1, Nat.lt_of_lt_of_le h2 hb.size, cell_below hb h3⟩⟩
def SRel (l : List Pr) (w : World) (v i : Value) (wr : World) : Prop := ∃ k : Nat, i = .int .i64 k ∧ k ≤ l.length ∧ wr.ownsRow w.heap.size 9 1 v k (showCells (l.take k)) ∧ Below w.heap.size w wr

set_option maxRecDepth 100000 in
set_option maxHeartbeats 1000000 in
/-- THE WALK: prop.Show. -/
theorem show_any (v : Value) (l : List Pr) (w : World) (hown : PairsAt w v l) (hm : Modest l) :
    Calls Tryz.prog 103 #[v] w fun e w' => e = .returned (.string (ba (showP l))) ∧ Below w.heap.size w w' := by
  have HM := Lib.hid hm
  have hl1 := hm.1
  obtain ⟨a, cap, rfl, hcap, hmax, hcell⟩ := hown
  have HC := Lib.hid hcell
  clear hm hcell
  go_enter Tryz.func103, Tryz.ntmps103
  go_wp2
  go_loopw [3, 8] (fun v i wr => SRel l w v i wr) (fun _ i _ => l.length - (intOf i).toNat)
  case atStart => exact ⟨0, rfl, Nat.zero_le _, own_nil _ _ _ _, Below.refl _ _⟩
  case round =>
    obtain ⟨k, rfl, hk, hown, hb⟩ := hrel
    have HW := Lib.hid hown
    have HB := Lib.hid hb
    have hszw := hb.size
    clear hown hb
    by_cases hlt : k < l.length
    · obtain ⟨p, hp⟩ : ∃ p, l[k]? = some p := ⟨_, List.getElem?_eq_getElem hlt⟩
      obtain ⟨g, rfl, hgl, c0⟩ := HC.out (k * 2) (.string p.1) (by have := flatP_get 0 hp (by omega); simpa [encP] using this)
      obtain ⟨g', hg', _, c1⟩ := HC.out (k * 2 + 1) (.string p.2) (by have := flatP_get 1 hp (by omega); simpa [encP] using this)
      cases hg'
      have d0 := cell_below HB.out c0
      have d1 := cell_below HB.out c1
      obtain ⟨hs0, hs1⟩ := HM.out.2 p (List.mem_of_getElem? hp)
      have HP := Lib.hid hp
      clear hp c0 c1
      go_wp2_with (at_builtin; refine wpList_append_row rfl _ _ 141 rfl w.heap.size _ 1 16 Tryz.underlying141 string_info rfl (by decide) u3 k (showCells (l.take k)) rfl (HW.out.alloc _) ?c5 rfl ?c1 ?c2 ?c3 ?c4 ?_; (case c5 => simp only [World.size_alloc]; rfl); (case c1 => exact one_string _); (case c2 => rw [World.size_alloc]; omega); (case c3 => omega); (case c4 => omega); intro v' w4 hown4 hg4 _)
      have HN := Lib.hid (show w4.ownsRow w.heap.size 9 1 v' (k + 1) (showCells (l.take (k + 1))) by rw [take_snoc_of HP.out, showCells_snoc]; exact hown4)
      have HB4 := Lib.hid (show Below w.heap.size w w4 from (HB.out.alloc hszw _).grown hg4 (by rw [World.size_alloc]; omega) (fun j hj => own_block HW.out j hj))
      clear hown4 hg4
      go_roundw
      case rel => exact ⟨k + 1, by go_num, by omega, HN.out, HB4.out⟩
      case measure => simp [intOf]; omega
    · have hkl : k = l.length := by omega
      subst hkl
      have hw2 := HW.out
      rw [List.take_length] at hw2
      obtain ⟨a2, cap2, rfl, hcap2, hmax2, _, hcell2⟩ := own_cells hw2
      have HC2 := Lib.hid hcell2
      clear hw2 hcell2 HW
      by_cases h0 : l.length = 0
      · have hl : l = [] := List.length_eq_zero_iff.1 h0
        subst hl
        go_wp2_with fail
        refine (join_none _ _ _ _).mono ?_
        rintro e w5 ⟨rfl, rfl⟩
        go_wp2
        go_ret
        exact ⟨rfl, HB.out⟩
      · have HS := Lib.hid (showP_len HM.out)
        obtain ⟨p, hp⟩ : ∃ p, l[0]? = some p := ⟨_, List.getElem?_eq_getElem (by omega)⟩
        obtain ⟨g, rfl, hg, hgl, _, _⟩ := HC2.out 0 (.string (ba (shown p))) (by simp [showCells, hp])
        clear hp
        go_wp2_with fail
        have hj := join_any g 0 cap2 (l.map fun p => ba (shown p)) ⟨#[44]⟩ wr (fun j x hx => by
          obtain ⟨q, hq, rfl⟩ : ∃ q, l[j]? = some q ∧ ba (shown q) = x := by
            rw [List.getElem?_map] at hx
            cases hq : l[j]? with
            | none => rw [hq] at hx; cases hx
            | some q => rw [hq] at hx; exact ⟨q, rfl, Option.some.inj hx⟩
          obtain ⟨g', hg', _, _, hc, _⟩ := HC2.out j (.string (ba (shown q))) (by simp [showCells, hq])
          cases hg'
          rw [Nat.zero_add]; exact hc) hgl (by simp; omega) (by simp; omega) (by
          have := HS.out
          rw [List.map_map]
          have e1 : ((fun x : ByteArray => x.data.toList) ∘ fun p : Pr => ba (shown p)) = shown := by funext q; simp [ba_toList]
          rw [e1]
          show (showP l).length ≤ _
          omega)
        rw [List.map_map, show ((fun x : ByteArray => x.data.toList) ∘ fun p : Pr => ba (shown p)) = shown from by funext q; simp [ba_toList], List.length_map] at hj
        refine hj.mono ?_
        rintro e w5 ⟨rfl, hb5⟩
        go_wp2
        go_ret
        exact ⟨rfl, HB.out.trans (hb5.mono hszw)⟩
end Go.Proofs.YtmijmfgclmaodaaGreatDoor
