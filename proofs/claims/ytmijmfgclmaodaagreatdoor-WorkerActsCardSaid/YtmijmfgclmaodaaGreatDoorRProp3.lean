/-
  billetref04.Show and least: the walks.
-/
import Derived.Test.YtmijmfgclmaodaaGreatDoorRProp2
import Derived.Deep.QuietTactic
import Derived.BigQuiet
import Derived.WalkLawsBesides
namespace Go.Proofs.YtmijmfgclmaodaaGreatDoor
open Go.RowKit

theorem below_drewN {B : Nat} {w w' : World} (h : Below B w w') (n : Nat) : Below B w (w'.drewN n) := ⟨h.os, h.tape, h.output, h.size, h.block⟩
theorem join_snoc (c : UInt8) (x : List UInt8) : ∀ l : List (List UInt8), l ≠ [] → Lib.join (l ++ [x]) [c] = Lib.join l [c] ++ c :: x
  | [], h => absurd rfl h
  | [y], _ => by simp [Lib.join, List.intercalate, List.intersperse]
  | y :: z :: r, _ => by
    have ih := join_snoc c x (z :: r) (by simp)
    have e1 : Lib.join (y :: z :: r) [c] = y ++ c :: Lib.join (z :: r) [c] := by simp [Lib.join, List.intercalate, List.intersperse]
    have e2 : Lib.join (y :: z :: (r ++ [x])) [c] = y ++ c :: Lib.join (z :: (r ++ [x])) [c] := by simp [Lib.join, List.intercalate, List.intersperse]
    rw [e1, List.cons_append, List.cons_append, e2]
    rw [List.cons_append] at ih
    rw [ih]
    simp
theorem showP_one (p : Pr) : showP [p] = shown p := by simp [showP, Lib.join, List.intercalate]
theorem showP_snoc {l : List Pr} (p : Pr) (h : l ≠ []) : showP (l ++ [p]) = showP l ++ 44 :: shown p := by
  unfold showP
  rw [List.map_append, List.map_singleton, join_snoc _ _ _ (by simpa using h)]
theorem take_ne {l : List Pr} {k : Nat} (h : 0 < k) (hk : k < l.length) : l.take k ≠ [] := by
  intro e
  have h2 : (l.take k).length = 0 := by rw [e]; rfl
  rw [List.length_take] at h2
  omega
theorem modest_take {l : List Pr} (h : Modest l) (k : Nat) : Modest (l.take k) := ⟨by rw [List.length_take]; have := h.1; omega, fun p hp => h.2 p (List.mem_of_mem_take hp)⟩

set_option maxRecDepth 100000 in
set_option maxHeartbeats 1000000 in
/-- THE WALK: billetref04.Show. -/
theorem rshow_any (v : Value) (l : List Pr) (w : World) (hA : PairsAt w v l) (hm : Modest l) :
    Calls Tryz.prog 88 #[v] w fun e w' => e = .returned (.string (ba (showP l))) ∧ Below w.heap.size w w' := by
  have HM := Lib.hid hm
  have hl1 := hm.1
  obtain ⟨a, cap, rfl, hcap, hmax, hcell⟩ := hA
  have HC := Lib.hid hcell
  clear hm hcell
  go_enter Tryz.func88, Tryz.ntmps88
  go_wp2
  go_loopw [3, 4] (fun v i wr => ∃ k : Nat, v = .string (ba (showP (l.take k))) ∧ i = .int .i64 k ∧ k ≤ l.length ∧ Below w.heap.size w wr) (fun _ i _ => l.length - (intOf i).toNat)
  case atStart => exact ⟨0, rfl, rfl, Nat.zero_le _, Below.refl _ _⟩
  case round =>
    obtain ⟨k, rfl, rfl, hk, hb⟩ := hrel
    have HB := Lib.hid hb
    have hszw := hb.size
    clear hb
    by_cases hlt : k < l.length
    · obtain ⟨p, hp⟩ : ∃ p, l[k]? = some p := ⟨_, List.getElem?_eq_getElem hlt⟩
      obtain ⟨g, rfl, hgl, c0⟩ := HC.out (k * 2) (.string p.1) (by have := flatP_get 0 hp (by omega); simpa [encP] using this)
      obtain ⟨g', hg', _, c1⟩ := HC.out (k * 2 + 1) (.string p.2) (by have := flatP_get 1 hp (by omega); simpa [encP] using this)
      cases hg'
      have d0 := cell_below HB.out c0
      have d1 := cell_below HB.out c1
      obtain ⟨hs0, hs1⟩ := HM.out.2 p (List.mem_of_getElem? hp)
      have hsz : (ba (showP (l.take k))).size ≤ 2097154000 := by rw [ba_size]; exact showP_len (modest_take HM.out k)
      have HP := Lib.hid hp
      clear hp c0 c1
      have hk1 : (k : Int) < l.length := by omega
      have hk0 : (0 : Int) ≤ k := by omega
      rcases Nat.eq_zero_or_pos k with h0 | h0
      · have hkz : ¬ 0 < k := by omega
        have HN := Lib.hid (show ba (showP (l.take k)) ++ p.1 ++ ⟨#[61]⟩ ++ p.2 = ba (showP (l.take (k + 1))) by
          rw [take_snoc_of HP.out, h0]
          apply ba_ext
          simp [ba_toList, shown, showP, Lib.join, List.intercalate])
        clear h0
        go_wp2_with fail
        go_quiet (fail)
        go_wp2
        go_roundw
        case rel => exact ⟨k + 1, by rw [HN.out], by go_num, by omega, below_drewN HB.out _⟩
        case measure => simp [intOf]; omega
      · have hkz : 0 < k := h0
        have HN := Lib.hid (show ba (showP (l.take k)) ++ ⟨#[44]⟩ ++ p.1 ++ ⟨#[61]⟩ ++ p.2 = ba (showP (l.take (k + 1))) by
          rw [take_snoc_of HP.out, showP_snoc p (take_ne h0 hlt)]
          apply ba_ext
          simp [ba_toList, shown])
        clear h0
        go_wp2_with fail
        go_quiet (fail)
        go_wp2
        go_roundw
        case rel => exact ⟨k + 1, by rw [HN.out], by go_num, by omega, below_drewN HB.out _⟩
        case measure => simp [intOf]; omega
    · have hkl : k = l.length := by omega
      subst hkl
      have HT := Lib.hid (List.take_length (l := l))
      go_wp2
      go_ret
      rw [HT.out]
      exact ⟨rfl, HB.out⟩

/-! ### The least key -/
theorem less_cmp : ∀ a b : List UInt8, Op.bytesLess a b = decide (Lib.compareBytes a b < 0)
  | [], [] => rfl
  | [], _ :: _ => rfl
  | _ :: _, [] => rfl
  | x :: r, y :: t => by
    rw [Op.bytesLess, Lib.compareBytes, less_cmp r t]
    by_cases h : x < y
    · simp [h]
    · by_cases h2 : y < x
      · have hne : (x == y) = false := by
          rw [beq_eq_false_iff_ne]
          rintro rfl
          exact h h2
        simp [h, h2, hne]
      · have he : x = y := by
          rw [UInt8.lt_iff_toNat_lt] at h h2
          exact UInt8.toNat_inj.1 (by omega)
        subst he
        simp [h]
theorem less_kLt (p q : Pr) : Op.bytesLess p.1.toList q.1.toList = kLt p q := by
  rw [ByteArray.toList_eq, ByteArray.toList_eq, less_cmp]
  rfl
def LeastPost (l : List Pr) (w : World) (e : Ending) (w' : World) : Prop := ∃ (a : Nat) (q : Pr), e = .returned (.int .i64 a) ∧ l[a]? = some q ∧ (∀ p ∈ l, kLt p q = false) ∧ Below w.heap.size w w'
def LeastRel (l : List Pr) (w : World) (v i : Value) (wr : World) : Prop := ∃ (a k : Nat) (q : Pr), v = .int .i64 a ∧ i = .int .i64 k ∧ 1 ≤ k ∧ k ≤ l.length ∧ l[a]? = some q ∧ (∀ p ∈ l.take k, kLt p q = false) ∧ Below w.heap.size w wr

set_option maxRecDepth 100000 in
set_option maxHeartbeats 1000000 in
/-- THE WALK: billetref04.least. -/
theorem least_any (v : Value) (l : List Pr) (w : World) (hA : PairsAt w v l) (h1 : 1 ≤ l.length) (hl1 : l.length ≤ 1000) : Calls Tryz.prog 87 #[v] w (LeastPost l w) := by
  obtain ⟨a, cap, rfl, hcap, hmax, hcell⟩ := hA
  have HC := Lib.hid hcell
  clear hcell
  go_enter Tryz.func87, Tryz.ntmps87
  go_wp2
  go_loopw [3, 4] (fun v i wr => LeastRel l w v i wr) (fun _ i _ => l.length - (intOf i).toNat)
  case atStart =>
    obtain ⟨q, hq⟩ : ∃ q, l[0]? = some q := ⟨_, List.getElem?_eq_getElem (by omega)⟩
    refine ⟨0, 1, q, rfl, rfl, Nat.le_refl _, h1, hq, fun p hp => ?_, Below.refl _ _⟩
    rw [take_snoc_of (k := 0) hq] at hp
    simp at hp
    subst hp
    exact kLt_irrefl _
  case round =>
    obtain ⟨b, k, q, rfl, rfl, hk0, hk, hq, hmin, hb⟩ := hrel
    have HB := Lib.hid hb
    have HM := Lib.hid hmin
    have hszw := hb.size
    clear hb hmin
    by_cases hlt : k < l.length
    · obtain ⟨p, hp⟩ : ∃ p, l[k]? = some p := ⟨_, List.getElem?_eq_getElem hlt⟩
      have hbl : b < l.length := (List.getElem?_eq_some_iff.1 hq).1
      obtain ⟨g, rfl, hgl, c0⟩ := HC.out (k * 2) (.string p.1) (by have := flatP_get 0 hp (by omega); simpa [encP] using this)
      obtain ⟨g', hg', _, c1⟩ := HC.out (b * 2) (.string q.1) (by have := flatP_get 0 hq (by omega); simpa [encP] using this)
      cases hg'
      have d0 := cell_below HB.out c0
      have d1 := cell_below HB.out c1
      have HP := Lib.hid hp
      have HQ := Lib.hid hq
      clear hp hq c0 c1
      have e1 : (k : Int) < l.length := by omega
      have e0 : (0 : Int) ≤ k := by omega
      have e3 : (b : Int) < l.length := by omega
      have e2 : (0 : Int) ≤ b := by omega
      rcases hh : kLt p q with _ | _
      · have HN := Lib.hid (show ∀ x ∈ l.take (k + 1), kLt x q = false by
          intro x hx
          rw [take_snoc_of HP.out, List.mem_append, List.mem_singleton] at hx
          rcases hx with hx | rfl
          · exact HM.out x hx
          · exact hh)
        have hbs : Op.bytesLess p.1.toList q.1.toList = false := by rw [less_kLt]; exact hh
        clear hh
        go_wp2_with fail
        go_quiet (fail)
        go_wp2
        go_roundw
        case rel => exact ⟨b, k + 1, q, rfl, by go_num, by omega, by omega, HQ.out, HN.out, below_drewN HB.out _⟩
        case measure => simp [intOf]; omega
      · have HN := Lib.hid (show ∀ x ∈ l.take (k + 1), kLt x p = false by
          intro x hx
          rw [take_snoc_of HP.out, List.mem_append, List.mem_singleton] at hx
          rcases hx with hx | rfl
          · exact kLt_ntrans (HM.out x hx) (kLt_asymm hh)
          · exact kLt_irrefl _)
        have hbs : Op.bytesLess p.1.toList q.1.toList = true := by rw [less_kLt]; exact hh
        clear hh
        go_wp2_with fail
        go_quiet (fail)
        go_wp2
        go_roundw
        case rel => exact ⟨k, k + 1, p, rfl, by go_num, by omega, by omega, HP.out, HN.out, below_drewN HB.out _⟩
        case measure => simp [intOf]; omega
    · have HN := Lib.hid (show ∀ p ∈ l, kLt p q = false by
        have h := HM.out
        rwa [List.take_of_length_le (by omega)] at h)
      have HQ := Lib.hid hq
      clear hq
      go_wp2
      go_ret
      exact ⟨b, q, rfl, HQ.out, HN.out, HB.out⟩
end Go.Proofs.YtmijmfgclmaodaaGreatDoor
