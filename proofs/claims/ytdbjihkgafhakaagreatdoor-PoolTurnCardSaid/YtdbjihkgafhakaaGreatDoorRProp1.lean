/-
  billetref04.Split: the walk.
-/
import Derived.Test.YtdbjihkgafhakaaGreatDoorProp5
namespace Go.Proofs.YtdbjihkgafhakaaGreatDoor
open Go.RowKit

/-- A list of texts in memory of the call's own. -/
def GivesTexts (l : List (List UInt8)) (w : World) (e : Ending) (w' : World) : Prop :=
  ∃ v, e = .returned v ∧ w'.ownsRow w.heap.size 9 1 v l.length (l.map fun p => Value.string (ba p)) ∧ Below w.heap.size w w'
/-- The loop: pieces that are made; where the next one begins; how far it is looked. -/
def SplitSt (c : UInt8) (l : List UInt8) (ps : List (List UInt8)) (a i : Nat) : Prop :=
  (i ≤ l.length ∧ a ≤ i ∧ c ∉ (l.drop a).take (i - a) ∧ splitL c l = ps ++ splitL c (l.drop a)) ∨ (i = l.length + 1 ∧ splitL c l = ps)
theorem split_start (c : UInt8) (l : List UInt8) : SplitSt c l [] 0 0 := .inl ⟨Nat.zero_le _, Nat.le_refl _, by simp, rfl⟩
theorem split_end {c : UInt8} {l : List UInt8} {ps : List (List UInt8)} {a : Nat} (h : SplitSt c l ps a l.length) : SplitSt c l (ps ++ [(l.drop a).take (l.length - a)]) (l.length + 1) (l.length + 1) := by
  rcases h with ⟨_, h1, h2, h3⟩ | ⟨h1, _⟩
  · have e : (l.drop a).take (l.length - a) = l.drop a := List.take_of_length_le (by simp)
    rw [e] at h2 ⊢
    exact .inr ⟨rfl, by rw [h3, splitL_none h2]⟩
  · omega
theorem split_hit {c : UInt8} {l : List UInt8} {ps : List (List UInt8)} {a i : Nat} (h : SplitSt c l ps a i) (hi : i < l.length) (hc : l[i] = c) : SplitSt c l (ps ++ [(l.drop a).take (i - a)]) (i + 1) (i + 1) := by
  rcases h with ⟨_, h1, h2, h3⟩ | ⟨h1, _⟩
  · refine .inl ⟨by omega, Nat.le_refl _, by simp, ?_⟩
    have e : l.drop a = (l.drop a).take (i - a) ++ c :: l.drop (i + 1) := by
      conv => lhs; rw [← List.take_append_drop (i - a) (l.drop a)]
      rw [List.drop_drop, show a + (i - a) = i by omega, List.drop_eq_getElem_cons hi, hc]
    rw [h3]
    conv => lhs; rw [e]
    rw [splitL_app h2]
    simp
  · omega
theorem split_miss {c : UInt8} {l : List UInt8} {ps : List (List UInt8)} {a i : Nat} (h : SplitSt c l ps a i) (hi : i < l.length) (hc : l[i] ≠ c) : SplitSt c l ps a (i + 1) := by
  rcases h with ⟨_, h1, h2, h3⟩ | ⟨h1, _⟩
  · refine .inl ⟨by omega, by omega, ?_, h3⟩
    rw [show i + 1 - a = (i - a) + 1 by omega, List.take_succ_eq_append_getElem (by simp; omega)]
    simp only [List.mem_append, List.mem_singleton, not_or]
    refine ⟨h2, fun e => hc ?_⟩
    rw [e]
    simp only [List.getElem_drop]
    congr 1
    omega
  · omega
theorem split_done {c : UInt8} {l : List UInt8} {ps : List (List UInt8)} {a i : Nat} (h : SplitSt c l ps a i) (hi : l.length < i) : splitL c l = ps := by
  rcases h with ⟨h1, _⟩ | ⟨_, h2⟩
  · omega
  · exact h2
theorem split_le {c : UInt8} {l : List UInt8} {ps : List (List UInt8)} {a i : Nat} (h : SplitSt c l ps a i) : ps.length ≤ l.length + 1 := by
  have := splitL_le c l
  rcases h with ⟨_, _, _, h2⟩ | ⟨_, h2⟩
  · rw [h2] at this; simp at this; omega
  · rw [h2] at this; exact this
theorem split_from {c : UInt8} {l : List UInt8} {ps : List (List UInt8)} {a i : Nat} (h : SplitSt c l ps a i) (hi : i ≤ l.length) : a ≤ i := by
  rcases h with ⟨_, h1, _⟩ | ⟨h1, _⟩
  · exact h1
  · omega
theorem extract_ba (s : ByteArray) (a i : Nat) : s.extract a i = ba ((s.data.toList.drop a).take (i - a)) := by
  apply ba_ext
  rw [Lib.extract_data, ba_toList]

def SplitRel (c : UInt8) (s : ByteArray) (w : World) (v a i : Value) (wr : World) : Prop := ∃ (ps : List (List UInt8)) (f k : Nat), a = .int .i64 f ∧ i = .int .i64 k ∧ k ≤ s.size + 1 ∧ f ≤ s.size + 1 ∧ SplitSt c s.data.toList ps f k ∧
  wr.ownsRow w.heap.size 9 1 v ps.length (ps.map fun p => Value.string (ba p)) ∧ Below w.heap.size w wr

set_option maxRecDepth 100000 in
set_option maxHeartbeats 1000000 in
/-- THE WALK: billetref04.Split. -/
theorem rsplit_any (s : ByteArray) (c : UInt8) (cI : Int) (hcI : cI = (c.toNat : Int)) (w : World) (hs : s.size ≤ 1048576) :
    Calls Tryz.prog 69 #[.string s, .int .u8 cI] w (GivesTexts (splitL c s.data.toList) w) := by
  have HC := Lib.hid hcI
  have HL := Lib.hid (show s.data.toList.length = s.size by simp)
  clear hcI
  go_enter Tryz.func69, Tryz.ntmps69
  go_wp2
  go_loopw [5, 6, 7] (fun v a i wr => SplitRel c s w v a i wr) (fun _ _ i _ => s.size + 1 - (intOf i).toNat)
  case atStart => exact ⟨[], 0, 0, rfl, rfl, Nat.zero_le _, Nat.zero_le _, split_start _ _, own_empty (Nat.le_refl _), box_below⟩
  case round =>
    obtain ⟨ps, f, k, rfl, rfl, hk, hf, hst, hown, hb⟩ := hrel
    have HS := Lib.hid hst
    have HO := Lib.hid hown
    have HB := Lib.hid hb
    have hszw := hb.size
    have hpl : ps.length ≤ 1048577 := by have := split_le hst; rw [HL.out] at this; omega
    clear hst hown hb
    by_cases hlt : k < s.size
    · have hfk : f ≤ k := by have := split_from HS.out (by rw [HL.out]; omega); omega
      have hkl : k < s.data.toList.length := by rw [HL.out]; exact hlt
      by_cases hc : s.data.toList[k] = c
      · have HN := Lib.hid (split_hit HS.out hkl hc)
        have hb1 : (((s[k].toNat : Nat) : Int) == cI) = true := by rw [HC.out, beq_iff_eq, ← hc]; rfl
        clear hc
        have hks : k ≤ s.size := by omega
        have hkn : ((k : Int) == (s.size : Int)) = false := by rw [beq_eq_false_iff_ne]; omega
        go_wp2_with (at_builtin; refine wpList_append_row rfl _ _ 151 rfl w.heap.size _ 1 16 Tryz.underlying151 string_info rfl (by decide) u5 ps.length (ps.map fun p => Value.string (ba p)) rfl HO.out rfl rfl ?c1 ?c2 ?c3 ?c4 ?_; (case c1 => exact one_string _); (case c2 => omega); (case c3 => omega); (case c4 => omega); intro v' w4 hown4 hg4 _)
        have HO4 := Lib.hid (show w4.ownsRow w.heap.size 9 1 v' (ps ++ [(s.data.toList.drop f).take (k - f)]).length ((ps ++ [(s.data.toList.drop f).take (k - f)]).map fun p => Value.string (ba p)) by
          rw [List.map_append, List.length_append, List.map_singleton, ← extract_ba]; exact hown4)
        have HB4 := Lib.hid (show Below w.heap.size w w4 from HB.out.grown hg4 hszw (fun j hj => own_block HO.out j hj))
        clear hown4 hg4
        go_wp2
        go_roundw
        case rel => exact ⟨_, k + 1, k + 1, by go_num, by go_num, by omega, by omega, HN.out, HO4.out, HB4.out⟩
        case measure => simp [intOf]; omega
      · have HN := Lib.hid (split_miss HS.out hkl hc)
        have hb1 : (((s[k].toNat : Nat) : Int) == cI) = false := by
          rw [HC.out, beq_eq_false_iff_ne]
          intro e
          apply hc
          exact UInt8.toNat_inj.1 (Int.ofNat_inj.1 e)
        clear hc
        have hkn : ((k : Int) == (s.size : Int)) = false := by rw [beq_eq_false_iff_ne]; omega
        go_wp2
        go_roundw
        case rel => exact ⟨ps, f, k + 1, rfl, by go_num, by omega, hf, HN.out, HO.out, HB.out⟩
        case measure => simp [intOf]; omega
    · by_cases hke : k = s.size
      · subst hke
        have hfk : f ≤ s.size := by have := split_from HS.out (by rw [HL.out]; omega); omega
        have HN := Lib.hid (show SplitSt c s.data.toList (ps ++ [(s.data.toList.drop f).take (s.size - f)]) (s.size + 1) (s.size + 1) by
          have h := HS.out
          rw [← HL.out] at h ⊢
          exact split_end h)
        go_wp2_with (at_builtin; refine wpList_append_row rfl _ _ 151 rfl w.heap.size _ 1 16 Tryz.underlying151 string_info rfl (by decide) u5 ps.length (ps.map fun p => Value.string (ba p)) rfl HO.out rfl rfl ?c1 ?c2 ?c3 ?c4 ?_; (case c1 => exact one_string _); (case c2 => omega); (case c3 => omega); (case c4 => omega); intro v' w4 hown4 hg4 _)
        have HO4 := Lib.hid (show w4.ownsRow w.heap.size 9 1 v' (ps ++ [(s.data.toList.drop f).take (s.size - f)]).length ((ps ++ [(s.data.toList.drop f).take (s.size - f)]).map fun p => Value.string (ba p)) by
          rw [List.map_append, List.length_append, List.map_singleton, ← extract_ba]; exact hown4)
        have HB4 := Lib.hid (show Below w.heap.size w w4 from HB.out.grown hg4 hszw (fun j hj => own_block HO.out j hj))
        clear hown4 hg4
        go_wp2
        go_roundw
        case rel => exact ⟨_, s.size + 1, s.size + 1, by go_num, by go_num, by omega, by omega, HN.out, HO4.out, HB4.out⟩
        case measure => simp [intOf]
      · have hge : s.size < k := by omega
        have HD := Lib.hid (split_done HS.out (by rw [HL.out]; exact hge))
        go_wp2
        go_ret
        rw [HD.out]
        exact ⟨_, rfl, HO.out, HB.out⟩
end Go.Proofs.YtdbjihkgafhakaaGreatDoor
