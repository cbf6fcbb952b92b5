/-
  prop.Match: the walk.
-/
import Derived.Test.YtdbjihkgafhakaaGreatDoorRProp4
import Derived.Maps.OwnSet
namespace Go.Proofs.YtdbjihkgafhakaaGreatDoor
open Go.RowKit Go.Maps Go.WideMaps

/-- A pair is needed: may a platform have it? -/
def okNeed (l : List Pr) (p : Pr) : Bool := match l.find? (keyB p.1) with
  | none => false
  | some q => q.2.data.toList == p.2.data.toList || (q.2.data.toList == [42] || p.2.data.toList == [42])
def matchP (s t : ByteArray) : Bool := decide (canonE s = 0) && (decide (canonE t = 0) && (parseP t).1.all (okNeed (parseP s).1))

/-! ### The map -/
def elemD {H : Type} (v : ByteArray) : DataW H := .agg [.lit (.string v.data.toList)]
def keyL (k : ByteArray) : Lit := .string k.data.toList
def mapP {H : Type} (l : List Pr) : DataW H := l.foldl (fun m p => m.put (keyL p.1) (elemD p.2)) (.map [])
theorem mapP_snoc {H : Type} (l : List Pr) (p : Pr) : (mapP (l ++ [p]) : DataW H) = (mapP l).put (keyL p.1) (elemD p.2) := by simp [mapP]
theorem keyL_is (k : ByteArray) : WideAt.IsKeyLit (keyL k) := trivial
theorem keyL_ne {a b : ByteArray} (h : (a.data.toList == b.data.toList) = false) : keyL b ≠ keyL a := by
  intro e
  simp only [keyL, Lit.string.injEq] at e
  rw [beq_eq_false_iff_ne] at h
  exact h e.symm
theorem fold_isMap {H : Type} : ∀ (l : List Pr) (m : DataW H), IsMap m → IsMap (l.foldl (fun m p => m.put (keyL p.1) (elemD p.2)) m)
  | [], _, h => h
  | _ :: r, _, h => fold_isMap r _ (h.put _ _)
theorem hasKey_cons (p : Pr) (r : List Pr) (k : ByteArray) : hasKey (p :: r) k = (keyB k p || hasKey r k) := by rw [hasKey_any, hasKey_any, List.any_cons]
theorem fold_has {H : Type} (k : ByteArray) : ∀ (l : List Pr) (m : DataW H), IsMap m → Maps.has (l.foldl (fun m p => m.put (keyL p.1) (elemD p.2)) m) (keyL k) = (hasKey l k || Maps.has m (keyL k))
  | [], m, _ => by simp [hasKey]
  | p :: r, m, h => by
    rw [List.foldl_cons, fold_has k r _ (h.put _ _)]
    rcases hq : (p.1.data.toList == k.data.toList) with _ | _
    · rw [has_put_other (keyL_ne hq), hasKey_cons, show keyB k p = false from hq, Bool.false_or]
    · have e : keyL k = keyL p.1 := by simp only [keyL]; rw [beq_iff_eq.1 hq]
      rw [hasKey_cons, show keyB k p = true from hq, e, has_put_same h (keyL_is _)]
      simp
theorem mapP_has {H : Type} (l : List Pr) (k : ByteArray) : Maps.has (mapP l : DataW H) (keyL k) = hasKey l k := by
  unfold mapP
  rw [fold_has k l _ isMap_empty]
  have : Maps.has (.map [] : DataW H) (keyL k) = false := rfl
  rw [this]; simp
theorem fold_at {H : Type} (k : ByteArray) (z : DataW H) : ∀ (l : List Pr) (m : DataW H), IsMap m → Once l → (l.foldl (fun m p => m.put (keyL p.1) (elemD p.2)) m).atKey (keyL k) z = match l.find? (keyB k) with | some p => elemD p.2 | none => m.atKey (keyL k) z
  | [], m, _, _ => rfl
  | p :: r, m, h, ho => by
    rw [List.foldl_cons, fold_at k z r _ (h.put _ _) (List.Pairwise.of_cons ho), List.find?_cons]
    rcases hq : keyB k p with _ | _
    · have hq' : (p.1.data.toList == k.data.toList) = false := hq
      simp only []
      cases r.find? (keyB k) with
      | some q => rfl
      | none => exact atKey_put_other (keyL_ne hq') _ _
    · have hq' : (p.1.data.toList == k.data.toList) = true := hq
      have hn : r.find? (keyB k) = none := by
        rw [List.find?_eq_none]
        intro x hx hkx
        have e1 : x.1.data.toList = k.data.toList := beq_iff_eq.1 hkx
        have e2 : p.1.data.toList = k.data.toList := beq_iff_eq.1 hq'
        exact (List.rel_of_pairwise_cons ho hx) (ba_ext (e2.trans e1.symm))
      have e : keyL k = keyL p.1 := by simp only [keyL]; rw [beq_iff_eq.1 hq']
      rw [hn, e]
      simp only []
      exact atKey_put_same h (keyL_is _) _ _
theorem mapP_at {H : Type} {l : List Pr} (ho : Once l) (k : ByteArray) (z : DataW H) : (mapP l).atKey (keyL k) z = match l.find? (keyB k) with | some p => elemD p.2 | none => z := by
  unfold mapP
  rw [fold_at k z l _ isMap_empty ho]
  rfl

/-- How an array of one text reads. -/
def arrR {H : Type} (v : Value) : Option (DataW H × List MemPlace) := match v with
  | .agg a => match a.toList with
    | [.string s] => some (elemD s, [])
    | _ => none
  | _ => none
theorem arrR_mk {H : Type} (s : ByteArray) : arrR (H := H) (.agg #[.string s]) = some (elemD s, []) := rfl
theorem arrR_inv {H : Type} {v : Value} {d : DataW H} {ps : List MemPlace} (h : arrR v = some (d, ps)) : ∃ s, v = .agg #[.string s] ∧ d = elemD s := by
  unfold arrR at h
  split at h
  · rename_i a
    split at h
    · rename_i s e
      simp only [Option.some.injEq, Prod.mk.injEq] at h
      refine ⟨s, ?_, h.1.symm⟩
      congr 1
      exact Array.toList_inj.1 (by rw [e])
    · cases h
  · cases h
theorem elemD_inj {H : Type} {a b : ByteArray} (h : (elemD a : DataW H) = elemD b) : a = b := by
  simp only [elemD, DataW.agg.injEq, List.cons.injEq, DataW.lit.injEq, Lit.string.injEq, and_true] at h
  exact ba_ext h
theorem keyS : Keyed Tryz.prog 9 := string_keyed Tryz.underlying9
theorem zeroA (w : World) : (zeroValue 147).run Tryz.prog w = .ok (.agg #[.string ⟨#[]⟩]) w := by kernel_rfl
theorem wpList_lookup_arr {ops : Array Oper} {rest : List Oper} {o : Oper} {a : Act} {Q : Exit → Act → World → Prop} {w : World} (hg : o.guard = none) (m x : Operand) (hop : o.op = Op.lookup 146 m x true)
    (b n : Nat) (l : List Pr) (hm : a.eval m = .map (some b)) (hown : w.ownsMap Tryz.prog 9 (arrR (H := Unit)) b n (mapP l)) (ho : Once l) (k : ByteArray) (hx : a.eval x = .string k) (hk : k.size ≤ maxLen)
    (hK : ∀ s : ByteArray, (∀ q, l.find? (keyB k) = some q → s = q.2) → wpList Tryz.prog ops Q rest (a.put o.dst (.tuple #[.agg #[.string s], .bool (hasKey l k)])) w) : wpList Tryz.prog ops Q (o :: rest) a w :=
  wpList_lookup_own_ok w hg m x 146 hop 9 147 keyS Tryz.underlying146 arrR (zeroA _) (elemD ⟨#[]⟩) [] (arrR_mk _) b n (mapP l) hm hown (.string k) (keyL k) hx (keyOf_string_mk Tryz.underlying9 hk)
    (fun v ps hv => by
      obtain ⟨s, rfl, hd⟩ := arrR_inv hv
      rw [mapP_has]
      refine hK s (fun q hq => ?_)
      rw [mapP_at ho, hq] at hd
      exact (elemD_inj hd).symm)

theorem pairsAt_sizes {l : List Pr} (h : Modest l) {k : Nat} {p : Pr} (hp : l[k]? = some p) : p.1.size ≤ 1048576 ∧ p.2.size ≤ 1048576 := h.2 p (List.mem_of_getElem? hp)
theorem okNeed_none {l : List Pr} {p : Pr} (h : hasKey l p.1 = false) : okNeed l p = false := by
  unfold okNeed
  rcases hf : l.find? (keyB p.1) with _ | q
  · rfl
  · rw [(find_some hf).2] at h; cases h
theorem okNeed_some {l : List Pr} {p : Pr} (h : hasKey l p.1 = true) : ∃ q, l.find? (keyB p.1) = some q ∧ okNeed l p = (q.2.data.toList == p.2.data.toList || (q.2.data.toList == [42] || p.2.data.toList == [42])) := by
  rcases hf : l.find? (keyB p.1) with _ | q
  · rw [(find_none hf).2] at h; cases h
  · exact ⟨q, rfl, by unfold okNeed; rw [hf]⟩
theorem all_take_succ {l : List Pr} {k : Nat} {p : Pr} {f : Pr → Bool} (h : (l.take k).all f = true) (hp : l[k]? = some p) (hf : f p = true) : (l.take (k + 1)).all f = true := by
  rw [take_snoc_of hp, List.all_append, h]
  simp [hf]
theorem all_bad {l : List Pr} {k : Nat} {p : Pr} {f : Pr → Bool} (hp : l[k]? = some p) (hf : f p = false) : l.all f = false := by
  rw [List.all_eq_false]
  exact ⟨p, List.mem_of_getElem? hp, by simp [hf]⟩

def MRel1 (l1 : List Pr) (w2 : World) (i : Value) (wr : World) : Prop := ∃ k : Nat, i = .int .i64 k ∧ k ≤ l1.length ∧ wr.ownsMap Tryz.prog 9 (arrR (H := Unit)) w2.heap.size k (mapP (l1.take k)) ∧ Below w2.heap.size w2 wr
def MRel2 (l1 l2 : List Pr) (w2 : World) (i : Value) (wr : World) : Prop := ∃ k : Nat, i = .int .i64 k ∧ k ≤ l2.length ∧ (l2.take k).all (okNeed l1) = true ∧ wr.ownsMap Tryz.prog 9 (arrR (H := Unit)) w2.heap.size l1.length (mapP l1) ∧ Below w2.heap.size w2 wr

set_option maxRecDepth 100000 in
set_option maxHeartbeats 2000000 in
/-- THE WALK: prop.Match, where both are platforms. -/
theorem match_good (s t : ByteArray) (w : World) (hr : Ready w) (hs : s.size ≤ 1048576) (ht : t.size ≤ 1048576) (h0 : canonE s = 0) (h1 : canonE t = 0) :
    Calls Tryz.prog 36 #[.string s, .string t] w fun e w' => e = .returned (.bool (matchP s t)) ∧ Below w.heap.size w w' := by
  have HR := Lib.hid hr
  have HM1 := Lib.hid (modest_parse hs)
  have HM2 := Lib.hid (modest_parse ht)
  have HN := Lib.hid (parseP_once s)
  have h6 := parseP_len s
  have h7 := parseP_len t
  have HV := Lib.hid (show matchP s t = (parseP t).1.all (okNeed (parseP s).1) by unfold matchP; simp [h0, h1])
  have HE1 := Lib.hid (show (parseP s).2 = 0 from h0)
  have HE2 := Lib.hid (show (parseP t).2 = 0 from h1)
  have hmm := @run_makeMap Tryz.prog
  clear hr h0 h1
  go_enter Tryz.func36, Tryz.ntmps36
  go_wp2_with fail
  refine (parse_any s _ HR.out hs).mono ?_
  rintro e w1 ⟨v1, rfl, hown1, hb1⟩
  rw [HE1.out]
  have HB1 := Lib.hid hb1
  have HO1 := Lib.hid hown1
  clear hb1 hown1
  go_wp2_with fail
  refine (parse_any t _ (HR.out.below HB1.out) ht).mono ?_
  rintro e w2 ⟨v2, rfl, hown2, hb2⟩
  rw [HE2.out]
  have HB2 := Lib.hid (HB1.out.trans (hb2.mono HB1.out.size))
  have HA1 := Lib.hid ((pairsAt_own HO1.out).below hb2)
  have HA2 := Lib.hid (pairsAt_own hown2)
  clear hb2 hown2 HO1
  generalize hl1 : (parseP s).1 = l1 at *
  generalize hl2 : (parseP t).1 = l2 at *
  clear hl1 hl2
  obtain ⟨a1, cap1, rfl, hcap1, hmax1, hcell1⟩ := id HA1.out
  obtain ⟨a2, cap2, rfl, hcap2, hmax2, hcell2⟩ := id HA2.out
  have HC1 := Lib.hid hcell1
  have HC2 := Lib.hid hcell2
  clear hcell1 hcell2
  go_wp2_with fail
  go_loopw [35] (fun i wr => MRel1 l1 w2 i wr) (fun i _ => l1.length - (intOf i).toNat)
  case atStart => exact ⟨0, rfl, Nat.zero_le _, World.ownsMap_made _ _ _ _, box_below⟩
  case round =>
    obtain ⟨k, rfl, hk, hmap, hb⟩ := hrel
    have HP := Lib.hid hmap
    have HB := Lib.hid hb
    have hszw := hb.size
    clear hmap hb
    by_cases hlt : k < l1.length
    · obtain ⟨p, hp⟩ : ∃ p, l1[k]? = some p := ⟨_, List.getElem?_eq_getElem hlt⟩
      obtain ⟨g, rfl, hgl, c0⟩ := HC1.out (k * 2) (.string p.1) (by have := flatP_get 0 hp (by omega); simpa [encP] using this)
      obtain ⟨g', hg', -, c1⟩ := HC1.out (k * 2 + 1) (.string p.2) (by have := flatP_get 1 hp (by omega); simpa [encP] using this)
      cases hg'
      have d0 := cell_below HB.out c0
      have d1 := cell_below HB.out c1
      obtain ⟨hs0, hs1⟩ := pairsAt_sizes HM1.out hp
      have HT := Lib.hid (take_snoc_of hp)
      have hkey : keyOf Tryz.prog 9 (.string p.1) = some (keyL p.1) := keyOf_string_mk Tryz.underlying9 (by unfold maxLen; omega)
      have HKEY := Lib.hid hkey
      clear hp c0 c1 hkey
      go_wp2_with (at_mapUpdate; refine wpList_mapUpdate_own _ rfl _ _ _ 146 rfl 9 147 keyS Tryz.underlying146 (arrR (H := Unit)) w2.heap.size k (mapP (l1.take k)) rfl (HP.out.alloc _) (by unfold maxLen; omega) (.string p.1) (.agg #[.string p.2]) (keyL p.1) rfl rfl HKEY.out (elemD p.2) [] (arrR_mk _) ?_; intro w3 hown3 hg3)
      have HP3 := Lib.hid (show w3.ownsMap Tryz.prog 9 (arrR (H := Unit)) w2.heap.size (k + 1) (mapP (l1.take (k + 1))) by rw [HT.out, mapP_snoc]; exact hown3)
      have HB3 := Lib.hid (show Below w2.heap.size w2 w3 from (HB.out.alloc hszw _).grown hg3 (by rw [World.size_alloc]; omega) (fun j hj => by cases hj; exact Nat.le_refl _))
      clear hown3 hg3
      go_wp2
      go_roundw
      case rel => exact ⟨k + 1, by go_num, by omega, HP3.out, HB3.out⟩
      case measure => simp [intOf]; omega
    · have hkl : k = l1.length := by omega
      subst hkl
      have HP0 := Lib.hid (show wr.ownsMap Tryz.prog 9 (arrR (H := Unit)) w2.heap.size l1.length (mapP l1) by have h := HP.out; rw [List.take_length] at h; exact h)
      clear HP
      go_wp2_with fail
      go_loopw [48] (fun i wr => MRel2 l1 l2 w2 i wr) (fun i _ => l2.length - (intOf i).toNat)
      case atStart => exact ⟨0, rfl, Nat.zero_le _, by simp, HP0.out, HB.out⟩
      case round =>
        obtain ⟨k, rfl, hk2, hall, hmap, hb⟩ := hrel
        have HA := Lib.hid hall
        have HP := Lib.hid hmap
        have JB := Lib.hid hb
        have hszj := hb.size
        clear hall hmap hb HP0 hlt hk
        by_cases hlt : k < l2.length
        · obtain ⟨p, hp⟩ : ∃ p, l2[k]? = some p := ⟨_, List.getElem?_eq_getElem hlt⟩
          obtain ⟨g, rfl, hgl, c0⟩ := HC2.out (k * 2) (.string p.1) (by have := flatP_get 0 hp (by omega); simpa [encP] using this)
          obtain ⟨g', hg', -, c1⟩ := HC2.out (k * 2 + 1) (.string p.2) (by have := flatP_get 1 hp (by omega); simpa [encP] using this)
          cases hg'
          have d0 := cell_below JB.out c0
          have d1 := cell_below JB.out c1
          obtain ⟨hs0, hs1⟩ := pairsAt_sizes HM2.out hp
          have HQ := Lib.hid hp
          have hml : p.1.size ≤ maxLen := by unfold maxLen; omega
          clear hp c0 c1
          rcases hh : hasKey l1 p.1 with _ | _
          · have HF := Lib.hid (all_bad HQ.out (okNeed_none hh))
            go_wp2_with (at_lookup; refine wpList_lookup_arr rfl _ _ rfl w2.heap.size l1.length l1 rfl (HP.out.alloc _) HN.out p.1 rfl hml ?_; intro s5 hs5; clear hs5)
            go_ret
            rw [HV.out, HF.out]
            exact ⟨rfl, HB2.out.trans ((JB.out.trans (box_below2 box_below |>.mono hszj)).mono HB2.out.size)⟩
          · obtain ⟨q, hq, hok⟩ := okNeed_some hh
            have HK := Lib.hid hq
            have e1 : (q.2.data.toList == p.2.data.toList) = (q.2.toList == p.2.toList) := by rw [ByteArray.toList_eq, ByteArray.toList_eq]
            have e2 : (q.2.data.toList == [42]) = (q.2.toList == [42]) := by rw [ByteArray.toList_eq]
            have e3 : (p.2.data.toList == [42]) = (p.2.toList == [42]) := by rw [ByteArray.toList_eq]
            rw [e1, e2, e3] at hok
            have HOK := Lib.hid hok
            clear e1 e2 e3 hok hq
            rcases b1 : (q.2.toList == p.2.toList) with _ | _
            · rcases b2 : (q.2.toList == [42]) with _ | _
              · rcases b3 : (p.2.toList == [42]) with _ | _
                · have HF := Lib.hid (all_bad HQ.out (show okNeed l1 p = false by rw [HOK.out, b1, b2, b3]; rfl))
                  go_wp2_with (at_lookup; refine wpList_lookup_arr rfl _ _ rfl w2.heap.size l1.length l1 rfl (HP.out.alloc _) HN.out p.1 rfl hml ?_; intro s5 hs5; obtain rfl := hs5 q HK.out; clear hs5)
                  go_ret
                  rw [HV.out, HF.out]
                  exact ⟨rfl, HB2.out.trans ((JB.out.trans (box_below2 box_below |>.mono hszj)).mono HB2.out.size)⟩
                · have HF := Lib.hid (all_take_succ HA.out HQ.out (show okNeed l1 p = true by rw [HOK.out, b1, b2, b3]; simp))
                  go_wp2_with (at_lookup; refine wpList_lookup_arr rfl _ _ rfl w2.heap.size l1.length l1 rfl (HP.out.alloc _) HN.out p.1 rfl hml ?_; intro s5 hs5; obtain rfl := hs5 q HK.out; clear hs5)
                  go_roundw
                  case rel => exact ⟨k + 1, by go_num, by omega, HF.out, (HP.out.alloc _).alloc _, (JB.out.alloc hszj _).alloc (by rw [World.size_alloc]; omega) _⟩
                  case measure => simp [intOf]; omega
              · have HF := Lib.hid (all_take_succ HA.out HQ.out (show okNeed l1 p = true by rw [HOK.out, b1, b2]; simp))
                go_wp2_with (at_lookup; refine wpList_lookup_arr rfl _ _ rfl w2.heap.size l1.length l1 rfl (HP.out.alloc _) HN.out p.1 rfl hml ?_; intro s5 hs5; obtain rfl := hs5 q HK.out; clear hs5)
                go_roundw
                case rel => exact ⟨k + 1, by go_num, by omega, HF.out, (HP.out.alloc _).alloc _, (JB.out.alloc hszj _).alloc (by rw [World.size_alloc]; omega) _⟩
                case measure => simp [intOf]; omega
            · have HF := Lib.hid (all_take_succ HA.out HQ.out (show okNeed l1 p = true by rw [HOK.out, b1]; simp))
              go_wp2_with (at_lookup; refine wpList_lookup_arr rfl _ _ rfl w2.heap.size l1.length l1 rfl (HP.out.alloc _) HN.out p.1 rfl hml ?_; intro s5 hs5; obtain rfl := hs5 q HK.out; clear hs5)
              go_roundw
              case rel => exact ⟨k + 1, by go_num, by omega, HF.out, (HP.out.alloc _).alloc _, (JB.out.alloc hszj _).alloc (by rw [World.size_alloc]; omega) _⟩
              case measure => simp [intOf]; omega
        · have HF := Lib.hid (show l2.all (okNeed l1) = true by have h := HA.out; rwa [List.take_of_length_le (by omega)] at h)
          go_wp2
          go_ret
          rw [HV.out, HF.out]
          exact ⟨rfl, HB2.out.trans (JB.out.mono HB2.out.size)⟩
end Go.Proofs.YtdbjihkgafhakaaGreatDoor
