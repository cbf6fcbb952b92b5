/-
  Configurations: how one lies in memory; what is wrong with its tenants and limits.
-/
import Derived.Test.YtmijmfgclmaodaaGreatDoorRName
namespace Go.Proofs.YtmijmfgclmaodaaGreatDoor
open Go.RowKit Go.Maps Go.WideMaps

structure Ten where
  name : ByteArray
  weight : Int
  quota : Int

/-- A slice of tenants. -/
def TensAt (w : World) (v : Value) (ts : List Ten) : Prop :=
  ∃ a cap, v = .slice a ts.length cap ∧ ts.length ≤ 140737488351232 ∧ ∀ (i : Nat) t, ts[i]? = some t → t.name.size ≤ 140737488351232 ∧ ∃ b off, a = some ⟨b, off, none⟩ ∧
    w.cell? ⟨b, off + i * 3, none⟩ = some (.string t.name) ∧ w.cell? ⟨b, off + i * 3 + 1, none⟩ = some (.int .i64 t.weight) ∧ w.cell? ⟨b, off + i * 3 + 2, none⟩ = some (.int .i64 t.quota)
/-- A slice of integers. -/
def IntsAt (w : World) (v : Value) (ls : List Int) : Prop :=
  ∃ a cap, v = .slice a ls.length cap ∧ ls.length ≤ 140737488351232 ∧ ∀ (i : Nat) n, ls[i]? = some n → ∃ b off, a = some ⟨b, off, none⟩ ∧ w.cell? ⟨b, off + i, none⟩ = some (.int .i64 n)

theorem TensAt.below {w w' : World} {v : Value} {ts : List Ten} (h : TensAt w v ts) (hb : Below w.heap.size w w') : TensAt w' v ts := by
  obtain ⟨a, cap, rfl, hl, hc⟩ := h
  refine ⟨a, cap, rfl, hl, fun i t ht => ?_⟩
  obtain ⟨hs, b, off, ha, h0, h1, h2⟩ := hc i t ht
  exact ⟨hs, b, off, ha, cell_below hb h0, cell_below hb h1, cell_below hb h2⟩
theorem IntsAt.below {w w' : World} {v : Value} {ls : List Int} (h : IntsAt w v ls) (hb : Below w.heap.size w w') : IntsAt w' v ls := by
  obtain ⟨a, cap, rfl, hl, hc⟩ := h
  refine ⟨a, cap, rfl, hl, fun i t ht => ?_⟩
  obtain ⟨b, off, ha, h0⟩ := hc i t ht
  exact ⟨b, off, ha, cell_below hb h0⟩

/-- What is wrong with tenants, one behind the other. -/
def tenBad (t : Ten) : Bool := decide (t.weight < 1) || (decide (16 < t.weight) || (decide (t.quota < 1) || decide (256 < t.quota)))
def seenB (l : List ByteArray) (n : ByteArray) : Bool := l.any fun x => x.data.toList == n.data.toList
theorem seenB_iff {l : List ByteArray} {n : ByteArray} : seenB l n = true ↔ n ∈ l := by
  simp only [seenB, List.any_eq_true, beq_iff_eq]
  constructor
  · rintro ⟨x, hx, e⟩
    rw [← ba_ext e]; exact hx
  · intro h
    exact ⟨n, h, rfl⟩
def tensF : List ByteArray → List Ten → Int
  | _, [] => 0
  | seen, t :: r => if nameB t.name = false then 5 else if tenBad t = true then 1 else if seenB seen t.name = true then 8 else tensF (seen ++ [t.name]) r
def tensE (ts : List Ten) : Int := if ts.length < 1 ∨ 6 < ts.length then 9 else tensF [] ts

/-- The map of names that were met. -/
def metL (l : List ByteArray) : List Lit := l.map fun n => .string n.data.toList
def metD {H : Type} (l : List ByteArray) : DataW H := setOf (.lit (.int .i64 1)) (metL l)

theorem atKey_fold {H : Type} (u : DataW H) (k : Lit) (z : DataW H) : ∀ (acc : List Lit) (m : DataW H), IsMap m → (∀ x ∈ acc, WideAt.IsKeyLit x) → (acc.foldl (fun m x => m.put x u) m).atKey k z = if acc.any (fun x => x.sameKey k) = true then u else m.atKey k z
  | [], m, _, _ => by simp
  | x :: r, m, hm, hk => by
    rw [List.foldl_cons, atKey_fold u k z r (m.put x u) (hm.put x u) (fun y hy => hk y (List.mem_cons_of_mem _ hy)), List.any_cons]
    by_cases h : r.any (fun x => x.sameKey k) = true
    · simp [h]
    · by_cases hx : x = k
      · subst hx
        simp [h, atKey_put_same hm (hk x (by simp)), WideAt.sameKey_self (hk x (by simp))]
      · simp [h, sameKey_ne hx, atKey_put_other (Ne.symm hx)]
theorem metD_at {H : Type} (l : List ByteArray) (n : ByteArray) (z : DataW H) : (metD l : DataW H).atKey (.string n.data.toList) z = if seenB l n = true then .lit (.int .i64 1) else z := by
  unfold metD setOf
  rw [atKey_fold _ _ _ _ _ isMap_empty (by intro x hx; simp [metL] at hx; obtain ⟨y, _, rfl⟩ := hx; trivial)]
  have h1 : (metL l).any (fun x => x.sameKey (.string n.data.toList)) = seenB l n := by
    unfold metL seenB
    rw [List.any_map]
    rfl
  rw [h1]
  rfl
theorem metD_snoc {H : Type} (l : List ByteArray) (n : ByteArray) : (metD l : DataW H).put (.string n.data.toList) (.lit (.int .i64 1)) = metD (l ++ [n]) := by
  unfold metD metL
  rw [List.map_append, List.map_singleton, setOf_snoc]

theorem key_string : Keyed Tryz.prog 9 := string_keyed Tryz.underlying9
theorem zero_int (w : World) : (zeroValue 3).run Tryz.prog w = .ok (.int .i64 0) w := by kernel_rfl

theorem tens_step {ts : List Ten} {k : Nat} {t : Ten} (h : ts[k]? = some t) : ts.drop k = t :: ts.drop (k + 1) ∧ (ts.take (k + 1)).map Ten.name = (ts.take k).map Ten.name ++ [t.name] := by
  obtain ⟨hk, rfl⟩ := List.getElem?_eq_some_iff.1 h
  refine ⟨List.drop_eq_getElem_cons hk, ?_⟩
  rw [List.take_succ_eq_append_getElem hk, List.map_append]
  rfl

set_option maxRecDepth 100000 in
set_option maxHeartbeats 1000000 in
/-- THE WALK: conf.tenants. -/
theorem tenants_any (v : Value) (ts : List Ten) (w : World) (hT : TensAt w v ts) :
    Calls Tryz.prog 92 #[v] w fun e w' => e = .returned (.int .i64 (tensE ts)) ∧ Below w.heap.size w w' := by
  obtain ⟨a, cap, rfl, hlen, hcell⟩ := hT
  by_cases h1 : ts.length < 1
  · have H := Lib.hid (show tensE ts = 9 by unfold tensE; rw [if_pos (.inl h1)])
    go_enter Tryz.func92, Tryz.ntmps92
    go_wp2
    go_ret
    exact ⟨ret_int H.out.symm, Below.refl _ _⟩
  · by_cases h6 : 6 < ts.length
    · have H := Lib.hid (show tensE ts = 9 by unfold tensE; rw [if_pos (.inr h6)])
      go_enter Tryz.func92, Tryz.ntmps92
      go_wp2
      go_ret
      exact ⟨ret_int H.out.symm, Below.refl _ _⟩
    · have H := Lib.hid (show tensE ts = tensF [] ts by unfold tensE; rw [if_neg (by omega)])
      have HC := Lib.hid hcell; clear hcell
      have hmm := @run_makeMap Tryz.prog
      go_enter Tryz.func92, Tryz.ntmps92
      go_wp2
      go_loopw [17] (fun i wr => ∃ k : Nat, k ≤ ts.length ∧ i = .int .i64 k ∧ tensF ((ts.take k).map Ten.name) (ts.drop k) = tensE ts ∧ wr.ownsMap Tryz.prog 9 (plainElem Tryz.prog 3) w.heap.size k (metD (H := Unit) ((ts.take k).map Ten.name)) ∧ Below w.heap.size w wr)
        (fun i _ => ts.length - (intOf i).toNat)
      case atStart => exact ⟨0, Nat.zero_le _, rfl, by rw [H.out]; simp, World.ownsMap_made _ _ _ _, (Below.refl _ _).alloc (Nat.le_refl _) _⟩
      case round =>
        obtain ⟨k, hk, rfl, hf, hown, hb⟩ := hrel
        have HF := Lib.hid hf; clear hf
        have HO := Lib.hid hown; clear hown
        by_cases hlt : k < ts.length
        · obtain ⟨t, ht⟩ : ∃ t, ts[k]? = some t := ⟨_, List.getElem?_eq_getElem hlt⟩
          obtain ⟨hsz, b, off, rfl, c0, c1, c2⟩ := HC.out k t ht
          have HT := Lib.hid ht; clear ht
          have hblt := World.block_lt_of_cell? w _ c0
          have d0 := (hb.cell (p := ⟨b, off + k * 3, none⟩) hblt).trans c0
          have d1 := (hb.cell (p := ⟨b, off + k * 3 + 1, none⟩) hblt).trans c1
          have d2 := (hb.cell (p := ⟨b, off + k * 3 + 2, none⟩) hblt).trans c2
          clear c0 c1 c2 hblt
          go_wp2_with fail
          refine (name_any _ _ hsz).mono ?_
          rintro e w2 ⟨rfl, hb2⟩
          have hsz1 : w.heap.size < wr.heap.size := HO.out.lt
          have hcell2 : ∀ j (u : Value), (#[Value.string t.name, Value.int IntKind.i64 t.weight, Value.int IntKind.i64 t.quota] : Array Value)[j]? = some u → w2.cell? ⟨wr.heap.size, j, none⟩ = some u := fun j u hu => cell_below hb2 (cell_alloc_at hu)
          have e0 := hcell2 0 _ rfl
          have e1 := hcell2 1 _ rfl
          have e2 := hcell2 2 _ rfl
          clear hcell2
          have hb3 : Below w.heap.size w w2 := (hb.alloc (by omega) _).trans (hb2.mono (by simp; omega))
          have hstep := tens_step HT.out
          by_cases hn : nameB t.name = false
          · have HE := Lib.hid (show tensE ts = 5 by rw [← HF.out, hstep.1, tensF, if_pos hn])
            rw [hn]
            clear hn hstep
            go_wp2
            go_ret
            exact ⟨ret_int HE.out.symm, hb3⟩
          · have hn' : nameB t.name = true := by simpa using hn
            rw [hn']
            by_cases b1 : t.weight < 1
            · have HE := Lib.hid (show tensE ts = 1 by rw [← HF.out, hstep.1, tensF, if_neg hn, if_pos (by simp [tenBad, b1])])
              clear hn hn' hstep
              go_wp2
              go_ret
              exact ⟨ret_int HE.out.symm, hb3⟩
            by_cases b2 : 16 < t.weight
            · have HE := Lib.hid (show tensE ts = 1 by rw [← HF.out, hstep.1, tensF, if_neg hn, if_pos (by simp [tenBad, b2])])
              clear hn hn' hstep
              go_wp2
              go_ret
              exact ⟨ret_int HE.out.symm, hb3⟩
            by_cases b3 : t.quota < 1
            · have HE := Lib.hid (show tensE ts = 1 by rw [← HF.out, hstep.1, tensF, if_neg hn, if_pos (by simp [tenBad, b3])])
              clear hn hn' hstep
              go_wp2
              go_ret
              exact ⟨ret_int HE.out.symm, hb3⟩
            by_cases b4 : 256 < t.quota
            · have HE := Lib.hid (show tensE ts = 1 by rw [← HF.out, hstep.1, tensF, if_neg hn, if_pos (by simp [tenBad, b4])])
              clear hn hn' hstep
              go_wp2
              go_ret
              exact ⟨ret_int HE.out.symm, hb3⟩
            have hgood : ¬ tenBad t = true := by simp [tenBad]; omega
            have hown2 : w2.ownsMap Tryz.prog 9 (plainElem Tryz.prog 3) w.heap.size k (metD (H := Unit) ((ts.take k).map Ten.name)) := (HO.out.alloc _).kept (grown_of_below hb2) (by simp)
            have HO2 := Lib.hid hown2
            clear hown2
            have hkey : keyOf Tryz.prog 9 (.string t.name) = some (.string t.name.data.toList) := keyOf_string_mk Tryz.underlying9 (by unfold maxLen; omega)
            obtain ⟨c, hrun, hat, _⟩ := HO2.out.lookup_int key_string Tryz.underlying147 Tryz.underlying3 (zero_int _) hkey
            rw [metD_at] at hat
            by_cases hs : seenB ((ts.take k).map Ten.name) t.name = true
            · rw [if_pos hs] at hat
              obtain rfl : (1 : Int) = c := by simpa using hat
              have HE := Lib.hid (show tensE ts = 8 by rw [← HF.out, hstep.1, tensF, if_neg hn, if_neg hgood, if_pos hs])
              clear hn hn' hstep hgood hs hat
              go_wp2
              go_ret
              exact ⟨ret_int HE.out.symm, hb3⟩
            · rw [if_neg hs] at hat
              obtain rfl : (0 : Int) = c := by simpa using hat
              have HE := Lib.hid (show tensF ((ts.take (k + 1)).map Ten.name) (ts.drop (k + 1)) = tensE ts by rw [← HF.out, hstep.1, tensF, if_neg hn, if_neg hgood, if_neg hs, hstep.2])
              have HS := Lib.hid hstep.2
              clear hn hn' hstep hgood hs hat
              go_wp2_with (at_mapUpdate; go_must (refine wpList_mapUpdate_own _ rfl _ _ _ 147 rfl 9 3 key_string Tryz.underlying147 _ w.heap.size k _ rfl HO2.out (by unfold maxLen; omega) _ _ _ rfl rfl hkey (.lit (.int .i64 1)) [] (plainElem_int Tryz.underlying3 (by decide)) ?_); intro w3 hown3 hg3)
              have HO3 := Lib.hid (show w3.ownsMap Tryz.prog 9 (plainElem Tryz.prog 3) w.heap.size (k + 1) (metD (H := Unit) ((ts.take (k + 1)).map Ten.name)) by rw [HS.out, ← metD_snoc]; exact hown3)
              have hb4 := hb3.grown hg3 hb3.size (fun j hj => by cases hj; exact Nat.le_refl _)
              clear hown3 hg3 hrun
              go_wp2
              go_roundw
              case rel => exact ⟨k + 1, by omega, by go_num, HE.out, HO3.out, hb4⟩
              case measure => simp [intOf]; omega
        · have hk2 : k = ts.length := by omega
          subst hk2
          have HE := Lib.hid (show tensE ts = 0 by rw [← HF.out, List.drop_length]; rfl)
          go_wp2
          go_ret
          exact ⟨ret_int HE.out.symm, hb⟩

end Go.Proofs.YtmijmfgclmaodaaGreatDoor
