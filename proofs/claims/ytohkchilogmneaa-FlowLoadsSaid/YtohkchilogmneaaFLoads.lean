/-
  law15.FlowLoads: the walk.
-/
import Derived.Test.YtohkchilogmneaaBack15
import Derived.Test.YtohkchilogmneaaDoes2
namespace Go.Proofs.Ytohkchilogmneaa
open Go.RowKit Go.Sort

theorem tot_le {rows : List FRow} {n : Nat} (h : ∀ r ∈ rows, r.its.length ≤ n) : totR rows ≤ rows.length * n := by
  induction rows with
  | nil => simp [totR]
  | cons r l ih =>
    have h1 := ih (fun r hr => h r (List.mem_cons_of_mem _ hr))
    have h2 := h r List.mem_cons_self
    have e : totR (r :: l) = r.its.length + totR l := by simp [totR]
    rw [e, List.length_cons, Nat.add_mul]
    omega
theorem okL_full {q : Int} {gv : Bool} {rows : List FRow} (h : okL q gv rows) : ∀ r ∈ rows, r.its ≠ [] := fun r hr => by
  obtain ⟨k, hk⟩ := List.mem_iff_getElem?.1 hr
  exact (h.2.2.2 k r hk).2.2.2.1
/-- A loaded ring, and the document's, side by side. -/
theorem Twin.load {q : Int} {gv : Bool} {w w1 w2 : World} {f : Nat} {ρ : Roles} {v : Value} {l : List (FRow × Value)} (hl : RowsAt w v l) (hb1 : Below w.heap.size w w1) (hb2 : Below w1.heap.size w1 w2) (ho : okL q gv (l.map Prod.fst)) (hla : Later (fun _ => []) ρ w1) (hn : NewRoles ρ [0] w1.heap.size)
    (hR : RingAt [0] ρ w2 f q gv (l.map Prod.fst)) (h20 : l.length ≤ 20) (h40 : ∀ p ∈ l, p.1.its.length ≤ 40) : Twin q w f w2.heap.size 800 (w2.alloc (.cells #[.int .i64 q, v, .bool gv] 53)) := by
  have hb : Below w.heap.size w w2 := hb1.trans (hb2.mono hb1.size)
  have hz : ∀ j, w2.heap.size ≤ j → fence ρ w2 j = [] := fun j hj => by simp [fence, Nat.not_lt.2 hj]
  have hold : ∀ j, j < w.heap.size → ρ j = [] := fun j hj => hla j (Nat.lt_of_lt_of_le hj hb1.size)
  have hlow : ∀ j, j < w.heap.size → Free (fence ρ w2) w2.heap.size j ∧ j < (w2.alloc (.cells #[.int .i64 q, v, .bool gv] 53)).heap.size := fun j hj => by
    have hs := hb.size
    refine ⟨⟨by omega, ?_⟩, by simp; omega⟩
    rw [fence_later ρ w2 j (Nat.lt_of_lt_of_le hj hs), hold j hj]
  have hst : RState q w f 800 gv (l.map Prod.fst) ρ w2 := by
    refine ⟨hR, ?_, hb, fun j _ => ?_, hold⟩
    · have h := tot_le (rows := l.map Prod.fst) (n := 40) (fun r hr => by
        obtain ⟨p, hp, rfl⟩ := List.mem_map.1 hr
        exact h40 p hp)
      rw [List.length_map] at h
      omega
    · rcases Nat.lt_or_ge j w1.heap.size with h | h
      · exact .inl (hla j h)
      · exact hn j h
  refine ⟨gv, _, fence ρ w2, v, l, ⟨hst.fence.on box_below, ⟨fr_alloc_at, (hl.below hb).below box_below, fun hne k hk => hlow k (rows_lt hl.rows hne k hk), fun p hp k hk => hlow k (its_lt (hl.its p hp) (okL_full ho p.1 (List.mem_map_of_mem hp)) k hk), fun hb => hb.1 rfl, fun k hk => ?_, by omega, fun p hp => by have := h40 p hp; omega⟩, hz _ (Nat.le_refl _), hb.size⟩, rfl⟩
  simp at hk
  exact ⟨by omega, hz k (by omega)⟩
set_option maxRecDepth 100000 in
set_option maxHeartbeats 16000000 in
/-- THE WALK: FlowLoads. -/
theorem flowLoads_any (q : Int) (gv : Bool) (v : Value) (l : List (FRow × Value)) (w : World) (hl : RowsAt w v l) (hok : ∀ p ∈ l, RowOk15 p) : Calls Try.prog 6 #[.int .i64 q, v, .bool gv] w (TrueBelow w) := by
  have HL := Lib.hid hl
  have HOK := Lib.hid hok
  obtain ⟨a, cap, rfl, -⟩ := hl.form
  clear hl hok
  by_cases hlen : 20 < l.length
  · have hd : (20 : Int) < (l.length : Int) := by omega
    go_enter Try.func6, Try.ntmps6
    go_wp2_with fail
    refine (live15_any _).mono ?_
    rintro e w2 ⟨rfl, hb⟩
    have HB := Lib.hid hb
    clear hb
    go_wp2_with fail
    go_ret
    exact ⟨rfl, HB.out⟩
  · have hd : ¬ (20 : Int) < (l.length : Int) := by omega
    have HLEN := Lib.hid (show l.length ≤ 20 by omega)
    clear hlen
    go_enter Try.func6, Try.ntmps6
    go_wp2_with fail
    go_loopg [7] l.length (fun g u wr => ∃ i : Nat, g = l.length - i ∧ u = .int .i64 i ∧ i ≤ l.length ∧ (∀ j p, j < i → l[j]? = some p → p.1.its.length ≤ 40) ∧ wr = w)
    case atStart => exact ⟨0, rfl, rfl, Nat.zero_le _, (fun j p hj => by omega), rfl⟩
    case round =>
      obtain ⟨i, hg, rfl, hi, hs, rfl⟩ := hrel
      have HG := Lib.hid hg
      have HS := Lib.hid hs
      clear hg hs
      by_cases hlt : i < l.length
      · obtain ⟨⟨x, vx⟩, hp⟩ : ∃ p, l[i]? = some p := ⟨_, List.getElem?_eq_getElem hlt⟩
        have HP := Lib.hid hp
        obtain ⟨ax, cx, rfl⟩ : ∃ ax cx, vx = .slice ax x.its.length cx := its_form (HL.out.its _ (List.mem_of_getElem? hp))
        obtain ⟨g, off, cap', hv, _, c0, c1, c2, c3⟩ := HL.out.at hp
        cases hv
        simp only at c3
        have hkl : (i : Int) < (l.length : Int) := by omega
        clear hp c0 c1 c2
        by_cases h40 : 40 < x.its.length
        · have hd2 : (40 : Int) < (x.its.length : Int) := by omega
          clear h40
          go_wp2_with fail
          refine (live15_any _).mono ?_
          rintro e w2 ⟨rfl, hb⟩
          have HB := Lib.hid hb
          clear hb
          go_wp2_with fail
          go_ret
          exact ⟨rfl, HB.out⟩
        · have hd2 : ¬ (40 : Int) < (x.its.length : Int) := by omega
          have H40 := Lib.hid h40
          clear h40
          go_wp2_with fail
          go_roundg (l.length - (i + 1))
          case rel =>
            refine ⟨i + 1, rfl, by go_num, by omega, fun j p hj hpj => ?_, rfl⟩
            rcases Nat.lt_or_ge j i with h | h
            · exact HS.out j p h hpj
            · obtain rfl : j = i := by omega
              have h := HP.out.symm.trans hpj
              cases h
              exact Nat.not_lt.1 H40.out
          case measure => have := HG.out; omega
      · have H40 := Lib.hid (show ∀ p ∈ l, p.1.its.length ≤ 40 from fun p hp => by
          obtain ⟨j, hj⟩ := List.mem_iff_getElem?.1 hp
          exact HS.out j p (by have := (List.getElem?_eq_some_iff.1 hj).1; omega) hj)
        have HTOT := Lib.hid (show totR (l.map Prod.fst) < 1000000 by
          have h := tot_le (rows := l.map Prod.fst) (n := 40) (fun r hr => by
            obtain ⟨p, hp, rfl⟩ := List.mem_map.1 hr
            exact H40.out p hp)
          rw [List.length_map] at h
          have := HLEN.out
          omega)
        have HL6 := Lib.hid (show l.length < 1000000 by have := HLEN.out; omega)
        go_wp2_with fail
        refine (back15_any _ l _ HL.out HL6.out).mono ?_
        rintro e w1 ⟨v1, rfl, hl1, hb1⟩
        have HL1 := Lib.hid hl1
        have HB1 := Lib.hid hb1
        clear hl1 hb1
        go_wp2_with fail
        refine (flowLoad_any (pre := [0]) (ρ := fun _ => []) (by decide) q gv v1 l w1 HL1.out (fun k _ ⟨s, hs⟩ => by simp at hs) (fun p hp => HOK.out p hp) HTOT.out HL6.out).mono ?_
        rintro e w2 ⟨hb2, ⟨ho, f, ρ', rfl, hla, hn, hR, hf⟩ | ⟨hno, rfl⟩⟩
        · have HB2 := Lib.hid hb2
          have HO := Lib.hid ho
          have HLA := Lib.hid hla
          have HN := Lib.hid hn
          have HR := Lib.hid hR
          clear hb2 ho hla hn hR hf
          go_wp2_with fail
          refine (r15Right_any q gv _ l w2 ((HL.out.below HB1.out).below HB2.out) HTOT.out HL6.out).mono ?_
          rintro e w3 ⟨⟨r, rfl, hr⟩, hb3⟩
          have hrt : r = true := hr.2 HO.out
          subst hrt
          have HB3 := Lib.hid hb3
          have HB13 := Lib.hid (HB2.out.trans (hb3.mono HB2.out.size) : Below w1.heap.size w1 w3)
          have HR3 := Lib.hid (HR.out.below hb3)
          clear hb3 hr
          go_upto_region 14 with fail
          have HT := Lib.hid (Twin.load HL.out HB1.out HB13.out HO.out HLA.out HN.out HR3.out HLEN.out H40.out)
          obtain ⟨w4, hw4⟩ : ∃ w4 : World, w4 = w3.alloc (.cells #[.int .i64 q, .slice a l.length cap, .bool gv] 53) := ⟨_, rfl⟩
          obtain ⟨b, hb⟩ : ∃ b : Nat, b = w3.heap.size := ⟨_, rfl⟩
          rw [← hw4, ← hb] at HT
          rw [← hw4, ← hb]
          clear hw4 hb
          go_wp2_with fail
          go_loopg [11] 20 (fun g u wx => ∃ i k : Nat, g = 20 - i ∧ u = .int .i64 i ∧ i ≤ 20 ∧ k ≤ 800 + i ∧ Twin q wr f b k wx)
          case atStart => exact ⟨0, 800, rfl, rfl, by omega, by omega, HT.out⟩
          case round =>
            obtain ⟨j, k, hg2, rfl, hj, hk, hT⟩ := hrel
            have HG2 := Lib.hid hg2
            have HTK := Lib.hid hT
            have HKJ := Lib.hid hk
            obtain ⟨gv', rows, ρ2, v3, l3, hB3, hm3⟩ := hT
            have HB4 := Lib.hid hB3
            have HM4 := Lib.hid hm3
            have HBW := Lib.hid hB3.st.below
            have b0 := fr_cell_of_heap (i := 0) hB3.doc.head rfl
            have b1 := fr_cell_of_heap (i := 1) hB3.doc.head rfl
            have b2 := fr_cell_of_heap (i := 2) hB3.doc.head rfl
            have HTT := Lib.hid (show totR rows < 1000000 by have := hB3.st.few; omega)
            clear hg2 hk hB3 hm3
            by_cases hj20 : j < 20
            · have hji : (j : Int) < 20 := by omega
              go_wp2_with fail
              refine (same15_any v3 l3 _ HB4.out.st.ring HTT.out HB4.out.doc.rows HM4.out).mono ?_
              rintro e w5 ⟨rfl, hb5⟩
              have HB5 := Lib.hid (HB4.out.on hb5)
              clear hb5 b0 b1 b2
              go_wp2_with fail
              have hT5 : Twin q _ f b k w5 := ⟨_, _, _, _, _, HB5.out, HM4.out⟩
              refine (does15_any ⟨1, 0, 0, 0, 0⟩ ⟨i64_of (n := 1) (by decide), i64_of (n := 0) (by decide), i64_of (n := 0) (by decide), i64_of (n := 0) (by decide), i64_of (n := 0) (by decide)⟩ hT5 (by have := HKJ.out; omega)).mono ?_
              rintro e w6 ⟨rfl, hT6⟩
              have HT6 := Lib.hid hT6
              clear hT5 hT6
              go_wp2_with fail
              go_roundg (20 - (j + 1))
              case rel => exact ⟨j + 1, k + 1, rfl, by go_num, by omega, by have := HKJ.out; omega, HT6.out⟩
              case measure => have := HG2.out; omega
            · have hji : ¬ (j : Int) < 20 := by omega
              go_wp2_with fail
              refine (live15_any _).mono ?_
              rintro e w7 ⟨rfl, hb7⟩
              have HB7 := Lib.hid (HBW.out.trans (hb7.mono HBW.out.size))
              clear hb7
              go_wp2_with fail
              go_ret
              exact ⟨rfl, HB7.out⟩
        · have HNO := Lib.hid hno
          have HB2 := Lib.hid hb2
          clear hno hb2
          go_wp2_with fail
          refine (r15Right_any q gv _ l w2 ((HL.out.below HB1.out).below HB2.out) HTOT.out HL6.out).mono ?_
          rintro e w3 ⟨⟨r, rfl, hr⟩, hb3⟩
          have hrf : r = false := by
            cases r with
            | false => rfl
            | true => exact absurd (hr.1 rfl) HNO.out
          subst hrf
          have HB3 := Lib.hid ((HB1.out.trans (HB2.out.mono HB1.out.size)).trans (hb3.mono (Nat.le_trans HB1.out.size HB2.out.size)))
          clear hb3 hr
          go_wp2_with fail
          refine (live15_any _).mono ?_
          rintro e w4 ⟨rfl, hb4⟩
          have HB4 := Lib.hid (HB3.out.trans (hb4.mono HB3.out.size))
          clear hb4
          go_wp2_with fail
          go_ret
          exact ⟨rfl, HB4.out⟩
end Go.Proofs.Ytohkchilogmneaa
