/-
  law16.ShareLoads: the walk.
-/
import Derived.Test.YtohkchilogmneaaBack16
namespace Go.Proofs.Ytohkchilogmneaa
open Go.RowKit Go.Sort

theorem drows_lt {w : World} {v : Value} {l : List DV} (h : ∃ a cap, v = .slice a l.length cap ∧ l.length ≤ cap ∧ ∀ (j : Nat) u, (flatDV l)[j]? = some u → ∃ g off, a = some ⟨g, off, none⟩ ∧ w.cell? ⟨g, off + j, none⟩ = some u) (hne : l ≠ []) : ∀ j, v.ownBlock = some j → j < w.heap.size := by
  intro j hj
  obtain ⟨a, cap, rfl, _, hc⟩ := h
  obtain ⟨x, r, rfl⟩ : ∃ x r, l = x :: r := by
    cases l with
    | nil => exact absurd rfl hne
    | cons x r => exact ⟨x, r, rfl⟩
  obtain ⟨g, off, rfl, h0⟩ := hc 0 _ rfl
  simp only [Value.ownBlock, Option.some.injEq] at hj
  subst hj
  exact World.block_lt_of_cell? w _ h0
theorem okTL_full {q : Int} {gv : Bool} {rows : List TRow} (h : okTL q gv rows) : ∀ x ∈ rows, x.rows ≠ [] ∧ ∀ r ∈ x.rows, r.its ≠ [] := fun x hx => by
  obtain ⟨k, hk⟩ := List.mem_iff_getElem?.1 hx
  have ho := h.2.2.2 k x hk
  refine ⟨ho.2.2.2.2.1, fun r hr => ?_⟩
  obtain ⟨j, hj⟩ := List.mem_iff_getElem?.1 hr
  exact (ho.2.2.2.2.2.2.2.2 j r hj).2.2.2.1
/-- What holds of the numbers of a document's row that came in. -/
def DRowNum (p : DV) : Prop := I64 p.1.id ∧ ∀ r ∈ p.2.2.2, I64 r.1.id ∧ ∀ y ∈ r.1.its, I64 y.id
theorem num_of {l : List DV} {l2 : List TV} (h1 : l2.map Prod.fst = l.map Prod.fst) (h2 : l2.map (fun p => p.2.2) = l.map (fun p => p.2.2.2)) (h : ∀ p ∈ l, DRowNum p) : ∀ p ∈ l2, TRowNum p := fun p hp => by
  obtain ⟨k, hk⟩ := List.mem_iff_getElem?.1 hp
  have e1 := congrArg (fun z => z[k]?) h1
  have e2 := congrArg (fun z => z[k]?) h2
  simp only [List.getElem?_map, hk, Option.map_some] at e1 e2
  obtain ⟨p0, hp0, h01⟩ := Option.map_eq_some_iff.1 e1.symm
  rw [hp0] at e2
  have e3 : p.2.2 = p0.2.2.2 := Option.some.inj e2
  have hn := h p0 (List.mem_of_getElem? hp0)
  exact ⟨by rw [← h01]; exact hn.1, by rw [e3]; exact hn.2⟩
theorem len_of {l : List DV} {l2 : List TV} {n : Nat} (h2 : l2.map (fun p => p.2.2) = l.map (fun p => p.2.2.2)) (h : ∀ p ∈ l, p.2.2.2.length < n) : ∀ p ∈ l2, p.2.2.length < n := fun p hp => by
  have hm : p.2.2 ∈ l2.map (fun p => p.2.2) := List.mem_map_of_mem hp
  rw [h2] at hm
  obtain ⟨p0, hp0, e⟩ := List.mem_map.1 hm
  rw [← e]
  exact h p0 hp0
theorem dq_rows {w w1 : World} {v v' : Value} {l : List DV} {q : Int} (h : DRowsAt w v l) (ho : w1.ownsRow w.heap.size 90 6 v' (l.map (setQ q)).length (flatDV (l.map (setQ q)))) (hb : Below w.heap.size w w1) : DRowsAt w1 v' (l.map (setQ q)) :=
  drows_own ho (fun p hp => by
    obtain ⟨p0, hp0, rfl⟩ := List.mem_map.1 hp
    exact ⟨(h.inv p0 hp0).rows.below hb, (h.inv p0 hp0).same⟩)
/-- A loaded share, and the document's, side by side. -/
theorem TwinS.load {q : Int} {gv : Bool} {w w1 w2 w4 : World} {f : Nat} {ρ : Roles} {v : Value} {l : List DV} (hD : DRowsAt w1 v l) (hI : ∀ p ∈ l, InvAt w p) (hq : ∀ p ∈ l, p.2.1 = q) (hb1 : Below w.heap.size w w1) (hb2 : Below w1.heap.size w1 w2) (hb4 : Below w2.heap.size w2 w4) (ho : okTL q gv (l.map Prod.fst)) (hla : Later (fun _ => []) ρ w2) (hn : NewRoles ρ [0] w2.heap.size)
    (hR : ShareAt [0] ρ w4 f q gv (l.map Prod.fst)) (hf : totT (l.map Prod.fst) ≤ 600000) (hfew : FewD l) : TwinS q w f w4.heap.size 600000 (w4.alloc (.cells #[.int .i64 q, v, .bool gv] 84)) := by
  have hb14 : Below w1.heap.size w1 w4 := hb2.trans (hb4.mono hb2.size)
  have hb : Below w.heap.size w w4 := hb1.trans (hb14.mono hb1.size)
  have hz : ∀ j, w4.heap.size ≤ j → fence ρ w4 j = [] := fun j hj => by simp [fence, Nat.not_lt.2 hj]
  have hold : ∀ j, j < w2.heap.size → ρ j = [] := fun j hj => hla j hj
  have s1 := hb1.size
  have s2 := hb2.size
  have s4 := hb4.size
  have hlow : ∀ j, j < w1.heap.size → Free (fence ρ w4) w4.heap.size j ∧ j < (w4.alloc (.cells #[.int .i64 q, v, .bool gv] 84)).heap.size := fun j hj => by
    refine ⟨⟨by omega, ?_⟩, by simp; omega⟩
    rw [fence_later ρ w4 j (by omega), hold j (by omega)]
  have hst : SState q w f 600000 gv (l.map Prod.fst) ρ w4 := by
    refine ⟨hR, hf, hb, fun j _ => ?_, fun j hj => hold j (by omega)⟩
    rcases Nat.lt_or_ge j w2.heap.size with h | h
    · exact .inl (hla j h)
    · exact hn j h
  have hfull := okTL_full ho
  refine ⟨gv, _, fence ρ w4, v, l, ⟨hst.fence.on box_below, ⟨fr_alloc_at, (hD.below hb14).below box_below, fun hne k hk => hlow k (drows_lt hD.rows hne k hk), fun p hp => ⟨fun hne k hk => hlow k (Nat.lt_of_lt_of_le (rows_lt (hI p hp).rows.rows hne k hk) s1), fun r hr k hk => hlow k (Nat.lt_of_lt_of_le (its_lt ((hI p hp).rows.its r hr) ?_ k hk) s1), (hfew.2 p hp).1, (hfew.2 p hp).2⟩, fun hb => hb.1 rfl, fun k hk => ?_, hfew.1, hq⟩, hz _ (Nat.le_refl _), hb.size⟩, rfl⟩
  · refine (hfull p.1 (List.mem_map_of_mem hp)).2 r.1 ?_
    rw [← (hI p hp).same]
    exact List.mem_map_of_mem hr
  · simp at hk
    exact ⟨by omega, hz k (by omega)⟩
theorem fewD_tot {w : World} {v : Value} {l : List DV} (h : DRowsAt w v l) (h1 : l.length ≤ 10) (h2 : ∀ p ∈ l, p.2.2.2.length ≤ 10) (hf : totT (l.map Prod.fst) ≤ 600000) : FewD l := by
  refine ⟨by omega, fun p hp => ⟨by have := h2 p hp; omega, fun r hr => ?_⟩⟩
  have e1 : r.1 ∈ p.1.rows := by
    rw [← (h.inv p hp).same]
    exact List.mem_map_of_mem hr
  have h3 := tot_mem e1
  have h4 := totT_mem (List.mem_map_of_mem (f := Prod.fst) hp)
  omega
set_option maxRecDepth 100000 in
set_option maxHeartbeats 16000000 in
/-- THE WALK: ShareLoads. -/
theorem shareLoads_any (q : Int) (gv : Bool) (v : Value) (l : List DV) (w : World) (hl : DRowsAt w v l) (hok : ∀ p ∈ l, DRowNum p) (hf : totT (l.map Prod.fst) ≤ 600000) : Calls Try.prog 9 #[.int .i64 q, v, .bool gv] w (TrueBelow w) := by
  have HL := Lib.hid hl
  have HOK := Lib.hid hok
  have HF := Lib.hid hf
  obtain ⟨a, cap, rfl, -⟩ := hl.form
  clear hl hok hf
  by_cases hlen : 10 < l.length
  · have hd : (10 : Int) < (l.length : Int) := by omega
    go_enter Try.func9, Try.ntmps9
    go_wp2_with fail
    refine (live16_any _).mono ?_
    rintro e w2 ⟨rfl, hb⟩
    have HB := Lib.hid hb
    clear hb
    go_wp2_with fail
    go_ret
    exact ⟨rfl, HB.out⟩
  · have hd : ¬ (10 : Int) < (l.length : Int) := by omega
    have HLEN := Lib.hid (show l.length ≤ 10 by omega)
    clear hlen
    go_enter Try.func9, Try.ntmps9
    go_wp2_with fail
    go_loopg [7] l.length (fun g u wr => ∃ i : Nat, g = l.length - i ∧ u = .int .i64 i ∧ i ≤ l.length ∧ (∀ j p, j < i → l[j]? = some p → p.2.2.2.length ≤ 10) ∧ wr = w)
    case atStart => exact ⟨0, rfl, rfl, Nat.zero_le _, (fun j p hj => by omega), rfl⟩
    case round =>
      obtain ⟨i, hg, rfl, hi, hs, rfl⟩ := hrel
      have HG := Lib.hid hg
      have HS := Lib.hid hs
      clear hg hs
      by_cases hlt : i < l.length
      · obtain ⟨p, hp⟩ : ∃ p, l[i]? = some p := ⟨_, List.getElem?_eq_getElem hlt⟩
        have HP := Lib.hid hp
        obtain ⟨g, off, cap', hv, _, -, -, -, -, c4, -⟩ := HL.out.at hp
        cases hv
        obtain ⟨pa, pc, hpv, -⟩ := (HL.out.inv p (List.mem_of_getElem? hp)).rows.form
        rw [hpv] at c4
        have hkl : (i : Int) < (l.length : Int) := by omega
        clear hp hpv
        by_cases h40 : 10 < p.2.2.2.length
        · have hd2 : (10 : Int) < (p.2.2.2.length : Int) := by omega
          clear h40
          go_wp2_with fail
          refine (live16_any _).mono ?_
          rintro e w2 ⟨rfl, hb⟩
          have HB := Lib.hid hb
          clear hb
          go_wp2_with fail
          go_ret
          exact ⟨rfl, HB.out⟩
        · have hd2 : ¬ (10 : Int) < (p.2.2.2.length : Int) := by omega
          have H40 := Lib.hid h40
          clear h40
          go_wp2_with fail
          go_roundg (l.length - (i + 1))
          case rel =>
            refine ⟨i + 1, rfl, by go_num, by omega, fun j p' hj hpj => ?_, rfl⟩
            rcases Nat.lt_or_ge j i with h | h
            · exact HS.out j p' h hpj
            · obtain rfl : j = i := by omega
              have h := HP.out.symm.trans hpj
              cases h
              exact Nat.not_lt.1 H40.out
          case measure => have := HG.out; omega
      · have H40 := Lib.hid (show ∀ p ∈ l, p.2.2.2.length ≤ 10 from fun p hp => by
          obtain ⟨j, hj⟩ := List.mem_iff_getElem?.1 hp
          exact HS.out j p (by have := (List.getElem?_eq_some_iff.1 hj).1; omega) hj)
        go_wp2_with fail
        refine (quanta16_any q _ l _ HL.out (by have := HLEN.out; omega)).mono ?_
        rintro e w1 ⟨v1, rfl, ho1, hb1⟩
        have HD1 := Lib.hid (dq_rows HL.out ho1 hb1)
        have HB1 := Lib.hid hb1
        obtain ⟨l1, hl1⟩ : ∃ l1, l1 = l.map (setQ q) := ⟨_, rfl⟩
        rw [← hl1] at HD1
        have HQ1 := Lib.hid (show ∀ p ∈ l1, p.2.1 = q from fun p hp => by
          rw [hl1] at hp
          obtain ⟨p0, -, rfl⟩ := List.mem_map.1 hp
          rfl)
        have HI1 := Lib.hid (show ∀ p ∈ l1, InvAt wr p from fun p hp => by
          rw [hl1] at hp
          obtain ⟨p0, hp0, rfl⟩ := List.mem_map.1 hp
          exact ⟨(HL.out.inv p0 hp0).rows, (HL.out.inv p0 hp0).same⟩)
        have HN1 := Lib.hid (show ∀ p ∈ l1, DRowNum p from fun p hp => by
          rw [hl1] at hp
          obtain ⟨p0, hp0, rfl⟩ := List.mem_map.1 hp
          exact HOK.out p0 hp0)
        have HE1 := Lib.hid (show l1.length ≤ 10 by rw [hl1, List.length_map]; exact HLEN.out)
        have HT1 := Lib.hid (show ∀ p ∈ l1, p.2.2.2.length ≤ 10 from fun p hp => by
          rw [hl1] at hp
          obtain ⟨p0, hp0, rfl⟩ := List.mem_map.1 hp
          exact H40.out p0 hp0)
        have HF1 := Lib.hid (show totT (l1.map Prod.fst) ≤ 600000 by rw [hl1, setQ_fst]; exact HF.out)
        have HW1 := Lib.hid (fewD_tot HD1.out HE1.out HT1.out HF1.out)
        obtain ⟨a1, c1, hv1, -⟩ := HD1.out.form
        subst hv1
        clear ho1 hb1 hl1
        go_wp2_with fail
        refine (back16_any _ l1 _ HD1.out HW1.out.1 (fun p hp => (HW1.out.2 p hp).1)).mono ?_
        rintro e w2 ⟨v2, l2, rfl, hl2, hm2, hx2, hb2⟩
        have HB2 := Lib.hid hb2
        have HL2 := Lib.hid hl2
        have HM2 := Lib.hid hm2
        have HN2 := Lib.hid (num_of hm2 hx2 HN1.out)
        have HE2 := Lib.hid (len_of (n := 1000000) hx2 (fun p hp => by have := HT1.out p hp; omega))
        have HZ2 := Lib.hid (show l2.length < 1000000 by have h := congrArg List.length hm2; rw [List.length_map, List.length_map] at h; have := HE1.out; omega)
        clear hb2 hl2 hm2 hx2
        go_wp2_with fail
        refine (shareLoad_any (pre := [0]) (ρ := fun _ => []) (by decide) q gv v2 l2 w2 HL2.out HN2.out (by rw [HM2.out]; have := HF1.out; omega) HZ2.out HE2.out).mono ?_
        rw [HM2.out]
        rintro e w3 ⟨hb3, ⟨ho, f, ρ', rfl, hla, hn, hR, hf⟩ | ⟨hno, rfl⟩⟩
        · have HB3 := Lib.hid hb3
          have HO := Lib.hid ho
          have HLA := Lib.hid hla
          have HN := Lib.hid hn
          have HR := Lib.hid hR
          clear hb3 ho hla hn hR hf
          go_wp2_with fail
          refine (r16Right_any q gv _ l1 w3 ((HD1.out.below HB2.out).below HB3.out) (by have := HF1.out; omega) (by have := HE1.out; omega) (fun p hp => by have := HT1.out p hp; omega)).mono ?_
          rintro e w4 ⟨⟨r, rfl, hr⟩, hb4⟩
          have hrt : r = true := hr.2 HO.out
          subst hrt
          have HB24 := Lib.hid (HB3.out.trans (hb4.mono HB3.out.size) : Below w2.heap.size w2 w4)
          have HR4 := Lib.hid (HR.out.below hb4)
          clear hb4 hr
          go_upto_region 15 with fail
          have HT := Lib.hid (TwinS.load HD1.out HI1.out HQ1.out HB1.out HB2.out HB24.out HO.out HLA.out HN.out HR4.out HF1.out HW1.out)
          obtain ⟨w5, hw5⟩ : ∃ w5 : World, w5 = w4.alloc (.cells #[.int .i64 q, .slice a1 l1.length c1, .bool gv] 84) := ⟨_, rfl⟩
          obtain ⟨b, hb⟩ : ∃ b : Nat, b = w4.heap.size := ⟨_, rfl⟩
          rw [← hw5, ← hb] at HT
          rw [← hw5, ← hb]
          clear hw5 hb
          go_wp2_with fail
          go_loopg [11] 20 (fun g u wx => ∃ i k : Nat, g = 20 - i ∧ u = .int .i64 i ∧ i ≤ 20 ∧ k ≤ 600000 + i ∧ TwinS q wr f b k wx)
          case atStart => exact ⟨0, 600000, rfl, rfl, by omega, by omega, HT.out⟩
          case round =>
            obtain ⟨j, k, hg2, rfl, hj, hk, hT⟩ := hrel
            have HG2 := Lib.hid hg2
            have HTK := Lib.hid hT
            have HKJ := Lib.hid hk
            obtain ⟨gv', rows, ρ2, v3, l3, hB3, hm3⟩ := hT
            have HB4 := Lib.hid hB3
            have HM4 := Lib.hid hm3
            have HBW := Lib.hid hB3.st.below
            have b0 := fr_cell_of_heap (i := 0) hB3.doc.head rfl
            have b1 := fr_cell_of_heap (i := 1) hB3.doc.head rfl
            have b2 := fr_cell_of_heap (i := 2) hB3.doc.head rfl
            have HTT := Lib.hid (show totT rows ≤ 1000000 by have := hB3.st.few; omega)
            clear hg2 hk hB3 hm3
            by_cases hj20 : j < 20
            · have hji : (j : Int) < 20 := by omega
              go_wp2_with fail
              refine (same16_any q v3 l3 _ HB4.out.st.ring HTT.out HB4.out.doc.rows HM4.out).mono ?_
              rintro e w6 ⟨rfl, hb6⟩
              have HB6 := Lib.hid (HB4.out.on hb6)
              clear hb6 b0 b1 b2
              go_wp2_with fail
              have hT6 : TwinS q _ f b k w6 := ⟨_, _, _, _, _, HB6.out, HM4.out⟩
              refine (does16_any ⟨1, ent0⟩ ⟨i64_of (n := 0) (by decide), i64_of (n := 0) (by decide), i64_of (n := 0) (by decide), i64_of (n := 0) (by decide), i64_of (n := 0) (by decide), i64_of (n := 0) (by decide), i64_of (n := 0) (by decide)⟩ hT6 (by have := HKJ.out; omega)).mono ?_
              rintro e w7 ⟨rfl, hT7⟩
              have HT7 := Lib.hid hT7
              clear hT6 hT7
              go_wp2_with fail
              go_roundg (20 - (j + 1))
              case rel => exact ⟨j + 1, k + 1, rfl, by go_num, by omega, by have := HKJ.out; omega, HT7.out⟩
              case measure => have := HG2.out; omega
            · have hji : ¬ (j : Int) < 20 := by omega
              go_wp2_with fail
              refine (live16_any _).mono ?_
              rintro e w8 ⟨rfl, hb8⟩
              have HB8 := Lib.hid (HBW.out.trans (hb8.mono HBW.out.size))
              clear hb8
              go_wp2_with fail
              go_ret
              exact ⟨rfl, HB8.out⟩
        · have HNO := Lib.hid hno
          have HB3 := Lib.hid hb3
          clear hno hb3
          go_wp2_with fail
          refine (r16Right_any q gv _ l1 w3 ((HD1.out.below HB2.out).below HB3.out) (by have := HF1.out; omega) (by have := HE1.out; omega) (fun p hp => by have := HT1.out p hp; omega)).mono ?_
          rintro e w4 ⟨⟨r, rfl, hr⟩, hb4⟩
          have hrf : r = false := by
            cases r with
            | false => rfl
            | true => exact absurd (hr.1 rfl) HNO.out
          subst hrf
          have HB4 := Lib.hid (HB1.out.trans ((HB2.out.trans ((HB3.out.trans (hb4.mono HB3.out.size)).mono HB2.out.size)).mono HB1.out.size))
          clear hb4 hr
          go_wp2_with fail
          refine (live16_any _).mono ?_
          rintro e w5 ⟨rfl, hb5⟩
          have HB5 := Lib.hid (HB4.out.trans (hb5.mono HB4.out.size))
          clear hb5
          go_wp2_with fail
          go_ret
          exact ⟨rfl, HB5.out⟩
end Go.Proofs.Ytohkchilogmneaa
