/-
  pool.Pools: each, with Take's closure: the walk.
-/
import Derived.Test.YtdbjihkgafhakaaGreatDoorPool3
namespace Go.Proofs.YtdbjihkgafhakaaGreatDoor
open Go.RowKit

def needTo (most : Int) (pl : ByteArray) (i : Nat) (n : PN) (b : Option PB) : Nat → Option PB
  | 0 => b
  | k + 1 => match n.cls[k]? with
    | some c => stepB most pl (needTo most pl i n b k) ⟨i, n, k, c⟩
    | none => needTo most pl i n b k
def bestTo (most : Int) (pl : ByteArray) (L : List PN) : Nat → Option PB
  | 0 => none
  | i + 1 => match L[i]? with
    | some n => needTo most pl i n (bestTo most pl L i) n.cls.length
    | none => bestTo most pl L i
/-- What is chosen stands there. -/
def InB (L : List PN) (b : Option PB) : Prop := ∀ z, b = some z → L[z.i]? = some z.n ∧ z.n.cls[z.k]? = some z.c
theorem stepB_in {most : Int} {pl : ByteArray} {L : List PN} {b : Option PB} {y : PB} (h : InB L b) (h1 : L[y.i]? = some y.n) (h2 : y.n.cls[y.k]? = some y.c) : InB L (stepB most pl b y) := by
  intro z hz
  unfold stepB at hz
  split at hz
  · cases hz
    exact ⟨h1, h2⟩
  · exact h z hz
theorem needTo_in {most : Int} {pl : ByteArray} {L : List PN} {b : Option PB} {i : Nat} {n : PN} (h : InB L b) (hn : L[i]? = some n) : ∀ k, InB L (needTo most pl i n b k)
  | 0 => h
  | k + 1 => by
    have ih := needTo_in (most := most) (pl := pl) h hn k
    cases hc : n.cls[k]? with
    | none =>
      show InB L (match n.cls[k]? with | some c => stepB most pl (needTo most pl i n b k) ⟨i, n, k, c⟩ | none => needTo most pl i n b k)
      rw [hc]
      exact ih
    | some c =>
      show InB L (match n.cls[k]? with | some c => stepB most pl (needTo most pl i n b k) ⟨i, n, k, c⟩ | none => needTo most pl i n b k)
      rw [hc]
      exact stepB_in ih hn hc
theorem needTo_succ {most : Int} {pl : ByteArray} {b : Option PB} {i k : Nat} {n : PN} {c : PC} (hc : n.cls[k]? = some c) : needTo most pl i n b (k + 1) = stepB most pl (needTo most pl i n b k) ⟨i, n, k, c⟩ := by
  show (match n.cls[k]? with | some c => stepB most pl (needTo most pl i n b k) ⟨i, n, k, c⟩ | none => needTo most pl i n b k) = _
  rw [hc]
theorem bestTo_succ {most : Int} {pl : ByteArray} {L : List PN} {i : Nat} {n : PN} (hn : L[i]? = some n) : bestTo most pl L (i + 1) = needTo most pl i n (bestTo most pl L i) n.cls.length := by
  show (match L[i]? with | some n => needTo most pl i n (bestTo most pl L i) n.cls.length | none => bestTo most pl L i) = _
  rw [hn]
theorem bestTo_in {most : Int} {pl : ByteArray} {L : List PN} : ∀ i, InB L (bestTo most pl L i)
  | 0 => fun _ hz => by cases hz
  | i + 1 => by
    have ih := bestTo_in (most := most) (pl := pl) (L := L) i
    cases hn : L[i]? with
    | none =>
      show InB L (match L[i]? with | some n => needTo most pl i n (bestTo most pl L i) n.cls.length | none => bestTo most pl L i)
      rw [hn]
      exact ih
    | some n =>
      rw [bestTo_succ hn]
      exact needTo_in ih hn _
/-- What is not too much. -/
structure PoolOk (x : PX) (L : List PN) : Prop where
  few : L.length ≤ 1000000
  cls : x.classes ≤ 1000000
  name : ∀ n ∈ L, n.name.size ≤ 1048576
  tot : ∀ n ∈ L, ∀ c ∈ n.cls, totT c.rows ≤ 1000000
section
variable {ρ : Roles} {P : Nat} {x : PX} {next : Int} {v : Value} {L : List PN} {mb bb pb wb : Nat} {most : Int} {pl : ByteArray} {w w' : World}
/-- Blocks that are nobody's may change. -/
theorem PoolAt.boxes (h : PoolAt ρ w P x next v L) {S : Nat → Prop} (hF : Fp S w w') (hS : ∀ j, S j → ρ j = []) : PoolAt ρ w' P x next v L := by
  refine h.frame hF (fun k e hs => ?_) (fun k e hs => ?_) (fun i n hn k _ hp hs => ?_)
  · rw [hS k hs] at e
    simp at e
  · rw [hS k hs] at e
    simp at e
  · have e0 := hS k hs
    rcases hp with e | e | e | ⟨c, _, t, e⟩
    all_goals
      rw [e0] at e
      simp at e
def ERel1 (mb bb pb wb : Nat) (most : Int) (pl : ByteArray) (L : List PN) (w : World) (g : Nat) (i : Value) (wr : World) : Prop := ∃ K : Nat, g = L.length - K ∧ i = .int .i64 K ∧ K ≤ L.length ∧ TBox wr mb bb pb wb most pl (bestTo most pl L K) ∧ Fp (fun j => j = bb ∨ j = wb) w wr
def ERel2 (mb bb pb wb : Nat) (most : Int) (pl : ByteArray) (L : List PN) (K : Nat) (n : PN) (w : World) (g : Nat) (i : Value) (wr : World) : Prop := ∃ J : Nat, g = n.cls.length - J ∧ i = .int .i64 J ∧ J ≤ n.cls.length ∧ TBox wr mb bb pb wb most pl (needTo most pl K n (bestTo most pl L K) J) ∧ Fp (fun j => j = bb ∨ j = wb) w wr
set_option maxRecDepth 100000 in
set_option maxHeartbeats 4000000 in
/-- THE WALK: each, with Take's closure. -/
theorem peach_any (w : World) (hr : ∀ w', Fp (fun j => j = bb ∨ j = wb) w w' → Ready w') (hS : PoolAt ρ w P x next v L) (hO : PoolOk x L) (hT : TBox w mb bb pb wb most pl none) (hb : ρ bb = []) (hw : ρ wb = []) (hp : pl.size ≤ 1048576) :
    Calls Tryz.prog 34 #[.pointer (some ⟨P, 0, none⟩), .func (.func 35) #[] #[.pointer (some ⟨mb, 0, none⟩), .pointer (some ⟨bb, 0, none⟩), .pointer (some ⟨pb, 0, none⟩), .pointer (some ⟨wb, 0, none⟩)]] w
      fun e w' => e = .returned (.tuple #[]) ∧ TBox w' mb bb pb wb most pl (bestTo most pl L L.length) ∧ Fp (fun j => j = bb ∨ j = wb) w w' := by
  have HRD := Lib.hid hr
  have HSF := Lib.hid (show ∀ w', Fp (fun j => j = bb ∨ j = wb) w w' → PoolAt ρ w' P x next v L from fun w' hF => hS.boxes hF (fun j e => e.elim (fun e => e ▸ hb) (fun e => e ▸ hw)))
  have HO := Lib.hid hO
  have HT := Lib.hid hT
  have HB := Lib.hid (And.intro hb hw)
  have HP := Lib.hid hp
  have c4 : w.cell? ⟨P, 4, none⟩ = some v := fr_cell_of_heap hS.head rfl
  obtain ⟨a, cap, rfl, -⟩ := hS.form
  have hfew := hO.few
  have hcls := hO.cls
  clear hr hS hO hT hb hw hp
  go_enter Tryz.func34, Tryz.ntmps34
  go_wp2_with fail
  go_loopg [13] L.length (fun g i wr => ERel1 mb bb pb wb most pl L w g i wr)
  case atStart => exact ⟨0, rfl, rfl, Nat.zero_le _, HT.out, Fp.refl _ _⟩
  case round =>
    obtain ⟨K, hg, rfl, hK, hT, hF⟩ := hrel
    have HG := Lib.hid hg
    have HTK := Lib.hid hT
    have HFK := Lib.hid hF
    clear hg hT hF
    by_cases hlt : K < L.length
    · obtain ⟨n, hn⟩ : ∃ n, L[K]? = some n := ⟨_, List.getElem?_eq_getElem hlt⟩
      have HN := Lib.hid hn
      have hSK := HSF.out wr HFK.out
      obtain ⟨g, off, cap', hv, d0⟩ := hSK.at hn
      cases hv
      have hNK := hSK.need K n hn
      obtain ⟨a2, cap2, hcv, -⟩ := hNK.form
      have HCV := Lib.hid hcv
      have n2 : wr.cell? ⟨n.blk, 2, none⟩ = some (.slice a2 n.cls.length cap2) := by rw [← hcv]; exact fr_cell_of_heap hNK.blk rfl
      have hnl : n.cls.length ≤ 1000000 := by rw [hNK.len]; exact hcls
      have hKl : (K : Int) < (L.length : Int) := by omega
      clear hn hSK hNK hcv
      go_wp2_with fail
      clear d0 n2
      go_loopg [22] n.cls.length (fun g i wr => ERel2 mb bb pb wb most pl L K n w g i wr)
      case atStart => exact ⟨0, rfl, rfl, Nat.zero_le _, HTK.out, HFK.out⟩
      case round =>
        obtain ⟨J, hg, rfl, hJ, hT, hF⟩ := hrel
        have HG2 := Lib.hid hg
        have HTJ := Lib.hid hT
        have HFJ := Lib.hid hF
        clear hg hT hF
        by_cases hlj : J < n.cls.length
        · obtain ⟨c, hc⟩ : ∃ c, n.cls[J]? = some c := ⟨_, List.getElem?_eq_getElem hlj⟩
          have HC := Lib.hid hc
          have hNJ := (HSF.out wr HFJ.out).need K n HN.out
          obtain ⟨g2, off2, cap2', hv2, d1⟩ := hNJ.at hc
          rw [HCV.out] at hv2
          cases hv2
          have hJl : (J : Int) < (n.cls.length : Int) := by omega
          have HNJ := Lib.hid hNJ
          clear hc hNJ
          go_wp2_with fail
          have hz : ∀ z, needTo most pl K n (bestTo most pl L K) J = some z → wr.cell? ⟨z.c.blk, 0, none⟩ = some (.int .i64 z.c.served) := fun z hz => by
            obtain ⟨h1, h2⟩ := needTo_in (bestTo_in K) HN.out J z hz
            exact fr_cell_of_heap (((HSF.out wr HFJ.out).need z.i z.n h1).cls z.k z.c h2).blk rfl
          have hne : ∀ {j}, ρ j = [] → n.blk ≠ j := fun {j} e e' => by
            have h1 := HNJ.out.role
            rw [e', e] at h1
            simp at h1
          refine (takeC_any (ρ := ρ) (q := x.q) (nb := n.blk) ⟨K, n, J, c⟩ wr (HRD.out wr HFJ.out) HTJ.out (fr_cell_of_heap HNJ.out.blk rfl) (HNJ.out.cls J c HC.out) hz (HO.out.tot n (List.mem_of_getElem? HN.out) c (List.mem_of_getElem? HC.out)) HP.out (HO.out.name n (List.mem_of_getElem? HN.out)) (hne HB.out.1) (hne HB.out.2)).mono ?_
          rintro e w1 ⟨rfl, hT1, hF1⟩
          rw [← needTo_succ HC.out] at hT1
          have HT1 := Lib.hid hT1
          have HF1 := Lib.hid (HFJ.out.trans hF1 (fun _ _ h => h))
          clear hT1 hF1 hz hne d1
          go_wp2_with fail
          go_roundg (n.cls.length - (J + 1))
          case rel => exact ⟨J + 1, rfl, by go_num, by omega, HT1.out, HF1.out⟩
          case measure => have := HG2.out; omega
        · obtain rfl : J = n.cls.length := by omega
          have HT1 := Lib.hid (by have h := HTJ.out; rw [← bestTo_succ HN.out] at h; exact h : TBox wr mb bb pb wb most pl (bestTo most pl L (K + 1)))
          go_wp2_with fail
          go_roundg (L.length - (K + 1))
          case rel => exact ⟨K + 1, rfl, by go_num, by omega, HT1.out, HFJ.out⟩
          case measure => have := HG.out; omega
    · obtain rfl : K = L.length := by omega
      go_wp2_with fail
      exact bodyPost_end (results_none rfl _ _ _) rfl ⟨rfl, HTK.out, HFK.out⟩
end
end Go.Proofs.YtdbjihkgafhakaaGreatDoor
