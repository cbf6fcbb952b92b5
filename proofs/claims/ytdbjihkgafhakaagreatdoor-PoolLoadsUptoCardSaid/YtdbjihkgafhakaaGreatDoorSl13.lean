/-
 pool.Pools: each, with Take's closure: the walk.
 pool.Pools: Take: the walk.
 pool.Pools: Push, Drop, Waits, Uses: the walks.
 pool.Pools: Leave, Uses, Drop: the walks.
 pool.New; Enter: the walks.
-/
import Derived.Test.YtdbjihkgafhakaaGreatDoorSl12
import Derived.Deep.RegionHeld3
import Derived.ArgAppend
import Derived.Deep.RegionLaw
namespace Go.Proofs.YtdbjihkgafhakaaGreatDoor
open Go.RowKit
def ZP (most : Int) (pl : ByteArray) (i : Nat) (n : PN) (b : Option PB) : Nat → Option PB
 | 0 => b
 | k + 1 => match n.cls[k]? with
   | some c => stepB most pl (ZP most pl i n b k) ⟨i, n, k, c⟩
   | none => ZP most pl i n b k
def ZJ (most : Int) (pl : ByteArray) (L : List PN) : Nat → Option PB
 | 0 => none
 | i + 1 => match L[i]? with
   | some n => ZP most pl i n (ZJ most pl L i) n.cls.length
   | none => ZJ most pl L i
def InB (L : List PN) (b : Option PB) : Prop := ∀ z, b = some z → L[z.i]? = some z.n ∧ z.n.cls[z.k]? = some z.c
theorem Znb {most : Int} {pl : ByteArray} {L : List PN} {b : Option PB} {y : PB} (h : InB L b) (h1 : L[y.i]? = some y.n) (h2 : y.n.cls[y.k]? = some y.c) : InB L (stepB most pl b y) := by
 intro z hz
 unfold stepB at hz
 split at hz
 ·cases hz
  exact ⟨h1, h2⟩
 ·exact h z hz
theorem Zc8 {most : Int} {pl : ByteArray} {L : List PN} {b : Option PB} {i : Nat} {n : PN} (h : InB L b) (hn : L[i]? = some n) : ∀ k, InB L (ZP most pl i n b k)
 | 0 => h
 | k + 1 => by
   have ih := Zc8 (most := most) (pl := pl) h hn k
   cases hc : n.cls[k]? with
   | none =>
     show InB L (match n.cls[k]? with | some c => stepB most pl (ZP most pl i n b k) ⟨i, n, k, c⟩ | none => ZP most pl i n b k)
     rw [hc]
     exact ih
   | some c =>
     show InB L (match n.cls[k]? with | some c => stepB most pl (ZP most pl i n b k) ⟨i, n, k, c⟩ | none => ZP most pl i n b k)
     rw [hc]
     exact Znb ih hn hc
theorem Zbv {most : Int} {pl : ByteArray} {b : Option PB} {i k : Nat} {n : PN} {c : PC} (hc : n.cls[k]? = some c) : ZP most pl i n b (k + 1) = stepB most pl (ZP most pl i n b k) ⟨i, n, k, c⟩ := by
 show (match n.cls[k]? with | some c => stepB most pl (ZP most pl i n b k) ⟨i, n, k, c⟩ | none => ZP most pl i n b k) = _
 rw [hc]
theorem ZbS {most : Int} {pl : ByteArray} {L : List PN} {i : Nat} {n : PN} (hn : L[i]? = some n) : ZJ most pl L (i + 1) = ZP most pl i n (ZJ most pl L i) n.cls.length := by
 show (match L[i]? with | some n => ZP most pl i n (ZJ most pl L i) n.cls.length | none => ZJ most pl L i) = _
 rw [hn]
theorem ZbF {most : Int} {pl : ByteArray} {L : List PN} : ∀ i, InB L (ZJ most pl L i)
 | 0 => fun _ hz => by cases hz
 | i + 1 => by
   have ih := ZbF (most := most) (pl := pl) (L := L) i
   cases hn : L[i]? with
   | none =>
     show InB L (match L[i]? with | some n => ZP most pl i n (ZJ most pl L i) n.cls.length | none => ZJ most pl L i)
     rw [hn]
     exact ih
   | some n =>
     rw [ZbS hn]
     exact Zc8 ih hn _
structure PoolOk (x : PX) (L : List PN) : Prop where
 few : L.length ≤ 1000000
 cls : x.classes ≤ 1000000
 name : ∀ n ∈ L, n.name.size ≤ 1048576
 tot : ∀ n ∈ L, ∀ c ∈ n.cls, totT c.rows ≤ 1000000
section
variable {ρ : Roles} {P : Nat} {x : PX} {next : Int} {v : Value} {L : List PN} {mb bb pb wb : Nat} {most : Int} {pl : ByteArray} {w w' : World}
theorem PoolAt.boxes (h : PoolAt ρ w P x next v L) {S : Nat → Prop} (hF : Fp S w w') (hS : ∀ j, S j → ρ j = []) : PoolAt ρ w' P x next v L := by
 refine h.frame hF (fun k e hs => ?_) (fun k e hs => ?_) (fun i n hn k _ hp hs => ?_)
 ·rw [hS k hs] at e
  simp at e
 ·rw [hS k hs] at e
  simp at e
 ·have e0 := hS k hs
  rcases hp with e | e | e | ⟨c, _, t, e⟩
  all_goals
   rw [e0] at e
   simp at e
def ERel1 (mb bb pb wb : Nat) (most : Int) (pl : ByteArray) (L : List PN) (w : World) (g : Nat) (i : Value) (wr : World) : Prop := ∃ K : Nat, g = L.length - K ∧ i = .int .i64 K ∧ K ≤ L.length ∧ TBox wr mb bb pb wb most pl (ZJ most pl L K) ∧ Fp (fun j => j = bb ∨ j = wb) w wr
def ERel2 (mb bb pb wb : Nat) (most : Int) (pl : ByteArray) (L : List PN) (K : Nat) (n : PN) (w : World) (g : Nat) (i : Value) (wr : World) : Prop := ∃ J : Nat, g = n.cls.length - J ∧ i = .int .i64 J ∧ J ≤ n.cls.length ∧ TBox wr mb bb pb wb most pl (ZP most pl K n (ZJ most pl L K) J) ∧ Fp (fun j => j = bb ∨ j = wb) w wr
set_option maxRecDepth 100000 in
set_option maxHeartbeats 4000000 in
theorem Zey (w : World) (hr : ∀ w', Fp (fun j => j = bb ∨ j = wb) w w' → Ready w') (hS : PoolAt ρ w P x next v L) (hO : PoolOk x L) (hT : TBox w mb bb pb wb most pl none) (hb : ρ bb = []) (hw : ρ wb = []) (hp : pl.size ≤ 1048576) :
 Calls Tryz.prog 34 #[.pointer (some ⟨P, 0, none⟩), .func (.func 35) #[] #[.pointer (some ⟨mb, 0, none⟩), .pointer (some ⟨bb, 0, none⟩), .pointer (some ⟨pb, 0, none⟩), .pointer (some ⟨wb, 0, none⟩)]] w
  fun e w' => e = .returned (.tuple #[]) ∧ TBox w' mb bb pb wb most pl (ZJ most pl L L.length) ∧ Fp (fun j => j = bb ∨ j = wb) w w' := by
 have HRD := Lib.hid hr
 have HSF := Lib.hid (show ∀ w', Fp (fun j => j = bb ∨ j = wb) w w' → PoolAt ρ w' P x next v L from fun w' hF => hS.boxes hF (fun j e => e.elim (fun e => e ▸ hb) (fun e => e ▸ hw)))
 have HO := Lib.hid hO
 have HT := Lib.hid hT
 have HB := Lib.hid (And.intro hb hw)
 have HP := Lib.hid hp
 have c4 : w.cell? ⟨P, 4, none⟩ = some v := Za hS.head rfl
 obtain ⟨a, cap, rfl, -⟩ := hS.form
 have hfew := hO.few
 have hcls := hO.cls
 clear hr hS hO hT hb hw hp
 go_enter Tryz.func34, Tryz.ntmps34
 go_wp2_with fail
 go_loopg [13] L.length (fun g i wr => ERel1 mb bb pb wb most pl L w g i wr)
 case atStart => exact ⟨0, rfl, rfl, Nat.zero_le _, HT.out, Fp.refl _ _⟩
 case round =>
  obtain ⟨K, hg, rfl, hK, hT, hF⟩ := hrel
  have HG := Lib.hid hg
  have HTK := Lib.hid hT
  have HFK := Lib.hid hF
  clear hg hT hF
  by_cases hlt : K < L.length
  ·obtain ⟨n, hn⟩ : ∃ n, L[K]? = some n := ⟨_, List.getElem?_eq_getElem hlt⟩
   have HN := Lib.hid hn
   have hSK := HSF.out wr HFK.out
   obtain ⟨g, off, cap', hv, d0⟩ := hSK.at hn
   cases hv
   have hNK := hSK.need K n hn
   obtain ⟨a2, cap2, hcv, -⟩ := hNK.form
   have HCV := Lib.hid hcv
   have n2 : wr.cell? ⟨n.blk, 2, none⟩ = some (.slice a2 n.cls.length cap2) := by rw [← hcv]; exact Za hNK.blk rfl
   have hnl : n.cls.length ≤ 1000000 := by rw [hNK.len]; exact hcls
   have hKl : (K : Int) < (L.length : Int) := by omega
   clear hn hSK hNK hcv
   go_wp2_with fail
   clear d0 n2
   go_loopg [22] n.cls.length (fun g i wr => ERel2 mb bb pb wb most pl L K n w g i wr)
   case atStart => exact ⟨0, rfl, rfl, Nat.zero_le _, HTK.out, HFK.out⟩
   case round =>
    obtain ⟨J, hg, rfl, hJ, hT, hF⟩ := hrel
    have HG2 := Lib.hid hg
    have HTJ := Lib.hid hT
    have HFJ := Lib.hid hF
    clear hg hT hF
    by_cases hlj : J < n.cls.length
    ·obtain ⟨c, hc⟩ : ∃ c, n.cls[J]? = some c := ⟨_, List.getElem?_eq_getElem hlj⟩
     have HC := Lib.hid hc
     have hNJ := (HSF.out wr HFJ.out).need K n HN.out
     obtain ⟨g2, off2, cap2', hv2, d1⟩ := hNJ.at hc
     rw [HCV.out] at hv2
     cases hv2
     have hJl : (J : Int) < (n.cls.length : Int) := by omega
     have HNJ := Lib.hid hNJ
     clear hc hNJ
     go_wp2_with fail
     have hz : ∀ z, ZP most pl K n (ZJ most pl L K) J = some z → wr.cell? ⟨z.c.blk, 0, none⟩ = some (.int .i64 z.c.served) := fun z hz => by
      obtain ⟨h1, h2⟩ := Zc8 (ZbF K) HN.out J z hz
      exact Za (((HSF.out wr HFJ.out).need z.i z.n h1).cls z.k z.c h2).blk rfl
     have hne : ∀ {j}, ρ j = [] → n.blk ≠ j := fun {j} e e' => by
      have h1 := HNJ.out.role
      rw [e', e] at h1
      simp at h1
     refine (ZlP (ρ := ρ) (q := x.q) (nb := n.blk) ⟨K, n, J, c⟩ wr (HRD.out wr HFJ.out) HTJ.out (Za HNJ.out.blk rfl) (HNJ.out.cls J c HC.out) hz (HO.out.tot n (List.mem_of_getElem? HN.out) c (List.mem_of_getElem? HC.out)) HP.out (HO.out.name n (List.mem_of_getElem? HN.out)) (hne HB.out.1) (hne HB.out.2)).mono ?_
     rintro e w1 ⟨rfl, hT1, hF1⟩
     rw [← Zbv HC.out] at hT1
     have HT1 := Lib.hid hT1
     have HF1 := Lib.hid (HFJ.out.trans hF1 (fun _ _ h => h))
     clear hT1 hF1 hz hne d1
     go_wp2_with fail
     go_roundg (n.cls.length - (J + 1))
     case rel => exact ⟨J + 1, rfl, by go_num, by omega, HT1.out, HF1.out⟩
     case measure => have := HG2.out; omega
    ·obtain rfl : J = n.cls.length := by omega
     have HT1 := Lib.hid (by have h := HTJ.out; rw [← ZbS HN.out] at h; exact h : TBox wr mb bb pb wb most pl (ZJ most pl L (K + 1)))
     go_wp2_with fail
     go_roundg (L.length - (K + 1))
     case rel => exact ⟨K + 1, rfl, by go_num, by omega, HT1.out, HFJ.out⟩
     case measure => have := HG.out; omega
  ·obtain rfl : K = L.length := by omega
   go_wp2_with fail
   exact bodyPost_end (results_none rfl _ _ _) rfl ⟨rfl, HTK.out, HFK.out⟩
end
theorem ZdR {w w1 : World} {most : Int} {pl : ByteArray} (hw : w1 = ((((w.alloc (.cells #[.string pl] 9)).alloc (.cells #[.int .i64 most] 3)).alloc (.cells (entC ent0) 25)).alloc (.cells #[.pointer none] 73)).alloc (.cells (entC ent0) 25)) :
 Below w.heap.size w w1 ∧ TBox w1 (w.heap.size + 1) (w.heap.size + 3) w.heap.size (w.heap.size + 4) most pl none ∧ w1.heap[w.heap.size + 2]? = some (.cells (entC ent0) 25 (0, 0)) ∧ w1.heap.size = w.heap.size + 5 := by
 obtain ⟨wa, hwa⟩ : ∃ wa : World, wa = w.alloc (.cells #[.string pl] 9) := ⟨_, rfl⟩
 rw [← hwa] at hw
 obtain ⟨wb, hwb⟩ : ∃ wb : World, wb = wa.alloc (.cells #[.int .i64 most] 3) := ⟨_, rfl⟩
 rw [← hwb] at hw
 obtain ⟨wc, hwc⟩ : ∃ wc : World, wc = wb.alloc (.cells (entC ent0) 25) := ⟨_, rfl⟩
 rw [← hwc] at hw
 obtain ⟨wd, hwd⟩ : ∃ wd : World, wd = wc.alloc (.cells #[.pointer none] 73) := ⟨_, rfl⟩
 rw [← hwd] at hw
 have sa : wa.heap.size = w.heap.size + 1 := by rw [hwa]; simp
 have sb : wb.heap.size = w.heap.size + 2 := by rw [hwb]; simp [sa]
 have sc : wc.heap.size = w.heap.size + 3 := by rw [hwc]; simp [sb]
 have sd : wd.heap.size = w.heap.size + 4 := by rw [hwd]; simp [sc]
 have s1 : w1.heap.size = w.heap.size + 5 := by rw [hw]; simp [sd]
 have h0 : wa.heap[w.heap.size]? = some (.cells #[.string pl] 9 (0, 0)) := by rw [hwa]; exact Zf
 have h1 : wb.heap[w.heap.size + 1]? = some (.cells #[.int .i64 most] 3 (0, 0)) := by rw [hwb, ← sa]; exact Zf
 have h2 : wc.heap[w.heap.size + 2]? = some (.cells (entC ent0) 25 (0, 0)) := by rw [hwc, ← sb]; exact Zf
 have h3 : wd.heap[w.heap.size + 3]? = some (.cells #[.pointer none] 73 (0, 0)) := by rw [hwd, ← sc]; exact Zf
 have h4 : w1.heap[w.heap.size + 4]? = some (.cells (entC ent0) 25 (0, 0)) := by rw [hw, ← sd]; exact Zf
 have B1 : Below wb.heap.size wb w1 := by rw [hw, hwd, hwc]; exact (box_below.alloc (by simp) _).alloc (by simp; omega) _
 have B0 : Below wa.heap.size wa w1 := by rw [hw, hwd, hwc, hwb]; exact ((box_below.alloc (by simp) _).alloc (by simp; omega) _).alloc (by simp; omega) _
 have B2 : Below wc.heap.size wc w1 := by rw [hw, hwd]; exact box_below.alloc (by simp) _
 have B3 : Below wd.heap.size wd w1 := by rw [hw]; exact box_below
 refine ⟨by rw [hwa] at B0; exact box_below.trans (B0.mono (by simp)), ⟨(B1.block _ (Zb h1)).trans h1, (B3.block _ (Zb h3)).trans h3, (B0.block _ (Zb h0)).trans h0, h4, by omega, by omega, by omega, by omega, by omega⟩, (B2.block _ (Zb h2)).trans h2, s1⟩
theorem Zw {ρ : Roles} {w : World} {k : Nat} (h : w.heap.size ≤ k) : fence ρ w k = [] := by simp [fence, Nat.not_lt.2 h]
theorem Zez : entC ent0 = #[.string ⟨#[]⟩, .int .i64 0, .int .i64 0, .int .i64 0, .int .i64 0, .int .i64 0, .int .i64 0, .int .i64 0] := rfl
theorem TBox.fp {w w' : World} {mb bb pb wb : Nat} {most : Int} {pl : ByteArray} {b : Option PB} (h : TBox w mb bb pb wb most pl b) {S : Nat → Prop} (hF : Fp S w w') (h1 : ¬ S mb) (h2 : ¬ S bb) (h3 : ¬ S pb) (h4 : ¬ S wb) : TBox w' mb bb pb wb most pl b :=
 ⟨hF.heap h.m h1, hF.heap h.bx h2, hF.heap h.p h3, hF.heap h.wh h4, h.ne⟩
section
variable {ρ : Roles} {P : Nat} {x : PX} {next : Int} {v : Value} {L : List PN} {most : Int} {pl : ByteArray} {w : World}
set_option maxRecDepth 100000 in
set_option maxHeartbeats 4000000 in
theorem ZkD (w : World) (hr : Ready w) (hS : PoolAt ρ w P x next v L) (hO : PoolOk x L) (hp : pl.size ≤ 1048576) (hb : ZJ most pl L L.length = none) :
 Calls Tryz.prog 14 #[.pointer (some ⟨P, 0, none⟩), .string pl, .int .i64 most] w fun e w' => e = .returned (.tuple #[entV ent0, .bool false]) ∧ Below w.heap.size w w' := by
 have HS := Lib.hid (hS.later (Zg ρ w))
 have HR := Lib.hid hr
 have HO := Lib.hid hO
 have HP := Lib.hid hp
 have HB := Lib.hid hb
 clear hr hS hO hp hb
 go_enter Tryz.func14, Tryz.ntmps14
 go_upto_region 5 with fail
 obtain ⟨w1, hw1⟩ : ∃ w1 : World, w1 = ((((w.alloc (.cells #[.string pl] 9)).alloc (.cells #[.int .i64 most] 3)).alloc (.cells (entC ent0) 25)).alloc (.cells #[.pointer none] 73)).alloc (.cells (entC ent0) 25) := ⟨_, rfl⟩
 rw [← Zez, ← hw1]
 obtain ⟨wb, hwb⟩ : ∃ k : Nat, k = w.heap.size + 1 + 1 + 1 + 1 := ⟨_, rfl⟩
 rw [← hwb]
 obtain ⟨bb, hbb⟩ : ∃ k : Nat, k = w.heap.size + 1 + 1 + 1 := ⟨_, rfl⟩
 rw [← hbb]
 obtain ⟨rb, hrb⟩ : ∃ k : Nat, k = w.heap.size + 1 + 1 := ⟨_, rfl⟩
 rw [← hrb]
 obtain ⟨mb, hmb⟩ : ∃ k : Nat, k = w.heap.size + 1 := ⟨_, rfl⟩
 rw [← hmb]
 obtain ⟨pb, hpb⟩ : ∃ k : Nat, k = w.heap.size := ⟨_, rfl⟩
 rw [← hpb]
 obtain ⟨hb1, ht1, hr1, hz1⟩ := ZdR hw1
 have HB1 := Lib.hid hb1
 have HT1 := Lib.hid (show TBox w1 mb bb pb wb most pl none by rw [hmb, hbb, hpb, hwb]; exact ht1)
 have HR1 := Lib.hid (show w1.heap[rb]? = some (.cells (entC ent0) 25 (0, 0)) by rw [hrb]; exact hr1)
 have HNB := Lib.hid (show (w.heap.size ≤ bb ∧ w.heap.size ≤ wb ∧ w.heap.size ≤ rb ∧ w.heap.size ≤ mb ∧ w.heap.size ≤ pb) ∧ (rb ≠ bb ∧ rb ≠ wb) from ⟨by omega, by omega⟩)
 have HF0 := Lib.hid (show fence ρ w bb = [] ∧ fence ρ w wb = [] from ⟨Zw (by omega), Zw (by omega)⟩)
 have HRD := Lib.hid (show ∀ w', Fp (fun j => j = bb ∨ j = wb) w1 w' → Ready w' from fun w' hF => HR.out.below (hb1.trans (hF.below hb1.size (fun j hj e => by omega))))
 clear hw1 hb1 ht1 hr1 hz1 hwb hbb hrb hmb hpb
 go_wp2_with fail
 refine (Zey w1 HRD.out (HS.out.below HB1.out) HO.out HT1.out HF0.out.1 HF0.out.2 HP.out).mono ?_
 rintro e w2 ⟨rfl, ht2, hf2⟩
 rw [HB.out] at ht2
 have HB2 := Lib.hid (HB1.out.trans (hf2.below HB1.out.size (fun j hj e => by have := HNB.out.1; omega)))
 have hr2 := hf2.heap HR1.out (fun e => e.elim HNB.out.2.1 HNB.out.2.2)
 have b0 : w2.cell? ⟨bb, 0, none⟩ = some (.pointer none) := Za ht2.bx rfl
 have HRB := Lib.hid hr2
 clear hf2 ht2 hr2
 go_upto_region 7 with fail
 clear b0
 go_wp2_with (refine wpList_store_row rfl 25 _ _ rfl rb #[.string ⟨#[]⟩, .int .i64 0, .int .i64 0, .int .i64 0, .int .i64 0, .int .i64 0, .int .i64 0, .int .i64 0] rfl rfl 25 _ HRB.out (ZZ ent0) rfl (ZaJ ent0) ?_)
 refine bodyPost_ret (v := .tuple #[.agg #[.string ⟨#[]⟩, .int .i64 0, .int .i64 0, .int .i64 0, .int .i64 0, .int .i64 0, .int .i64 0, .int .i64 0], .bool false]) (ZL Tryz.results14 rfl rfl (setRow_heap _ rb _ _ _ _ HRB.out) Tryz.underlying25 rfl (ZZ ent0)) rfl ⟨rfl, ?_⟩
 exact ((Fp.of_below (S := fun k => k = rb) HB2.out).setRow (fun _ => rfl)).below (Nat.le_refl _) (fun k hk e => by have := HNB.out.1; omega)
def tookN (y : PB) (next : Int) (row : TRow) (rest : List TRow) : PN := { y.n with cls := y.n.cls.set y.k { y.c with served := next, gv := (tookT row rest).1, rows := (tookT row rest).2 } }
def ZlQ (ρ : Roles) (w : World) (P : Nat) (x : PX) (next : Int) (v : Value) (L : List PN) (y : PB) (e : Ending) (w' : World) : Prop :=
 ∃ row rest ρ', e = .returned (.tuple #[entV { entOf row with need := y.n.name, cls := y.k }, .bool true]) ∧ PicksT x.q y.c.gv y.c.rows (row :: rest) ∧ Later ρ ρ' w ∧ ZA ρ' [0] w.heap.size ∧ PoolAt ρ' w' P x (next + 1) v (L.set y.i (tookN y next row rest)) ∧ Fp (Part ρ [0]) w w'
theorem Zgf {L : List PN} {p : Option PB → Prop} (h0 : p none) (hs : ∀ b y, p b → L[y.i]? = some y.n → y.n.cls[y.k]? = some y.c → p (stepB most pl b y)) : ∀ i, p (ZJ most pl L i)
 | 0 => h0
 | i + 1 => by
   have ih := Zgf h0 hs i
   cases hn : L[i]? with
   | none =>
     show p (match L[i]? with | some n => ZP most pl i n (ZJ most pl L i) n.cls.length | none => ZJ most pl L i)
     rw [hn]
     exact ih
   | some n =>
     rw [ZbS hn]
     have key : ∀ k, p (ZP most pl i n (ZJ most pl L i) k) := by
      intro k
      induction k with
      | zero => exact ih
      | succ k ihk =>
        cases hc : n.cls[k]? with
        | none =>
          show p (match n.cls[k]? with | some c => stepB most pl (ZP most pl i n (ZJ most pl L i) k) ⟨i, n, k, c⟩ | none => ZP most pl i n (ZJ most pl L i) k)
          rw [hc]
          exact ihk
        | some c =>
          rw [Zbv hc]
          exact hs _ ⟨i, n, k, c⟩ ihk hn hc
     exact key _
theorem ZdS {L : List PN} (i : Nat) : ∀ z, ZJ most pl L i = some z → (z.k : Int) ≤ most ∧ 0 < totT z.c.rows ∧ Z0 pl z.n.name = true := by
 refine Zgf (p := fun b => ∀ z, b = some z → (z.k : Int) ≤ most ∧ 0 < totT z.c.rows ∧ Z0 pl z.n.name = true) (fun z h => by cases h) (fun b y hb _ _ z hz => ?_) i
 unfold stepB at hz
 split at hz
 ·rename_i hf
  cases hz
  unfold fitB at hf
  simp only [Bool.and_eq_true, decide_eq_true_iff] at hf
  exact ⟨hf.1.1.1, hf.1.1.2, hf.2⟩
 ·exact hb z hz
theorem ZlR {rows : List TRow} (h : 0 < totT rows) : rows ≠ [] := by
 rintro rfl
 simp [totT] at h
set_option maxRecDepth 100000 in
set_option maxHeartbeats 8000000 in
theorem ZdT (y : PB) (w : World) (hr : Ready w) (hS : PoolAt ρ w P x next v L) (hO : PoolOk x L) (hp : pl.size ≤ 1048576) (hb : ZJ most pl L L.length = some y) (hnx : 0 ≤ next ∧ next < 1000000000) :
 Calls Tryz.prog 14 #[.pointer (some ⟨P, 0, none⟩), .string pl, .int .i64 most] w (ZlQ ρ w P x next v L y) := by
 have HS := Lib.hid (hS.later (Zg ρ w))
 have HR := Lib.hid hr
 have HO := Lib.hid hO
 have HP := Lib.hid hp
 have HB := Lib.hid hb
 have HNX := Lib.hid hnx
 have HPL := Lib.hid (Zb hS.head)
 have HY := Lib.hid (ZbF L.length y hb)
 have HNE := Lib.hid (ZlR (ZdS L.length y hb).2.1)
 clear hr hS hO hp hb hnx
 go_enter Tryz.func14, Tryz.ntmps14
 go_upto_region 5 with fail
 obtain ⟨w1, hw1⟩ : ∃ w1 : World, w1 = ((((w.alloc (.cells #[.string pl] 9)).alloc (.cells #[.int .i64 most] 3)).alloc (.cells (entC ent0) 25)).alloc (.cells #[.pointer none] 73)).alloc (.cells (entC ent0) 25) := ⟨_, rfl⟩
 rw [← Zez, ← hw1]
 obtain ⟨wb, hwb⟩ : ∃ k : Nat, k = w.heap.size + 1 + 1 + 1 + 1 := ⟨_, rfl⟩
 rw [← hwb]
 obtain ⟨bb, hbb⟩ : ∃ k : Nat, k = w.heap.size + 1 + 1 + 1 := ⟨_, rfl⟩
 rw [← hbb]
 obtain ⟨rb, hrb⟩ : ∃ k : Nat, k = w.heap.size + 1 + 1 := ⟨_, rfl⟩
 rw [← hrb]
 obtain ⟨mb, hmb⟩ : ∃ k : Nat, k = w.heap.size + 1 := ⟨_, rfl⟩
 rw [← hmb]
 obtain ⟨pb, hpb⟩ : ∃ k : Nat, k = w.heap.size := ⟨_, rfl⟩
 rw [← hpb]
 obtain ⟨hb1, ht1, hr1, hz1⟩ := ZdR hw1
 have HB1 := Lib.hid hb1
 have HT1 := Lib.hid (show TBox w1 mb bb pb wb most pl none by rw [hmb, hbb, hpb, hwb]; exact ht1)
 have HR1 := Lib.hid (show w1.heap[rb]? = some (.cells (entC ent0) 25 (0, 0)) by rw [hrb]; exact hr1)
 have HNB := Lib.hid (show (w.heap.size ≤ bb ∧ w.heap.size ≤ wb ∧ w.heap.size ≤ rb ∧ w.heap.size ≤ mb ∧ w.heap.size ≤ pb) ∧ (rb ≠ bb ∧ rb ≠ wb) from ⟨by omega, by omega⟩)
 have HF0 := Lib.hid (show fence ρ w bb = [] ∧ fence ρ w wb = [] from ⟨Zw (by omega), Zw (by omega)⟩)
 have HRD := Lib.hid (show ∀ w', Fp (fun j => j = bb ∨ j = wb) w1 w' → Ready w' from fun w' hF => HR.out.below (hb1.trans (hF.below hb1.size (fun j hj e => by omega))))
 clear hw1 hb1 ht1 hr1 hz1 hwb hbb hrb hmb hpb
 go_wp2_with fail
 refine (Zey w1 HRD.out (HS.out.below HB1.out) HO.out HT1.out HF0.out.1 HF0.out.2 HP.out).mono ?_
 rintro e w2 ⟨rfl, ht2, hf2⟩
 rw [HB.out] at ht2
 have HB2 := Lib.hid (HB1.out.trans (hf2.below HB1.out.size (fun j hj e => by have := HNB.out.1; omega)))
 have hr2 := hf2.heap HR1.out (fun e => e.elim HNB.out.2.1 HNB.out.2.2)
 have hS2 := (HS.out.below HB1.out).boxes hf2 (fun j e => e.elim (fun e => e ▸ HF0.out.1) (fun e => e ▸ HF0.out.2))
 have b0 : w2.cell? ⟨bb, 0, none⟩ = some (.pointer (some ⟨y.c.blk, 0, none⟩)) := Za ht2.bx rfl
 have hN2 := hS2.need y.i y.n HY.out.1
 have hC2 := hN2.cls y.k y.c HY.out.2
 have k1 : w2.cell? ⟨y.c.blk, 1, none⟩ = some (.pointer (some ⟨y.c.f, 0, none⟩)) := Za hC2.blk rfl
 have HRB := Lib.hid hr2
 have HT2 := Lib.hid ht2
 have HS2 := Lib.hid hS2
 have HC2 := Lib.hid hC2
 clear hf2 ht2 hr2 hS2 hN2 hC2
 go_wp2_with fail
 refine (Zdt (pre := [0, 6, (y.c.blk : Int)]) (by simp) w2 HC2.out.share HNE.out).mono ?_
 rintro e w3 ⟨row, rest, ρ3, rfl, hp3, hl3, hn3, hR3, hF3⟩
 obtain ⟨E9, hE9⟩ : ∃ E9, E9 = entOf row := ⟨_, rfl⟩
 rw [← hE9]
 have HE9 := Lib.hid hE9
 have HP3 := Lib.hid hp3
 have HL3 := Lib.hid hl3
 have HN3 := Lib.hid hn3
 have HF3 := Lib.hid hF3
 have HS3 := Lib.hid ((HS2.out.turn HY.out.1 HY.out.2 hl3 hR3 hF3).later (Zg ρ3 w3))
 have hno : ∀ j, w.heap.size ≤ j → ¬ Part (fence ρ w) [0, 6, (y.c.blk : Int)] j := fun j hj => ZbZ (by simp) hj
 have HT3 := Lib.hid (HT2.out.fp hF3 (hno mb HNB.out.1.2.2.2.1) (hno bb HNB.out.1.1) (hno pb HNB.out.1.2.2.2.2) (hno wb HNB.out.1.2.1))
 have HRB3 := Lib.hid (hF3.heap HRB.out (hno rb HNB.out.1.2.2.1))
 clear hp3 hl3 hn3 hR3 hF3 hE9 hno b0 k1
 go_upto_region 9 with (refine Zaq rfl 25 _ _ rfl w3.heap.size rfl (entC E9) rfl rfl (ZZ E9) rfl (ZaJ E9) ?_)
 obtain ⟨w4, hw4⟩ : ∃ w4 : World, w4 = w3.alloc (.cells (entC E9) 25) := ⟨_, rfl⟩
 obtain ⟨eb, heb⟩ : ∃ eb : Nat, eb = w3.heap.size := ⟨_, rfl⟩
 rw [← hw4, ← heb]
 obtain ⟨c', hc'⟩ : ∃ c' : PC, c' = { y.c with gv := (tookT row rest).1, rows := (tookT row rest).2 } := ⟨_, rfl⟩
 obtain ⟨n', hn'⟩ : ∃ n' : PN, n' = { y.n with cls := y.n.cls.set y.k c' } := ⟨_, rfl⟩
 have HS4 := Lib.hid (show PoolAt (fence ρ3 w3) w4 P x next v (L.set y.i n') by rw [hw4, hn', hc']; exact HS3.out.below box_below)
 have HB4 := Lib.hid (show Below w3.heap.size w3 w4 by rw [hw4]; exact box_below)
 have HT4 := Lib.hid (HT3.out.below HB4.out)
 have HRB4 := Lib.hid ((HB4.out.block _ (Zb HRB3.out)).trans HRB3.out)
 have HE4 := Lib.hid (show w4.heap[eb]? = some (.cells (entC E9) 25 (0, 0)) by rw [hw4, heb]; exact Zf)
 have HEB := Lib.hid (show w3.heap.size ≤ eb by rw [heb]; exact Nat.le_refl _)
 have hcb : c'.blk = y.c.blk := by rw [hc']
 have HIX := Lib.hid (show (L.set y.i n')[y.i]? = some n' ∧ n'.cls[y.k]? = some c' from ⟨List.getElem?_set_self (List.getElem?_eq_some_iff.1 HY.out.1).1, by rw [hn']; exact List.getElem?_set_self (List.getElem?_eq_some_iff.1 HY.out.2).1⟩)
 have HNC := Lib.hid (And.intro hc' hn')
 have hC4 := (HS4.out.need y.i n' HIX.out.1).cls y.k c' HIX.out.2
 have hcP : y.c.blk ≠ P := fun e => by
  have h1 := hC4.role
  rw [hcb, e, HS4.out.role] at h1
  simp at h1
 have hbP : bb ≠ P := fun e => by have h1 := HNB.out.1.1; have h2 := HPL.out; omega
 have hsv : c'.served = y.c.served := by rw [hc']
 have HCP := Lib.hid (And.intro hcP hbP)
 have HCB := Lib.hid hcb
 have b4 : w4.cell? ⟨bb, 0, none⟩ = some (.pointer (some ⟨y.c.blk, 0, none⟩)) := Za HT4.out.bx rfl
 have HK4 := Lib.hid (show w4.heap[y.c.blk]? = some (pcO c') by rw [← hcb]; exact hC4.blk)
 have HSD := Lib.hid (HS4.out.below (w' := w4.drew) ⟨rfl, rfl, rfl, Nat.le_refl _, fun _ _ => rfl⟩)
 clear hw4 heb hc' hn' hcb hC4 hcP hbP hsv
 have j1 : ¬ bb = y.c.blk := fun e => by
  have h1 := HC2.out.role
  rw [← e, HF0.out.1] at h1
  simp at h1
 have j2 : ¬ y.c.blk = bb := fun e => j1 e.symm
 have HBC := Lib.hid j1
 go_region_held3 (fun w' => w'.cell? ⟨bb, 0, none⟩ = some (.pointer (some ⟨y.c.blk, 0, none⟩)))
  (first | go_keep | exact hF5.cell (w := w4.drew) b4 HCP.out.2 | exact ((Fp.refl (fun j => j = y.c.blk) w5).setCell (p := ⟨y.c.blk, 0, none⟩) (fun _ => rfl) _).cell (hF5.cell (w := w4.drew) b4 HCP.out.2) HBC.out)
  (first | (go_at_call 28; refine (Zeq w4.drew HSD.out HNX.out).mono ?_; rintro e w5 ⟨rfl, hF5, hh5⟩; (have hk5 := hF5.heap (w := w4.drew) HK4.out HCP.out.1); (have c5 : w5.cell? ⟨y.c.blk, 0, none⟩ = some (.int .i64 c'.served) := Za hk5 rfl); (have g5 : w5.frozen? ⟨y.c.blk, 0, none⟩ = false := Zd hk5)))
 obtain ⟨w6, hw6⟩ : ∃ w6 : World, w6 = w5.setCell ⟨y.c.blk, 0, none⟩ (.int .i64 next) := ⟨_, rfl⟩
 rw [← hw6]
 have hF6 : Fp (fun j => j = y.c.blk) w5 w6 := by rw [hw6]; exact (Fp.refl (fun j => j = y.c.blk) w5).setCell (p := ⟨y.c.blk, 0, none⟩) (fun _ => rfl) _
 have hk6 : w6.heap[y.c.blk]? = some (pcO { c' with served := next }) := by rw [hw6]; exact Ze hk5
 have hF46 : Fp (fun j => j = P ∨ j = y.c.blk) w4 w6 := (((Fp.refl (fun j => j = P ∨ j = y.c.blk) w4).drew).trans hF5 (fun _ _ e => .inl e)).trans hF6 (fun _ _ e => .inr e)
 have hS6 : PoolAt (fence ρ3 w3) w6 P x (next + 1) v (L.set y.i (tookN y next row rest)) := by
  have h := (HSD.out.head_set hF5 hh5).served HIX.out.1 HIX.out.2 (t := next) (by rw [HCB.out]; exact hF6) (by rw [HCB.out]; exact hk6)
  rw [List.set_set, HNC.out.2, HNC.out.1] at h
  simp only [List.set_set] at h
  exact h
 have hbox : ∀ j, w.heap.size ≤ j → ¬ (j = P ∨ j = y.c.blk) := fun j hj e => by
  rcases e with e | e
  ·have := HPL.out
   omega
  ·have h1 := HC2.out.role
   rw [← e, Zw hj] at h1
   simp at h1
 have hz3 : w.heap.size ≤ w3.heap.size := Nat.le_trans HB2.out.size HF3.out.size
 have HS6 := Lib.hid hS6
 have HF46 := Lib.hid hF46
 have HT6 := Lib.hid (HT4.out.fp hF46 (hbox mb HNB.out.1.2.2.2.1) (hbox bb HNB.out.1.1) (hbox pb HNB.out.1.2.2.2.2) (hbox wb HNB.out.1.2.1))
 have HRB6 := Lib.hid (hF46.heap HRB4.out (hbox rb HNB.out.1.2.2.1))
 have HE6 := Lib.hid (hF46.heap HE4.out (hbox eb (Nat.le_trans hz3 HEB.out)))
 have HZ3 := Lib.hid hz3
 have hew : ¬ eb = wb := fun e => by have h1 := Zb HT3.out.wh; have h2 := HEB.out; omega
 have her : ¬ eb = rb := fun e => by have h1 := Zb HRB3.out; have h2 := HEB.out; omega
 have HER := Lib.hid her
 have hwe : ¬ wb = eb := fun e => hew e.symm
 clear hw6 hF6 hk6 hF46 hS6 hbox hz3 hh5 hF5 hk5 c5 g5 b4 j1 j2 her
 have e0 : w6.cell? ⟨wb, 0, none⟩ = some (.string y.n.name) := Za HT6.out.wh rfl
 have e1 : w6.cell? ⟨wb, 1, none⟩ = some (.int .i64 y.k) := Za HT6.out.wh rfl
 have d0 : w6.cell? ⟨eb, 0, none⟩ = some (.string E9.need) := Za HE6.out rfl
 have d1 : w6.cell? ⟨eb, 1, none⟩ = some (.int .i64 E9.cls) := Za HE6.out rfl
 have g0 : w6.frozen? ⟨eb, 0, none⟩ = false := Zd HE6.out
 have g1 : w6.frozen? ⟨eb, 1, none⟩ = false := Zd HE6.out
 go_upto_region 10 with fail
 go_region
 obtain ⟨w7, hw7⟩ : ∃ w7 : World, w7 = ((w6.setCell ⟨eb, 0, none⟩ (.string y.n.name)).setCell ⟨eb, 1, none⟩ (.int .i64 y.k)).drew := ⟨_, rfl⟩
 rw [← hw7]
 obtain ⟨E10, hE10⟩ : ∃ E10 : Ent, E10 = { E9 with need := y.n.name, cls := y.k } := ⟨_, rfl⟩
 have hF7 : Fp (fun j => j = eb) w6 w7 := by rw [hw7]; exact (((Fp.refl (fun j => j = eb) w6).setCell (p := ⟨eb, 0, none⟩) (fun _ => rfl) _).setCell (p := ⟨eb, 1, none⟩) (fun _ => rfl) _).drew
 have hE7 : w7.heap[eb]? = some (.cells (entC E10) 25 (0, 0)) := by
  have h1 := Ze (i := 1) (v := .int .i64 y.k) (Ze (i := 0) (v := .string y.n.name) HE6.out)
  unfold entC at h1
  simp only [List.setIfInBounds_toArray, List.set_cons_zero, List.set_cons_succ] at h1
  rw [hw7, show ∀ u : World, u.drew.heap = u.heap from fun _ => rfl, h1, hE10]
  rfl
 have HF7 := Lib.hid hF7
 have HE7 := Lib.hid hE7
 have HRB7 := Lib.hid (hF7.heap HRB6.out (fun e => HER.out e.symm))
 have HE10 := Lib.hid hE10
 clear hw7 hF7 hE7 hE10 e0 e1 d0 d1 g0 g1 hew hwe
 go_wp2_with (first
  | (refine Zat (cs := entC E10) 25 HE7.out Tryz.underlying25 rfl (ZZ E10) rfl _ rfl rfl ?_)
  | (refine wpList_store_row rfl 25 _ _ rfl rb (entC E10) rfl rfl 25 _ HRB7.out (ZZ E10) rfl (ZaJ E10) ?_))
 refine bodyPost_ret (v := .tuple #[.agg (entC E10), .bool true]) (ZL Tryz.results14 rfl rfl (setRow_heap _ rb _ _ _ _ HRB7.out) Tryz.underlying25 rfl (ZZ E10)) rfl ?_
 have z12 := HB2.out.size
 have z23 := HF3.out.size
 have hrb3 : fence ρ3 w3 rb = [] := by
  have h1 := Zb HRB3.out
  have h2 := Zb HRB.out
  rw [Zg ρ3 w3 rb h1, HL3.out rb h2]
  exact Zw HNB.out.1.2.2.1
 have hFr : Fp (fun j => j = rb) w7 (w7.setRow rb (entC E10)) := (Fp.refl _ _).setRow (fun _ => rfl)
 refine ⟨row, rest, fence ρ3 w3, by rw [HE10.out, HE9.out]; rfl, HP3.out, fun k hk => ?_, fun k hk => ?_, (HS6.out.boxes HF7.out (fun j e => by rw [e]; exact Zw HEB.out)).boxes hFr (fun j e => by rw [e]; exact hrb3), ?_⟩
 ·rw [Zg ρ3 w3 k (by omega), HL3.out k (by omega), Zg ρ w k hk]
 ·rcases Nat.lt_or_ge k w3.heap.size with h3 | h3
  ·have e3 : fence ρ3 w3 k = ρ3 k := Zg ρ3 w3 k h3
   rcases Nat.lt_or_ge k w2.heap.size with h2 | h2
   ·exact .inl (by rw [e3, HL3.out k h2]; exact Zw hk)
   ·rcases HN3.out k h2 with h4 | ⟨t, h4⟩
    ·exact .inl (e3.trans h4)
    ·exact .inr ⟨_, by rw [e3, h4]; exact List.append_assoc [0] [6, (y.c.blk : Int)] t⟩
  ·exact .inl (Zw h3)
 ·have hin : ∀ {k : Nat} {r : List Int}, k < w.heap.size → fence ρ w k = 0 :: r → Part ρ [0] k := fun {k r} hk e => ⟨r, by rw [← Zg ρ w k hk, e]; rfl⟩
  refine (((((Fp.of_below (S := Part ρ [0]) HB2.out).trans HF3.out (fun k hk ⟨t, e⟩ => hin hk (by rw [e]; rfl))).then_below HB4.out).trans HF46.out (fun k hk e => ?_)).trans HF7.out (fun k hk e => ?_)).trans hFr (fun k hk e => ?_)
  ·rcases e with e | e
   ·exact hin hk (by rw [e]; exact HS.out.role)
   ·exact hin hk (by rw [e]; exact HC2.out.role)
  ·have := HEB.out
   omega
  ·have := HNB.out.1
   omega
end
section
variable {ρ : Roles} {P : Nat} {x : PX} {next : Int} {v : Value} {L : List PN} {w w2 w3 : World}
def Za2 (ρ : Roles) (w : World) (P : Nat) (x : PX) (next : Int) (v : Value) (L' : List PN) (w' : World) : Prop :=
 ∃ ρ', Later ρ ρ' w ∧ ZA ρ' [0] w.heap.size ∧ PoolAt ρ' w' P x next v L' ∧ Fp (Part ρ [0]) w w'
theorem ZlS (hS : PoolAt ρ w P x next v L) (hb : Below w.heap.size w w2) : Za2 ρ w P x next v L w2 :=
 ⟨fence ρ w, Zg ρ w, fun _ hk => .inl (Zw hk), (hS.later (Zg ρ w)).below hb, Fp.of_below hb⟩
theorem ZkE (hS : PoolAt ρ w P x next v L) {i k : Nat} {n : PN} {c : PC} (hn : L[i]? = some n) (hc : n.cls[k]? = some c) (hb : Below w.heap.size w w2) {ρ3 : Roles} {gv' : Bool} {rows' : List TRow} (hl : Later (fence ρ w) ρ3 w2) (hN : ZA ρ3 [0, 6, (c.blk : Int)] w2.heap.size) (hR : ShareAt [0, 6, (c.blk : Int)] ρ3 w3 c.f x.q gv' rows') (hF : Fp (Part (fence ρ w) [0, 6, (c.blk : Int)]) w2 w3) :
 Za2 ρ w P x next v (L.set i { n with cls := n.cls.set k { c with gv := gv', rows := rows' } }) w3 := by
 have z12 := hb.size
 have z23 := hF.size
 have h2 := (hS.later (Zg ρ w)).below hb
 refine ⟨fence ρ3 w3, fun k hk => ?_, fun k hk => ?_, (h2.turn hn hc hl hR hF).later (Zg ρ3 w3), (Fp.of_below hb).trans hF (fun k hk ⟨t, e⟩ => ?_)⟩
 ·rw [Zg ρ3 w3 k (by omega), hl k (by omega), Zg ρ w k hk]
 ·rcases Nat.lt_or_ge k w3.heap.size with h3 | h3
  ·have e3 : fence ρ3 w3 k = ρ3 k := Zg ρ3 w3 k h3
   rcases Nat.lt_or_ge k w2.heap.size with h2 | h2
   ·exact .inl (by rw [e3, hl k h2]; exact Zw hk)
   ·rcases hN k h2 with h4 | ⟨t, h4⟩
    ·exact .inl (e3.trans h4)
    ·exact .inr ⟨_, by rw [e3, h4]; exact List.append_assoc [0] [6, (c.blk : Int)] t⟩
  ·exact .inl (Zw h3)
 ·exact ⟨_, by rw [← Zg ρ w k hk, e]; exact List.append_assoc [0] [6, (c.blk : Int)] t⟩
set_option maxRecDepth 100000 in
set_option maxHeartbeats 2000000 in
theorem ZcI (E : Ent) (i k : Nat) (n : PN) (c : PC) (w : World) (hS : PoolAt ρ w P x next v L) (hO : PoolOk x L) (hp : ZR E.need L = i) (hn : L[i]? = some n) (hk : E.cls = k) (hc : n.cls[k]? = some c) (hten : I64 E.ten) (hinv : I64 E.inv) (hid : I64 E.id) (hf : totT c.rows < 1000000) (hlen : c.rows.length < 1000000) :
 Calls Tryz.prog 11 #[.pointer (some ⟨P, 0, none⟩), entV E] w fun e w' => e = .returned (.int .i64 (pushT E c.rows).1) ∧ Za2 ρ w P x next v (L.set i { n with cls := n.cls.set k { c with rows := (pushT E c.rows).2 } }) w' := by
 have HS0 := Lib.hid hS
 have HS := Lib.hid ((hS.later (Zg ρ w)).below (box_below (o := .cells (entC E) 25)))
 have HO := Lib.hid hO
 have HP := Lib.hid hp
 have HN := Lib.hid hn
 have HK := Lib.hid hk
 have HC := Lib.hid hc
 have HI := Lib.hid (And.intro hten (And.intro hinv hid))
 have HF := Lib.hid (And.intro hf hlen)
 clear hS hO hp hn hk hc hten hinv hid hf hlen
 unfold entV
 go_enter Tryz.func11, Tryz.ntmps11
 go_upto_region 1 with fail
 obtain ⟨w1, hw1⟩ : ∃ w1 : World, w1 = w.alloc (.cells (entC E) 25) := ⟨_, rfl⟩
 rw [← hw1] at HS
 rw [← hw1]
 have hb1 : w1.heap[w.heap.size]? = some (.cells (entC E) 25 (0, 0)) := by rw [hw1]; exact Zf
 have HB1 := Lib.hid (show Below w.heap.size w w1 by rw [hw1]; exact box_below)
 have e0 : w1.cell? ⟨w.heap.size, 0, none⟩ = some (.string E.need) := Za hb1 rfl
 have HE1 := Lib.hid hb1
 clear hw1 hb1
 go_wp2_with fail
 refine (Zbn E.need _ HS.out HO.out.few).mono ?_
 rintro e w2 ⟨rfl, hb2⟩
 rw [HP.out]
 have HB2 := Lib.hid (HB1.out.trans (hb2.mono HB1.out.size))
 have HS2 := Lib.hid (HS.out.below hb2)
 have he2 := (hb2.block _ (Zb HE1.out)).trans HE1.out
 have HE2 := Lib.hid he2
 have e0 : w2.cell? ⟨w.heap.size, 0, none⟩ = some (.string E.need) := Za he2 rfl
 have e1 : w2.cell? ⟨w.heap.size, 1, none⟩ = some (.int .i64 k) := by rw [← HK.out]; exact Za he2 rfl
 clear hb2 he2
 go_wp2_with fail
 refine (Zdg E.need i k n c _ HS2.out HO.out.few HP.out HN.out HC.out HO.out.cls).mono ?_
 rintro e w3 ⟨rfl, hb3⟩
 have HB3 := Lib.hid (HB2.out.trans (hb3.mono HB2.out.size))
 have HS3 := Lib.hid (HS2.out.below hb3)
 have HE3 := Lib.hid ((hb3.block _ (Zb HE2.out)).trans HE2.out)
 clear hb3 e0 e1
 go_wp2_with (refine Zat (cs := entC E) 25 HE3.out Tryz.underlying25 rfl (ZZ E) rfl _ rfl rfl ?_)
 refine (Zhx (pre := [0, 6, (c.blk : Int)]) (ρ := Proofs.YtdbjihkgafhakaaGreatDoor.fence ρ w) (by simp) E _ ((HS3.out.need i n HN.out).cls k c HC.out).share HI.out.1 HI.out.2.1 HI.out.2.2 HF.out.1 HF.out.2).mono ?_
 rintro e w4 ⟨rfl, ρ4, hl4, hn4, hR4, hF4⟩
 have HT := Lib.hid (ZkE HS0.out HN.out HC.out HB3.out hl4 hn4 hR4 hF4)
 clear hl4 hn4 hR4 hF4
 go_wp2_with fail
 go_ret
 exact ⟨rfl, HT.out⟩
set_option maxRecDepth 100000 in
set_option maxHeartbeats 2000000 in
theorem Zjr (s : ByteArray) (i k : Nat) (n : PN) (c : PC) (w : World) (hS : PoolAt ρ w P x next v L) (hO : PoolOk x L) (hp : ZR s L = i) (hn : L[i]? = some n) (hc : n.cls[k]? = some c) :
 Calls Tryz.prog 13 #[.pointer (some ⟨P, 0, none⟩), .string s, .int .i64 k] w fun e w' => e = .returned (.int .i64 (totT c.rows)) ∧ Below w.heap.size w w' := by
 have HS := Lib.hid hS
 have HO := Lib.hid hO
 have HP := Lib.hid hp
 have HN := Lib.hid hn
 have HC := Lib.hid hc
 clear hS hO hp hn hc
 go_enter Tryz.func13, Tryz.ntmps13
 go_wp2_with fail
 refine (Zdg s i k n c _ HS.out HO.out.few HP.out HN.out HC.out HO.out.cls).mono ?_
 rintro e w1 ⟨rfl, hb1⟩
 have HB1 := Lib.hid hb1
 have HS1 := Lib.hid (HS.out.below hb1)
 clear hb1
 go_wp2_with fail
 refine (ZcS _ ((HS1.out.need i n HN.out).cls k c HC.out).share (HO.out.tot n (List.mem_of_getElem? HN.out) c (List.mem_of_getElem? HC.out))).mono ?_
 rintro e w2 ⟨rfl, hb2⟩
 have HB2 := Lib.hid (HB1.out.trans (hb2.mono HB1.out.size))
 clear hb2
 go_wp2_with fail
 go_ret
 exact ⟨rfl, HB2.out⟩
end
theorem Zgg : (Tryz.prog.info? 72).map (fun i => (i.zero, i.size, i.bytes)) = some (some (.pointer none), 1, 8) := by kernel_rfl
section
variable {ρ : Roles} {P : Nat} {x : PX} {next : Int} {v : Value} {L : List PN} {w : World}
set_option maxRecDepth 100000 in
set_option maxHeartbeats 2000000 in
theorem ZkF (s : ByteArray) (i : Nat) (n : PN) (w : World) (hS : PoolAt ρ w P x next v L) (hO : PoolOk x L) (hp : ZR s L = i) (hn : L[i]? = some n) :
 Calls Tryz.prog 18 #[.pointer (some ⟨P, 0, none⟩), .string s] w fun e w' => e = .returned (.int .i64 n.uses) ∧ Below w.heap.size w w' := by
 have HS := Lib.hid hS
 have HO := Lib.hid hO
 have HP := Lib.hid hp
 have HN := Lib.hid hn
 have hil : i < L.length := (List.getElem?_eq_some_iff.1 hn).1
 have hl6 := hO.few
 clear hS hO hp hn
 go_enter Tryz.func18, Tryz.ntmps18
 go_wp2_with fail
 refine (Zbn s _ HS.out HO.out.few).mono ?_
 rintro e w1 ⟨rfl, hb1⟩
 rw [HP.out]
 have HB1 := Lib.hid hb1
 have hS1 := HS.out.below hb1
 have hN1 := hS1.need i n HN.out
 obtain ⟨g, off, cap, hv, hg⟩ := hS1.at HN.out
 have c4 : w1.cell? ⟨P, 4, none⟩ = some (.slice (some ⟨g, off, none⟩) L.length cap) := by rw [← hv]; exact Za hS1.head rfl
 have n1 : w1.cell? ⟨n.blk, 1, none⟩ = some (.int .i64 n.uses) := Za hN1.blk rfl
 have h2 : (i : Int) < (L.length : Int) := by omega
 clear hb1 hS1 hN1 hv
 go_wp2_with fail
 go_ret
 exact ⟨rfl, HB1.out⟩
end
set_option maxRecDepth 100000 in
set_option maxHeartbeats 2000000 in
theorem Znc (a m q : Int) (w : World) (h : ¬ (1 ≤ a ∧ 1 ≤ m ∧ 1 ≤ q ∧ q ≤ 64)) : Calls Tryz.prog 6 #[.int .i64 a, .int .i64 m, .int .i64 q] w fun e w' => e = .returned (.pointer none) ∧ Below w.heap.size w w' := by
 have h2 : a < 1 ∨ (¬ a < 1 ∧ m < 1) ∨ (¬ a < 1 ∧ ¬ m < 1 ∧ ¬ (1 ≤ q ∧ q ≤ 64)) := by omega
 clear h
 rcases h2 with h1 | ⟨h1, h2⟩ | ⟨h1, h2, h3⟩
 ·go_enter Tryz.func6, Tryz.ntmps6
  go_wp2_with fail
  go_ret
  exact ⟨rfl, Below.refl _ _⟩
 ·go_enter Tryz.func6, Tryz.ntmps6
  go_wp2_with fail
  go_ret
  exact ⟨rfl, Below.refl _ _⟩
 ·have H3 := Lib.hid h3
  clear h3
  go_enter Tryz.func6, Tryz.ntmps6
  go_wp2_with fail
  refine (Zep q _ H3.out).mono ?_
  rintro e w1 ⟨rfl, hb⟩
  have HB := Lib.hid hb
  clear hb
  go_wp2_with fail
  go_ret
  exact ⟨rfl, HB.out⟩
def ZcV (w : World) : Roles := fun k => if k = w.heap.size + 2 then [0, 1] else []
set_option maxRecDepth 100000 in
set_option maxHeartbeats 2000000 in
theorem ZfE (a q : Int) (m : Nat) (w : World) (h1 : 1 ≤ a) (h2 : 1 ≤ m) (h3 : 1 ≤ q) (h4 : q ≤ 64) : Calls Tryz.prog 6 #[.int .i64 a, .int .i64 m, .int .i64 q] w fun e w' => e = .returned (.pointer (some ⟨w.heap.size + 2, 0, none⟩)) ∧ Below w.heap.size w w' ∧ PoolAt (ZcV w) w' (w.heap.size + 2) ⟨a, m, q⟩ 0 (.slice none 0 0) [] := by
 have H := Lib.hid (And.intro h3 h4)
 have h1' : ¬ a < 1 := by omega
 have h2' : ¬ (m : Int) < 1 := by omega
 clear h1 h2 h3 h4
 go_enter Tryz.func6, Tryz.ntmps6
 go_wp2_with fail
 refine (ZbD q _ H.out.1 H.out.2).mono ?_
 rintro e w1 ⟨rfl, hw1⟩
 have hb1 : Below w.heap.size w w1 := by rw [hw1]; exact box_below.alloc (by simp) _
 have hz1 : w1.heap.size = w.heap.size + 2 := by rw [hw1]; simp
 have HB1 := Lib.hid hb1
 have HZ1 := Lib.hid hz1
 clear hw1 hb1 hz1
 go_wp2_with fail
 go_ret
 refine ⟨by rw [← HZ1.out]; rfl, HB1.out.trans (box_below.mono HB1.out.size), ⟨by rw [← HZ1.out]; exact Zf, by simp [ZcV], .inl ⟨rfl, rfl⟩, (fun k hk => by cases hk), (fun i n hn => by simp at hn), (by simp)⟩⟩
section
variable {ρ : Roles} {P : Nat} {x : PX} {next : Int} {v : Value} {L : List PN} {w : World}
set_option maxRecDepth 100000 in
set_option maxHeartbeats 2000000 in
theorem Zjs (s : ByteArray) (w : World) (hS : PoolAt ρ w P x next v L) (hO : PoolOk x L) (hp : ZR s L = -1) (hf : x.pools ≤ (L.length : Int)) :
 Calls Tryz.prog 9 #[.pointer (some ⟨P, 0, none⟩), .string s] w fun e w' => e = .returned (.int .i64 14) ∧ Below w.heap.size w w' := by
 have HS := Lib.hid hS
 have HO := Lib.hid hO
 have HP := Lib.hid hp
 clear hS hO hp
 go_enter Tryz.func9, Tryz.ntmps9
 go_wp2_with fail
 refine (Zbn s _ HS.out HO.out.few).mono ?_
 rintro e w1 ⟨rfl, hb1⟩
 rw [HP.out]
 have HB1 := Lib.hid hb1
 have hS1 := HS.out.below hb1
 obtain ⟨a, cap, hv, -⟩ := hS1.form
 have c4 : w1.cell? ⟨P, 4, none⟩ = some (.slice a L.length cap) := by rw [← hv]; exact Za hS1.head rfl
 have c0 : w1.cell? ⟨P, 0, none⟩ = some (.int .i64 x.pools) := Za hS1.head rfl
 clear hb1 hS1 hv
 go_upto_region 7 with fail
 go_region
 go_wp2_with fail
 go_ret
 exact ⟨rfl, ZO HB1.out 1⟩
set_option maxRecDepth 100000 in
set_option maxHeartbeats 4000000 in
theorem ZkG (s : ByteArray) (i : Nat) (n : PN) (w : World) (hS : PoolAt ρ w P x next v L) (hO : PoolOk x L) (hp : ZR s L = i) (hn : L[i]? = some n) (hu : 0 ≤ n.uses ∧ n.uses ≤ 1000000000) :
 Calls Tryz.prog 9 #[.pointer (some ⟨P, 0, none⟩), .string s] w fun e w' => e = .returned (.int .i64 0) ∧ Za2 ρ w P x next v (L.set i { n with uses := n.uses + 1 }) w' := by
 have HS := Lib.hid (hS.later (Zg ρ w))
 have HO := Lib.hid hO
 have HP := Lib.hid hp
 have HN := Lib.hid hn
 have hil : i < L.length := (List.getElem?_eq_some_iff.1 hn).1
 have e1 : wrap64 (n.uses + 1) = n.uses + 1 := by unfold wrap64; omega
 have hl6 := hO.few
 clear hS hO hp hn hu
 go_enter Tryz.func9, Tryz.ntmps9
 go_wp2_with fail
 refine (Zbn s _ HS.out HO.out.few).mono ?_
 rintro e w1 ⟨rfl, hb1⟩
 rw [HP.out]
 have HB1 := Lib.hid hb1
 have hS1 := HS.out.below hb1
 have hN1 := hS1.need i n HN.out
 obtain ⟨g, off, cap, hv, hg⟩ := hS1.at HN.out
 have c4 : w1.cell? ⟨P, 4, none⟩ = some (.slice (some ⟨g, off, none⟩) L.length cap) := by rw [← hv]; exact Za hS1.head rfl
 have n1 : w1.cell? ⟨n.blk, 1, none⟩ = some (.int .i64 n.uses) := Za hN1.blk rfl
 have f1 : w1.frozen? ⟨n.blk, 1, none⟩ = false := Zd hN1.blk
 have h2 : (i : Int) < (L.length : Int) := by omega
 have HS1 := Lib.hid hS1
 clear hb1 hS1 hN1 hv
 go_upto_region 6 with fail
 try rw [e1]
 obtain ⟨w2, hw2⟩ : ∃ w2 : World, w2 = w1.setCell ⟨n.blk, 1, none⟩ (.int .i64 (n.uses + 1)) := ⟨_, rfl⟩
 rw [← hw2]
 have hF2 : Fp (fun j => j = n.blk) w1 w2 := by rw [hw2]; exact (Fp.refl (fun j => j = n.blk) w1).setCell (p := ⟨n.blk, 1, none⟩) (fun _ => rfl) _
 have hh2 : w2.heap[n.blk]? = some (pnO { n with uses := n.uses + 1 }) := by rw [hw2]; exact Ze (HS1.out.need i n HN.out).blk
 have HS2 := Lib.hid (HS1.out.used HN.out hF2 hh2)
 have hin : ∀ {k : Nat} {r : List Int}, k < w.heap.size → Proofs.YtdbjihkgafhakaaGreatDoor.fence ρ w k = 0 :: r → Part ρ [0] k := fun {k r} hk e => ⟨r, by rw [← Zg ρ w k hk, e]; rfl⟩
 have HFW := Lib.hid ((Fp.of_below (S := Part ρ [0]) HB1.out).trans hF2 (fun k hk e => by rw [e] at hk ⊢; exact hin hk (HS.out.need i n HN.out).role))
 clear hw2 hF2 hh2 hin f1 e1 n1 c4 hg
 go_wp2_with fail
 go_ret
 exact ⟨rfl, fence ρ w, Zg ρ w, fun _ hk => .inl (Zw hk), HS2.out, HFW.out⟩
end
end Go.Proofs.YtdbjihkgafhakaaGreatDoor
