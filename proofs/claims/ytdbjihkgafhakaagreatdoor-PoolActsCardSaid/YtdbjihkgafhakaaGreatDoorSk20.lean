/-
  ref17 (pools): how the document's pools lie in memory; Find, Uses, Waits: the walks.
  ref17 (pools): with: the walk.
  ref17 (pools): Leave; Enter, where the need is there, or there is no room: the walks.
-/
import Derived.Test.YtdbjihkgafhakaaGreatDoorSk19
import Derived.Test.YtdbjihkgafhakaaGreatDoorSk09
namespace Go.Proofs.YtdbjihkgafhakaaGreatDoor
open Go.RowKit
variable {G : Nat → Prop}
def SlAt (w : World) (v : Value) (n : Nat) (us : List Value) : Prop := ∃ a cap, v = .slice a n cap ∧ n ≤ cap ∧ ∀ (j : Nat) u, us[j]? = some u → ∃ g off, a = some ⟨g, off, none⟩ ∧ w.cell? ⟨g, off + j, none⟩ = some u
theorem SlAt.form {w : World} {v : Value} {n : Nat} {us : List Value} (h : SlAt w v n us) : ∃ a cap, v = .slice a n cap ∧ n ≤ cap := by
  obtain ⟨a, cap, hv, hle, _⟩ := h
  exact ⟨a, cap, hv, hle⟩
theorem SlAt.below {w w' : World} {v : Value} {n : Nat} {us : List Value} (h : SlAt w v n us) (hb : Below w.heap.size w w') : SlAt w' v n us := by
  obtain ⟨a, cap, rfl, hle, hc⟩ := h
  exact ⟨a, cap, rfl, hle, fun j u hu => by obtain ⟨g, off, ha, h0⟩ := hc j u hu; exact ⟨g, off, ha, cell_below hb h0⟩⟩
theorem SlAt.fp {S : Nat → Prop} {w w' : World} {v : Value} {n : Nat} {us : List Value} (h : SlAt w v n us) (hg : us ≠ [] → InG G w v) (hF : Fp S w w') (hS : ∀ k, k < w.heap.size → G k → ¬ S k) : SlAt w' v n us := by
  obtain ⟨a, cap, rfl, hle, hc⟩ := h
  refine ⟨a, cap, rfl, hle, fun j u hu => ?_⟩
  obtain ⟨g, off, rfl, h0⟩ := hc j u hu
  have hl : us ≠ [] := fun e => by rw [e] at hu; simp at hu
  exact ⟨g, off, rfl, hF.cell h0 (hS g (hg hl g rfl).2 (hg hl g rfl).1)⟩
theorem SlAt.src {K : Nat} {w : World} {v : Value} {n : Nat} {us : List Value} (h : SlAt w v n us) (hl : us.length = n * K) : SrcAt K w v n us := by
  obtain ⟨a, cap, rfl, _, hc⟩ := h
  exact ⟨a, cap, rfl, hl, hc⟩
theorem sl_own {T : TypeId} {w : World} {base K : Nat} {v : Value} {n : Nat} {us : List Value} (h : w.ownsRow base T K v n us) : SlAt w v n us := by
  obtain ⟨a, cap, rfl, hle, _, _, hc⟩ := own_cells h
  exact ⟨a, cap, rfl, hle, fun j u hu => by obtain ⟨g, ha, _, _, h0, _⟩ := hc j u hu; exact ⟨g, 0, ha, by rw [Nat.zero_add]; exact h0⟩⟩
theorem SlAt.at {α : Type} {enc : α → List Value} {K : Nat} {w : World} {v : Value} {l : List α} (h : SlAt w v l.length (l.flatMap enc)) (hK : ∀ x, (enc x).length = K) (h0 : 0 < K) {k : Nat} {x : α} (hx : l[k]? = some x) : ∃ g off cap, v = .slice (some ⟨g, off, none⟩) l.length cap ∧ l.length ≤ cap ∧ ∀ i u, (enc x)[i]? = some u → w.cell? ⟨g, off + k * K + i, none⟩ = some u := by
  obtain ⟨a, cap, rfl, hle, hc⟩ := h
  have key : ∀ i u, (enc x)[i]? = some u → (l.flatMap enc)[k * K + i]? = some u := fun i u hu => by
    have hi : i < K := by rw [← hK x]; exact (List.getElem?_eq_some_iff.1 hu).1
    rw [flat_at enc K hK i hx hi]
    exact hu
  obtain ⟨g, off, rfl, _⟩ := hc _ _ (key 0 _ (List.getElem?_eq_getElem (by rw [hK]; exact h0)))
  refine ⟨g, off, cap, rfl, hle, fun i u hu => ?_⟩
  obtain ⟨g', off', he, h1⟩ := hc _ _ (key i u hu)
  cases he
  rw [Nat.add_assoc]
  exact h1
structure QS where
  gv : Bool
  v : Value
  l : List DV
def encQS (q : Int) (s : QS) : List Value := [.int .i64 q, s.v, .bool s.gv]
theorem encQS_len (q : Int) (s : QS) : (encQS q s).length = 3 := rfl
def encZ (n : Int) : List Value := [.int .i64 n]
theorem encZ_len (n : Int) : (encZ n).length = 1 := rfl
structure QP where
  name : ByteArray
  uses : Int
  served : List Int
  sh : List QS
  sv : Value
  hv : Value
def encQP (p : QP) : List Value := [.string p.name, .int .i64 p.uses, p.sv, p.hv]
theorem encQP_len (p : QP) : (encQP p).length = 4 := rfl
structure QPAt (q : Int) (w : World) (p : QP) : Prop where
  sv : SlAt w p.sv p.served.length (p.served.flatMap encZ)
  hv : SlAt w p.hv p.sh.length (p.sh.flatMap (encQS q))
  inv : ∀ s ∈ p.sh, DRowsAt w s.v s.l
structure QSG (G : Nat → Prop) (q : Int) (w : World) (s : QS) : Prop where
  vg : s.l ≠ [] → InG G w s.v
  ig : ∀ d ∈ s.l, InvG G w d
  few : s.l.length ≤ 1000000
  qs : ∀ d ∈ s.l, d.2.1 = q
structure QPG (G : Nat → Prop) (q : Int) (w : World) (p : QP) : Prop where
  sg : p.served.flatMap encZ ≠ [] → InG G w p.sv
  hg : p.sh.flatMap (encQS q) ≠ [] → InG G w p.hv
  ig : ∀ s ∈ p.sh, QSG G q w s
theorem QSG.grow {q : Int} {w w' : World} {s : QS} (h : QSG G q w s) (hs : w.heap.size ≤ w'.heap.size) : QSG G q w' s := ⟨fun hl => (h.vg hl).grow hs, fun d hd => (h.ig d hd).grow hs, h.few, h.qs⟩
theorem QPG.grow {q : Int} {w w' : World} {p : QP} (h : QPG G q w p) (hs : w.heap.size ≤ w'.heap.size) : QPG G q w' p := ⟨fun hl => (h.sg hl).grow hs, fun hl => (h.hg hl).grow hs, fun s hx => (h.ig s hx).grow hs⟩
theorem QPAt.below {q : Int} {w w' : World} {p : QP} (h : QPAt q w p) (hb : Below w.heap.size w w') : QPAt q w' p := ⟨h.sv.below hb, h.hv.below hb, fun s hs => (h.inv s hs).below hb⟩
theorem QPAt.fp {S : Nat → Prop} {q : Int} {w w' : World} {p : QP} (h : QPAt q w p) (hg : QPG G q w p) (hF : Fp S w w') (hS : ∀ k, k < w.heap.size → G k → ¬ S k) : QPAt q w' p :=
  ⟨h.sv.fp hg.sg hF hS, h.hv.fp hg.hg hF hS, fun s hs => (h.inv s hs).fp (hg.ig s hs).vg (hg.ig s hs).ig hF hS⟩
def pC (x : PX) (next : Int) (v : Value) : Array Value := #[.int .i64 x.pools, .int .i64 x.classes, .int .i64 x.q, .int .i64 next, v]
structure RefP (G : Nat → Prop) (w : World) (b : Nat) (x : PX) (next : Int) (v : Value) (l : List QP) : Prop where
  head : w.heap[b]? = some (.cells (pC x next v) 45 (0, 0))
  rows : SlAt w v l.length (l.flatMap encQP)
  inv : ∀ p ∈ l, QPAt x.q w p
  vg : l.flatMap encQP ≠ [] → InG G w v
  ig : ∀ p ∈ l, QPG G x.q w p
  nb : ¬ G b
  up : ∀ k, w.heap.size ≤ k → G k
  few : l.length ≤ 1000
  lens : ∀ p ∈ l, p.served.length = x.classes ∧ p.sh.length = x.classes
section
variable {w w' : World} {b : Nat} {x : PX} {next : Int} {v : Value} {l : List QP}
theorem RefP.fp {S : Nat → Prop} (h : RefP G w b x next v l) (hF : Fp S w w') (h0 : ¬ S b) (hS : ∀ k, k < w.heap.size → G k → ¬ S k) : RefP G w' b x next v l :=
  ⟨hF.heap h.head h0, h.rows.fp h.vg hF hS, fun p hp => (h.inv p hp).fp (h.ig p hp) hF hS, fun hl => (h.vg hl).grow hF.size, fun p hp => (h.ig p hp).grow hF.size, h.nb, fun k hk => h.up k (Nat.le_trans hF.size hk), h.few, h.lens⟩
theorem RefP.below (h : RefP G w b x next v l) (hb : Below w.heap.size w w') : RefP G w' b x next v l :=
  h.fp (S := fun _ => False) (Fp.of_below hb) (fun h => h) (fun _ _ _ h => h)
end
def placeS (s : ByteArray) (ns : List ByteArray) : Int := match ns.findIdx? (fun n => eqS n s) with
  | some k => k
  | none => -1
theorem placeS_of {s : ByteArray} {ns : List ByteArray} {k : Nat} {n : ByteArray} (hx : ns[k]? = some n) (e : eqS n s = true) (hb : ∀ j y, j < k → ns[j]? = some y → eqS y s = false) : placeS s ns = k := by
  obtain ⟨hk, he⟩ := List.getElem?_eq_some_iff.1 hx
  have : ns.findIdx? (fun n => eqS n s) = some k := List.findIdx?_eq_some_iff_getElem.2 ⟨hk, by rw [he]; exact e, fun j hj => by
    have := hb j _ hj (List.getElem?_eq_getElem (by omega))
    simpa using this⟩
  unfold placeS
  rw [this]
theorem placeS_none {s : ByteArray} {ns : List ByteArray} (h : ∀ j y, j < ns.length → ns[j]? = some y → eqS y s = false) : placeS s ns = -1 := by
  have : ns.findIdx? (fun n => eqS n s) = none := List.findIdx?_eq_none_iff.2 (fun y hy => by
    obtain ⟨j, hj, rfl⟩ := List.getElem_of_mem hy
    exact h j _ hj (List.getElem?_eq_getElem hj))
  unfold placeS
  rw [this]
theorem placeS_cases (s : ByteArray) (ns : List ByteArray) : (placeS s ns = -1 ∧ ∀ n ∈ ns, eqS n s = false) ∨ ∃ (k : Nat) (n : ByteArray), placeS s ns = k ∧ ns[k]? = some n ∧ eqS n s = true := by
  unfold placeS
  cases h : ns.findIdx? (fun n => eqS n s) with
  | none => exact .inl ⟨rfl, fun n hn => by simpa using List.findIdx?_eq_none_iff.1 h n hn⟩
  | some k =>
    obtain ⟨hk, he, _⟩ := List.findIdx?_eq_some_iff_getElem.1 h
    exact .inr ⟨k, ns[k], rfl, List.getElem?_eq_getElem hk, he⟩
theorem placeP_S (s : ByteArray) (L : List PN) : placeP s L = placeS s (L.map PN.name) := by
  unfold placeP placeS
  rw [List.findIdx?_map]
  rfl
set_option maxRecDepth 100000 in
set_option maxHeartbeats 1000000 in
theorem r17Find_any (s : ByteArray) (x : PX) (next : Int) (v : Value) (l : List QP) (w : World) (h : SlAt w v l.length (l.flatMap encQP)) (hf : l.length ≤ 1000000) : Calls Tryz.prog 50 #[.agg (pC x next v), .string s] w fun e w' => e = .returned (.int .i64 (placeS s (l.map QP.name))) ∧ Below w.heap.size w w' := by
  have HI := Lib.hid (h.below (box_below (o := .cells (pC x next v) 45)))
  obtain ⟨a, cap, rfl, -⟩ := h.form
  clear h
  unfold pC at HI ⊢
  go_enter Tryz.func50, Tryz.ntmps50
  go_wp2_with fail
  obtain ⟨w1, hw1⟩ : ∃ w1 : World, w1 = w.alloc (.cells #[.int .i64 x.pools, .int .i64 x.classes, .int .i64 x.q, .int .i64 next, .slice a l.length cap] 45) := ⟨_, rfl⟩
  rw [← hw1] at HI ⊢
  have b1 : w1.cell? ⟨w.heap.size, 4, none⟩ = some (.slice a l.length cap) := by rw [hw1]; exact cell_alloc_at rfl
  have HB := Lib.hid (show Below w.heap.size w w1 by rw [hw1]; exact box_below)
  clear hw1
  go_loopg [5] l.length (fun g i wr => ∃ k : Nat, g = l.length - k ∧ i = .int .i64 k ∧ k ≤ l.length ∧ (∀ j y, j < k → (l.map QP.name)[j]? = some y → eqS y s = false) ∧ wr = w1)
  case atStart => exact ⟨0, rfl, rfl, Nat.zero_le _, (fun j y hj => by omega), rfl⟩
  case round =>
    obtain ⟨k, hg, rfl, hk, hn, rfl⟩ := hrel
    have HG := Lib.hid hg
    have HN := Lib.hid hn
    clear hg hn
    by_cases hlt : k < l.length
    · obtain ⟨p, hp⟩ : ∃ p, l[k]? = some p := ⟨_, List.getElem?_eq_getElem hlt⟩
      obtain ⟨g, off, cap', hv, _, hc⟩ := HI.out.at encQP_len (by decide) hp
      cases hv
      have c0 : wr.cell? ⟨g, off + k * 4, none⟩ = some (.string p.name) := hc 0 _ rfl
      have HX := Lib.hid (show (l.map QP.name)[k]? = some p.name by rw [List.getElem?_map, hp]; rfl)
      have hkl : (k : Int) < (l.length : Int) := by omega
      clear hp hc
      rcases hpb : (p.name.toList == s.toList) with _ | _
      · have HP := Lib.hid (show eqS p.name s = false from hpb)
        go_wp2_with fail
        go_roundg (l.length - (k + 1))
        case rel =>
          refine ⟨k + 1, rfl, by go_num, by omega, fun j y hj hy => ?_, rfl⟩
          rcases Nat.lt_or_ge j k with h | h
          · exact HN.out j y h hy
          · obtain rfl : j = k := by omega
            obtain rfl : p.name = y := Option.some.inj (HX.out.symm.trans hy)
            exact HP.out
        case measure => have := HG.out; omega
      · have HP := Lib.hid (show placeS s (l.map QP.name) = k from placeS_of HX.out hpb HN.out)
        go_wp2_with fail
        go_ret
        exact ⟨ret_int HP.out.symm, HB.out⟩
    · have HP := Lib.hid (show placeS s (l.map QP.name) = -1 from placeS_none (fun j y hj hy => HN.out j y (by rw [List.length_map] at hj; omega) hy))
      go_wp2_with fail
      go_ret
      exact ⟨ret_int HP.out.symm, HB.out⟩
end Go.Proofs.YtdbjihkgafhakaaGreatDoor
namespace Go.Proofs.YtdbjihkgafhakaaGreatDoor
open Go.RowKit
theorem pC_sz (x : PX) (next : Int) (v : Value) : (Tryz.prog.info? 45).map (·.size) = some (pC x next v).size := by
  rw [show (pC x next v).size = 5 from rfl]
  kernel_rfl
theorem qs_sz (q : Int) (s : QS) : (Tryz.prog.info? 100).map (·.size) = some (encQS q s).length := by
  rw [show (encQS q s).length = 3 from rfl]
  kernel_rfl
set_option maxRecDepth 100000 in
set_option maxHeartbeats 1000000 in
theorem r17Uses_none (s : ByteArray) (x : PX) (next : Int) (v : Value) (l : List QP) (w : World) (h : SlAt w v l.length (l.flatMap encQP)) (hf : l.length ≤ 1000000) (hp : placeS s (l.map QP.name) = -1) : Calls Tryz.prog 19 #[.agg (pC x next v), .string s] w fun e w' => e = .returned (.int .i64 0) ∧ Below w.heap.size w w' := by
  have HI := Lib.hid (h.below (box_below (o := .cells (pC x next v) 45)))
  have HF := Lib.hid hf
  have HP := Lib.hid hp
  clear h hf hp
  go_enter Tryz.func19, Tryz.ntmps19
  go_upto_region 1 with fail
  obtain ⟨w1, hw1⟩ : ∃ w1 : World, w1 = w.alloc (.cells (pC x next v) 45) := ⟨_, rfl⟩
  rw [← hw1] at HI ⊢
  have HH := Lib.hid (show w1.heap[w.heap.size]? = some (.cells (pC x next v) 45 (0, 0)) by rw [hw1]; exact fr_alloc_at)
  have HB := Lib.hid (show Below w.heap.size w w1 by rw [hw1]; exact box_below)
  clear hw1
  go_wp2_with (refine wpList_load_agg (cs := pC x next v) 45 HH.out Tryz.underlying45 rfl (pC_sz x next v) rfl _ rfl rfl ?_)
  refine (r17Find_any s x next v l w1 HI.out HF.out).mono ?_
  rintro e w2 ⟨rfl, hb2⟩
  rw [HP.out]
  have HB2 := Lib.hid (HB.out.trans (hb2.mono HB.out.size))
  clear hb2
  go_wp2_with fail
  go_ret
  exact ⟨rfl, HB2.out⟩
set_option maxRecDepth 100000 in
set_option maxHeartbeats 1000000 in
theorem r17Uses_some (s : ByteArray) (k : Nat) (p : QP) (x : PX) (next : Int) (v : Value) (l : List QP) (w : World) (h : SlAt w v l.length (l.flatMap encQP)) (hf : l.length ≤ 1000000) (hp : placeS s (l.map QP.name) = k) (hk : l[k]? = some p) : Calls Tryz.prog 19 #[.agg (pC x next v), .string s] w fun e w' => e = .returned (.int .i64 p.uses) ∧ Below w.heap.size w w' := by
  have HI := Lib.hid (h.below (box_below (o := .cells (pC x next v) 45)))
  have HF := Lib.hid hf
  have HP := Lib.hid hp
  have hkl : (k : Int) < (l.length : Int) := by have := (List.getElem?_eq_some_iff.1 hk).1; omega
  have HK := Lib.hid hk
  clear h hf hp hk
  go_enter Tryz.func19, Tryz.ntmps19
  go_upto_region 1 with fail
  obtain ⟨w1, hw1⟩ : ∃ w1 : World, w1 = w.alloc (.cells (pC x next v) 45) := ⟨_, rfl⟩
  rw [← hw1] at HI ⊢
  have HH := Lib.hid (show w1.heap[w.heap.size]? = some (.cells (pC x next v) 45 (0, 0)) by rw [hw1]; exact fr_alloc_at)
  have HB := Lib.hid (show Below w.heap.size w w1 by rw [hw1]; exact box_below)
  clear hw1
  go_wp2_with (refine wpList_load_agg (cs := pC x next v) 45 HH.out Tryz.underlying45 rfl (pC_sz x next v) rfl _ rfl rfl ?_)
  refine (r17Find_any s x next v l w1 HI.out HF.out).mono ?_
  rintro e w2 ⟨rfl, hb2⟩
  rw [HP.out]
  have HB2 := Lib.hid (HB.out.trans (hb2.mono HB.out.size))
  obtain ⟨g, off, cap, rfl, _, hc⟩ := (HI.out.below hb2).at encQP_len (by decide) HK.out
  have c1 : w2.cell? ⟨g, off + k * 4 + 1, none⟩ = some (.int .i64 p.uses) := hc 1 _ rfl
  have b4 : w2.cell? ⟨w.heap.size, 4, none⟩ = some (.slice (some ⟨g, off, none⟩) l.length cap) := fr_cell_of_heap ((hb2.block _ (fp_lt_of_heap HH.out)).trans HH.out) rfl
  clear hb2 hc
  go_wp2_with fail
  go_ret
  exact ⟨rfl, HB2.out⟩
set_option maxRecDepth 100000 in
set_option maxHeartbeats 2000000 in
theorem r17Waits_none (s : ByteArray) (q : Int) (x : PX) (next : Int) (v : Value) (l : List QP) (w : World) (h : SlAt w v l.length (l.flatMap encQP)) (hf : l.length ≤ 1000000) (hno : placeS s (l.map QP.name) = -1 ∨ q < 0 ∨ (x.classes : Int) ≤ q) : Calls Tryz.prog 20 #[.agg (pC x next v), .string s, .int .i64 q] w fun e w' => e = .returned (.int .i64 0) ∧ Below w.heap.size w w' := by
  have HI := Lib.hid (h.below (box_below (o := .cells (pC x next v) 45)))
  have HF := Lib.hid hf
  have HNO := Lib.hid hno
  have HPC := Lib.hid (placeS_cases s (l.map QP.name))
  clear h hf hno
  go_enter Tryz.func20, Tryz.ntmps20
  go_upto_region 1 with fail
  obtain ⟨w1, hw1⟩ : ∃ w1 : World, w1 = w.alloc (.cells (pC x next v) 45) := ⟨_, rfl⟩
  rw [← hw1] at HI ⊢
  have HH := Lib.hid (show w1.heap[w.heap.size]? = some (.cells (pC x next v) 45 (0, 0)) by rw [hw1]; exact fr_alloc_at)
  have HB := Lib.hid (show Below w.heap.size w w1 by rw [hw1]; exact box_below)
  clear hw1
  go_wp2_with (refine wpList_load_agg (cs := pC x next v) 45 HH.out Tryz.underlying45 rfl (pC_sz x next v) rfl _ rfl rfl ?_)
  refine (r17Find_any s x next v l w1 HI.out HF.out).mono ?_
  rintro e w2 ⟨rfl, hb2⟩
  have HB2 := Lib.hid (HB.out.trans (hb2.mono HB.out.size))
  have b1 : w2.cell? ⟨w.heap.size, 1, none⟩ = some (.int .i64 x.classes) := fr_cell_of_heap ((hb2.block _ (fp_lt_of_heap HH.out)).trans HH.out) rfl
  clear hb2
  generalize placeS s (l.map QP.name) = i at HNO HPC ⊢
  by_cases h1 : i < 0
  · go_wp2_with fail
    go_ret
    exact ⟨rfl, HB2.out⟩
  · have hq : q < 0 ∨ (¬ q < 0 ∧ (x.classes : Int) ≤ q) := by
      have h2 := HNO.out
      have h3 := HPC.out
      omega
    rcases hq with hq | ⟨hq, hq2⟩
    · go_wp2_with fail
      go_ret
      exact ⟨rfl, HB2.out⟩
    · go_wp2_with fail
      go_ret
      exact ⟨rfl, HB2.out⟩
set_option maxRecDepth 100000 in
set_option maxHeartbeats 2000000 in
theorem r17Waits_some (s : ByteArray) (k j : Nat) (p : QP) (y : QS) (x : PX) (next : Int) (v : Value) (l : List QP) (w : World) (h : SlAt w v l.length (l.flatMap encQP)) (hf : l.length ≤ 1000000) (hp : placeS s (l.map QP.name) = k) (hk : l[k]? = some p) (hq : QPAt x.q w p) (hj : p.sh[j]? = some y) (hjc : j < x.classes) (hfd : FewD y.l) (ht : totT (y.l.map Prod.fst) ≤ 1000000000) :
    Calls Tryz.prog 20 #[.agg (pC x next v), .string s, .int .i64 j] w fun e w' => e = .returned (.int .i64 (totT (y.l.map Prod.fst))) ∧ Below w.heap.size w w' := by
  have HI := Lib.hid (h.below (box_below (o := .cells (pC x next v) 45)))
  have HQ := Lib.hid (hq.below (box_below (o := .cells (pC x next v) 45)))
  have HF := Lib.hid hf
  have HP := Lib.hid hp
  have hkl : (k : Int) < (l.length : Int) := by have := (List.getElem?_eq_some_iff.1 hk).1; omega
  have hjl : (j : Int) < (p.sh.length : Int) := by have := (List.getElem?_eq_some_iff.1 hj).1; omega
  have hjx : ¬ (x.classes : Int) ≤ (j : Int) := by omega
  have HK := Lib.hid hk
  have HJ := Lib.hid hj
  have HFD := Lib.hid hfd
  have HT := Lib.hid ht
  clear h hf hp hk hq hj hjc hfd ht
  go_enter Tryz.func20, Tryz.ntmps20
  go_upto_region 1 with fail
  obtain ⟨w1, hw1⟩ : ∃ w1 : World, w1 = w.alloc (.cells (pC x next v) 45) := ⟨_, rfl⟩
  rw [← hw1] at HI HQ ⊢
  have HH := Lib.hid (show w1.heap[w.heap.size]? = some (.cells (pC x next v) 45 (0, 0)) by rw [hw1]; exact fr_alloc_at)
  have HB := Lib.hid (show Below w.heap.size w w1 by rw [hw1]; exact box_below)
  clear hw1
  go_wp2_with (refine wpList_load_agg (cs := pC x next v) 45 HH.out Tryz.underlying45 rfl (pC_sz x next v) rfl _ rfl rfl ?_)
  refine (r17Find_any s x next v l w1 HI.out HF.out).mono ?_
  rintro e w2 ⟨rfl, hb2⟩
  rw [HP.out]
  have HB2 := Lib.hid (HB.out.trans (hb2.mono HB.out.size))
  obtain ⟨g, off, cap, rfl, _, hc⟩ := (HI.out.below hb2).at encQP_len (by decide) HK.out
  obtain ⟨g2, off2, cap2, hv2, _, hc2⟩ := (HQ.out.below hb2).hv.at (encQS_len x.q) (by decide) HJ.out
  have c3 : w2.cell? ⟨g, off + k * 4 + 3, none⟩ = some p.hv := hc 3 _ rfl
  rw [hv2] at c3
  have HRA := Lib.hid (show w2.rangeAt g2 (off2 + j * 3) (encQS x.q y) from fun i u hu => hc2 i u hu)
  have b4 : w2.cell? ⟨w.heap.size, 4, none⟩ = some (.slice (some ⟨g, off, none⟩) l.length cap) := fr_cell_of_heap ((hb2.block _ (fp_lt_of_heap HH.out)).trans HH.out) rfl
  have b1 : w2.cell? ⟨w.heap.size, 1, none⟩ = some (.int .i64 x.classes) := fr_cell_of_heap ((hb2.block _ (fp_lt_of_heap HH.out)).trans HH.out) rfl
  have HD := Lib.hid ((HQ.out.inv y (List.mem_of_getElem? HJ.out)).below hb2)
  clear hb2 hc hc2 hv2
  go_wp2_with (refine wpList_load_mid rfl 100 _ rfl g2 (off2 + j * 3) rfl (encQS x.q y) _ HRA.out Tryz.underlying100 rfl (qs_sz x.q y) ?_)
  refine (r16Len_any x.q y.gv y.v y.l w2 HD.out HFD.out HT.out).mono ?_
  rintro e w3 ⟨rfl, hb3⟩
  have HB3 := Lib.hid (HB2.out.trans (hb3.mono HB2.out.size))
  clear hb3
  go_wp2_with fail
  go_ret
  exact ⟨rfl, HB3.out⟩
end Go.Proofs.YtdbjihkgafhakaaGreatDoor
namespace Go.Proofs.YtdbjihkgafhakaaGreatDoor
open Go.RowKit
variable {G : Nat → Prop}
theorem qrow_info : (Tryz.prog.info? 55).map (fun i => (i.zero, i.size, i.bytes)) = some (some (.agg #[.string ⟨#[]⟩, .int .i64 0, .slice none 0 0, .slice none 0 0]), 4, 72) := by kernel_rfl
theorem flatQP_snoc (l : List QP) (p : QP) : (l ++ [p]).flatMap encQP = l.flatMap encQP ++ encQP p := by simp
def withQ (k : Nat) (p : QP) (l : List QP) : List QP := if 0 < p.uses then l.set k p else l.eraseIdx k
def builtQ (k : Nat) (p : QP) (l : List QP) (i : Nat) : List QP := if i ≤ k then l.take i else if 0 < p.uses then (l.take i).set k p else (l.take i).eraseIdx k
theorem builtQ_other {k i : Nat} {p y : QP} {l : List QP} (hy : l[i]? = some y) (hik : i ≠ k) : builtQ k p l (i + 1) = builtQ k p l i ++ [y] := by
  have hi : i < l.length := (List.getElem?_eq_some_iff.1 hy).1
  have ht : l.take (i + 1) = l.take i ++ [y] := by rw [List.take_succ_eq_append_getElem hi, (List.getElem?_eq_some_iff.1 hy).2]
  unfold builtQ
  by_cases h : i < k
  · rw [if_pos (show i + 1 ≤ k by omega), if_pos (show i ≤ k by omega), ht]
  · have hl : k < (l.take i).length := by rw [List.length_take]; omega
    rw [if_neg (show ¬ i + 1 ≤ k by omega), if_neg (show ¬ i ≤ k by omega), ht]
    split
    · exact set_app _ _ _ _ hl
    · exact erase_app _ _ _ hl
theorem builtQ_same {k : Nat} {p : QP} {l : List QP} (hk : k < l.length) : builtQ k p l (k + 1) = builtQ k p l k ++ (if 0 < p.uses then [p] else []) := by
  have ht : l.take (k + 1) = l.take k ++ [l[k]] := List.take_succ_eq_append_getElem hk
  have hl : (l.take k).length = k := by rw [List.length_take]; omega
  unfold builtQ
  rw [if_neg (by omega), if_pos (Nat.le_refl _), ht]
  split
  · have h := set_last (l.take k) l[k] p
    rw [hl] at h
    exact h
  · have h := erase_lastV (l.take k) l[k]
    rw [hl] at h
    rw [h, List.append_nil]
theorem builtQ_all {k : Nat} {p : QP} {l : List QP} (hk : k < l.length) : builtQ k p l l.length = withQ k p l := by
  unfold builtQ withQ
  rw [if_neg (by omega), List.take_of_length_le (Nat.le_refl _)]
theorem builtQ_len {k i : Nat} {p : QP} {l : List QP} : (builtQ k p l i).length ≤ i := by
  unfold builtQ
  split
  · rw [List.length_take]; omega
  · split
    · rw [List.length_set, List.length_take]; omega
    · exact Nat.le_trans (List.length_eraseIdx_le _ _) (by rw [List.length_take]; omega)
theorem withQ_mem {k : Nat} {p y : QP} {l : List QP} (h : y ∈ withQ k p l) : y ∈ l ∨ y = p := by
  unfold withQ at h
  split at h
  · exact mem_set h
  · exact .inl (List.mem_of_mem_eraseIdx h)
theorem withQ_len {k : Nat} {p : QP} {l : List QP} : (withQ k p l).length ≤ l.length := by
  unfold withQ
  split
  · rw [List.length_set]; exact Nat.le_refl _
  · exact List.length_eraseIdx_le _ _
def WithQPost (G : Nat → Prop) (b : Nat) (x : PX) (next : Int) (l' : List QP) (w : World) (e : Ending) (w' : World) : Prop := e = .returned (.tuple #[]) ∧ Fp (fun j => j = b) w w' ∧ ∃ v', RefP G w' b x next v' l'
theorem flatQP_one {w : World} {q : Int} {l : List QP} (h : ∀ p ∈ l, QPAt q w p) : ∀ u ∈ l.flatMap encQP, u.oneCell' = true := by
  intro u hu
  obtain ⟨p, hp, hx⟩ := List.mem_flatMap.1 hu
  obtain ⟨a, c, hv, _⟩ := (h p hp).sv.form
  obtain ⟨a2, c2, hv2, _⟩ := (h p hp).hv.form
  simp [encQP] at hx
  rcases hx with rfl | rfl | rfl | rfl
  · rfl
  · rfl
  · rw [hv]
    rfl
  · rw [hv2]
    rfl
theorem rowsQ_close {b base : Nat} {x : PX} {next next' : Int} {v vo : Value} {l l' : List QP} {w wr w3 : World} (hR : RefP G w b x next v l) (hB : Below w.heap.size w wr)
    (hin : ∀ y ∈ l', QPAt x.q wr y) (hig : ∀ y ∈ l', QPG G x.q wr y) (hfew : l'.length ≤ 1000) (hlens : ∀ y ∈ l', y.served.length = x.classes ∧ y.sh.length = x.classes)
    (ho : wr.ownsRow base 55 4 vo l'.length (l'.flatMap encQP)) (hbase : w.heap.size ≤ base) (hF : Fp (fun j => j = b) wr w3) (hh : w3.heap[b]? = some (.cells (pC x next' vo) 45 (0, 0))) :
    Fp (fun j => j = b) w w3 ∧ RefP G w3 b x next' vo l' := by
  have hvg : InG G wr vo := own_inG ho (fun k hk => hR.up k (Nat.le_trans hbase hk))
  exact ⟨(Fp.of_below hB).trans hF (fun _ _ h => h), hh, (sl_own ho).fp (fun _ => hvg) hF (fun j _ hj e => hR.nb (e ▸ hj)), fun y hy => (hin y hy).fp (hig y hy) hF (fun j _ hj e => hR.nb (e ▸ hj)), fun _ => hvg.grow hF.size, fun y hy => (hig y hy).grow hF.size, hR.nb, fun k hk => hR.up k (Nat.le_trans (Nat.le_trans hB.size hF.size) hk), hfew, hlens⟩
theorem withQ_close {b k base : Nat} {x : PX} {next : Int} {v vo : Value} {l : List QP} {p : QP} {w wr w3 : World} (hR : RefP G w b x next v l) (hB : Below w.heap.size w wr) (hx : QPAt x.q w p) (hxg : QPG G x.q w p) (hxl : p.served.length = x.classes ∧ p.sh.length = x.classes)
    (ho : wr.ownsRow base 55 4 vo (withQ k p l).length ((withQ k p l).flatMap encQP)) (hbase : w.heap.size ≤ base) (hF : Fp (fun j => j = b) wr w3) (hh : w3.heap[b]? = some (.cells (pC x next vo) 45 (0, 0))) :
    WithQPost G b x next (withQ k p l) w (.returned (.tuple #[])) w3 := by
  have := rowsQ_close hR hB (fun y hy => by
    rcases withQ_mem hy with h | rfl
    · exact (hR.inv y h).below hB
    · exact hx.below hB) (fun y hy => by
    rcases withQ_mem hy with h | rfl
    · exact (hR.ig y h).grow hB.size
    · exact hxg.grow hB.size) (Nat.le_trans withQ_len hR.few) (fun y hy => by
    rcases withQ_mem hy with h | rfl
    · exact hR.lens y h
    · exact hxl) ho hbase hF hh
  exact ⟨rfl, this.1, vo, this.2⟩
set_option maxRecDepth 100000 in
set_option maxHeartbeats 8000000 in
theorem r17With_any (b : Nat) (x : PX) (next : Int) (v : Value) (l : List QP) (k : Nat) (p : QP) (w : World) (h : RefP G w b x next v l) (hk : k < l.length) (hx : QPAt x.q w p) (hxg : QPG G x.q w p) (hxl : p.served.length = x.classes ∧ p.sh.length = x.classes) :
    Calls Tryz.prog 71 #[.pointer (some ⟨b, 0, none⟩), .int .i64 k, .agg (encQP p).toArray] w (WithQPost G b x next (withQ k p l) w) := by
  obtain ⟨name, uses, served, sh, sv, hv⟩ := p
  obtain ⟨sa, sc, hsv, -⟩ := hx.sv.form
  obtain ⟨ha, hc, hhv, -⟩ := hx.hv.form
  simp only at hsv hhv hxl ⊢
  subst hsv hhv
  generalize hsn : served.length = sn at hx hxg hxl ⊢
  generalize hhn : sh.length = hn at hx hxg hxl ⊢
  have HX := Lib.hid hx
  have HXG := Lib.hid hxg
  have HXL := Lib.hid (show served.length = x.classes ∧ sh.length = x.classes from ⟨hsn.trans hxl.1, hhn.trans hxl.2⟩)
  have HR := Lib.hid (h.below (box_below (o := .cells #[.string name, .int .i64 uses, .slice sa sn sc, .slice ha hn hc] 55)))
  have HR0 := Lib.hid h
  have hbw := fp_lt_of_heap h.head
  obtain ⟨a, cap, rfl, -⟩ := h.rows.form
  have HF := Lib.hid h.few
  have HK := Lib.hid hk
  clear h hx hxg hxl hk hsn hhn
  rw [show (encQP ⟨name, uses, served, sh, .slice sa sn sc, .slice ha hn hc⟩).toArray = #[.string name, .int .i64 uses, .slice sa sn sc, .slice ha hn hc] from rfl]
  obtain ⟨p, hp⟩ : ∃ p : QP, p = ⟨name, uses, served, sh, .slice sa sn sc, .slice ha hn hc⟩ := ⟨_, rfl⟩
  rw [← hp]
  rw [← hp] at HX HXG
  have HPE := Lib.hid (show encQP p = [.string name, .int .i64 uses, .slice sa sn sc, .slice ha hn hc] ∧ p.uses = uses ∧ p.served = served ∧ p.sh = sh by rw [hp]; exact ⟨rfl, rfl, rfl, rfl⟩)
  clear hp
  go_enter Tryz.func71, Tryz.ntmps71
  go_wp2_with fail
  obtain ⟨w1, hw1⟩ : ∃ w1 : World, w1 = w.alloc (.cells #[.string name, .int .i64 uses, .slice sa sn sc, .slice ha hn hc] 55) := ⟨_, rfl⟩
  have hz1 : w1.heap.size = w.heap.size + 1 := by rw [hw1]; simp
  rw [← hw1] at HR ⊢
  have HXC := Lib.hid (show w1.heap[w.heap.size]? = some (.cells #[.string name, .int .i64 uses, .slice sa sn sc, .slice ha hn hc] 55 (0, 0)) by rw [hw1]; exact fr_alloc_at)
  have HB1 := Lib.hid (show Below w.heap.size w w1 by rw [hw1]; exact box_below)
  have HST := Lib.hid (show (w1.alloc (.cells #[] 55)).ownsRow w1.heap.size 55 4 (.slice (some ⟨w1.heap.size, 0, none⟩) 0 0) 0 [] from own_empty (Nat.le_refl _))
  have HZ1 := Lib.hid hz1
  rw [← hz1]
  clear hw1 hz1
  go_loopg [7, 6] l.length (fun g i ov wr => ∃ m : Nat, g = l.length - m ∧ i = .int .i64 m ∧ m ≤ l.length ∧ wr.ownsRow w1.heap.size 55 4 ov (builtQ k p l m).length ((builtQ k p l m).flatMap encQP) ∧ Below w1.heap.size w1 wr)
  case atStart => exact ⟨0, rfl, rfl, Nat.zero_le _, by unfold builtQ; rw [if_pos (Nat.zero_le _)]; exact HST.out, box_below⟩
  case round =>
    obtain ⟨m, hg, rfl, hm, ho, hb⟩ := hrel
    have HG := Lib.hid hg
    have HO := Lib.hid ho
    have HB := Lib.hid hb
    clear hg ho hb
    have hh := (HB.out.block b (fp_lt_of_heap HR.out.head)).trans HR.out.head
    have b4 : wr.cell? ⟨b, 4, none⟩ = some (.slice a l.length cap) := fr_cell_of_heap hh rfl
    have HH := Lib.hid hh
    have hxc := (HB.out.block w.heap.size (fp_lt_of_heap HXC.out)).trans HXC.out
    have HXC2 := Lib.hid hxc
    have hlen := builtQ_len (k := k) (i := m) (p := p) (l := l)
    have hf := HF.out
    have hc1 : w1.heap.size ≤ wr.heap.size := HB.out.size
    have hc2 : (builtQ k p l m).length < 140737488355328 := by omega
    have hc3 : ((builtQ k p l m).length + 1) * 72 ≤ 140737488355328 := by omega
    clear hh hxc hlen
    by_cases hlt : m < l.length
    · have hml : (m : Int) < (l.length : Int) := by omega
      obtain ⟨y, hy⟩ : ∃ y, l[m]? = some y := ⟨_, List.getElem?_eq_getElem hlt⟩
      by_cases hmk : m = k
      · have hne : ((m : Int) != (k : Int)) = false := by simp [hmk]
        have HBS := Lib.hid (show builtQ k p l (m + 1) = builtQ k p l m ++ (if 0 < p.uses then [p] else []) by rw [hmk]; exact builtQ_same HK.out)
        have x1 : wr.cell? ⟨w.heap.size, 1, none⟩ = some (.int .i64 uses) := fr_cell_of_heap HXC2.out rfl
        obtain ⟨D, hD⟩ : ∃ D, D = builtQ k p l m := ⟨_, rfl⟩
        rw [← hD] at hc2 hc3 HO HBS
        clear hy hmk hD
        by_cases hxe : 0 < uses
        · have HBS2 := Lib.hid (show builtQ k p l (m + 1) = D ++ [p] by rw [HBS.out, HPE.out.2.1, if_pos hxe])
          have x0 : wr.cell? ⟨w.heap.size, 0, none⟩ = some (.string name) := fr_cell_of_heap HXC2.out rfl
          have x2 : wr.cell? ⟨w.heap.size, 2, none⟩ = some (.slice sa sn sc) := fr_cell_of_heap HXC2.out rfl
          have x3 : wr.cell? ⟨w.heap.size, 3, none⟩ = some (.slice ha hn hc) := fr_cell_of_heap HXC2.out rfl
          go_wp2_with (at_builtin; refine wpList_append_at (us := #[.string name, .int .i64 uses, .slice sa sn sc, .slice ha hn hc]) rfl _ _ 43 rfl w1.heap.size _ 4 72 Tryz.underlying43 qrow_info rfl (by decide) u6 D.length (D.flatMap encQP) rfl HO.out rfl rfl (by simp [Value.oneCell']) ?c1 ?c2 ?c3 ?_; (case c1 => exact hc1); (case c2 => exact hc2); (case c3 => exact hc3); intro gg gcap w3 ho3 hg3 hat3)
          have HO3 := Lib.hid ho3
          have HB3 := Lib.hid (HB.out.trans ⟨hg3.os, hg3.tape, hg3.output, hg3.size, fun j hj => hg3.block j (by omega) (fun e => by have := own_block HO.out j e.symm; omega)⟩ : Below w1.heap.size w1 w3)
          clear ho3 hg3 hat3
          go_wp2_with fail
          go_roundg (l.length - (m + 1))
          case rel => exact ⟨m + 1, rfl, by go_num, by omega, by rw [HBS2.out, List.length_append, flatQP_snoc, HPE.out.1]; exact HO3.out, HB3.out⟩
          case measure => have := HG.out; omega
        · have HBS2 := Lib.hid (show builtQ k p l (m + 1) = D by rw [HBS.out, HPE.out.2.1, if_neg hxe, List.append_nil])
          go_wp2_with fail
          go_roundg (l.length - (m + 1))
          case rel => exact ⟨m + 1, rfl, by go_num, by omega, by rw [HBS2.out]; exact HO.out, HB.out⟩
          case measure => have := HG.out; omega
      · have hne : ((m : Int) != (k : Int)) = true := by simp; omega
        have HBS := Lib.hid (builtQ_other (p := p) hy hmk)
        obtain ⟨g, off, cap', hv, _, hcs⟩ := (HR.out.rows.below (HB.out.mono (Nat.le_refl _))).at encQP_len (by decide) hy
        cases hv
        have c0 : wr.cell? ⟨g, off + m * 4, none⟩ = some (.string y.name) := hcs 0 _ rfl
        have c1 : wr.cell? ⟨g, off + m * 4 + 1, none⟩ = some (.int .i64 y.uses) := hcs 1 _ rfl
        have c2 : wr.cell? ⟨g, off + m * 4 + 2, none⟩ = some y.sv := hcs 2 _ rfl
        have c3 : wr.cell? ⟨g, off + m * 4 + 3, none⟩ = some y.hv := hcs 3 _ rfl
        obtain ⟨pa, pc, hpv, -⟩ := (HR.out.inv y (List.mem_of_getElem? hy)).sv.form
        obtain ⟨qa, qc, hqv, -⟩ := (HR.out.inv y (List.mem_of_getElem? hy)).hv.form
        generalize y.served.length = yn at hpv
        generalize y.sh.length = zn at hqv
        rw [hpv] at c2
        rw [hqv] at c3
        have HPV := Lib.hid (And.intro hpv hqv)
        obtain ⟨D, hD⟩ : ∃ D, D = builtQ k p l m := ⟨_, rfl⟩
        rw [← hD] at hc2 hc3 HO HBS
        clear hy hmk hD hpv hqv hcs
        go_wp2_with (at_builtin; refine wpList_append_at (us := #[.string y.name, .int .i64 y.uses, .slice pa yn pc, .slice qa zn qc]) rfl _ _ 43 rfl w1.heap.size _ 4 72 Tryz.underlying43 qrow_info rfl (by decide) u6 D.length (D.flatMap encQP) rfl HO.out rfl rfl (by simp [Value.oneCell']) ?c1 ?c2 ?c3 ?_; (case c1 => exact hc1); (case c2 => exact hc2); (case c3 => exact hc3); intro gg gcap w3 ho3 hg3 hat3)
        have HO3 := Lib.hid ho3
        have HB3 := Lib.hid (HB.out.trans ⟨hg3.os, hg3.tape, hg3.output, hg3.size, fun j hj => hg3.block j (by omega) (fun e => by have := own_block HO.out j e.symm; omega)⟩ : Below w1.heap.size w1 w3)
        clear ho3 hg3 hat3
        go_wp2_with fail
        go_roundg (l.length - (m + 1))
        case rel => exact ⟨m + 1, rfl, by go_num, by omega, by rw [HBS.out, List.length_append, flatQP_snoc, show encQP y = [.string y.name, .int .i64 y.uses, .slice pa yn pc, .slice qa zn qc] by unfold encQP; rw [HPV.out.1, HPV.out.2]]; exact HO3.out, HB3.out⟩
        case measure => have := HG.out; omega
    · obtain rfl : m = l.length := by omega
      obtain ⟨ua, uc, hu, hul, -⟩ := own_cells HO.out
      have HW := Lib.hid (show wr.ownsRow w1.heap.size 55 4 u6 (withQ k p l).length ((withQ k p l).flatMap encQP) by rw [← builtQ_all HK.out]; exact HO.out)
      obtain ⟨n, hn⟩ : ∃ n, n = (builtQ k p l l.length).length := ⟨_, rfl⟩
      rw [← hn] at hu
      subst hu
      have HBB := Lib.hid (HB1.out.trans (HB.out.mono HB1.out.size) : Below w.heap.size w wr)
      have f4 : wr.frozen? ⟨b, 4, none⟩ = false := fr_free_of_heap HH.out
      clear hn hul hc1 hc2 hc3
      go_wp2_with fail
      go_end0
      exact withQ_close HR0.out HBB.out HX.out HXG.out (by rw [HPE.out.2.2.1, HPE.out.2.2.2]; exact HXL.out) HW.out (by have := HZ1.out; omega) ((Fp.refl (fun j => j = b) wr).setCell (p := ⟨b, 4, none⟩) (fun _ => rfl) _) (fr_setCell_at HH.out)
end Go.Proofs.YtdbjihkgafhakaaGreatDoor
namespace Go.Proofs.YtdbjihkgafhakaaGreatDoor
open Go.RowKit
variable {G : Nat → Prop}
structure AR where
  name : ByteArray
  uses : Int
  served : List Int
  sh : List (Bool × List TRow)
def QS.abs (s : QS) : Bool × List TRow := (s.gv, s.l.map Prod.fst)
def QP.abs (p : QP) : AR := ⟨p.name, p.uses, p.served, p.sh.map QS.abs⟩
def QDocPost (G : Nat → Prop) (b : Nat) (x : PX) (next : Int) (A : List AR) (u : Value) (w : World) (e : Ending) (w' : World) : Prop := e = .returned u ∧ Fp (fun j => j = b) w w' ∧ ∃ v' l', RefP G w' b x next v' l' ∧ l'.map QP.abs = A
theorem qp_sz (p : QP) : (Tryz.prog.info? 55).map (·.size) = some (encQP p).length := by
  rw [show (encQP p).length = 4 from rfl]
  kernel_rfl
theorem QPAt.one {w : World} {q : Int} {p : QP} (h : QPAt q w p) : (encQP p).toArray.all (·.oneCell') = true := by
  obtain ⟨a, c, hv, _⟩ := h.sv.form
  obtain ⟨a2, c2, hv2, _⟩ := h.hv.form
  unfold encQP
  rw [hv, hv2]
  simp [Value.oneCell']
def withA (k : Nat) (a : AR) (l : List AR) : List AR := if 0 < a.uses then l.set k a else l.eraseIdx k
theorem withQ_abs (k : Nat) (p : QP) (l : List QP) : (withQ k p l).map QP.abs = withA k p.abs (l.map QP.abs) := by
  unfold withQ withA
  by_cases h : 0 < p.uses
  · rw [if_pos h, if_pos (show 0 < p.abs.uses from h)]
    exact set_map _ _ _ _
  · rw [if_neg h, if_neg (show ¬ 0 < p.abs.uses from h)]
    exact eraseIdx_map' _ _ _
theorem r17_same {b : Nat} {x : PX} {next : Int} {v : Value} {l : List QP} {w w' : World} (h : RefP G w b x next v l) (hb : Below w.heap.size w w') (u : Value) : QDocPost G b x next (l.map QP.abs) u w (.returned u) w' :=
  ⟨rfl, Fp.of_below hb, v, l, h.below hb, rfl⟩
set_option maxRecDepth 100000 in
set_option maxHeartbeats 1000000 in
theorem r17Leave_none (s : ByteArray) (b : Nat) (x : PX) (next : Int) (v : Value) (l : List QP) (w : World) (h : RefP G w b x next v l) (hp : placeS s (l.map QP.name) = -1) : Calls Tryz.prog 41 #[.pointer (some ⟨b, 0, none⟩), .string s] w fun e w' => e = .returned (.bool false) ∧ Below w.heap.size w w' := by
  have HR := Lib.hid h
  have HP := Lib.hid hp
  clear h hp
  go_enter Tryz.func41, Tryz.ntmps41
  go_wp2_with (refine wpList_load_agg (cs := pC x next v) 45 HR.out.head Tryz.underlying45 rfl (pC_sz x next v) rfl _ rfl rfl ?_)
  refine (r17Find_any s x next v l w HR.out.rows (by have := HR.out.few; omega)).mono ?_
  rintro e w2 ⟨rfl, hb2⟩
  rw [HP.out]
  have HB2 := Lib.hid hb2
  clear hb2
  go_wp2_with fail
  go_ret
  exact ⟨rfl, HB2.out⟩
set_option maxRecDepth 100000 in
set_option maxHeartbeats 2000000 in
theorem r17Leave_some (s : ByteArray) (k : Nat) (p : QP) (b : Nat) (x : PX) (next : Int) (v : Value) (l : List QP) (w : World) (h : RefP G w b x next v l) (hp : placeS s (l.map QP.name) = k) (hk : l[k]? = some p) (hu : 1 ≤ p.uses ∧ p.uses ≤ 1000000000) :
    Calls Tryz.prog 41 #[.pointer (some ⟨b, 0, none⟩), .string s] w (QDocPost G b x next (withA k { p.abs with uses := p.uses - 1 } (l.map QP.abs)) (.bool true) w) := by
  have HR := Lib.hid h
  have HP := Lib.hid hp
  have HK := Lib.hid hk
  have HU := Lib.hid (show wrap64 (p.uses - 1) = p.uses - 1 by unfold wrap64; omega)
  have hkl : (k : Int) < (l.length : Int) := by have := (List.getElem?_eq_some_iff.1 hk).1; omega
  clear h hp hk hu
  go_enter Tryz.func41, Tryz.ntmps41
  go_wp2_with (refine wpList_load_agg (cs := pC x next v) 45 HR.out.head Tryz.underlying45 rfl (pC_sz x next v) rfl _ rfl rfl ?_)
  refine (r17Find_any s x next v l w HR.out.rows (by have := HR.out.few; omega)).mono ?_
  rintro e w2 ⟨rfl, hb2⟩
  rw [HP.out]
  have HB2 := Lib.hid hb2
  have HR2 := Lib.hid (HR.out.below hb2)
  obtain ⟨g, off, cap, hv, _, hc⟩ := HR2.out.rows.at encQP_len (by decide) HK.out
  have b4 : w2.cell? ⟨b, 4, none⟩ = some v := fr_cell_of_heap HR2.out.head rfl
  rw [hv] at b4
  have HRA := Lib.hid (show w2.rangeAt g (off + k * 4) (encQP p) from fun i u hu => hc i u hu)
  have HQ2 := Lib.hid (HR2.out.inv p (List.mem_of_getElem? HK.out))
  clear hb2 hc hv
  go_upto_region 5 with (first
    | (refine wpList_load_mid rfl 55 _ rfl g (off + k * 4) rfl (encQP p) _ HRA.out Tryz.underlying55 rfl (qp_sz p) ?_)
    | (refine wpList_store_new rfl 55 _ _ rfl w2.heap.size rfl (encQP p).toArray rfl rfl (qp_sz p) rfl HQ2.out.one ?_))
  simp only [Act.put]
  obtain ⟨w3, hw3⟩ : ∃ w3 : World, w3 = w2.alloc (.cells (encQP p).toArray 55) := ⟨_, rfl⟩
  obtain ⟨rb, hrb⟩ : ∃ rb : Nat, rb = w2.heap.size := ⟨_, rfl⟩
  rw [← hw3, ← hrb]
  have HB3 := Lib.hid (show Below w2.heap.size w2 w3 by rw [hw3]; exact box_below)
  have hh3 : w3.heap[rb]? = some (.cells (encQP p).toArray 55 (0, 0)) := by rw [hw3, hrb]; exact fr_alloc_at
  have HH3 := Lib.hid hh3
  have HRB := Lib.hid (show w2.heap.size ≤ rb by rw [hrb]; exact Nat.le_refl _)
  have y1 : w3.cell? ⟨rb, 1, none⟩ = some (.int .i64 p.uses) := fr_cell_of_heap hh3 rfl
  have f1 : w3.frozen? ⟨rb, 1, none⟩ = false := fr_free_of_heap hh3
  clear hw3 hrb hh3 b4
  go_upto_region 6 with fail
  rw [HU.out]
  obtain ⟨w4, hw4⟩ : ∃ w4 : World, w4 = w3.setCell ⟨rb, 1, none⟩ (.int .i64 (p.uses - 1)) := ⟨_, rfl⟩
  rw [← hw4]
  obtain ⟨p', hp'⟩ : ∃ p' : QP, p' = { p with uses := p.uses - 1 } := ⟨_, rfl⟩
  have HH4 := Lib.hid (show w4.heap[rb]? = some (.cells (encQP p').toArray 55 (0, 0)) by rw [hw4, hp']; exact fr_setCell_at HH3.out)
  have hb4 : Below w.heap.size w w4 := (HB2.out.trans (HB3.out.mono HB2.out.size)).trans (by rw [hw4]; exact Below.setCell (Below.refl _ _) (by have := HRB.out; have := HB2.out.size; simp; omega) _)
  have HB4 := Lib.hid hb4
  have HX := Lib.hid (show QPAt x.q w4 p' ∧ QPG G x.q w4 p' ∧ p'.served.length = x.classes ∧ p'.sh.length = x.classes ∧ p'.abs = { p.abs with uses := p.uses - 1 } from by
    have h0 := (HR.out.inv p (List.mem_of_getElem? HK.out)).below hb4
    have h1 := (HR.out.ig p (List.mem_of_getElem? HK.out)).grow hb4.size
    have h2 := HR.out.lens p (List.mem_of_getElem? HK.out)
    rw [hp']
    exact ⟨⟨h0.sv, h0.hv, h0.inv⟩, ⟨h1.sg, h1.hg, h1.ig⟩, h2.1, h2.2, rfl⟩)
  clear hw4 hp' hb4 y1 f1
  go_wp2_with (refine wpList_load_agg (cs := (encQP p').toArray) 55 HH4.out Tryz.underlying55 rfl (qp_sz p') rfl _ rfl rfl ?_)
  refine (r17With_any b x next v l k p' w4 (HR.out.below HB4.out) (by omega) HX.out.1 HX.out.2.1 ⟨HX.out.2.2.1, HX.out.2.2.2.1⟩).mono ?_
  rintro e w5 ⟨rfl, hF5, v5, hR5⟩
  have HF5 := Lib.hid ((Fp.of_below HB4.out).trans hF5 (fun _ _ h => h))
  have HR5 := Lib.hid hR5
  clear hF5 hR5
  go_wp2_with fail
  go_ret
  exact ⟨rfl, HF5.out, v5, _, HR5.out, by rw [withQ_abs, HX.out.2.2.2.2]⟩
end Go.Proofs.YtdbjihkgafhakaaGreatDoor
