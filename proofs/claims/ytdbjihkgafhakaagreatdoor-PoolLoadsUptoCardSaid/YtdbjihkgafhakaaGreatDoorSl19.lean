/-
 ref17 (pools): how the document's pools lie in memory; Find, Uses, Waits: the walks.
 ref17 (pools): with: the walk.
 ref17 (pools): Leave; Enter, where the need is there, or there is no room: the walks.
 ref17 (pools): Enter, where the need is there, or there is no room; set: the walks.
 ref17 (pools): Push: the walk.
 ref17 (pools): Drop: the walk.
 ref17 (pools): Enter, where the need is new: the walk.
 ref17 (pools): Take: the walk.
 pool.Pools: Next, Uses where the need is not there: the walks; what each call leaves of the needs, wherever they lie.
 ref01.Ints of equal lists: the walk.
-/
import Derived.Test.YtdbjihkgafhakaaGreatDoorSl18
import Derived.Test.YtdbjihkgafhakaaGreatDoorSl10
import Derived.Deep.AppendLies
import Derived.Lib.LazyBuf
import Derived.Lib.QuietBelow
import Derived.BigQuiet
import Derived.StillTailTactics
import Derived.Deep.RegionHeld3
import Derived.Test.YtdbjihkgafhakaaGreatDoorSl13
import Derived.Test.YtdbjihkgafhakaaGreatDoorSl15
namespace Go.Proofs.YtdbjihkgafhakaaGreatDoor
open Go.RowKit
variable {G : Nat → Prop}
def SlAt (w : World) (v : Value) (n : Nat) (us : List Value) : Prop := ∃ a cap, v = .slice a n cap ∧ n ≤ cap ∧ ∀ (j : Nat) u, us[j]? = some u → ∃ g off, a = some ⟨g, off, none⟩ ∧ w.cell? ⟨g, off + j, none⟩ = some u
theorem SlAt.form {w : World} {v : Value} {n : Nat} {us : List Value} (h : SlAt w v n us) : ∃ a cap, v = .slice a n cap ∧ n ≤ cap := by
 obtain ⟨a, cap, hv, hle, _⟩ := h
 exact ⟨a, cap, hv, hle⟩
theorem SlAt.below {w w' : World} {v : Value} {n : Nat} {us : List Value} (h : SlAt w v n us) (hb : Below w.heap.size w w') : SlAt w' v n us := by
 obtain ⟨a, cap, rfl, hle, hc⟩ := h
 exact ⟨a, cap, rfl, hle, fun j u hu => by obtain ⟨g, off, ha, h0⟩ := hc j u hu; exact ⟨g, off, ha, Zc hb h0⟩⟩
theorem SlAt.fp {S : Nat → Prop} {w w' : World} {v : Value} {n : Nat} {us : List Value} (h : SlAt w v n us) (hg : us ≠ [] → InG G w v) (hF : Fp S w w') (hS : ∀ k, k < w.heap.size → G k → ¬ S k) : SlAt w' v n us := by
 obtain ⟨a, cap, rfl, hle, hc⟩ := h
 refine ⟨a, cap, rfl, hle, fun j u hu => ?_⟩
 obtain ⟨g, off, rfl, h0⟩ := hc j u hu
 have hl : us ≠ [] := fun e => by rw [e] at hu; simp at hu
 exact ⟨g, off, rfl, hF.cell h0 (hS g (hg hl g rfl).2 (hg hl g rfl).1)⟩
theorem SlAt.src {K : Nat} {w : World} {v : Value} {n : Nat} {us : List Value} (h : SlAt w v n us) (hl : us.length = n * K) : SrcAt K w v n us := by
 obtain ⟨a, cap, rfl, _, hc⟩ := h
 exact ⟨a, cap, rfl, hl, hc⟩
theorem Zbj {T : TypeId} {w : World} {base K : Nat} {v : Value} {n : Nat} {us : List Value} (h : w.ownsRow base T K v n us) : SlAt w v n us := by
 obtain ⟨a, cap, rfl, hle, _, _, hc⟩ := ZC h
 exact ⟨a, cap, rfl, hle, fun j u hu => by obtain ⟨g, ha, _, _, h0, _⟩ := hc j u hu; exact ⟨g, 0, ha, by rw [Nat.zero_add]; exact h0⟩⟩
theorem SlAt.at {α : Type} {enc : α → List Value} {K : Nat} {w : World} {v : Value} {l : List α} (h : SlAt w v l.length (l.flatMap enc)) (hK : ∀ x, (enc x).length = K) (h0 : 0 < K) {k : Nat} {x : α} (hx : l[k]? = some x) : ∃ g off cap, v = .slice (some ⟨g, off, none⟩) l.length cap ∧ l.length ≤ cap ∧ ∀ i u, (enc x)[i]? = some u → w.cell? ⟨g, off + k * K + i, none⟩ = some u := by
 obtain ⟨a, cap, rfl, hle, hc⟩ := h
 have key : ∀ i u, (enc x)[i]? = some u → (l.flatMap enc)[k * K + i]? = some u := fun i u hu => by
  have hi : i < K := by rw [← hK x]; exact (List.getElem?_eq_some_iff.1 hu).1
  rw [Zbf enc K hK i hx hi]
  exact hu
 obtain ⟨g, off, rfl, _⟩ := hc _ _ (key 0 _ (List.getElem?_eq_getElem (by rw [hK]; exact h0)))
 refine ⟨g, off, cap, rfl, hle, fun i u hu => ?_⟩
 obtain ⟨g', off', he, h1⟩ := hc _ _ (key i u hu)
 cases he
 rw [Nat.add_assoc]
 exact h1
structure QS where
 gv : Bool
 v : Value
 l : List DV
def encQS (q : Int) (s : QS) : List Value := [.int .i64 q, s.v, .bool s.gv]
theorem ZbH (q : Int) (s : QS) : (encQS q s).length = 3 := rfl
def encZ (n : Int) : List Value := [.int .i64 n]
theorem ZaP (n : Int) : (encZ n).length = 1 := rfl
structure QP where
 name : ByteArray
 uses : Int
 served : List Int
 sh : List QS
 sv : Value
 hv : Value
def encQP (p : QP) : List Value := [.string p.name, .int .i64 p.uses, p.sv, p.hv]
theorem ZaW (p : QP) : (encQP p).length = 4 := rfl
structure QPAt (q : Int) (w : World) (p : QP) : Prop where
 sv : SlAt w p.sv p.served.length (p.served.flatMap encZ)
 hv : SlAt w p.hv p.sh.length (p.sh.flatMap (encQS q))
 inv : ∀ s ∈ p.sh, DRowsAt w s.v s.l
structure QSG (G : Nat → Prop) (q : Int) (w : World) (s : QS) : Prop where
 vg : s.l ≠ [] → InG G w s.v
 ig : ∀ d ∈ s.l, InvG G w d
 few : s.l.length ≤ 1000000
 qs : ∀ d ∈ s.l, d.2.1 = q
structure QPG (G : Nat → Prop) (q : Int) (w : World) (p : QP) : Prop where
 sg : p.served.flatMap encZ ≠ [] → InG G w p.sv
 hg : p.sh.flatMap (encQS q) ≠ [] → InG G w p.hv
 ig : ∀ s ∈ p.sh, QSG G q w s
theorem QSG.grow {q : Int} {w w' : World} {s : QS} (h : QSG G q w s) (hs : w.heap.size ≤ w'.heap.size) : QSG G q w' s := ⟨fun hl => (h.vg hl).grow hs, fun d hd => (h.ig d hd).grow hs, h.few, h.qs⟩
theorem QPG.grow {q : Int} {w w' : World} {p : QP} (h : QPG G q w p) (hs : w.heap.size ≤ w'.heap.size) : QPG G q w' p := ⟨fun hl => (h.sg hl).grow hs, fun hl => (h.hg hl).grow hs, fun s hx => (h.ig s hx).grow hs⟩
theorem QPAt.below {q : Int} {w w' : World} {p : QP} (h : QPAt q w p) (hb : Below w.heap.size w w') : QPAt q w' p := ⟨h.sv.below hb, h.hv.below hb, fun s hs => (h.inv s hs).below hb⟩
theorem QPAt.fp {S : Nat → Prop} {q : Int} {w w' : World} {p : QP} (h : QPAt q w p) (hg : QPG G q w p) (hF : Fp S w w') (hS : ∀ k, k < w.heap.size → G k → ¬ S k) : QPAt q w' p :=
 ⟨h.sv.fp hg.sg hF hS, h.hv.fp hg.hg hF hS, fun s hs => (h.inv s hs).fp (hg.ig s hs).vg (hg.ig s hs).ig hF hS⟩
def pC (x : PX) (next : Int) (v : Value) : Array Value := #[.int .i64 x.pools, .int .i64 x.classes, .int .i64 x.q, .int .i64 next, v]
structure RefP (G : Nat → Prop) (w : World) (b : Nat) (x : PX) (next : Int) (v : Value) (l : List QP) : Prop where
 head : w.heap[b]? = some (.cells (pC x next v) 45 (0, 0))
 rows : SlAt w v l.length (l.flatMap encQP)
 inv : ∀ p ∈ l, QPAt x.q w p
 vg : l.flatMap encQP ≠ [] → InG G w v
 ig : ∀ p ∈ l, QPG G x.q w p
 nb : ¬ G b
 up : ∀ k, w.heap.size ≤ k → G k
 few : l.length ≤ 1000
 lens : ∀ p ∈ l, p.served.length = x.classes ∧ p.sh.length = x.classes
section
variable {w w' : World} {b : Nat} {x : PX} {next : Int} {v : Value} {l : List QP}
theorem RefP.fp {S : Nat → Prop} (h : RefP G w b x next v l) (hF : Fp S w w') (h0 : ¬ S b) (hS : ∀ k, k < w.heap.size → G k → ¬ S k) : RefP G w' b x next v l :=
 ⟨hF.heap h.head h0, h.rows.fp h.vg hF hS, fun p hp => (h.inv p hp).fp (h.ig p hp) hF hS, fun hl => (h.vg hl).grow hF.size, fun p hp => (h.ig p hp).grow hF.size, h.nb, fun k hk => h.up k (Nat.le_trans hF.size hk), h.few, h.lens⟩
theorem RefP.below (h : RefP G w b x next v l) (hb : Below w.heap.size w w') : RefP G w' b x next v l :=
 h.fp (S := fun _ => False) (Fp.of_below hb) (fun h => h) (fun _ _ _ h => h)
end
def Zgn (s : ByteArray) (ns : List ByteArray) : Int := match ns.findIdx? (fun n => eqS n s) with
 | some k => k
 | none => -1
theorem Zl3 {s : ByteArray} {ns : List ByteArray} {k : Nat} {n : ByteArray} (hx : ns[k]? = some n) (e : eqS n s = true) (hb : ∀ j y, j < k → ns[j]? = some y → eqS y s = false) : Zgn s ns = k := by
 obtain ⟨hk, he⟩ := List.getElem?_eq_some_iff.1 hx
 have : ns.findIdx? (fun n => eqS n s) = some k := List.findIdx?_eq_some_iff_getElem.2 ⟨hk, by rw [he]; exact e, fun j hj => by
  have := hb j _ hj (List.getElem?_eq_getElem (by omega))
  simpa using this⟩
 unfold Zgn
 rw [this]
theorem Znn (s : ByteArray) (L : List PN) : ZR s L = Zgn s (L.map PN.name) := by
 unfold ZR Zgn
 rw [List.findIdx?_map]
 rfl
theorem qs_sz (q : Int) (s : QS) : (Tryz.prog.info? 100).map (·.size) = some (encQS q s).length := by
 rw [show (encQS q s).length = 3 from rfl]
 kernel_rfl
variable {G : Nat → Prop}
theorem Zha : (Tryz.prog.info? 55).map (fun i => (i.zero, i.size, i.bytes)) = some (some (.agg #[.string ⟨#[]⟩, .int .i64 0, .slice none 0 0, .slice none 0 0]), 4, 72) := by kernel_rfl
theorem Zfw (l : List QP) (p : QP) : (l ++ [p]).flatMap encQP = l.flatMap encQP ++ encQP p := by simp
def withQ (k : Nat) (p : QP) (l : List QP) : List QP := if 0 < p.uses then l.set k p else l.eraseIdx k
def Zaj (k : Nat) (p : QP) (l : List QP) (i : Nat) : List QP := if i ≤ k then l.take i else if 0 < p.uses then (l.take i).set k p else (l.take i).eraseIdx k
theorem Zio {k i : Nat} {p y : QP} {l : List QP} (hy : l[i]? = some y) (hik : i ≠ k) : Zaj k p l (i + 1) = Zaj k p l i ++ [y] := by
 have hi : i < l.length := (List.getElem?_eq_some_iff.1 hy).1
 have ht : l.take (i + 1) = l.take i ++ [y] := by rw [List.take_succ_eq_append_getElem hi, (List.getElem?_eq_some_iff.1 hy).2]
 unfold Zaj
 by_cases h : i < k
 ·rw [if_pos (show i + 1 ≤ k by omega), if_pos (show i ≤ k by omega), ht]
 ·have hl : k < (l.take i).length := by rw [List.length_take]; omega
  rw [if_neg (show ¬ i + 1 ≤ k by omega), if_neg (show ¬ i ≤ k by omega), ht]
  split
  ·exact ZeP _ _ _ _ hl
  ·exact Zc6 _ _ _ hl
theorem ZjB {k : Nat} {p : QP} {l : List QP} (hk : k < l.length) : Zaj k p l (k + 1) = Zaj k p l k ++ (if 0 < p.uses then [p] else []) := by
 have ht : l.take (k + 1) = l.take k ++ [l[k]] := List.take_succ_eq_append_getElem hk
 have hl : (l.take k).length = k := by rw [List.length_take]; omega
 unfold Zaj
 rw [if_neg (by omega), if_pos (Nat.le_refl _), ht]
 split
 ·have h := ZdI (l.take k) l[k] p
  rw [hl] at h
  exact h
 ·have h := Zcm (l.take k) l[k]
  rw [hl] at h
  rw [h, List.append_nil]
theorem ZkV {k : Nat} {p : QP} {l : List QP} (hk : k < l.length) : Zaj k p l l.length = withQ k p l := by
 unfold Zaj withQ
 rw [if_neg (by omega), List.take_of_length_le (Nat.le_refl _)]
theorem ZkW {k i : Nat} {p : QP} {l : List QP} : (Zaj k p l i).length ≤ i := by
 unfold Zaj
 split
 ·rw [List.length_take]; omega
 ·split
  ·rw [List.length_set, List.length_take]; omega
  ·exact Nat.le_trans (List.length_eraseIdx_le _ _) (by rw [List.length_take]; omega)
theorem ZeF {k : Nat} {p y : QP} {l : List QP} (h : y ∈ withQ k p l) : y ∈ l ∨ y = p := by
 unfold withQ at h
 split at h
 ·exact ZaA h
 ·exact .inl (List.mem_of_mem_eraseIdx h)
theorem Zl4 {k : Nat} {p : QP} {l : List QP} : (withQ k p l).length ≤ l.length := by
 unfold withQ
 split
 ·rw [List.length_set]; exact Nat.le_refl _
 ·exact List.length_eraseIdx_le _ _
def Zhb (G : Nat → Prop) (b : Nat) (x : PX) (next : Int) (l' : List QP) (w : World) (e : Ending) (w' : World) : Prop := e = .returned (.tuple #[]) ∧ Fp (fun j => j = b) w w' ∧ ∃ v', RefP G w' b x next v' l'
theorem ZjC {b base : Nat} {x : PX} {next next' : Int} {v vo : Value} {l l' : List QP} {w wr w3 : World} (hR : RefP G w b x next v l) (hB : Below w.heap.size w wr)
 (hin : ∀ y ∈ l', QPAt x.q wr y) (hig : ∀ y ∈ l', QPG G x.q wr y) (hfew : l'.length ≤ 1000) (hlens : ∀ y ∈ l', y.served.length = x.classes ∧ y.sh.length = x.classes)
 (ho : wr.ownsRow base 55 4 vo l'.length (l'.flatMap encQP)) (hbase : w.heap.size ≤ base) (hF : Fp (fun j => j = b) wr w3) (hh : w3.heap[b]? = some (.cells (pC x next' vo) 45 (0, 0))) :
 Fp (fun j => j = b) w w3 ∧ RefP G w3 b x next' vo l' := by
 have hvg : InG G wr vo := Zb0 ho (fun k hk => hR.up k (Nat.le_trans hbase hk))
 exact ⟨(Fp.of_below hB).trans hF (fun _ _ h => h), hh, (Zbj ho).fp (fun _ => hvg) hF (fun j _ hj e => hR.nb (e ▸ hj)), fun y hy => (hin y hy).fp (hig y hy) hF (fun j _ hj e => hR.nb (e ▸ hj)), fun _ => hvg.grow hF.size, fun y hy => (hig y hy).grow hF.size, hR.nb, fun k hk => hR.up k (Nat.le_trans (Nat.le_trans hB.size hF.size) hk), hfew, hlens⟩
theorem ZjD {b k base : Nat} {x : PX} {next : Int} {v vo : Value} {l : List QP} {p : QP} {w wr w3 : World} (hR : RefP G w b x next v l) (hB : Below w.heap.size w wr) (hx : QPAt x.q w p) (hxg : QPG G x.q w p) (hxl : p.served.length = x.classes ∧ p.sh.length = x.classes)
 (ho : wr.ownsRow base 55 4 vo (withQ k p l).length ((withQ k p l).flatMap encQP)) (hbase : w.heap.size ≤ base) (hF : Fp (fun j => j = b) wr w3) (hh : w3.heap[b]? = some (.cells (pC x next vo) 45 (0, 0))) :
 Zhb G b x next (withQ k p l) w (.returned (.tuple #[])) w3 := by
 have := ZjC hR hB (fun y hy => by
  rcases ZeF hy with h | rfl
  ·exact (hR.inv y h).below hB
  ·exact hx.below hB) (fun y hy => by
  rcases ZeF hy with h | rfl
  ·exact (hR.ig y h).grow hB.size
  ·exact hxg.grow hB.size) (Nat.le_trans Zl4 hR.few) (fun y hy => by
  rcases ZeF hy with h | rfl
  ·exact hR.lens y h
  ·exact hxl) ho hbase hF hh
 exact ⟨rfl, this.1, vo, this.2⟩
set_option maxRecDepth 100000 in
set_option maxHeartbeats 8000000 in
theorem ZjE (b : Nat) (x : PX) (next : Int) (v : Value) (l : List QP) (k : Nat) (p : QP) (w : World) (h : RefP G w b x next v l) (hk : k < l.length) (hx : QPAt x.q w p) (hxg : QPG G x.q w p) (hxl : p.served.length = x.classes ∧ p.sh.length = x.classes) :
 Calls Tryz.prog 71 #[.pointer (some ⟨b, 0, none⟩), .int .i64 k, .agg (encQP p).toArray] w (Zhb G b x next (withQ k p l) w) := by
 obtain ⟨name, uses, served, sh, sv, hv⟩ := p
 obtain ⟨sa, sc, hsv, -⟩ := hx.sv.form
 obtain ⟨ha, hc, hhv, -⟩ := hx.hv.form
 simp only at hsv hhv hxl ⊢
 subst hsv hhv
 generalize hsn : served.length = sn at hx hxg hxl ⊢
 generalize hhn : sh.length = hn at hx hxg hxl ⊢
 have HX := Lib.hid hx
 have HXG := Lib.hid hxg
 have HXL := Lib.hid (show served.length = x.classes ∧ sh.length = x.classes from ⟨hsn.trans hxl.1, hhn.trans hxl.2⟩)
 have HR := Lib.hid (h.below (box_below (o := .cells #[.string name, .int .i64 uses, .slice sa sn sc, .slice ha hn hc] 55)))
 have HR0 := Lib.hid h
 have hbw := Zb h.head
 obtain ⟨a, cap, rfl, -⟩ := h.rows.form
 have HF := Lib.hid h.few
 have HK := Lib.hid hk
 clear h hx hxg hxl hk hsn hhn
 rw [show (encQP ⟨name, uses, served, sh, .slice sa sn sc, .slice ha hn hc⟩).toArray = #[.string name, .int .i64 uses, .slice sa sn sc, .slice ha hn hc] from rfl]
 obtain ⟨p, hp⟩ : ∃ p : QP, p = ⟨name, uses, served, sh, .slice sa sn sc, .slice ha hn hc⟩ := ⟨_, rfl⟩
 rw [← hp]
 rw [← hp] at HX HXG
 have HPE := Lib.hid (show encQP p = [.string name, .int .i64 uses, .slice sa sn sc, .slice ha hn hc] ∧ p.uses = uses ∧ p.served = served ∧ p.sh = sh by rw [hp]; exact ⟨rfl, rfl, rfl, rfl⟩)
 clear hp
 go_enter Tryz.func71, Tryz.ntmps71
 go_wp2_with fail
 obtain ⟨w1, hw1⟩ : ∃ w1 : World, w1 = w.alloc (.cells #[.string name, .int .i64 uses, .slice sa sn sc, .slice ha hn hc] 55) := ⟨_, rfl⟩
 have hz1 : w1.heap.size = w.heap.size + 1 := by rw [hw1]; simp
 rw [← hw1] at HR ⊢
 have HXC := Lib.hid (show w1.heap[w.heap.size]? = some (.cells #[.string name, .int .i64 uses, .slice sa sn sc, .slice ha hn hc] 55 (0, 0)) by rw [hw1]; exact Zf)
 have HB1 := Lib.hid (show Below w.heap.size w w1 by rw [hw1]; exact box_below)
 have HST := Lib.hid (show (w1.alloc (.cells #[] 55)).ownsRow w1.heap.size 55 4 (.slice (some ⟨w1.heap.size, 0, none⟩) 0 0) 0 [] from Zal (Nat.le_refl _))
 have HZ1 := Lib.hid hz1
 rw [← hz1]
 clear hw1 hz1
 go_loopg [7, 6] l.length (fun g i ov wr => ∃ m : Nat, g = l.length - m ∧ i = .int .i64 m ∧ m ≤ l.length ∧ wr.ownsRow w1.heap.size 55 4 ov (Zaj k p l m).length ((Zaj k p l m).flatMap encQP) ∧ Below w1.heap.size w1 wr)
 case atStart => exact ⟨0, rfl, rfl, Nat.zero_le _, by unfold Zaj; rw [if_pos (Nat.zero_le _)]; exact HST.out, box_below⟩
 case round =>
  obtain ⟨m, hg, rfl, hm, ho, hb⟩ := hrel
  have HG := Lib.hid hg
  have HO := Lib.hid ho
  have HB := Lib.hid hb
  clear hg ho hb
  have hh := (HB.out.block b (Zb HR.out.head)).trans HR.out.head
  have b4 : wr.cell? ⟨b, 4, none⟩ = some (.slice a l.length cap) := Za hh rfl
  have HH := Lib.hid hh
  have hxc := (HB.out.block w.heap.size (Zb HXC.out)).trans HXC.out
  have HXC2 := Lib.hid hxc
  have hlen := ZkW (k := k) (i := m) (p := p) (l := l)
  have hf := HF.out
  have hc1 : w1.heap.size ≤ wr.heap.size := HB.out.size
  have hc2 : (Zaj k p l m).length < 140737488355328 := by omega
  have hc3 : ((Zaj k p l m).length + 1) * 72 ≤ 140737488355328 := by omega
  clear hh hxc hlen
  by_cases hlt : m < l.length
  ·have hml : (m : Int) < (l.length : Int) := by omega
   obtain ⟨y, hy⟩ : ∃ y, l[m]? = some y := ⟨_, List.getElem?_eq_getElem hlt⟩
   by_cases hmk : m = k
   ·have hne : ((m : Int) != (k : Int)) = false := by simp [hmk]
    have HBS := Lib.hid (show Zaj k p l (m + 1) = Zaj k p l m ++ (if 0 < p.uses then [p] else []) by rw [hmk]; exact ZjB HK.out)
    have x1 : wr.cell? ⟨w.heap.size, 1, none⟩ = some (.int .i64 uses) := Za HXC2.out rfl
    obtain ⟨D, hD⟩ : ∃ D, D = Zaj k p l m := ⟨_, rfl⟩
    rw [← hD] at hc2 hc3 HO HBS
    clear hy hmk hD
    by_cases hxe : 0 < uses
    ·have HBS2 := Lib.hid (show Zaj k p l (m + 1) = D ++ [p] by rw [HBS.out, HPE.out.2.1, if_pos hxe])
     have x0 : wr.cell? ⟨w.heap.size, 0, none⟩ = some (.string name) := Za HXC2.out rfl
     have x2 : wr.cell? ⟨w.heap.size, 2, none⟩ = some (.slice sa sn sc) := Za HXC2.out rfl
     have x3 : wr.cell? ⟨w.heap.size, 3, none⟩ = some (.slice ha hn hc) := Za HXC2.out rfl
     go_wp2_with (at_builtin; refine Zv (us := #[.string name, .int .i64 uses, .slice sa sn sc, .slice ha hn hc]) rfl _ _ 43 rfl w1.heap.size _ 4 72 Tryz.underlying43 Zha rfl (by decide) u6 D.length (D.flatMap encQP) rfl HO.out rfl rfl (by simp [Value.oneCell']) ?c1 ?c2 ?c3 ?_; (case c1 => exact hc1); (case c2 => exact hc2); (case c3 => exact hc3); intro gg gcap w3 ho3 hg3 hat3)
     have HO3 := Lib.hid ho3
     have HB3 := Lib.hid (HB.out.trans ⟨hg3.os, hg3.tape, hg3.output, hg3.size, fun j hj => hg3.block j (by omega) (fun e => by have := Zl HO.out j e.symm; omega)⟩ : Below w1.heap.size w1 w3)
     clear ho3 hg3 hat3
     go_wp2_with fail
     go_roundg (l.length - (m + 1))
     case rel => exact ⟨m + 1, rfl, by go_num, by omega, by rw [HBS2.out, List.length_append, Zfw, HPE.out.1]; exact HO3.out, HB3.out⟩
     case measure => have := HG.out; omega
    ·have HBS2 := Lib.hid (show Zaj k p l (m + 1) = D by rw [HBS.out, HPE.out.2.1, if_neg hxe, List.append_nil])
     go_wp2_with fail
     go_roundg (l.length - (m + 1))
     case rel => exact ⟨m + 1, rfl, by go_num, by omega, by rw [HBS2.out]; exact HO.out, HB.out⟩
     case measure => have := HG.out; omega
   ·have hne : ((m : Int) != (k : Int)) = true := by simp; omega
    have HBS := Lib.hid (Zio (p := p) hy hmk)
    obtain ⟨g, off, cap', hv, _, hcs⟩ := (HR.out.rows.below (HB.out.mono (Nat.le_refl _))).at ZaW (by decide) hy
    cases hv
    have c0 : wr.cell? ⟨g, off + m * 4, none⟩ = some (.string y.name) := hcs 0 _ rfl
    have c1 : wr.cell? ⟨g, off + m * 4 + 1, none⟩ = some (.int .i64 y.uses) := hcs 1 _ rfl
    have c2 : wr.cell? ⟨g, off + m * 4 + 2, none⟩ = some y.sv := hcs 2 _ rfl
    have c3 : wr.cell? ⟨g, off + m * 4 + 3, none⟩ = some y.hv := hcs 3 _ rfl
    obtain ⟨pa, pc, hpv, -⟩ := (HR.out.inv y (List.mem_of_getElem? hy)).sv.form
    obtain ⟨qa, qc, hqv, -⟩ := (HR.out.inv y (List.mem_of_getElem? hy)).hv.form
    generalize y.served.length = yn at hpv
    generalize y.sh.length = zn at hqv
    rw [hpv] at c2
    rw [hqv] at c3
    have HPV := Lib.hid (And.intro hpv hqv)
    obtain ⟨D, hD⟩ : ∃ D, D = Zaj k p l m := ⟨_, rfl⟩
    rw [← hD] at hc2 hc3 HO HBS
    clear hy hmk hD hpv hqv hcs
    go_wp2_with (at_builtin; refine Zv (us := #[.string y.name, .int .i64 y.uses, .slice pa yn pc, .slice qa zn qc]) rfl _ _ 43 rfl w1.heap.size _ 4 72 Tryz.underlying43 Zha rfl (by decide) u6 D.length (D.flatMap encQP) rfl HO.out rfl rfl (by simp [Value.oneCell']) ?c1 ?c2 ?c3 ?_; (case c1 => exact hc1); (case c2 => exact hc2); (case c3 => exact hc3); intro gg gcap w3 ho3 hg3 hat3)
    have HO3 := Lib.hid ho3
    have HB3 := Lib.hid (HB.out.trans ⟨hg3.os, hg3.tape, hg3.output, hg3.size, fun j hj => hg3.block j (by omega) (fun e => by have := Zl HO.out j e.symm; omega)⟩ : Below w1.heap.size w1 w3)
    clear ho3 hg3 hat3
    go_wp2_with fail
    go_roundg (l.length - (m + 1))
    case rel => exact ⟨m + 1, rfl, by go_num, by omega, by rw [HBS.out, List.length_append, Zfw, show encQP y = [.string y.name, .int .i64 y.uses, .slice pa yn pc, .slice qa zn qc] by unfold encQP; rw [HPV.out.1, HPV.out.2]]; exact HO3.out, HB3.out⟩
    case measure => have := HG.out; omega
  ·obtain rfl : m = l.length := by omega
   obtain ⟨ua, uc, hu, hul, -⟩ := ZC HO.out
   have HW := Lib.hid (show wr.ownsRow w1.heap.size 55 4 u6 (withQ k p l).length ((withQ k p l).flatMap encQP) by rw [← ZkV HK.out]; exact HO.out)
   obtain ⟨n, hn⟩ : ∃ n, n = (Zaj k p l l.length).length := ⟨_, rfl⟩
   rw [← hn] at hu
   subst hu
   have HBB := Lib.hid (HB1.out.trans (HB.out.mono HB1.out.size) : Below w.heap.size w wr)
   have f4 : wr.frozen? ⟨b, 4, none⟩ = false := Zd HH.out
   clear hn hul hc1 hc2 hc3
   go_wp2_with fail
   go_end0
   exact ZjD HR0.out HBB.out HX.out HXG.out (by rw [HPE.out.2.2.1, HPE.out.2.2.2]; exact HXL.out) HW.out (by have := HZ1.out; omega) ((Fp.refl (fun j => j = b) wr).setCell (p := ⟨b, 4, none⟩) (fun _ => rfl) _) (Ze HH.out)
variable {G : Nat → Prop}
structure AR where
 name : ByteArray
 uses : Int
 served : List Int
 sh : List (Bool × List TRow)
def QS.abs (s : QS) : Bool × List TRow := (s.gv, s.l.map Prod.fst)
def QP.abs (p : QP) : AR := ⟨p.name, p.uses, p.served, p.sh.map QS.abs⟩
def ZdY (G : Nat → Prop) (b : Nat) (x : PX) (next : Int) (A : List AR) (u : Value) (w : World) (e : Ending) (w' : World) : Prop := e = .returned u ∧ Fp (fun j => j = b) w w' ∧ ∃ v' l', RefP G w' b x next v' l' ∧ l'.map QP.abs = A
theorem qp_sz (p : QP) : (Tryz.prog.info? 55).map (·.size) = some (encQP p).length := by
 rw [show (encQP p).length = 4 from rfl]
 kernel_rfl
theorem QPAt.one {w : World} {q : Int} {p : QP} (h : QPAt q w p) : (encQP p).toArray.all (·.oneCell') = true := by
 obtain ⟨a, c, hv, _⟩ := h.sv.form
 obtain ⟨a2, c2, hv2, _⟩ := h.hv.form
 unfold encQP
 rw [hv, hv2]
 simp [Value.oneCell']
def withA (k : Nat) (a : AR) (l : List AR) : List AR := if 0 < a.uses then l.set k a else l.eraseIdx k
theorem Zl5 (k : Nat) (p : QP) (l : List QP) : (withQ k p l).map QP.abs = withA k p.abs (l.map QP.abs) := by
 unfold withQ withA
 by_cases h : 0 < p.uses
 ·rw [if_pos h, if_pos (show 0 < p.abs.uses from h)]
  exact Zbi _ _ _ _
 ·rw [if_neg h, if_neg (show ¬ 0 < p.abs.uses from h)]
  exact eraseIdx_map' _ _ _
theorem Zno {b : Nat} {x : PX} {next : Int} {v : Value} {l : List QP} {w w' : World} (h : RefP G w b x next v l) (hb : Below w.heap.size w w') (u : Value) : ZdY G b x next (l.map QP.abs) u w (.returned u) w' :=
 ⟨rfl, Fp.of_below hb, v, l, h.below hb, rfl⟩
open Go.Sort
variable {G : Nat → Prop}
theorem Zof : (Tryz.prog.info? 100).map (fun i => (i.zero, i.size, i.bytes)) = some (some (.agg #[.int .i64 0, .slice none 0 0, .bool false]), 3, 40) := by kernel_rfl
theorem ZdZ : (Tryz.prog.info? 3).map (fun i => (i.zero, i.size, i.bytes)) = some (some (.int .i64 0), 1, 8) := by kernel_rfl
theorem Znp {α : Type} {enc : α → List Value} {K : Nat} (hK : ∀ x, (enc x).length = K) (h0 : 0 < K) {w : World} {g off cap : Nat} {l : List α} (hle : l.length ≤ cap) (h : ∀ k x, l[k]? = some x → w.rangeAt g (off + k * K) (enc x)) : SlAt w (.slice (some ⟨g, off, none⟩) l.length cap) l.length (l.flatMap enc) := by
 refine ⟨_, cap, rfl, hle, fun j u hu => ⟨g, off, rfl, ?_⟩⟩
 have hl : (l.flatMap enc).length = l.length * K := Zbc enc K hK l
 have hj : j < l.length * K := by rw [← hl]; exact (List.getElem?_eq_some_iff.1 hu).1
 have hm := Nat.mod_lt j h0
 have hd : j / K < l.length := Nat.div_lt_of_lt_mul (by rw [Nat.mul_comm]; exact hj)
 have e : j / K * K + j % K = j := by rw [Nat.mul_comm]; exact Nat.div_add_mod j K
 have hx : l[j / K]? = some (l[j / K]'hd) := List.getElem?_eq_getElem hd
 have h1 := Zbf enc K hK (j % K) hx hm
 rw [e, hu] at h1
 have h2 := h _ _ hx (j % K) u h1.symm
 rw [Nat.add_assoc, e] at h2
 exact h2
def Zn1 (G : Nat → Prop) (b : Nat) (x : PX) (next : Int) (i j : Nat) (p : QP) (y : Bool × List TRow) (at' : Int) (l : List QP) (w : World) (e : Ending) (w' : World) : Prop := e = .returned (.tuple #[]) ∧ Fp (fun j => j = b) w w' ∧ ∃ v' l', RefP G w' b x next v' l' ∧ l'.map QP.abs = (l.map QP.abs).set i { p.abs with served := p.served.set j at', sh := (p.sh.map QS.abs).set j y }
theorem Zog {w : World} {q : Int} {y : QS} (h : DRowsAt w y.v y.l) : (encQS q y).toArray.all (·.oneCell') = true := by
 obtain ⟨a, c, hv, _⟩ := h.form
 unfold encQS
 rw [hv]
 simp [Value.oneCell']
theorem Zl6 {w : World} {q : Int} {l : List QS} (h : ∀ s ∈ l, DRowsAt w s.v s.l) : ∀ u ∈ l.flatMap (encQS q), u.oneCell' = true := by
 intro u hu
 obtain ⟨s, hs, hx⟩ := List.mem_flatMap.1 hu
 obtain ⟨a, c, hv, _⟩ := (h s hs).form
 simp [encQS] at hx
 rcases hx with rfl | rfl | rfl
 ·rfl
 ·rw [hv]
  rfl
 ·rfl
theorem Znq {l : List Int} : ∀ u ∈ l.flatMap encZ, u.oneCell' = true := by
 intro u hu
 obtain ⟨s, _, hx⟩ := List.mem_flatMap.1 hu
 simp [encZ] at hx
 rw [hx]
 rfl
structure CopyAt (K : Nat) (w w' : World) (g n cap : Nat) (us : List Value) (T : TypeId) : Prop where
 own : w'.ownsRow w.heap.size T K (.slice (some ⟨g, 0, none⟩) n cap) n us
 below : Below w.heap.size w w'
 lo : w.heap.size ≤ g
 hi : g < w'.heap.size
theorem Zdw {P : Program} {w0 : World} {ops : Array Oper} {rest : List Oper} {o : Oper} {a : Act} {Q : Exit → Act → World → Prop} (hgd : o.guard = none) (s y : Operand) (t : TypeId)
 (ho : o.op = .call { callee := .builtin .append, args := #[s, y], argTypes := #[t, t] })
 (e : TypeId) (i : TypeInfo) (z : Value) (size bytes : Nat) (ht : P.underlying t = some (.slice e)) (hi : P.info? e = some i) (hz : i.zero = some z)
 (hsize : i.size = size) (hby : i.bytes = bytes) (hzs : z.cells.size = size) (hsz : 0 < size)
 (hs : a.eval s = .slice (some ⟨w0.heap.size, 0, none⟩) 0 0) (v : Value) (n : Nat) (us : List Value) (hx : a.eval y = v) (hsl : SlAt w0 v n us) (hl : us.length = n * size) (h1 : ∀ u ∈ us, u.oneCell' = true)
 (hn : 0 < n) (h63 : n ≤ maxLen) (hbytes : n * bytes ≤ 140737488355328)
 (h : ∀ g cap w', CopyAt size w0 w' g n cap us e → wpList P ops Q rest (a.put o.dst (.slice (some ⟨g, 0, none⟩) n cap)) w') : wpList P ops Q (o :: rest) a (w0.alloc (.cells #[] e)) := by
 obtain ⟨ad, cap, rfl, _, hc⟩ := hsl
 have hne : 0 < us.length := by rw [hl]; exact Nat.mul_pos hn hsz
 obtain ⟨g, off, rfl, _⟩ := hc 0 _ (List.getElem?_eq_getElem hne)
 refine wpList_append_lies _ hgd s y t ho w0.heap.size e i z size bytes ht hi hz hsize hby hzs hsz (.slice (some ⟨w0.heap.size, 0, none⟩) 0 0) 0 [] hs (Zal (Nat.le_refl _)) ⟨g, off, none⟩ n cap us hx hl (fun j u hu => ?_) h1 hn (by rw [Nat.zero_add]; exact h63) (by rw [Nat.zero_add]; exact hbytes) (by simp) _ rfl (fun g3 cap3 w3 ho3 hg3 hat3 hlt3 => ?_)
 ·obtain ⟨g', off', he, h0⟩ := hc j u hu
  cases he
  rw [Addr.add_mid]
  exact Zc box_below h0
 ·rw [Nat.zero_add, List.nil_append] at ho3
  rw [Nat.zero_add]
  refine h g3 cap3 w3 ⟨ho3, box_below.trans ⟨hg3.os, hg3.tape, hg3.output, Nat.le_trans (by simp) hg3.size, fun k hk => hg3.block k (by simp; omega) (fun e => by simp [Value.ownBlock] at e; omega)⟩, ?_, hlt3⟩
  exact Zl ho3 g3 rfl
theorem CopyAt.there {K : Nat} {w w' : World} {g cap k : Nat} {α : Type} {enc : α → List Value} {l : List α} {T : TypeId} (h : CopyAt K w w' g l.length cap (l.flatMap enc) T) (hk : k < l.length) : w'.there g (k * K) K := by
 obtain ⟨a, c, hv, _, _, hl, hc⟩ := ZC h.own
 cases hv
 intro j hj
 have hlt : k * K + j < (l.flatMap enc).length := by
  rw [hl]
  have : (k + 1) * K ≤ l.length * K := Nat.mul_le_mul_right _ hk
  rw [Nat.add_mul] at this
  omega
 obtain ⟨g', he, _, _, h1, h2⟩ := hc (k * K + j) _ (List.getElem?_eq_getElem hlt)
 cases he
 exact ⟨by rw [h1]; rfl, h2⟩
theorem CopyAt.range {K : Nat} {w w' : World} {g cap k : Nat} {α : Type} {enc : α → List Value} {l : List α} {T : TypeId} {y : α} (h : CopyAt K w w' g l.length cap (l.flatMap enc) T) (hK : ∀ x, (enc x).length = K) (hk : l[k]? = some y) : w'.rangeAt g (k * K) (enc y) := by
 obtain ⟨a, c, hv, _, _, hl, hc⟩ := ZC h.own
 cases hv
 intro j u hu
 have hj : j < K := by rw [← hK y]; exact (List.getElem?_eq_some_iff.1 hu).1
 obtain ⟨g', he, _, _, h1, _⟩ := hc (k * K + j) u (by rw [Zbf enc K hK j hk hj]; exact hu)
 cases he
 exact h1
theorem CopyAt.set {K : Nat} {w w' : World} {g cap j : Nat} {α : Type} {enc : α → List Value} {l : List α} {T : TypeId} (h : CopyAt K w w' g l.length cap (l.flatMap enc) T) (hK : ∀ x, (enc x).length = K) (h0 : 0 < K) (hj : j < l.length) (y : α) :
 SlAt (w'.setCells g (j * K) (enc y)) (.slice (some ⟨g, 0, none⟩) l.length cap) (l.set j y).length ((l.set j y).flatMap enc) ∧ Below w.heap.size w (w'.setCells g (j * K) (enc y)) := by
 obtain ⟨a, c, hv, hle, _⟩ := ZC h.own
 cases hv
 refine ⟨?_, below_setCells h.lo _ _ _ h.below⟩
 rw [show (Value.slice (some ⟨g, 0, none⟩) l.length cap) = .slice (some ⟨g, 0, none⟩) (l.set j y).length cap by rw [List.length_set]]
 refine Znp hK h0 (by rw [List.length_set]; exact hle) (fun k z hz => ?_)
 rw [Nat.zero_add]
 by_cases e : j = k
 ·subst e
  rw [List.getElem?_set_self hj] at hz
  cases hz
  exact World.rangeAt_setCells_same _ _ _ _ (by rw [hK]; exact h.there hj)
 ·rw [List.getElem?_set_ne e] at hz
  refine World.rangeAt_setCells_apart (h.range hK hz) _ _ _ (.inr ?_)
  rw [hK, hK]
  rcases Nat.lt_or_ge k j with h1 | h1
  ·left
   have : (k + 1) * K ≤ j * K := Nat.mul_le_mul_right _ h1
   rw [Nat.add_mul] at this
   omega
  ·right
   have : (j + 1) * K ≤ k * K := Nat.mul_le_mul_right _ (by omega)
   rw [Nat.add_mul] at this
   omega
theorem SlAt.other {w : World} {v : Value} {n : Nat} {us : List Value} {rb i : Nat} {u : Value} (h : SlAt w v n us) (hb : ∀ g, v.ownBlock = some g → g ≠ rb ∧ g < w.heap.size) : SlAt (w.setCell ⟨rb, i, none⟩ u) v n us :=
 h.fp (G := fun k => k ≠ rb) (S := fun k => k = rb) (fun _ g hg => hb g hg) ((Fp.refl (fun k => k = rb) w).setCell (p := ⟨rb, i, none⟩) (fun _ => rfl) u) (fun _ _ hk => hk)
set_option maxRecDepth 100000 in
set_option maxHeartbeats 8000000 in
theorem ZkX (i j : Nat) (p : QP) (y : QS) (at' : Int) (b : Nat) (x : PX) (next : Int) (v : Value) (l : List QP) (w : World) (h : RefP G w b x next v l) (hi : l[i]? = some p) (hj : j < x.classes) (hcl : x.classes ≤ 1000) (hu : 0 < p.uses) (hy : DRowsAt w y.v y.l) (hyg : QSG G x.q w y) :
 Calls Tryz.prog 73 #[.pointer (some ⟨b, 0, none⟩), .int .i64 i, .int .i64 j, .agg (encQS x.q y).toArray, .int .i64 at'] w (Zn1 G b x next i j p y.abs at' l w) := by
 have HR := Lib.hid h
 have HI := Lib.hid hi
 have HJ := Lib.hid (And.intro hj hcl)
 have HU := Lib.hid hu
 have HY := Lib.hid hy
 have HYG := Lib.hid hyg
 have hil : (i : Int) < (l.length : Int) := by have := (List.getElem?_eq_some_iff.1 hi).1; omega
 clear h hi hj hcl hu hy hyg
 go_enter Tryz.func73, Tryz.ntmps73
 go_upto_region 1 with fail
 obtain ⟨w1, hw1⟩ : ∃ w1 : World, w1 = w.alloc (.cells (encQS x.q y).toArray 100) := ⟨_, rfl⟩
 obtain ⟨sb, hsb⟩ : ∃ sb : Nat, sb = w.heap.size := ⟨_, rfl⟩
 rw [← hw1, ← hsb]
 have HB1 := Lib.hid (show Below w.heap.size w w1 by rw [hw1]; exact box_below)
 have HS1 := Lib.hid (show w1.heap[sb]? = some (.cells (encQS x.q y).toArray 100 (0, 0)) by rw [hw1, hsb]; exact Zf)
 have HSB := Lib.hid (show w.heap.size ≤ sb by omega)
 clear hw1 hsb
 have HR1 := Lib.hid (HR.out.below HB1.out)
 obtain ⟨g, off, cap, hv, _, hc⟩ := HR1.out.rows.at ZaW (by decide) HI.out
 have b4 : w1.cell? ⟨b, 4, none⟩ = some v := Za HR1.out.head rfl
 rw [hv] at b4
 have HRA := Lib.hid (show w1.rangeAt g (off + i * 4) (encQP p) from fun i u hu => hc i u hu)
 have HQ1 := Lib.hid (HR1.out.inv p (List.mem_of_getElem? HI.out))
 have HL := Lib.hid (HR.out.lens p (List.mem_of_getElem? HI.out))
 clear hc hv
 go_upto_region 2 with (first
  | (refine wpList_load_mid rfl 55 _ rfl g (off + i * 4) rfl (encQP p) _ HRA.out Tryz.underlying55 rfl (qp_sz p) ?_)
  | (refine Zaq rfl 55 _ _ rfl w1.heap.size rfl (encQP p).toArray rfl rfl (qp_sz p) rfl HQ1.out.one ?_))
 simp only [Act.put]
 obtain ⟨w2, hw2⟩ : ∃ w2 : World, w2 = w1.alloc (.cells (encQP p).toArray 55) := ⟨_, rfl⟩
 obtain ⟨rb, hrb⟩ : ∃ rb : Nat, rb = w1.heap.size := ⟨_, rfl⟩
 rw [← hw2, ← hrb]
 have HB2 := Lib.hid (HB1.out.trans ((show Below w1.heap.size w1 w2 by rw [hw2]; exact box_below).mono HB1.out.size))
 have HH2 := Lib.hid (show w2.heap[rb]? = some (.cells (encQP p).toArray 55 (0, 0)) by rw [hw2, hrb]; exact Zf)
 have HS2 := Lib.hid (show w2.heap[sb]? = some (.cells (encQS x.q y).toArray 100 (0, 0)) by rw [hw2]; exact Zi HS1.out)
 have HRB := Lib.hid (show w.heap.size ≤ rb ∧ rb ≠ sb by have := HB1.out.size; have := Zb HS1.out; omega)
 have HQ2 := Lib.hid ((HR.out.inv p (List.mem_of_getElem? HI.out)).below HB2.out)
 clear hw2 hrb b4
 have HSL := Lib.hid HQ2.out.hv
 have HSV := Lib.hid HQ2.out.sv
 have r3 : w2.cell? ⟨rb, 3, none⟩ = some p.hv := Za HH2.out rfl
 have hrw := Zb HH2.out
 obtain ⟨i0, hi0, hz0, hz1, hz2⟩ := info_parts Zof
 have HONE := Lib.hid (Zl6 (q := x.q) HQ2.out.inv)
 have HNP := Lib.hid (show p.sh.length ≠ 0 ∧ p.sh.length ≤ 1000 ∧ p.served.length ≠ 0 ∧ p.served.length ≤ 1000 by have := HL.out; have := HJ.out; omega)
 go_upto_region 3 with (at_builtin; refine Zdw rfl _ _ _ rfl 100 i0 _ 3 40 Tryz.underlying53 hi0 hz0 hz1 hz2 rfl (by decide) rfl p.hv p.sh.length (p.sh.flatMap (encQS x.q)) rfl HSL.out (Zbc (encQS x.q) 3 (ZbH x.q) p.sh) HONE.out (by have := HNP.out; omega) (by have := HNP.out; unfold maxLen; omega) (by have := HNP.out; omega) ?_; intro g3 cap3 w3 hc3)
 have HC3 := Lib.hid hc3
 clear hc3 r3 hrw hi0 hz0 hz1 hz2
 have HS3 := Lib.hid ((HC3.out.below.block sb (Zb HS2.out)).trans HS2.out)
 have hjn : (j : Int) < (p.sh.length : Int) := by have := HL.out; have := HJ.out; omega
 have HTH := Lib.hid (HC3.out.there (k := j) (by omega))
 go_upto_region 4 with (first
  | (refine Zat (cs := (encQS x.q y).toArray) 100 HS3.out Tryz.underlying100 rfl (qs_sz x.q y) rfl _ rfl rfl ?_)
  | (refine wpList_store_mid rfl 100 _ _ rfl g3 (j * 3) (encQS x.q y).toArray rfl rfl HTH.out (qs_sz x.q y) (Zog HY.out) ?_))
 obtain ⟨w4, hw4⟩ : ∃ w4 : World, w4 = w3.setCells g3 (j * 3) (encQS x.q y).toArray.toList := ⟨_, rfl⟩
 rw [← hw4]
 have HC4 := Lib.hid (show SlAt w4 (.slice (some ⟨g3, 0, none⟩) p.sh.length cap3) (p.sh.set j y).length ((p.sh.set j y).flatMap (encQS x.q)) ∧ Below w2.heap.size w2 w4 by rw [hw4]; exact HC3.out.set (ZbH x.q) (by decide) (by omega) y)
 have HG4 := Lib.hid (show g3 < w4.heap.size ∧ w2.heap.size ≤ g3 by rw [hw4]; exact ⟨Nat.lt_of_lt_of_le HC3.out.hi (Fp.setCells (S := fun _ => True) (fun _ => trivial) _ _ (Fp.refl _ w3)).size, HC3.out.lo⟩)
 clear hw4
 have HB4 := Lib.hid (HB2.out.trans (HC4.out.2.mono HB2.out.size))
 have HH4 := Lib.hid ((HC4.out.2.block rb (Zb HH2.out)).trans HH2.out)
 have r2 : w4.cell? ⟨rb, 2, none⟩ = some p.sv := Za HH4.out rfl
 have hrw := Zb HH4.out
 obtain ⟨i1, hi0, hz0, hz1, hz2⟩ := info_parts ZdZ
 have HSV4 := Lib.hid (HSV.out.below HC4.out.2)
 go_upto_region 5 with (at_builtin; refine Zdw rfl _ _ _ rfl 3 i1 _ 1 8 Tryz.underlying52 hi0 hz0 hz1 hz2 rfl (by decide) rfl p.sv p.served.length (p.served.flatMap encZ) rfl HSV4.out (Zbc encZ 1 ZaP p.served) Znq (by have := HNP.out; omega) (by have := HNP.out; unfold maxLen; omega) (by have := HNP.out; omega) ?_; intro g5 cap5 w5 hc5)
 have HC5 := Lib.hid hc5
 clear hc5 r2 hrw hi0 hz0 hz1 hz2
 have hjs : (j : Int) < (p.served.length : Int) := by have := HL.out; have := HJ.out; omega
 have HTH5 := Lib.hid (HC5.out.there (k := j) (by omega))
 have u5 : w5.cell? ⟨g5, j, none⟩ = some (.int .i64 (p.served[j]'(by omega))) := by
  have h1 := HC5.out.range ZaP (List.getElem?_eq_getElem (show j < p.served.length by omega)) 0 _ rfl
  simpa using h1
 have f5 : w5.frozen? ⟨g5, j, none⟩ = false := by
  have h1 := (HTH5.out 0 (by decide)).2
  simpa using h1
 go_upto_region 6 with fail
 obtain ⟨w6, hw6⟩ : ∃ w6 : World, w6 = w5.setCell ⟨g5, j, none⟩ (.int .i64 at') := ⟨_, rfl⟩
 rw [← hw6]
 have HC6 := Lib.hid (show SlAt w6 (.slice (some ⟨g5, 0, none⟩) p.served.length cap5) (p.served.set j at').length ((p.served.set j at').flatMap encZ) ∧ Below w4.heap.size w4 w6 by
  have h1 := HC5.out.set ZaP (by decide) (show j < p.served.length by omega) at'
  rw [Nat.mul_one, show w5.setCells g5 j (encZ at') = w6 by rw [hw6]; rfl] at h1
  exact h1)
 have HG6 := Lib.hid (show g5 < w6.heap.size ∧ w4.heap.size ≤ g5 by rw [hw6]; exact ⟨by simp [World.setCell]; exact HC5.out.hi, HC5.out.lo⟩)
 clear hw6 u5 f5
 have HB6 := Lib.hid (HB4.out.trans (HC6.out.2.mono HB4.out.size))
 have HH6 := Lib.hid ((HC6.out.2.block rb (Zb HH4.out)).trans HH4.out)
 have f3 : w6.frozen? ⟨rb, 3, none⟩ = false := Zd HH6.out
 have y3 : w6.cell? ⟨rb, 3, none⟩ = some p.hv := Za HH6.out rfl
 go_upto_region 7 with fail
 obtain ⟨w7, hw7⟩ : ∃ w7 : World, w7 = w6.setCell ⟨rb, 3, none⟩ (.slice (some ⟨g3, 0, none⟩) p.sh.length cap3) := ⟨_, rfl⟩
 rw [← hw7]
 have HH7 := Lib.hid (show w7.heap[rb]? = some (.cells #[.string p.name, .int .i64 p.uses, p.sv, .slice (some ⟨g3, 0, none⟩) p.sh.length cap3] 55 (0, 0)) by rw [hw7]; exact Ze HH6.out)
 have HW7 := Lib.hid hw7
 clear f3 y3 hw7
 have f2 : w7.frozen? ⟨rb, 2, none⟩ = false := Zd HH7.out
 have y2 : w7.cell? ⟨rb, 2, none⟩ = some p.sv := Za HH7.out rfl
 go_upto_region 8 with fail
 obtain ⟨w8, hw8⟩ : ∃ w8 : World, w8 = w7.setCell ⟨rb, 2, none⟩ (.slice (some ⟨g5, 0, none⟩) p.served.length cap5) := ⟨_, rfl⟩
 rw [← hw8]
 obtain ⟨p', hp'⟩ : ∃ p' : QP, p' = ⟨p.name, p.uses, p.served.set j at', p.sh.set j y, .slice (some ⟨g5, 0, none⟩) p.served.length cap5, .slice (some ⟨g3, 0, none⟩) p.sh.length cap3⟩ := ⟨_, rfl⟩
 have HH8 := Lib.hid (show w8.heap[rb]? = some (.cells (encQP p').toArray 55 (0, 0)) by rw [hw8, hp']; exact Ze HH7.out)
 have hb8 : Below w.heap.size w w8 := by
  rw [hw8, HW7.out]
  exact Below.setCell (Below.setCell HB6.out HRB.out.1 _) HRB.out.1 _
 have hz8 : w8.heap.size = w6.heap.size := by rw [hw8, HW7.out]; simp [World.setCell]
 have hlt := Zb HH4.out
 have HX := Lib.hid (show QPAt x.q w8 p' ∧ QPG G x.q w8 p' ∧ p'.served.length = x.classes ∧ p'.sh.length = x.classes ∧ p'.abs = { p.abs with served := p.served.set j at', sh := (p.sh.map QS.abs).set j y.abs } ∧ 0 < p'.uses from by
  have h0 := HR.out.inv p (List.mem_of_getElem? HI.out)
  have h1 := HR.out.ig p (List.mem_of_getElem? HI.out)
  have hg3 : g3 ≠ rb := by have := HG4.out.2; have := Zb HH2.out; omega
  have hg5 : g5 ≠ rb := by have := HG6.out.2; omega
  have s3 := HC4.out.1.below HC6.out.2
  have s5 := HC6.out.1
  have hlt3 : g3 < w6.heap.size := Nat.lt_of_lt_of_le HG4.out.1 HC6.out.2.size
  have k3 : SlAt w8 (.slice (some ⟨g3, 0, none⟩) p.sh.length cap3) (p.sh.set j y).length ((p.sh.set j y).flatMap (encQS x.q)) := by
   rw [hw8, HW7.out]
   refine (s3.other (fun g hg => ?_)).other (fun g hg => ?_)
   ·simp [Value.ownBlock] at hg
    subst hg
    exact ⟨hg3, hlt3⟩
   ·simp [Value.ownBlock] at hg
    subst hg
    exact ⟨hg3, by simpa [World.setCell] using hlt3⟩
  have k5 : SlAt w8 (.slice (some ⟨g5, 0, none⟩) p.served.length cap5) (p.served.set j at').length ((p.served.set j at').flatMap encZ) := by
   rw [hw8, HW7.out]
   refine (s5.other (fun g hg => ?_)).other (fun g hg => ?_)
   ·simp [Value.ownBlock] at hg
    subst hg
    exact ⟨hg5, HG6.out.1⟩
   ·simp [Value.ownBlock] at hg
    subst hg
    exact ⟨hg5, by simpa [World.setCell] using HG6.out.1⟩
  have hs2 := HB2.out.size
  have hs4 := HB4.out.size
  rw [hp']
  refine ⟨⟨k5, k3, fun s hs => ?_⟩, ⟨fun _ g hg => ?_, fun _ g hg => ?_, fun s hs => ?_⟩, by rw [List.length_set]; exact HL.out.1, by rw [List.length_set]; exact HL.out.2, ?_, HU.out⟩
  ·rcases ZaA hs with h | rfl
   ·exact (h0.inv s h).below hb8
   ·exact HY.out.below hb8
  ·simp [Value.ownBlock] at hg
   subst hg
   exact ⟨HR.out.up _ (by have := HG6.out.2; omega), by rw [hz8]; exact HG6.out.1⟩
  ·simp [Value.ownBlock] at hg
   subst hg
   exact ⟨HR.out.up _ (by have := HG4.out.2; omega), by rw [hz8]; exact hlt3⟩
  ·rcases ZaA hs with h | rfl
   ·exact (h1.ig s h).grow hb8.size
   ·exact HYG.out.grow hb8.size
  ·unfold QP.abs
   simp only [Zbi])
 have HB8 := Lib.hid hb8
 clear hw8 hp' hb8 hz8 hlt y2 f2
 go_wp2_with (refine Zat (cs := (encQP p').toArray) 55 HH8.out Tryz.underlying55 rfl (qp_sz p') rfl _ rfl rfl ?_)
 refine (ZjE b x next v l i p' w8 (HR.out.below HB8.out) (by omega) HX.out.1 HX.out.2.1 ⟨HX.out.2.2.1, HX.out.2.2.2.1⟩).mono ?_
 rintro e w9 ⟨rfl, hF9, v9, hR9⟩
 have HF9 := Lib.hid ((Fp.of_below HB8.out).trans hF9 (fun _ _ h => h))
 have HR9 := Lib.hid hR9
 clear hF9 hR9
 go_wp2_with fail
 go_end0
 exact ⟨rfl, HF9.out, v9, _, HR9.out, by rw [Zl5, HX.out.2.2.2.2.1]; unfold withA; exact if_pos (show 0 < p.uses from HU.out)⟩
variable {G : Nat → Prop}
theorem RefP.share {w w' : World} {b sb : Nat} {x : PX} {next : Int} {v : Value} {l : List QP} (h : RefP G w b x next v l) {p : QP} (hp : p ∈ l) {y : QS} (hy : y ∈ p.sh) (hb : Below w.heap.size w w') (hsb : w.heap.size ≤ sb) (hh : w'.heap[sb]? = some (.cells (encQS x.q y).toArray 100 (0, 0))) :
 RefS (But G sb) w' sb x.q y.gv y.v y.l := by
 have hi := (h.inv p hp).inv y hy
 have hg := (h.ig p hp).ig y hy
 have hlt := Zb hh
 exact ⟨hh, hi.below hb, fun hl k hk => ⟨⟨(hg.vg hl k hk).1, by have := (hg.vg hl k hk).2; omega⟩, Nat.lt_of_lt_of_le (hg.vg hl k hk).2 hb.size⟩,
  fun d hd => ⟨fun hl k hk => ⟨⟨((hg.ig d hd).vg hl k hk).1, by have := ((hg.ig d hd).vg hl k hk).2; omega⟩, Nat.lt_of_lt_of_le ((hg.ig d hd).vg hl k hk).2 hb.size⟩, fun r hr k hk => ⟨⟨((hg.ig d hd).ig r hr k hk).1, by have := ((hg.ig d hd).ig r hr k hk).2; omega⟩, Nat.lt_of_lt_of_le ((hg.ig d hd).ig r hr k hk).2 hb.size⟩, (hg.ig d hd).few, (hg.ig d hd).fews⟩,
  fun e => e.2 rfl, fun k hk => ⟨h.up k (by have := hb.size; omega), by omega⟩, hg.few, hg.qs⟩
theorem RefS.value {w : World} {sb : Nat} {q : Int} {gv : Bool} {v : Value} {l : List DV} (h : RefS (But G sb) w sb q gv v l) : DRowsAt w v l ∧ QSG G q w ⟨gv, v, l⟩ :=
 ⟨h.rows, ⟨fun hl k hk => ⟨(h.vg hl k hk).1.1, (h.vg hl k hk).2⟩, fun d hd => ⟨fun hl k hk => ⟨((h.ig d hd).vg hl k hk).1.1, ((h.ig d hd).vg hl k hk).2⟩, fun r hr k hk => ⟨((h.ig d hd).ig r hr k hk).1.1, ((h.ig d hd).ig r hr k hk).2⟩, (h.ig d hd).few, (h.ig d hd).fews⟩, h.few, h.qs⟩⟩
variable {G : Nat → Prop}
variable {G : Nat → Prop}
def ZcY (next : Int) (k : Nat) : List Int := (List.range k).map (fun (j : Nat) => next + j)
theorem ZjF (next : Int) (k : Nat) : ZcY next (k + 1) = ZcY next k ++ [next + k] := by
 unfold ZcY
 rw [List.range_succ, List.map_append]
 rfl
def qs0 : QS := ⟨false, .slice none 0 0, []⟩
theorem ZT {w w' : World} {base size : Nat} {e : TypeId} {v : Value} {n : Nat} {xs : List Value} {row : Option Nat} (h : w.ownsRow base e size v n xs) (hg : w.grownBy w' row) (hne : v.ownBlock = none ∨ v.ownBlock ≠ row) : w'.ownsRow base e size v n xs := by
 obtain ⟨hl, ⟨rfl, rfl⟩ | ⟨g, cap, cur, rfl, hb, hh, hr⟩⟩ := h
 ·exact ⟨hl, .inl ⟨rfl, rfl⟩⟩
 ·refine ⟨hl, .inr ⟨g, cap, cur, rfl, hb, (hg.block g (Array.getElem?_eq_some_iff.1 hh).1 (fun e => ?_)).trans hh, hr⟩⟩
  rcases hne with h | h
  ·cases h
  ·exact h e
structure NewAt (w : World) (b xb : Nat) (s : ByteArray) (x : PX) (next : Int) (v : Value) (i j m : Nat) (wr : World) : Prop where
 cells : ∃ sv hv, wr.heap[xb]? = some (.cells #[.string s, .int .i64 1, sv, hv] 55 (0, 0)) ∧ wr.ownsRow (xb + 1) 3 1 sv i ((ZcY next i).flatMap encZ) ∧ wr.ownsRow (xb + 1) 100 3 hv j ((List.replicate j qs0).flatMap (encQS x.q))
 head : wr.heap[b]? = some (.cells (pC x (next + m) v) 45 (0, 0))
 fp : Fp (fun j => j = b) w wr
 lo : w.heap.size ≤ xb
 bl : b < w.heap.size
section
variable {w wr w9 : World} {b xb : Nat} {s : ByteArray} {x : PX} {next : Int} {v sv hv v9 : Value} {i j m : Nat} {o : Obj}
theorem NewAt.served (h : NewAt w b xb s x next v i j m wr) (hx : wr.heap[xb]? = some (.cells #[.string s, .int .i64 1, sv, hv] 55 (0, 0))) (hos : wr.ownsRow (xb + 1) 3 1 sv i ((ZcY next i).flatMap encZ)) (hoh : wr.ownsRow (xb + 1) 100 3 hv j ((List.replicate j qs0).flatMap (encQS x.q)))
 (ho9 : w9.ownsRow (xb + 1) 3 1 v9 (i + 1) ((ZcY next i).flatMap encZ ++ encZ (next + i))) (hg : (wr.alloc o).grownBy w9 sv.ownBlock) : NewAt w b xb s x next v (i + 1) j m (w9.setCell ⟨xb, 2, none⟩ v9) := by
 have hxl := Zb hx
 have hbl := Zb h.head
 have hlo := h.lo
 have hbl0 := h.bl
 have hown : ∀ k, sv.ownBlock = some k → xb + 1 ≤ k := Zl hos
 have hx9 : w9.heap[xb]? = some (.cells #[.string s, .int .i64 1, sv, hv] 55 (0, 0)) := (hg.block xb (by simp; omega) (fun e => by have := hown xb e.symm; omega)).trans (Zi hx)
 have hh9 : w9.heap[b]? = some (.cells (pC x (next + m) v) 45 (0, 0)) := (hg.block b (by simp; omega) (fun e => by have := hown b e.symm; omega)).trans (Zi h.head)
 refine ⟨⟨v9, hv, Ze hx9, ?_, ?_⟩, (Zh (by omega)).trans hh9, ((h.fp.alloc o).grown hg (fun k hk e => by have := hown k e; omega)).setCell (fun hk => absurd hk (by simp; omega)) _, hlo, hbl0⟩
 ·rw [ZjF, List.flatMap_append]
  have := RowKit.ownsRow_setCell_below ho9 (a := ⟨xb, 2, none⟩) (by simp) v9
  simpa using this
 ·refine RowKit.ownsRow_setCell_below (ZT (hoh.alloc o) hg ?_) (by simp) _
  exact ZG hoh hos (by decide)
theorem NewAt.shares (h : NewAt w b xb s x next v i j m wr) (hx : wr.heap[xb]? = some (.cells #[.string s, .int .i64 1, sv, hv] 55 (0, 0))) (hos : wr.ownsRow (xb + 1) 3 1 sv i ((ZcY next i).flatMap encZ)) (hoh : wr.ownsRow (xb + 1) 100 3 hv j ((List.replicate j qs0).flatMap (encQS x.q)))
 (ho9 : w9.ownsRow (xb + 1) 100 3 v9 (j + 1) ((List.replicate j qs0).flatMap (encQS x.q) ++ encQS x.q qs0)) (hg : (wr.alloc o).grownBy w9 hv.ownBlock) : NewAt w b xb s x next v i (j + 1) m (w9.setCell ⟨xb, 3, none⟩ v9) := by
 have hxl := Zb hx
 have hbl := Zb h.head
 have hlo := h.lo
 have hbl0 := h.bl
 have hown : ∀ k, hv.ownBlock = some k → xb + 1 ≤ k := Zl hoh
 have hx9 : w9.heap[xb]? = some (.cells #[.string s, .int .i64 1, sv, hv] 55 (0, 0)) := (hg.block xb (by simp; omega) (fun e => by have := hown xb e.symm; omega)).trans (Zi hx)
 have hh9 : w9.heap[b]? = some (.cells (pC x (next + m) v) 45 (0, 0)) := (hg.block b (by simp; omega) (fun e => by have := hown b e.symm; omega)).trans (Zi h.head)
 refine ⟨⟨sv, v9, Ze hx9, ?_, ?_⟩, (Zh (by omega)).trans hh9, ((h.fp.alloc o).grown hg (fun k hk e => by have := hown k e; omega)).setCell (fun hk => absurd hk (by simp; omega)) _, hlo, hbl0⟩
 ·refine RowKit.ownsRow_setCell_below (ZT (hos.alloc o) hg ?_) (by simp) _
  exact ZG hos hoh (by decide)
 ·rw [List.replicate_succ', List.flatMap_append]
  have := RowKit.ownsRow_setCell_below ho9 (a := ⟨xb, 3, none⟩) (by simp) v9
  simpa using this
theorem NewAt.tick (h : NewAt w b xb s x next v i j m wr) : NewAt w b xb s x next v i j (m + 1) (wr.setCell ⟨b, 3, none⟩ (.int .i64 (next + (m + 1 : Nat)))) := by
 obtain ⟨⟨sv, hv, hx, hos, hoh⟩, hh, hF, hlo, hbl⟩ := h
 exact ⟨⟨sv, hv, (Zh (by omega)).trans hx, RowKit.ownsRow_setCell_below hos (by simp; omega) _, RowKit.ownsRow_setCell_below hoh (by simp; omega) _⟩, Ze hh, hF.setCell (fun _ => rfl) _, hlo, hbl⟩
end
theorem RefP.tick {w wr : World} {b : Nat} {x : PX} {next next' : Int} {v : Value} {l : List QP} (h : RefP G w b x next v l) (hF : Fp (fun j => j = b) w wr) (hh : wr.heap[b]? = some (.cells (pC x next' v) 45 (0, 0))) : RefP G wr b x next' v l := by
 have hS : ∀ k, k < w.heap.size → G k → ¬ k = b := fun k _ hg e => h.nb (e ▸ hg)
 exact ⟨hh, h.rows.fp h.vg hF hS, fun p hp => (h.inv p hp).fp (h.ig p hp) hF hS, fun hl => (h.vg hl).grow hF.size, fun p hp => (h.ig p hp).grow hF.size, h.nb, fun k hk => h.up k (Nat.le_trans hF.size hk), h.few, h.lens⟩
variable {G : Nat → Prop}
def PN.abs (n : PN) : AR := ⟨n.name, n.uses, n.cls.map PC.served, n.cls.map (fun c => (c.gv, c.rows))⟩
theorem ZcZ {L : List PN} {l : List QP} (hA : L.map PN.abs = l.map QP.abs) {m : Nat} {n : PN} (hn : L[m]? = some n) : ∃ p, l[m]? = some p ∧ n.abs = p.abs := by
 have h := congrArg (fun z => z[m]?) hA
 simp only [List.getElem?_map, hn, Option.map_some] at h
 cases hp : l[m]? with
 | none => rw [hp] at h; cases h
 | some p =>
   rw [hp] at h
   exact ⟨p, rfl, Option.some.inj h⟩
theorem ZeG {n : PN} {p : QP} (h : n.abs = p.abs) {k : Nat} {c : PC} (hc : n.cls[k]? = some c) : p.served[k]? = some c.served ∧ ∃ y, p.sh[k]? = some y ∧ c.gv = y.gv ∧ c.rows = y.l.map Prod.fst := by
 have h1 := congrArg (fun z => z.served[k]?) h
 have h2 := congrArg (fun z => z.sh[k]?) h
 simp only [PN.abs, QP.abs, List.getElem?_map, hc, Option.map_some] at h1 h2
 refine ⟨h1.symm, ?_⟩
 cases hy : p.sh[k]? with
 | none => rw [hy] at h2; cases h2
 | some y =>
   rw [hy] at h2
   have h3 := Option.some.inj h2
   simp only [QS.abs, Prod.mk.injEq] at h3
   exact ⟨y, rfl, h3.1, h3.2⟩
theorem ZgA {L : List PN} {l : List QP} (hA : L.map PN.abs = l.map QP.abs) : L.length = l.length := by
 have h := congrArg List.length hA
 simpa using h
theorem Zbk {n : PN} {p : QP} (h : n.abs = p.abs) : n.cls.length = p.served.length ∧ n.cls.length = p.sh.length ∧ n.name = p.name := by
 have h1 := congrArg (fun z => z.served.length) h
 have h2 := congrArg (fun z => z.sh.length) h
 have h3 := congrArg AR.name h
 simp only [PN.abs, QP.abs, List.length_map] at h1 h2 h3
 exact ⟨h1, h2, h3⟩
def atI (b : Option PB) : Int := match b with
 | none => -1
 | some z => z.i
def ofI (b : Option PB) : Int := match b with
 | none => 0
 | some z => z.k
theorem Zfx {most : Int} {pl : ByteArray} {i k : Nat} {n : PN} {b : Option PB} (h : most < (k : Int)) : ∀ d, ZP most pl i n b (k + d) = ZP most pl i n b k
 | 0 => rfl
 | d + 1 => by
   have ih := Zfx (pl := pl) (i := i) (n := n) (b := b) h d
   cases hc : n.cls[k + d]? with
   | none =>
     show (match n.cls[k + d]? with | some c => stepB most pl (ZP most pl i n b (k + d)) ⟨i, n, k + d, c⟩ | none => ZP most pl i n b (k + d)) = _
     rw [hc]
     exact ih
   | some c =>
     rw [← Nat.add_assoc, Zbv hc]
     unfold stepB fitB
     rw [decide_eq_false (show ¬ ((k + d : Nat) : Int) ≤ most by omega)]
     simpa using ih
theorem RefP.butE {w w' : World} {b bx : Nat} {x : PX} {next : Int} {v : Value} {l : List QP} (h : RefP G w b x next v l) (hb : Below w.heap.size w w') (hbx : w.heap.size ≤ bx) (hlt : bx < w'.heap.size) : RefP (But G bx) w' b x next v l := by
 have key : ∀ {u : Value}, InG G w u → InG (But G bx) w' u := fun h1 k hk => ⟨⟨(h1 k hk).1, by have := (h1 k hk).2; omega⟩, Nat.lt_of_lt_of_le (h1 k hk).2 hb.size⟩
 have h2 := h.below hb
 exact ⟨h2.head, h2.rows, h2.inv, fun hl => key (h.vg hl), fun p hp => ⟨fun hl => key ((h.ig p hp).sg hl), fun hl => key ((h.ig p hp).hg hl), fun s hs => ⟨fun hl => key (((h.ig p hp).ig s hs).vg hl), fun d hd => ⟨fun hl => key ((((h.ig p hp).ig s hs).ig d hd).vg hl), fun r hr => key ((((h.ig p hp).ig s hs).ig d hd).ig r hr), (((h.ig p hp).ig s hs).ig d hd).few, (((h.ig p hp).ig s hs).ig d hd).fews⟩, ((h.ig p hp).ig s hs).few, ((h.ig p hp).ig s hs).qs⟩⟩, fun e => h.nb e.1, fun k hk => ⟨h2.up k hk, by omega⟩, h.few, h.lens⟩
theorem RefP.unbut {w : World} {b bx : Nat} {x : PX} {next : Int} {v : Value} {l : List QP} (h : RefP (But G bx) w b x next v l) (hb : ¬ G b) : RefP G w b x next v l := by
 have key : ∀ {u : Value}, InG (But G bx) w u → InG G w u := fun h1 k hk => ⟨(h1 k hk).1.1, (h1 k hk).2⟩
 exact ⟨h.head, h.rows, h.inv, fun hl => key (h.vg hl), fun p hp => ⟨fun hl => key ((h.ig p hp).sg hl), fun hl => key ((h.ig p hp).hg hl), fun s hs => ⟨fun hl => key (((h.ig p hp).ig s hs).vg hl), fun d hd => ⟨fun hl => key ((((h.ig p hp).ig s hs).ig d hd).vg hl), fun r hr => key ((((h.ig p hp).ig s hs).ig d hd).ig r hr), (((h.ig p hp).ig s hs).ig d hd).few, (((h.ig p hp).ig s hs).ig d hd).fews⟩, ((h.ig p hp).ig s hs).few, ((h.ig p hp).ig s hs).qs⟩⟩, hb, fun k hk => (h.up k hk).1, h.few, h.lens⟩
section
variable {ρ : Roles} {P : Nat} {x : PX} {next : Int} {v : Value} {L : List PN}
set_option maxRecDepth 100000 in
set_option maxHeartbeats 1000000 in
theorem Zl7 (w : World) (hS : PoolAt ρ w P x next v L) : Calls Tryz.prog 46 #[.pointer (some ⟨P, 0, none⟩)] w fun e w' => e = .returned (.int .i64 next) ∧ Below w.heap.size w w' := by
 have c3 : w.cell? ⟨P, 3, none⟩ = some (.int .i64 next) := Za hS.head rfl
 clear hS
 go_enter Tryz.func46, Tryz.ntmps46
 go_wp2_with fail
 go_ret
 exact ⟨rfl, Below.refl _ _⟩
end
theorem Zn2 (L : List PN) (i k : Nat) (n : PN) (c : PC) : (L.set i { n with cls := n.cls.set k c }).map PN.abs = (L.map PN.abs).set i { n.abs with served := n.abs.served.set k c.served, sh := n.abs.sh.set k (c.gv, c.rows) } := by
 rw [Zbi]
 congr 1
 unfold PN.abs
 simp only [Zbi]
set_option maxRecDepth 100000 in
set_option maxHeartbeats 2000000 in
theorem ZkY (u v : Value) (l : List Int) (w : World) (hu : SlAt w u l.length (l.flatMap encZ)) (hv : SlAt w v l.length (l.flatMap encZ)) (hf : l.length ≤ 1000000) : Calls Tryz.prog 47 #[u, v] w fun e w' => e = .returned (.bool true) ∧ Below w.heap.size w w' := by
 have HU := Lib.hid hu
 have HV := Lib.hid hv
 obtain ⟨a, c, rfl, -⟩ := hu.form
 obtain ⟨a2, c2, rfl, -⟩ := hv.form
 clear hu hv
 go_enter Tryz.func47, Tryz.ntmps47
 have hne : ((l.length : Int) != (l.length : Int)) = false := by simp
 go_wp2_with fail
 go_loopg [5] l.length (fun g i wr => ∃ k : Nat, g = l.length - k ∧ i = .int .i64 k ∧ k ≤ l.length ∧ Below w.heap.size w wr)
 case atStart => exact ⟨0, rfl, rfl, Nat.zero_le _, Below.refl _ _⟩
 case round =>
  obtain ⟨k, hg, rfl, hk, hb⟩ := hrel
  have HG := Lib.hid hg
  have HB := Lib.hid hb
  clear hg hb
  by_cases hlt : k < l.length
  ·obtain ⟨y, hy⟩ : ∃ y, l[k]? = some y := ⟨_, List.getElem?_eq_getElem hlt⟩
   have hkl : (k : Int) < (l.length : Int) := by omega
   obtain ⟨g, off, cap, hv1, _, hc⟩ := (HU.out.below HB.out).at ZaP (by decide) hy
   cases hv1
   obtain ⟨g2, off2, cap2, hv2, _, hc2⟩ := (HV.out.below HB.out).at ZaP (by decide) hy
   cases hv2
   have d1 := cell_regrown (show wr.cell? ⟨g, off + k, none⟩ = some (.int .i64 y) by have := hc 0 _ rfl; simpa using this)
   have d2 := cell_regrown (show wr.cell? ⟨g2, off2 + k, none⟩ = some (.int .i64 y) by have := hc2 0 _ rfl; simpa using this)
   clear hc hc2 hy
   go_upto_region 6 with fail
   refine wp_region_quiet_below (by kernel_rfl) (by kernel_rfl) ?_
   repeat (go_big_quiet_step (fail))
   refine wpQuiet_nil ?_
   rintro _ ⟨⟨dq, osq⟩, rfl⟩
   obtain ⟨w3, hw3⟩ : ∃ w3 : World, w3 = grow (redrawn wr dq) osq := ⟨_, rfl⟩
   have HB3 := Lib.hid (HB.out.trans ((show Below wr.heap.size wr w3 by rw [hw3]; exact below_regrown wr dq osq).mono HB.out.size))
   rw [show (grow (redrawn wr (Regrown.mk dq osq).d) (Regrown.mk dq osq).os) = w3 from hw3.symm]
   clear hw3 d1 d2
   go_wp2_with fail
   go_roundg (l.length - (k + 1))
   case rel => exact ⟨k + 1, rfl, by go_num, by omega, HB3.out⟩
   case measure => have := HG.out; omega
  ·go_wp2_with fail
   go_ret
   exact ⟨rfl, HB.out⟩
end Go.Proofs.YtdbjihkgafhakaaGreatDoor
