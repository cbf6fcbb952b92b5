/-
 A slice of pointers, at an offset of its block: what it reads as, what an append of one leaves.
-/
import Derived.Test.YtdbjihkgafhakaaGreatDoorSl03
import Derived.ArgAppend
import Derived.Test.YtdbjihkgafhakaaGreatDoorSl02
import Derived.BigQuiet
import Derived.Deep.QuietTactic
import Derived.Deep.DeepCutAuto
import Derived.LaidEqlPtr
import Derived.Deep.RegionLaw
namespace Go.Proofs.YtdbjihkgafhakaaGreatDoor
open Go.RowKit
def ptrV (b : Nat) : Value := .pointer (some ⟨b, 0, none⟩)
def ArrIn (e : TypeId) (w : World) (v : Value) (bs : List Nat) : Prop :=
 (v = .slice none 0 0 ∧ bs = []) ∨ ∃ g off cap cur, v = .slice (some ⟨g, off, none⟩) bs.length cap ∧ w.heap[g]? = some (.cells cur e (0, 0)) ∧ off + cap ≤ cur.size ∧ bs.length ≤ cap ∧ cap ≤ maxLen ∧ ∀ (i b : Nat), bs[i]? = some b → cur[off + i]? = some (ptrV b)
theorem ArrIn.lt {e : TypeId} {w : World} {v : Value} {bs : List Nat} (h : ArrIn e w v bs) : ∀ k, v.ownBlock = some k → k < w.heap.size := by
 intro k hk
 rcases h with ⟨rfl, _⟩ | ⟨g, off, cap, cur, rfl, hg, _⟩
 ·cases hk
 ·simp only [Value.ownBlock, Option.some.injEq] at hk
  subst hk
  exact Zb hg
theorem ArrIn.kept {e : TypeId} {w w' : World} {v : Value} {bs : List Nat} (h : ArrIn e w v bs) (hk : ∀ k, v.ownBlock = some k → w'.heap[k]? = w.heap[k]?) : ArrIn e w' v bs := by
 rcases h with h | ⟨g, off, cap, cur, rfl, hg, hr⟩
 ·exact .inl h
 ·exact .inr ⟨g, off, cap, cur, rfl, (hk g rfl).trans hg, hr⟩
theorem ArrIn.below {e : TypeId} {w w' : World} {v : Value} {bs : List Nat} (h : ArrIn e w v bs) (hb : Below w.heap.size w w') : ArrIn e w' v bs := h.kept (fun k hk => hb.block k (h.lt k hk))
theorem ArrIn.frame {e : TypeId} {w w' : World} {v : Value} {bs : List Nat} (h : ArrIn e w v bs) {S : Nat → Prop} (hf : Fp S w w') (hS : ∀ k, v.ownBlock = some k → ¬ S k) : ArrIn e w' v bs := h.kept (fun k hk => hf.block k (h.lt k hk) (hS k hk))
theorem ArrIn.at {e : TypeId} {w : World} {v : Value} {bs : List Nat} (h : ArrIn e w v bs) {i b : Nat} (hb : bs[i]? = some b) : ∃ g off cap, v = .slice (some ⟨g, off, none⟩) bs.length cap ∧ w.cell? ⟨g, off + i, none⟩ = some (ptrV b) := by
 rcases h with ⟨_, rfl⟩ | ⟨g, off, cap, cur, rfl, hg, _, _, _, hc⟩
 ·simp at hb
 ·exact ⟨g, off, cap, rfl, Za hg (hc i b hb)⟩
theorem ArrIn.form {e : TypeId} {w : World} {v : Value} {bs : List Nat} (h : ArrIn e w v bs) : ∃ a cap, v = .slice a bs.length cap ∧ bs.length ≤ cap := by
 rcases h with ⟨rfl, rfl⟩ | ⟨g, off, cap, cur, rfl, _, _, hl, _⟩
 ·exact ⟨none, 0, rfl, Nat.le_refl _⟩
 ·exact ⟨_, cap, rfl, hl⟩
section
variable {P : Program}
theorem Zdo {w : World} (t ty e : TypeId) (ht : P.underlying t = some (.slice e)) (hinfo : (P.info? e).map (fun i => (i.zero, i.size, i.bytes)) = some (some (.pointer none), 1, 8))
 {v : Value} {bs : List Nat} (h : ArrIn e w v bs) (u b : Nat) (hu : w.cell? ⟨u, 0, none⟩ = some (ptrV b)) (hn : bs.length < 1000000) :
 ∃ v' w', (Builtin.append_ #[t, t] ty #[v, .slice (some ⟨u, 0, none⟩) 1 1]).run P w = .ok v' w' ∧ ArrIn e w' v' (bs ++ [b]) ∧ w.grownBy w' v.ownBlock ∧ (v'.ownBlock = v.ownBlock ∨ v'.ownBlock = some w.heap.size) := by
 obtain ⟨i0, hi, hz0, hz1, hz2⟩ := info_parts hinfo
 have hnews : ∀ j x, [ptrV b][j]? = some x → w.cell? ((⟨u, 0, none⟩ : Addr).add j) = some x := fun j x hx => by
  cases j with
  | zero =>
    simp at hx
    subst hx
    exact hu
  | succ j => simp at hx
 have h1 : ∀ x ∈ [ptrV b], x.oneCell' = true := fun x hx => by
  rw [List.mem_singleton] at hx
  subst hx
  rfl
 rcases h with ⟨rfl, rfl⟩ | ⟨g, off, cap, cur, rfl, hg, hfit, hle, hcm, hc⟩
 ·have hr := run_append_nil (P := P) w t ty e i0 (.pointer none) ht hi hz0 ⟨u, 0, none⟩ 1 1 [ptrV b] (by rw [hz1]; rfl) hnews (by omega) (by omega) (by rw [hz2]; omega)
  refine ⟨_, _, hr, .inr ⟨w.heap.size, 0, _, _, rfl, heap_alloc_new w.drew _, ?_, grownCap_ge w 1 0 e, grownCap_le_maxLen w 1 0 e (by unfold maxLen; omega), fun i x hx => ?_⟩, ⟨rfl, rfl, rfl, by simp, fun k hk _ => Below.heap_alloc w.drew _ k hk⟩, .inr rfl⟩
  ·have := grownCap_ge w 1 0 e
   simp [size_zeroCells, Value.cells]
   omega
  ·cases i with
   | zero =>
     simp at hx
     subst hx
     rw [Nat.add_zero, Array.getElem?_append_left (by simp)]
     rfl
   | succ i => simp at hx
 ·by_cases hroom : bs.length + 1 ≤ cap
  ·have hr := run_append_room_cells (P := P) (w := w) t ty e i0 ht hi g off bs.length cap ⟨u, 0, none⟩ 1 1 [ptrV b] (by rw [hz1]; rfl) hnews h1 hroom (fun j hj => by
    have hj0 : j = 0 := by simpa using hj
    subst hj0
    rw [hz1]
    obtain ⟨x, hx⟩ : ∃ x, cur[off + bs.length * 1 + 0]? = some x := ⟨_, Array.getElem?_eq_getElem (by omega)⟩
    rw [Za hg hx]
    rfl) (fun j _ => Zd hg)
   rw [hz1, Nat.mul_one] at hr
   refine ⟨_, _, hr, .inr ⟨g, off, cap, _, by rw [List.length_append]; rfl, Ze hg, by simpa using hfit, by rw [List.length_append]; simpa using hroom, hcm, fun i x hx => ?_⟩, ⟨rfl, rfl, rfl, by simp [World.setCells, World.setCell], fun k hk hne => Zh (fun e => hne (by simp [Value.ownBlock, e]))⟩, .inl rfl⟩
   rcases Nat.lt_or_ge i bs.length with hi2 | hi2
   ·rw [List.getElem?_append_left hi2] at hx
    rw [Array.getElem?_setIfInBounds_ne (by omega)]
    exact hc i x hx
   ·have hi3 : i < (bs ++ [b]).length := (List.getElem?_eq_some_iff.1 hx).1
    have hi4 : i = bs.length := by simp at hi3; omega
    subst hi4
    rw [List.getElem?_append_right (by omega), Nat.sub_self] at hx
    simp at hx
    subst hx
    rw [Array.getElem?_setIfInBounds_self_of_lt (by omega)]
  ·have holds : ∀ j x, (bs.map ptrV)[j]? = some x → w.cell? ((⟨g, off, none⟩ : Addr).add j) = some x := fun j x hx => by
    rw [show (⟨g, off, none⟩ : Addr).add j = ⟨g, off + j, none⟩ by unfold Addr.add; split <;> simp_all]
    rw [List.getElem?_map] at hx
    obtain ⟨y, hy, rfl⟩ := Option.map_eq_some_iff.1 hx
    exact Za hg (hc j y hy)
   have hr := run_append_grow (P := P) w t ty e i0 (.pointer none) ht hi hz0 ⟨g, off, none⟩ bs.length cap (bs.map ptrV) (by rw [hz1]; simp) holds ⟨u, 0, none⟩ 1 1 [ptrV b] (by rw [hz1]; rfl) hnews (by omega) (by omega) (by rw [hz2]; exact growslice_fits (by omega) (by omega))
   have hge := grownCap_ge w (bs.length + 1) cap e
   refine ⟨_, _, hr, .inr ⟨w.heap.size, 0, _, _, by rw [List.length_append]; rfl, heap_alloc_new w.drew _, ?_, by rw [List.length_append]; exact hge, grownCap_le_maxLen w _ _ e (by unfold maxLen; omega), fun i x hx => ?_⟩, ⟨rfl, rfl, rfl, by simp, fun k hk _ => Below.heap_alloc w.drew _ k hk⟩, .inr rfl⟩
   ·simp [size_zeroCells, Value.cells]
    omega
   ·have e1 : ((bs ++ [b]).map ptrV)[i]? = some (ptrV x) := by rw [List.getElem?_map, hx]; rfl
    rw [List.map_append] at e1
    have hi3 : i < (bs ++ [b]).length := (List.getElem?_eq_some_iff.1 hx).1
    rw [Nat.zero_add, Array.getElem?_append_left (by simp at hi3 ⊢; omega)]
    simpa using e1
end
end Go.Proofs.YtdbjihkgafhakaaGreatDoor
/-
 spin.Ring: how a ring lies in memory; Find: the walks.
-/
namespace Go.Proofs.YtdbjihkgafhakaaGreatDoor
open Go.RowKit
structure Nd where
 id : Int
 wt : Int
 df : Int
 blk : Nat
 src : Value
def ndC (n : Nd) : Array Value := #[.int .i64 n.id, .int .i64 n.wt, .int .i64 n.df, n.src]
structure SpinAt (pre : List Int) (ρ : Roles) (w : World) (sp : Nat) (q : Int) (gv : Bool) (v : Value) (ns : List Nd) : Prop where
 head : w.heap[sp]? = some (.cells #[.int .i64 q, v, .bool gv] 115 (0, 0))
 rs : ρ sp = pre ++ [1]
 arr : ArrIn 120 w v (ns.map Nd.blk)
 ra : ∀ k, v.ownBlock = some k → ρ k = pre ++ [3]
 node : ∀ (i : Nat) n, ns[i]? = some n → ρ n.blk = pre ++ [4, n.id] ∧ w.heap[n.blk]? = some (.cells (ndC n) 128 (0, 0))
 once : (ns.map Nd.id).Nodup
 few : ns.length ≤ 1000000
section
variable {pre : List Int} {ρ ρ' : Roles} {w w' : World} {sp : Nat} {q : Int} {gv : Bool} {v : Value} {ns : List Nd}
theorem SpinAt.later (h : SpinAt pre ρ w sp q gv v ns) (hl : Later ρ ρ' w) : SpinAt pre ρ' w sp q gv v ns :=
 ⟨h.head, (hl sp (Zb h.head)).trans h.rs, h.arr, fun k hk => (hl k (h.arr.lt k hk)).trans (h.ra k hk), fun i n hn => ⟨(hl _ (Zb (h.node i n hn).2)).trans (h.node i n hn).1, (h.node i n hn).2⟩, h.once, h.few⟩
def Zs (ρ : Roles) (pre : List Int) (k : Nat) : Prop := ρ k = pre ++ [1] ∨ ρ k = pre ++ [3] ∨ ∃ id, ρ k = pre ++ [4, id]
theorem SpinAt.frame (h : SpinAt pre ρ w sp q gv v ns) {S : Nat → Prop} (hf : Fp S w w') (hS : ∀ k, k < w.heap.size → Zs ρ pre k → ¬ S k) : SpinAt pre ρ w' sp q gv v ns :=
 ⟨hf.heap h.head (hS sp (Zb h.head) (.inl h.rs)), h.rs, h.arr.frame hf (fun k hk => hS k (h.arr.lt k hk) (.inr (.inl (h.ra k hk)))), h.ra,
   fun i n hn => ⟨(h.node i n hn).1, hf.heap (h.node i n hn).2 (hS _ (Zb (h.node i n hn).2) (.inr (.inr ⟨_, (h.node i n hn).1⟩)))⟩, h.once, h.few⟩
theorem SpinAt.below (h : SpinAt pre ρ w sp q gv v ns) (hb : Below w.heap.size w w') : SpinAt pre ρ w' sp q gv v ns := h.frame (S := fun _ => False) (Fp.of_below hb) (fun _ _ _ h => h)
theorem SpinAt.c0 (h : SpinAt pre ρ w sp q gv v ns) : w.cell? ⟨sp, 0, none⟩ = some (.int .i64 q) := Za h.head rfl
theorem SpinAt.c1 (h : SpinAt pre ρ w sp q gv v ns) : w.cell? ⟨sp, 1, none⟩ = some v := Za h.head rfl
theorem SpinAt.c2 (h : SpinAt pre ρ w sp q gv v ns) : w.cell? ⟨sp, 2, none⟩ = some (.bool gv) := Za h.head rfl
theorem SpinAt.n0 (h : SpinAt pre ρ w sp q gv v ns) {i : Nat} {n : Nd} (hn : ns[i]? = some n) : w.cell? ⟨n.blk, 0, none⟩ = some (.int .i64 n.id) := Za (h.node i n hn).2 rfl
theorem SpinAt.at (h : SpinAt pre ρ w sp q gv v ns) {i : Nat} {n : Nd} (hn : ns[i]? = some n) : ∃ g off cap, v = .slice (some ⟨g, off, none⟩) ns.length cap ∧ w.cell? ⟨g, off + i, none⟩ = some (.pointer (some ⟨n.blk, 0, none⟩)) := by
 obtain ⟨g, off, cap, hv, hc⟩ := h.arr.at (i := i) (b := n.blk) (by simp [hn])
 rw [List.length_map] at hv
 exact ⟨g, off, cap, hv, hc⟩
theorem SpinAt.form (h : SpinAt pre ρ w sp q gv v ns) : ∃ a cap, v = .slice a ns.length cap ∧ ns.length ≤ cap := by
 obtain ⟨a, cap, hv, hc⟩ := h.arr.form
 rw [List.length_map] at hv hc
 exact ⟨a, cap, hv, hc⟩
end
def idB (id : Int) (n : Nd) : Bool := n.id == id
def Zbh (id : Int) (ns : List Nd) : Int := match ns.findIdx? (idB id) with
 | some i => i
 | none => -1
theorem ZgM {id : Int} : ∀ {ns : List Nd} {k : Nat} {n : Nd}, ns[k]? = some n → n.id = id → (∀ j y, j < k → ns[j]? = some y → y.id ≠ id) → ns.findIdx? (idB id) = some k
 | [], _, _, h, _, _ => by simp at h
 | y :: r, 0, n, h, hp, _ => by
   simp at h
   subst h
   simp [List.findIdx?_cons, idB, hp]
 | y :: r, k + 1, n, h, hp, hn => by
   have h0 := hn 0 y (by omega) rfl
   have ih := ZgM (ns := r) (k := k) (by simpa using h) hp (fun j z hj hz => hn (j + 1) z (by omega) (by simpa using hz))
   simp [List.findIdx?_cons, idB, h0] at ih ⊢
   exact ih
theorem ZhP {id : Int} {ns : List Nd} {k : Nat} {n : Nd} (h : ns[k]? = some n) (hp : n.id = id) (hn : ∀ j y, j < k → ns[j]? = some y → y.id ≠ id) : Zbh id ns = k := by
 unfold Zbh; rw [ZgM h hp hn]
theorem ZfU {id : Int} {ns : List Nd} (hn : ∀ j y, j < ns.length → ns[j]? = some y → y.id ≠ id) : Zbh id ns = -1 := by
 unfold Zbh
 have : ns.findIdx? (idB id) = none := by
  rw [List.findIdx?_eq_none_iff]
  intro x hx
  obtain ⟨j, hj, rfl⟩ := List.getElem_of_mem hx
  have := hn j _ hj (List.getElem?_eq_getElem hj)
  simp [idB, this]
 rw [this]
theorem Zdc (id : Int) (ns : List Nd) : Zbh id ns = -1 ∧ (∀ n ∈ ns, n.id ≠ id) ∨ ∃ (k : Nat) (n : Nd), Zbh id ns = k ∧ ns[k]? = some n ∧ n.id = id := by
 rcases h : ns.findIdx? (idB id) with _ | k
 ·refine .inl ⟨by unfold Zbh; rw [h], fun n hn => ?_⟩
  have := List.findIdx?_eq_none_iff.1 h n hn
  simpa [idB] using this
 ·obtain ⟨hk, hp, _⟩ := List.findIdx?_eq_some_iff_getElem.1 h
  exact .inr ⟨k, ns[k], by unfold Zbh; rw [h], List.getElem?_eq_getElem hk, by simpa [idB] using hp⟩
set_option maxRecDepth 100000 in
set_option maxHeartbeats 1000000 in
theorem Zlp (B nb : Nat) (id n : Int) (w : World) (hc : w.cell? ⟨B, 0, none⟩ = some (.int .i64 id)) (hn : w.cell? ⟨nb, 0, none⟩ = some (.int .i64 n)) :
 Calls Tryz.prog 112 #[.pointer (some ⟨nb, 0, none⟩), .pointer (some ⟨B, 0, none⟩)] w fun e w' => e = .returned (.bool (n == id)) ∧ Below w.heap.size w w' := by
 go_enter Tryz.func112, Tryz.ntmps112
 go_wp2
 go_quiet (fail)
 go_wp2
 go_ret
 exact ⟨rfl, ZO (Below.refl _ _) _⟩
def FRel (id : Int) (ns : List Nd) (w : World) (i : Value) (wr : World) : Prop := ∃ k : Nat, i = .int .i64 k ∧ k ≤ ns.length ∧ (∀ j y, j < k → ns[j]? = some y → y.id ≠ id) ∧ Below w.heap.size w wr
section
variable {pre : List Int} {ρ : Roles} {sp : Nat} {q : Int} {gv : Bool} {v : Value} {ns : List Nd}
set_option maxRecDepth 100000 in
set_option maxHeartbeats 1000000 in
theorem ZfV (B : Nat) (id : Int) (w : World) (hS : SpinAt pre ρ w sp q gv v ns) (hc : w.cell? ⟨B, 0, none⟩ = some (.int .i64 id)) :
 Calls Tryz.prog 111 #[v, .func (.func 112) #[] #[.pointer (some ⟨B, 0, none⟩)]] w fun e w' => e = .returned (.int .i64 (Zbh id ns)) ∧ Below w.heap.size w w' := by
 have HS := Lib.hid hS
 have HK := Lib.hid hc
 obtain ⟨a, cap, rfl, -⟩ := hS.form
 have hfew := hS.few
 clear hS hc
 go_enter Tryz.func111, Tryz.ntmps111
 go_wp2
 go_loopw [8] (fun i wr => FRel id ns w i wr) (fun i _ => ns.length - (intOf i).toNat)
 case atStart => exact ⟨0, rfl, Nat.zero_le _, (fun j y hj => by omega), Below.refl _ _⟩
 case round =>
  obtain ⟨k, rfl, hk, hn, hb⟩ := hrel
  have HB := Lib.hid hb
  have HN := Lib.hid hn
  clear hb hn
  by_cases hlt : k < ns.length
  ·obtain ⟨x, hx⟩ : ∃ x, ns[k]? = some x := ⟨_, List.getElem?_eq_getElem hlt⟩
   obtain ⟨g, off, cap', hv, hc⟩ := HS.out.at hx
   cases hv
   have d0 := Zc HB.out hc
   have HX := Lib.hid hx
   clear hx hc
   go_wp2_with fail
   refine (Zlp B x.blk id x.id _ (Zc HB.out HK.out) (Zc HB.out (HS.out.n0 HX.out))).mono ?_
   rintro e w1 ⟨rfl, hb1⟩
   have HB1 := Lib.hid (HB.out.trans (hb1.mono HB.out.size))
   clear hb1 d0
   by_cases hp : x.id = id
   ·have HP := Lib.hid (ZhP HX.out hp HN.out)
    have hpb : (x.id == id) = true := beq_iff_eq.2 hp
    clear hp
    rw [hpb]
    clear hpb
    go_wp2_with fail
    go_ret
    exact ⟨ZM HP.out.symm, HB1.out⟩
   ·have HP := Lib.hid hp
    have hpb : (x.id == id) = false := beq_eq_false_iff_ne.2 hp
    clear hp
    rw [hpb]
    clear hpb
    go_wp2_with fail
    go_roundw
    case rel =>
     refine ⟨k + 1, by go_num, by omega, fun j y hj hy => ?_, HB1.out⟩
     rcases Nat.lt_or_ge j k with h | h
     ·exact HN.out j y h hy
     ·obtain rfl : j = k := by omega
      obtain rfl : x = y := Option.some.inj (HX.out.symm.trans hy)
      exact HP.out
    case measure => simp [intOf]; omega
  ·have HP := Lib.hid (ZfU (id := id) (ns := ns) (fun j y hj hy => HN.out j y (by omega) hy))
   go_wp2
   go_ret
   exact ⟨ZM HP.out.symm, HB.out⟩
set_option maxRecDepth 100000 in
set_option maxHeartbeats 1000000 in
theorem Zbp (id : Int) (w : World) (hS : SpinAt pre ρ w sp q gv v ns) (h : ∀ n ∈ ns, n.id ≠ id) :
 Calls Tryz.prog 82 #[.pointer (some ⟨sp, 0, none⟩), .int .i64 id] w fun e w' => e = .returned (.pointer none) ∧ Below w.heap.size w w' := by
 have HS := Lib.hid hS
 have HI := Lib.hid (ZfU (id := id) (ns := ns) (fun j y _ hy => h y (List.mem_of_getElem? hy)))
 have c1 := hS.c1
 have hlt := Zb hS.head
 clear hS h
 go_enter Tryz.func82, Tryz.ntmps82
 go_wp2_with fail
 refine (ZfV _ id _ (HS.out.below box_below) (by simp)).mono ?_
 rintro e w1 ⟨rfl, hb1⟩
 rw [HI.out]
 go_wp2
 go_ret
 exact ⟨rfl, box_below.trans (hb1.mono (by simp))⟩
set_option maxRecDepth 100000 in
set_option maxHeartbeats 1000000 in
theorem Zbq (id : Int) (k : Nat) (n : Nd) (w : World) (hS : SpinAt pre ρ w sp q gv v ns) (hn : ns[k]? = some n) (h : Zbh id ns = k) :
 Calls Tryz.prog 82 #[.pointer (some ⟨sp, 0, none⟩), .int .i64 id] w fun e w' => e = .returned (.pointer (some ⟨n.blk, 0, none⟩)) ∧ Below w.heap.size w w' := by
 have HS := Lib.hid hS
 have HI := Lib.hid h
 have c1 := hS.c1
 have hlt := Zb hS.head
 obtain ⟨g, off, cap, rfl, hc⟩ := hS.at hn
 have hkl : k < ns.length := (List.getElem?_eq_some_iff.1 hn).1
 have hfew := hS.few
 have HC := Lib.hid hc
 clear hS h hn hc
 go_enter Tryz.func82, Tryz.ntmps82
 go_wp2_with fail
 refine (ZfV _ id _ (HS.out.below box_below) (by simp)).mono ?_
 rintro e w1 ⟨rfl, hb1⟩
 rw [HI.out]
 have HB1 := Lib.hid (box_below.trans (hb1.mono (by simp)))
 clear hb1 c1
 have c1 := (HS.out.below HB1.out).c1
 have d := Zc HB1.out HC.out
 go_wp2
 go_ret
 exact ⟨rfl, HB1.out⟩
end
end Go.Proofs.YtdbjihkgafhakaaGreatDoor
/-
 spin.Ring: Join: the walk.
-/
namespace Go.Proofs.YtdbjihkgafhakaaGreatDoor
open Go.RowKit
theorem Zax {P : Program} {w : World} {ops : Array Oper} {rest : List Oper} {o : Oper} {a : Act} {Q : Exit → Act → World → Prop} (hgd : o.guard = none) (s x : Operand) (t : TypeId)
 (hop : o.op = Op.call { callee := Callee.builtin Builtin.append, args := #[s, x], argTypes := #[t, t] }) (e : TypeId) (ht : P.underlying t = some (.slice e)) (hinfo : (P.info? e).map (fun i => (i.zero, i.size, i.bytes)) = some (some (.pointer none), 1, 8))
 {v : Value} {bs : List Nat} (hs : a.eval s = v) (h : ArrIn e w v bs) (u b : Nat) (hx : a.eval x = .slice (some ⟨u, 0, none⟩) 1 1) (hu : w.cell? ⟨u, 0, none⟩ = some (ptrV b)) (hn : bs.length < 1000000)
 (hK : ∀ v' w', ArrIn e w' v' (bs ++ [b]) → w.grownBy w' v.ownBlock → (v'.ownBlock = v.ownBlock ∨ v'.ownBlock = some w.heap.size) → wpList P ops Q rest (a.put o.dst v') w') : wpList P ops Q (o :: rest) a w := by
 refine wpList_plain hgd fun K' hK' => ?_
 obtain ⟨v', w', hrun, r1, r2, r3⟩ := Zdo (P := P) t o.type e ht hinfo h u b hu hn
 unfold Oper.wp
 simp [execOp, hop, resolve, invoke, builtin, hs, hx, hrun, Result.andThen]
 exact hK' _ _ (hK v' w' r1 r2 r3)
theorem ZeM : (Tryz.prog.info? 120).map (fun i => (i.zero, i.size, i.bytes)) = some (some (.pointer none), 1, 8) := by kernel_rfl
def ZmP (pre : List Int) (ρ : Roles) (w : World) (sp : Nat) (q : Int) (gv : Bool) (ns : List Nd) (id wt : Int) (src : Value) (e : Ending) (w' : World) : Prop :=
 e = .returned (.pointer (some ⟨w.heap.size, 0, none⟩)) ∧ Fp (Zs ρ pre) w w' ∧ w.heap.size < w'.heap.size ∧ ∃ v', (∀ k, v'.ownBlock = some k → k ≠ w.heap.size ∧ k < w'.heap.size) ∧
  ∀ ρ', Later ρ ρ' w → ρ' w.heap.size = pre ++ [4, id] → (∀ k, v'.ownBlock = some k → w.heap.size ≤ k → ρ' k = pre ++ [3]) → SpinAt pre ρ' w' sp q gv v' (ns ++ [⟨id, wt, 0, w.heap.size, src⟩])
section
variable {pre : List Int} {ρ : Roles} {sp : Nat} {q : Int} {gv : Bool} {v : Value} {ns : List Nd}
set_option maxRecDepth 100000 in
set_option maxHeartbeats 2000000 in
theorem ZcO (id wt : Int) (T : TypeId) (u : Value) (w : World) (hS : SpinAt pre ρ w sp q gv v ns) (hnew : ∀ n ∈ ns, n.id ≠ id) (hf : ns.length < 1000000) :
 Calls Tryz.prog 62 #[.pointer (some ⟨sp, 0, none⟩), .int .i64 id, .int .i64 wt, .iface T u] w (ZmP pre ρ w sp q gv ns id wt (.iface T u)) := by
 have HS := Lib.hid hS
 have HNEW := Lib.hid hnew
 have hspw := Zb hS.head
 have hvw := hS.arr.lt
 have HVW := Lib.hid hvw
 have hsv : v.ownBlock ≠ some sp := fun e => by have h1 := hS.ra sp e; rw [hS.rs] at h1; simp at h1
 have HSV := Lib.hid hsv
 have HL := Lib.hid (show (ns.map Nd.blk).length < 1000000 by simpa using hf)
 clear hS hnew hvw hsv
 go_enter Tryz.func62, Tryz.ntmps62
 go_upto_region 2 with fail
 obtain ⟨w1, hw1⟩ : ∃ w1 : World, w1 = w.alloc (.cells #[.int .i64 id, .int .i64 wt, .int .i64 0, .iface T u] 128) := ⟨_, rfl⟩
 rw [← hw1]
 have HB1 := Lib.hid (show Below w.heap.size w w1 by rw [hw1]; exact box_below)
 have hz1 : w1.heap.size = w.heap.size + 1 := by rw [hw1]; simp
 have HN1 := Lib.hid (show w1.heap[w.heap.size]? = some (.cells #[.int .i64 id, .int .i64 wt, .int .i64 0, .iface T u] 128 (0, 0)) by rw [hw1]; exact Zf)
 have HS1 := Lib.hid (HS.out.below HB1.out)
 have c1 := HS1.out.c1
 have hspw1 : sp < w1.heap.size := by omega
 have HZ1 := Lib.hid hz1
 have HSW := Lib.hid hspw1
 clear hw1 hz1
 go_wp2_with (at_builtin; refine Zax rfl _ _ 113 rfl 120 Tryz.underlying113 ZeM (bs := ns.map Nd.blk) rfl (HS1.out.arr.below box_below) w1.heap.size w.heap.size rfl (Zm rfl) HL.out ?_; intro v' w2 harr hg hat; obtain ⟨va, vn, vc, hvf⟩ : ∃ a n c, v' = Value.slice a n c := (by obtain ⟨a, c, h1, _⟩ := harr.form; exact ⟨a, _, c, h1⟩); subst hvf; (have HH2 := Lib.hid ((hg.block sp (Nat.lt_of_lt_of_le HSW.out box_below.size) (fun e => HSV.out e.symm)).trans (Zi HS1.out.head))); (have k1 := Za HH2.out (i := 1) rfl); (have g1 := Zd (i := 1) HH2.out))
 have HARR := Lib.hid harr
 have HG := Lib.hid hg
 have HAT := Lib.hid hat
 clear harr hg hat
 go_ret
 obtain ⟨v', hv'⟩ : ∃ v', v' = Value.slice va vn vc := ⟨_, rfl⟩
 rw [← hv'] at HARR HAT ⊢
 have hz1 := HZ1.out
 have hz2 : w1.heap.size + 1 ≤ w2.heap.size := by have := HG.out.size; simpa using this
 have hown : ∀ k, v'.ownBlock = some k → (v.ownBlock = some k) ∨ k = w1.heap.size + 1 := fun k hk => by
  rcases HAT.out with h | h
  ·exact .inl (h ▸ hk)
  ·rw [hk] at h
   simp at h
   exact .inr h
 have hF1 : Fp (Zs ρ pre) w w2 := ((Fp.of_below HB1.out).alloc _).grown HG.out (fun k _ hk => .inr (.inl (HS.out.ra k hk)))
 have hspv' : ∀ k, v'.ownBlock = some k → k ≠ sp := fun k hk e => by
  subst e
  rcases hown _ hk with h | h
  ·exact HSV.out h
  ·omega
 have hold : ∀ k, k < w1.heap.size → v.ownBlock ≠ some k → w2.heap[k]? = w1.heap[k]? := fun k hk hne => (HG.out.block k (by simp; omega) (fun e => hne e.symm)).trans (Below.heap_alloc _ _ _ hk)
 refine ⟨rfl, hF1.setCell (p := ⟨sp, 1, none⟩) (fun _ => .inl HS.out.rs) _, by simp [World.setCell]; omega, v', fun k hk => ⟨?_, ?_⟩, fun ρ' hl hr hr3 => ⟨Ze HH2.out, (hl sp hspw).trans HS.out.rs, ?_, fun k hk => ?_, fun i n hn => ?_, ?_, by simp; omega⟩⟩
 ·rcases hown k hk with h | h
  ·have := HVW.out k h; omega
  ·omega
 ·have := HARR.out.lt k hk
  simpa [World.setCell] using this
 ·have h := HARR.out.kept (w' := w2.setCell ⟨sp, 1, none⟩ v') (fun k hk => Zh (hspv' k hk))
  rw [List.map_append]
  exact h
 ·rcases Nat.lt_or_ge k w.heap.size with h | h
  ·rcases hown k hk with h1 | h1
   ·exact (hl k h).trans (HS.out.ra k h1)
   ·omega
  ·exact hr3 k hk h
 ·rcases Nat.lt_or_ge i ns.length with hi | hi
  ·rw [List.getElem?_append_left hi] at hn
   have h1 := HS.out.node i n hn
   have h2 := Zb h1.2
   refine ⟨(hl _ h2).trans h1.1, ?_⟩
   rw [Zh (fun e => by have h3 := HS.out.rs; rw [← e, h1.1] at h3; simp at h3), hold _ (by omega) (fun e => by have h3 := HS.out.ra _ e; rw [h1.1] at h3; simp at h3), HB1.out.block _ h2]
   exact h1.2
  ·have hi2 : i < (ns ++ [(⟨id, wt, 0, w.heap.size, .iface T u⟩ : Nd)]).length := (List.getElem?_eq_some_iff.1 hn).1
   have hi3 : i = ns.length := by simp at hi2; omega
   subst hi3
   rw [List.getElem?_append_right (by omega), Nat.sub_self] at hn
   simp at hn
   subst hn
   refine ⟨hr, ?_⟩
   rw [Zh (by show w.heap.size ≠ sp; omega), hold w.heap.size (by omega) (fun e => by have := HVW.out _ e; omega)]
   exact HN1.out
 ·rw [List.map_append, List.nodup_append]
  refine ⟨HS.out.once, by simp, fun a ha b hb => ?_⟩
  simp at hb
  subst hb
  obtain ⟨n, hn, rfl⟩ := List.mem_map.1 ha
  exact HNEW.out n hn
end
end Go.Proofs.YtdbjihkgafhakaaGreatDoor
/-
 slices.Index at nodes: the walk.
-/
namespace Go.Proofs.YtdbjihkgafhakaaGreatDoor
open Go.RowKit
theorem ZjS : ∃ j, Tryz.prog.info? 128 = some j ∧ j.size ≠ 0 := by
 have h : (Tryz.prog.info? 128).map (·.size) = some 4 := by kernel_rfl
 obtain ⟨j, hj, hs⟩ := Option.map_eq_some_iff.1 h
 exact ⟨j, hj, by rw [hs]; decide⟩
section
variable {pre : List Int} {ρ : Roles} {w : World} {sp : Nat} {q : Int} {gv : Bool} {v : Value} {ns : List Nd}
theorem SpinAt.apart (h : SpinAt pre ρ w sp q gv v ns) {i j : Nat} {m n : Nd} (hm : ns[i]? = some m) (hn : ns[j]? = some n) (hij : i ≠ j) : m.blk ≠ n.blk := fun e => by
 have h1 := (h.node i m hm).1
 rw [e, (h.node j n hn).1] at h1
 simp at h1
 have h2 : (ns.map Nd.id)[i]? = some m.id := by simp [hm]
 have h3 : (ns.map Nd.id)[j]? = some m.id := by simp [hn, h1]
 exact hij ((List.getElem?_inj (List.getElem?_eq_some_iff.1 h2).1 h.once).1 (h2.trans h3.symm))
end
section
variable {pre : List Int} {ρ : Roles} {sp : Nat} {q : Int} {gv : Bool} {v : Value} {ns : List Nd}
set_option maxRecDepth 100000 in
set_option maxHeartbeats 1000000 in
theorem Zhp (k : Nat) (n : Nd) (w : World) (hS : SpinAt pre ρ w sp q gv v ns) (hn : ns[k]? = some n) :
 Calls Tryz.prog 88 #[v, .pointer (some ⟨n.blk, 0, none⟩)] w fun e w' => e = .returned (.int .i64 k) ∧ w = w' := by
 have HS := Lib.hid hS
 have HN := Lib.hid hn
 have hkl : k < ns.length := (List.getElem?_eq_some_iff.1 hn).1
 obtain ⟨a, cap, rfl, -⟩ := hS.form
 have hfew := hS.few
 clear hS hn
 go_enter Tryz.func88, Tryz.ntmps88
 go_wp2
 go_loop [8] (fun i => ∃ j : Nat, i = .int .i64 j ∧ j ≤ k) (fun i => ns.length - (intOf i).toNat)
 case atStart => exact ⟨0, rfl, Nat.zero_le _⟩
 case round =>
  obtain ⟨j, rfl, hj⟩ := hrel
  have hjl : j < ns.length := by omega
  obtain ⟨x, hx⟩ : ∃ x, ns[j]? = some x := ⟨_, List.getElem?_eq_getElem hjl⟩
  obtain ⟨g, off, cap', hv, hc⟩ := HS.out.at hx
  cases hv
  by_cases hjk : j = k
  ·subst hjk
   obtain rfl : n = x := Option.some.inj (HN.out.symm.trans hx)
   obtain ⟨nj, hnj, hnz⟩ := ZjS
   have heq := run_eql_ptr_same (P := Tryz.prog) w ⟨n.blk, 0, none⟩ Tryz.underlying120 hnj
   clear hx hnj hnz
   go_wp2
   go_ret
   exact ⟨rfl, rfl⟩
  ·have hne := HS.out.apart HN.out hx (Ne.symm hjk)
   obtain ⟨nj, hnj, hnz⟩ := ZjS
   have heq := run_eql_ptr_other (P := Tryz.prog) w (a := ⟨n.blk, 0, none⟩) (b := ⟨x.blk, 0, none⟩) Tryz.underlying120 hnj hnz (fun e => hne (congrArg Addr.block e)) (HS.out.node k n HN.out).2 (HS.out.node j x hx).2
   clear hnj hnz
   have HJ := Lib.hid (show j + 1 ≤ k by omega)
   clear hx hjk
   go_wp2
   go_round
   case rel => exact ⟨j + 1, by go_num, HJ.out⟩
   case measure => simp [intOf]; omega
end
end Go.Proofs.YtdbjihkgafhakaaGreatDoor
/-
 slices.Delete of one node: the walk.
-/
namespace Go.Proofs.YtdbjihkgafhakaaGreatDoor
open Go.RowKit
/-! ### Cells laid one behind the other -/
def layV (cur : Array Value) : Nat → List Value → Array Value
 | _, [] => cur
 | o, v :: r => layV (cur.setIfInBounds o v) (o + 1) r
theorem Zc5 : ∀ (vs : List Value) (cur : Array Value) (o : Nat), (layV cur o vs).size = cur.size
 | [], _, _ => rfl
 | v :: r, cur, o => by rw [layV, Zc5 r]; simp
theorem ZdE : ∀ (vs : List Value) (cur : Array Value) (o j : Nat), (j < o ∨ o + vs.length ≤ j) → (layV cur o vs)[j]? = cur[j]?
 | [], _, _, _, _ => rfl
 | v :: r, cur, o, j, h => by
   rw [List.length_cons] at h
   rw [layV, ZdE r _ _ _ (by omega), Array.getElem?_setIfInBounds_ne (by omega)]
theorem ZjT : ∀ (vs : List Value) (cur : Array Value) (o i : Nat) {u : Value}, vs[i]? = some u → o + vs.length ≤ cur.size → (layV cur o vs)[o + i]? = some u
 | [], _, _, _, _, h, _ => by simp at h
 | v :: r, cur, o, 0, u, h, hs => by
   simp at h
   subst h
   rw [List.length_cons] at hs
   rw [layV, ZdE r _ _ _ (by omega), Nat.add_zero, Array.getElem?_setIfInBounds_self_of_lt (by omega)]
 | v :: r, cur, o, i + 1, u, h, hs => by
   rw [List.length_cons] at hs
   rw [layV, show o + (i + 1) = o + 1 + i by omega]
   exact ZjT r _ _ i (by simpa using h) (by simp; omega)
theorem Zef : ∀ (vs : List Value) (o : Nat) {w : World} {g : Nat} {cur : Array Value} {t : TypeId} {fr : Nat × Nat}, w.heap[g]? = some (.cells cur t fr) → (w.setCells g o vs).heap[g]? = some (.cells (layV cur o vs) t fr)
 | [], _, _, _, _, _, _, h => h
 | v :: r, o, w, g, cur, t, fr, h => by rw [World.setCells, layV]; exact Zef r (o + 1) (Ze h)
theorem Fp.setCells {S : Nat → Prop} {w : World} {g : Nat} (hg : g < w.heap.size → S g) : ∀ (vs : List Value) (o : Nat) {w' : World}, Fp S w w' → Fp S w (w'.setCells g o vs)
 | [], _, _, h => h
 | v :: r, o, w', h => by rw [World.setCells]; exact Fp.setCells hg r (o + 1) (h.setCell (p := ⟨g, o, none⟩) hg v)
theorem Zhq (w : World) (ty : TypeId) (g o c : Nat) (hc : (w.cell? ⟨g, o, none⟩).isSome = true) (hf : w.frozen? ⟨g, o, none⟩ = false) :
 (Builtin.clear_ #[113] ty #[.slice (some ⟨g, o, none⟩) 1 c]).run Tryz.prog w = .ok (.tuple #[]) (w.setCells g o [.pointer none]) := by
 have hc0 : ∀ j, j < ([Value.pointer none] : List Value).length → (w.cell? ⟨g, o + 0 + j, none⟩).isSome = true := by
  intro j hj
  have h0 : j = 0 := by simpa using hj
  subst h0
  simpa using hc
 have hf0 : ∀ j, j < ([Value.pointer none] : List Value).length → w.frozen? ⟨g, o + 0 + j, none⟩ = false := by
  intro j hj
  have h0 : j = 0 := by simpa using hj
  subst h0
  simpa using hf
 have h1 : ∀ u ∈ ([Value.pointer none] : List Value), u.oneCell' = true := by
  intro u hu
  rw [List.mem_singleton] at hu
  subst hu
  rfl
 have hst := run_storeCells_cells (P := Tryz.prog) g o [.pointer none] 0 w hc0 hf0 h1
 simp only [Nat.add_zero] at hst
 have hz : (Builtin.zeroCells (Value.cells (.pointer none)) 1).toList = [.pointer none] := by kernel_rfl
 simp [Builtin.clear_, run_underlying Tryz.underlying113, hz, hst]
def ZhQ (w : World) (v : Value) (bs : List Nat) (k : Nat) (e : Ending) (w' : World) : Prop :=
 ∃ v', e = .returned v' ∧ ArrIn 120 w' v' (bs.eraseIdx k) ∧ v'.ownBlock = v.ownBlock ∧ Fp (fun j => v.ownBlock = some j) w w'
set_option maxRecDepth 100000 in
set_option maxHeartbeats 4000000 in
theorem Zdp (v : Value) (bs : List Nat) (k : Nat) (w : World) (hA : ArrIn 120 w v bs) (hk : k < bs.length) (hl : bs.length ≤ 1000000) :
 Calls Tryz.prog 89 #[v, .int .i64 k, .int .i64 ((k : Int) + 1)] w (ZhQ w v bs k) := by
 obtain ⟨i0, hi0, hz0, hz1, hz2⟩ := info_parts ZeM
 rcases hA with ⟨_, rfl⟩ | ⟨g, off, cap, cur, rfl, hh, hfit, hle, hcm, hc⟩
 ·simp at hk
 have hcell : ∀ j, j < cap → (w.cell? ⟨g, off + j, none⟩).isSome = true ∧ w.frozen? ⟨g, off + j, none⟩ = false := by
  intro j hj
  obtain ⟨u, hu⟩ : ∃ u, cur[off + j]? = some u := ⟨_, Array.getElem?_eq_getElem (by omega)⟩
  exact ⟨by rw [Za hh hu]; rfl, Zd hh⟩
 obtain ⟨news, hnews⟩ : ∃ news, news = (bs.drop (k + 1)).map ptrV := ⟨_, rfl⟩
 have hlen : news.length = bs.length - (k + 1) := by rw [hnews]; simp
 have hget : ∀ t u, news[t]? = some u → w.cell? ⟨g, off + (k + 1) + t, none⟩ = some u := by
  intro t u hu
  rw [hnews, List.getElem?_map, List.getElem?_drop] at hu
  obtain ⟨b, hb, rfl⟩ := Option.map_eq_some_iff.1 hu
  have := Za hh (hc _ b hb)
  rw [Nat.add_assoc]
  exact this
 obtain ⟨A, hA, hsrc⟩ : ∃ A : Addr, (if cap = k + 1 then some (⟨g, off, none⟩ : Addr) else some ⟨g, off + (k + 1), none⟩) = some A ∧ Hid (∀ t u, news[t]? = some u → w.drew.cell? (A.add t) = some u) := by
  by_cases h : cap = k + 1
  ·refine ⟨⟨g, off, none⟩, by simp [h], fun t u hu => ?_⟩
   have h0 : news.length = 0 := by rw [hlen]; omega
   rw [List.length_eq_zero_iff.1 h0] at hu
   simp at hu
  ·refine ⟨⟨g, off + (k + 1), none⟩, by simp [h], fun t u hu => ?_⟩
   rw [show (⟨g, off + (k + 1), none⟩ : Addr).add t = ⟨g, off + (k + 1) + t, none⟩ by unfold Addr.add; split <;> simp_all]
   exact hget t u hu
 have s1 : Hid (news.length = (bs.length - (k + 1)) * 1) := by show _ = _; omega
 have s2 : Hid (∀ u ∈ news, u.oneCell' = true) := by
  intro u hu
  rw [hnews] at hu
  obtain ⟨b, _, rfl⟩ := List.mem_map.1 hu
  rfl
 have s3 : Hid (∀ t, t < news.length → (w.drew.cell? ⟨g, off + k * 1 + t, none⟩).isSome = true ∧ w.drew.frozen? ⟨g, off + k * 1 + t, none⟩ = false) := by
  intro t ht
  rw [hlen] at ht
  have := hcell (k + t) (by omega)
  rw [Nat.mul_one, Nat.add_assoc]
  exact this
 obtain ⟨W1, hW1⟩ : ∃ W1, W1 = w.drew.setCells g (off + k * 1) news := ⟨_, rfl⟩
 have hh1 : W1.heap[g]? = some (.cells (layV cur (off + k) news) 120 (0, 0)) := by rw [hW1, Nat.mul_one]; exact Zef news (off + k) (w := w.drew) hh
 have hcl : ∀ ty, (Builtin.clear_ #[113] ty #[.slice (some ⟨g, off + (bs.length - 1), none⟩) 1 (cap - (bs.length - 1))]).run Tryz.prog W1 = .ok (.tuple #[]) (W1.setCells g (off + (bs.length - 1)) [.pointer none]) := fun ty =>
  Zhq W1 ty g _ _ (by
   obtain ⟨u, hu⟩ : ∃ u, (layV cur (off + k) news)[off + (bs.length - 1)]? = some u := ⟨_, Array.getElem?_eq_getElem (by rw [Zc5]; omega)⟩
   rw [Za hh1 hu]; rfl) (Zd hh1)
 have hel : (bs.eraseIdx k).length = bs.length - 1 := List.length_eraseIdx_of_lt hk
 have hS : ∀ n, g < n → (Value.slice (some ⟨g, off, none⟩) bs.length cap).ownBlock = some g := fun _ _ => rfl
 have hF1 : Fp (fun j => (Value.slice (some ⟨g, off, none⟩) bs.length cap).ownBlock = some j) w W1 := by
  rw [hW1]
  exact Fp.setCells (hS _) _ _ (Fp.refl _ w).drew
 have hF2 := Fp.setCells (S := fun j => (Value.slice (some ⟨g, off, none⟩) bs.length cap).ownBlock = some j) (hS _) [.pointer none] (off + (bs.length - 1)) hF1
 have hfin : ZhQ w (.slice (some ⟨g, off, none⟩) bs.length cap) bs k (.returned (.slice (some ⟨g, off, none⟩) (bs.length - 1) cap)) (W1.setCells g (off + (bs.length - 1)) [.pointer none]) := by
  refine ⟨_, rfl, .inr ⟨g, off, cap, _, by rw [hel], Zef _ _ hh1, by rw [Zc5, Zc5]; exact hfit, by rw [hel]; omega, hcm, fun i b hb => ?_⟩, rfl, hF2⟩
  have hi : i < bs.length - 1 := by rw [← hel]; exact (List.getElem?_eq_some_iff.1 hb).1
  rw [ZdE _ _ _ _ (by omega)]
  rw [List.getElem?_eraseIdx] at hb
  split at hb
  ·rw [ZdE _ _ _ _ (by omega)]
   exact hc i b hb
  ·rename_i h1
   have hn : news[i - k]? = some (ptrV b) := by
    rw [hnews, List.getElem?_map, List.getElem?_drop, show k + 1 + (i - k) = i + 1 by omega, hb]
    rfl
   have := ZjT news cur (off + k) (i - k) hn (by rw [hlen]; omega)
   rwa [show off + k + (i - k) = off + i by omega] at this
 have HFIN := Lib.hid hfin
 have HW := Lib.hid hW1
 have hn1 : k + (bs.length - (k + 1)) = bs.length - 1 := by omega
 have hn2 : bs.length - (bs.length - 1) = 1 := by omega
 have HN1 := Lib.hid hn1
 have hic : k ≤ cap := by omega
 have hjc : k + 1 ≤ cap := by omega
 have hcm2 : cap ≤ 9223372036854775807 := by unfold maxLen at hcm; omega
 clear hW1 hh1 hcell hget hlen hc hh hnews hcm hn1 hfin hel hfit
 go_enter Tryz.func89, Tryz.ntmps89
 have hb1 : (0 : Int) ≤ (k : Int) + 1 := by omega
 have hb2 : (k : Int) + 1 ≤ (bs.length : Int) := by omega
 go_wp2_with fail
 go_region_law (refine step_append_room rfl (.tmp 22) (.tmp 25) 113 rfl 120 i0 1 Tryz.underlying113 hi0 hz1 g off k cap (by simp [Act.eval, Act.put]) A (bs.length - (k + 1)) (cap - (k + 1)) news (by simp [Act.eval, Act.put]) s1.out hsrc.out s2.out (by omega) s3.out ?_; rw [← HW.out])
 rw [HN1.out]
 go_wp2
 go_ret
 exact HFIN.out
end Go.Proofs.YtdbjihkgafhakaaGreatDoor
/-
 flow's source: Empty; spin's Tidy: the walks.
-/
namespace Go.Proofs.YtdbjihkgafhakaaGreatDoor
open Go.RowKit
section
variable {pre : List Int} {ρ : Roles} {q : Nat} {l : List It}
set_option maxRecDepth 100000 in
set_option maxHeartbeats 1000000 in
theorem ZhR (w : World) (hQ : QueAt pre ρ w q l) : Calls Tryz.prog 169 #[.agg #[.pointer (some ⟨q, 0, none⟩)]] w fun e w' => e = .returned (.bool ((l.length : Int) == 0)) ∧ Below w.heap.size w w' := by
 have HQ := Lib.hid hQ
 clear hQ
 go_enter Tryz.func169, Tryz.ntmps169
 go_wp2_with fail
 have HB := Lib.hid ((Below.refl w.heap.size w).alloc (Nat.le_refl _) (.cells #[.pointer (some ⟨q, 0, none⟩)] 171))
 refine (ZiV _ (HQ.out.below HB.out)).mono ?_
 rintro e w1 ⟨rfl, rfl⟩
 go_wp2
 go_ret
 exact ⟨rfl, HB.out⟩
end
section
variable {pre : List Int} {ρ : Roles} {sp : Nat} {q : Int} {gv : Bool} {v : Value} {ns : List Nd}
set_option maxRecDepth 100000 in
set_option maxHeartbeats 1000000 in
theorem Zeg (k : Nat) (n : Nd) (w : World) (hS : SpinAt pre ρ w sp q gv v ns) (hn : ns[k]? = some n) (T K : Nat) (u u' : Value) (hsrc : n.src = .iface T u)
 (hm : ∀ w, (method 353 T u "Empty").run Tryz.prog w = .ok (K, u') w) (hk : ∀ w, (callFunc K #[u']).run Tryz.prog w = .ok (.enter K #[u']) w)
 (hE : ∀ w', Below w.heap.size w w' → Calls Tryz.prog K #[u'] w' fun e w2 => e = .returned (.bool false) ∧ Below w'.heap.size w' w2) :
 Calls Tryz.prog 64 #[.pointer (some ⟨sp, 0, none⟩), .pointer (some ⟨n.blk, 0, none⟩)] w fun e w' => e = .returned (.tuple #[]) ∧ Below w.heap.size w w' := by
 have HS := Lib.hid hS
 have HN := Lib.hid hn
 have c3 : w.cell? ⟨n.blk, 3, none⟩ = some (.iface T u) := by rw [← hsrc]; exact Za (hS.node k n hn).2 rfl
 clear hS hn
 go_enter Tryz.func64, Tryz.ntmps64
 go_wp2_with fail
 refine (hE _ (Below.refl _ _)).mono ?_
 rintro e w1 ⟨rfl, hb⟩
 have HB := Lib.hid hb
 clear hb
 go_wp2
 (try simp only [Exit.inBlock, Exit.then])
 refine bodyPost_ret (results_none rfl _ _ _) rfl ?_
 exact ⟨rfl, HB.out⟩
end
end Go.Proofs.YtdbjihkgafhakaaGreatDoor
/-
 spin's Tidy of an empty source: the walk.
-/
namespace Go.Proofs.YtdbjihkgafhakaaGreatDoor
open Go.RowKit
section
variable {pre : List Int} {ρ : Roles} {sp : Nat} {q : Int} {gv : Bool} {v : Value} {ns : List Nd}
def ZhS (pre : List Int) (ρ : Roles) (w : World) (sp : Nat) (q : Int) (gv : Bool) (v : Value) (ns : List Nd) (k : Nat) (e : Ending) (w' : World) : Prop :=
 e = .returned (.tuple #[]) ∧ (∃ v', SpinAt pre ρ w' sp q (if k = 0 then false else gv) v' (ns.eraseIdx k)) ∧ Fp (fun j => j = sp ∨ v.ownBlock = some j) w w'
theorem ZdF {w w' : World} {g' : Bool} (h : SpinAt pre ρ w sp q gv v ns) (hf : Fp (fun j => j = sp) w w') (hh : w'.heap[sp]? = some (.cells #[.int .i64 q, v, .bool g'] 115 (0, 0))) : SpinAt pre ρ w' sp q g' v ns :=
 ⟨hh, h.rs, h.arr.frame hf (fun k hk e => by have h1 := h.ra k hk; rw [e, h.rs] at h1; simp at h1), h.ra,
   fun i n hn => ⟨(h.node i n hn).1, hf.heap (h.node i n hn).2 (fun e => by have h1 := (h.node i n hn).1; rw [e, h.rs] at h1; simp at h1)⟩, h.once, h.few⟩
theorem eraseIdx_map' {α β : Type} (f : α → β) : ∀ (l : List α) (k : Nat), (l.eraseIdx k).map f = (l.map f).eraseIdx k
 | [], _ => rfl
 | _ :: _, 0 => rfl
 | x :: r, k + 1 => by simp [eraseIdx_map' f r k]
theorem ZfW (k : Nat) {w w3 w4 : World} {g' : Bool} {v' : Value} (hf3 : Fp (fun j => j = sp) w w3) (h3 : SpinAt pre ρ w3 sp q g' v ns) (hg : g' = if k = 0 then false else gv)
 (hA : ArrIn 120 w4 v' ((ns.map Nd.blk).eraseIdx k)) (ho : v'.ownBlock = v.ownBlock) (hf4 : Fp (fun j => v.ownBlock = some j) w3 w4) :
 ZhS pre ρ w sp q gv v ns k (.returned (.tuple #[])) (w4.setCell ⟨sp, 1, none⟩ v') := by
 have hsv : v.ownBlock ≠ some sp := fun e => by have h1 := h3.ra sp e; rw [h3.rs] at h1; simp at h1
 have hh4 := hf4.heap h3.head hsv
 have hf5 : Fp (fun j => j = sp) w4 (w4.setCell ⟨sp, 1, none⟩ v') := (Fp.refl (fun j => j = sp) w4).setCell (p := ⟨sp, 1, none⟩) (fun _ => rfl) v'
 refine ⟨rfl, ⟨v', ?_, h3.rs, ?_, fun j hj => h3.ra j (ho ▸ hj), fun i m hm => ?_, ?_, ?_⟩, ?_⟩
 ·rw [← hg]
  exact Ze hh4
 ·have hA' := hA.frame hf5 (fun j hj e => hsv (by rw [← ho, hj, e]))
  rwa [show (ns.eraseIdx k).map Nd.blk = (ns.map Nd.blk).eraseIdx k from eraseIdx_map' _ _ _]
 ·obtain ⟨j, hj⟩ := List.mem_iff_getElem?.1 (List.mem_of_mem_eraseIdx (List.mem_of_getElem? hm))
  obtain ⟨hr, hc⟩ := h3.node j m hj
  refine ⟨hr, hf5.heap (hf4.heap hc (fun e => ?_)) (fun e => ?_)⟩
  ·have h1 := h3.ra _ e
   rw [hr] at h1
   simp at h1
  ·rw [e, h3.rs] at hr
   simp at hr
 ·exact h3.once.sublist ((List.eraseIdx_sublist ns k).map Nd.id)
 ·exact Nat.le_trans (List.eraseIdx_sublist ns k).length_le h3.few
 ·refine Fp.trans (hf3.mono (fun j hj => .inl hj)) ((hf4.mono (S' := fun j => j = sp ∨ v.ownBlock = some j) (fun j hj => .inr hj)).trans (hf5.mono (S' := fun j => j = sp ∨ v.ownBlock = some j) (fun j hj => .inl hj)) (fun _ _ h => h)) (fun _ _ h => h)
set_option maxRecDepth 100000 in
set_option maxHeartbeats 2000000 in
theorem Zd4 (k : Nat) (n : Nd) (w : World) (hS : SpinAt pre ρ w sp q gv v ns) (hn : ns[k]? = some n) (T K : Nat) (u u' : Value) (hsrc : n.src = .iface T u)
 (hm : ∀ w, (method 353 T u "Empty").run Tryz.prog w = .ok (K, u') w) (hk : ∀ w, (callFunc K #[u']).run Tryz.prog w = .ok (.enter K #[u']) w)
 (hE : ∀ w', Below w.heap.size w w' → Calls Tryz.prog K #[u'] w' fun e w2 => e = .returned (.bool true) ∧ Below w'.heap.size w' w2) :
 Calls Tryz.prog 64 #[.pointer (some ⟨sp, 0, none⟩), .pointer (some ⟨n.blk, 0, none⟩)] w (ZhS pre ρ w sp q gv v ns k) := by
 have HS := Lib.hid hS
 have HN := Lib.hid hn
 have c3 : w.cell? ⟨n.blk, 3, none⟩ = some (.iface T u) := by rw [← hsrc]; exact Za (hS.node k n hn).2 rfl
 clear hS hn
 go_enter Tryz.func64, Tryz.ntmps64
 go_wp2_with fail
 refine (hE _ (Below.refl _ _)).mono ?_
 rintro e w1 ⟨rfl, hb⟩
 have HB := Lib.hid hb
 have HS1 := Lib.hid (HS.out.below hb)
 have d1 := HS1.out.c1
 have hkn : k < ns.length := (List.getElem?_eq_some_iff.1 HN.out).1
 obtain ⟨a, cap, hv, hcap⟩ := HS1.out.form
 have HV := Lib.hid hv
 rw [hv] at d1
 clear hb hE c3 hv
 go_wp2_with fail
 have hidx := Zhp k n w1 HS1.out HN.out
 rw [HV.out] at hidx
 refine hidx.mono ?_
 rintro e w2 ⟨rfl, rfl⟩
 clear hidx
 have d2 := HS1.out.c2
 have f2 : w1.frozen? ⟨sp, 2, none⟩ = false := Zd HS1.out.head
 by_cases hk0 : k = 0
 ·subst hk0
  have hz : (((0 : Nat) : Int) == 0) = true := rfl
  obtain ⟨w3, hw3⟩ : ∃ w3, w3 = w1.setCell ⟨sp, 2, none⟩ (.bool false) := ⟨_, rfl⟩
  have hF13 : Fp (fun j => j = sp) w1 w3 := by rw [hw3]; exact (Fp.refl (fun j => j = sp) w1).setCell (p := ⟨sp, 2, none⟩) (fun _ => rfl) _
  have HF3 := Lib.hid (Fp.trans (Fp.of_below (S := fun j => j = sp) HB.out) hF13 (fun _ _ h => h))
  have H3 := Lib.hid (ZdF HS1.out hF13 (by rw [hw3]; exact Ze HS1.out.head) : SpinAt pre ρ w3 sp q (if (0 : Nat) = 0 then false else gv) v ns)
  go_wp2_with fail
  rw [← hw3]
  clear hw3 hF13
  have hdel := Zdp v (ns.map Nd.blk) 0 w3 H3.out.arr (by rw [List.length_map]; exact hkn) (by rw [List.length_map]; exact H3.out.few)
  rw [HV.out] at hdel
  refine hdel.mono ?_
  rintro e w4 ⟨v', rfl, hA, ho, hf4⟩
  rw [← HV.out] at ho hf4
  have HC := Lib.hid (ZfW (gv := gv) 0 HF3.out H3.out rfl hA ho hf4)
  obtain ⟨a', c', hv', -⟩ := hA.form
  rw [List.length_eraseIdx_of_lt (by rw [List.length_map]; exact hkn), List.length_map] at hv'
  have hsv : v.ownBlock ≠ some sp := fun e => by have h1 := H3.out.ra sp e; rw [H3.out.rs] at h1; simp at h1
  have hh4 := hf4.heap H3.out.head hsv
  have d4 : w4.cell? ⟨sp, 1, none⟩ = some v := Za hh4 rfl
  have f4 : w4.frozen? ⟨sp, 1, none⟩ = false := Zd hh4
  subst hv'
  clear hdel hA ho hf4 hh4 hsv d1 d2 f2
  go_wp2
  go_end0
  exact HC.out
 ·have hz : (((k : Nat) : Int) == 0) = false := by simpa using hk0
  have HG := Lib.hid (show gv = if k = 0 then false else gv by rw [if_neg hk0])
  have HF3 := Lib.hid (Fp.of_below (S := fun j => j = sp) HB.out)
  have hfew := HS1.out.few
  have HW := Lib.hid (show wrap64 ((k : Int) + 1) = (k : Int) + 1 by unfold wrap64; omega)
  clear hfew
  clear hk0
  go_wp2_with fail
  rw [HW.out]
  have hdel := Zdp v (ns.map Nd.blk) k w1 HS1.out.arr (by rw [List.length_map]; exact hkn) (by rw [List.length_map]; exact HS1.out.few)
  rw [HV.out] at hdel
  refine hdel.mono ?_
  rintro e w4 ⟨v', rfl, hA, ho, hf4⟩
  rw [← HV.out] at ho hf4
  have HC := Lib.hid (ZfW (gv := gv) k HF3.out HS1.out HG.out hA ho hf4)
  obtain ⟨a', c', hv', -⟩ := hA.form
  rw [List.length_eraseIdx_of_lt (by rw [List.length_map]; exact hkn), List.length_map] at hv'
  have hsv : v.ownBlock ≠ some sp := fun e => by have h1 := HS1.out.ra sp e; rw [HS1.out.rs] at h1; simp at h1
  have hh4 := hf4.heap HS1.out.head hsv
  have d4 : w4.cell? ⟨sp, 1, none⟩ = some v := Za hh4 rfl
  have f4 : w4.frozen? ⟨sp, 1, none⟩ = false := Zd hh4
  subst hv'
  clear hdel hA ho hf4 hh4 hsv d1 d2 f2
  go_wp2
  go_end0
  exact HC.out
end
end Go.Proofs.YtdbjihkgafhakaaGreatDoor
/-
 Going round among nodes by deficits, in plain words.
-/
namespace Go.Proofs.YtdbjihkgafhakaaGreatDoor
open Go.RowKit
def ZD (q : Int) (gv : Bool) (n : Nd) : Nd := if gv then n else { n with df := n.df + q * n.wt }
section
variable {α : Type}
inductive Picks (q : Int) (pk : α → Int → α × It) : Bool → List Nd → α → List Nd → α → It → Prop
 | grant {gv : Bool} {n : Nd} {r : List Nd} {a : α} (h : (pk a n.id).2.cost ≤ (ZD q gv n).df) : Picks q pk gv (n :: r) a (ZD q gv n :: r) (pk a n.id).1 (pk a n.id).2
 | rotate {gv : Bool} {n : Nd} {r : List Nd} {a : α} {ns2 : List Nd} {a2 : α} {y : It} (h : ¬ (pk a n.id).2.cost ≤ (ZD q gv n).df) (hr : Picks q pk false (r ++ [ZD q gv n]) (pk a n.id).1 ns2 a2 y) : Picks q pk gv (n :: r) a ns2 a2 y
theorem Picks.once {q : Int} {pk : α → Int → α × It} {gv : Bool} {ns : List Nd} {a : α} {ns2 ns3 : List Nd} {a2 a3 : α} {y z : It} (h : Picks q pk gv ns a ns2 a2 y) (h' : Picks q pk gv ns a ns3 a3 z) : ns2 = ns3 ∧ a2 = a3 ∧ y = z := by
 induction h with
 | grant h =>
   cases h' with
   | grant => exact ⟨rfl, rfl, rfl⟩
   | rotate h1 => exact absurd h h1
 | rotate h _ ih =>
   cases h' with
   | grant h1 => exact absurd h1 h
   | rotate _ h2 => exact ih h2
end
def NdOk (top : Int) (n : Nd) : Prop := 1 ≤ n.wt ∧ n.wt ≤ 16 ∧ 0 ≤ n.df ∧ n.df ≤ top
def NdsOk (gv : Bool) : List Nd → Prop
 | [] => True
 | n :: r => NdOk (if gv then 2112 else 1088) n ∧ ∀ m ∈ r, NdOk 1088 m
theorem NdOk.mono {t t' : Int} {n : Nd} (h : NdOk t n) (ht : t ≤ t') : NdOk t' n := ⟨h.1, h.2.1, h.2.2.1, Int.le_trans h.2.2.2 ht⟩
theorem ZaC {ns : List Nd} : NdsOk false ns ↔ ∀ m ∈ ns, NdOk 1088 m := by
 cases ns with
 | nil => simp [NdsOk]
 | cons n r => simp [NdsOk]
theorem Zcr {q w : Int} (hq1 : 1 ≤ q) (hq : q ≤ 64) (hw1 : 1 ≤ w) (hw : w ≤ 16) : 1 ≤ q * w ∧ q * w ≤ 1024 := by
 have h1 : 1 * 1 ≤ q * w := Int.mul_le_mul hq1 hw1 (by decide) (by omega)
 have h2 : q * w ≤ 64 * 16 := Int.mul_le_mul hq hw (by omega) (by decide)
 omega
theorem Zcs {q : Int} {gv : Bool} {n : Nd} (hq1 : 1 ≤ q) (hq : q ≤ 64) (h : NdOk (if gv then 2112 else 1088) n) : NdOk 2112 (ZD q gv n) := by
 cases gv with
 | true => exact h
 | false =>
   have hm := Zcr hq1 hq h.1 h.2.1
   obtain ⟨h1, h2, h3, h4⟩ := h
   exact ⟨h1, h2, by simp only [ZD]; simp; omega, by simp only [ZD]; simp at h4 ⊢; omega⟩
theorem Zeh {q c : Int} {gv : Bool} {n : Nd} {r : List Nd} (hq1 : 1 ≤ q) (hq : q ≤ 64) (hc : c ≤ 64) (h : NdsOk gv (n :: r)) (hn : ¬ c ≤ (ZD q gv n).df) : NdsOk false (r ++ [ZD q gv n]) := by
 rw [ZaC]
 intro m hm
 rcases List.mem_append.1 hm with hm | hm
 ·exact h.2 m hm
 ·rw [List.mem_singleton] at hm
  subst hm
  obtain ⟨h1, h2, h3, _⟩ := Zcs hq1 hq h.1
  exact ⟨h1, h2, h3, by omega⟩
def lack (ns : List Nd) : Nat := (ns.map (fun n => (65 - n.df).toNat)).sum
def Zac (gv : Bool) (ns : List Nd) : Nat := 2 * lack ns + if gv then 2 else 1
theorem Zcl {q c : Int} {gv : Bool} {n : Nd} {r : List Nd} (hq1 : 1 ≤ q) (hq : q ≤ 64) (hc : c ≤ 64) (h : NdsOk gv (n :: r)) (hn : ¬ c ≤ (ZD q gv n).df) : Zac false (r ++ [ZD q gv n]) < Zac gv (n :: r) := by
 have hs : lack (r ++ [ZD q gv n]) = lack r + (65 - (ZD q gv n).df).toNat := by simp [lack]
 have hs2 : lack (n :: r) = (65 - n.df).toNat + lack r := by simp [lack]
 unfold Zac
 rw [hs, hs2]
 cases gv with
 | true => simp [ZD]; omega
 | false =>
   have hm := Zcr hq1 hq h.1.1 h.1.2.1
   simp only [ZD, Bool.false_eq_true, if_false] at hn ⊢
   omega
theorem Z4 (q : Int) (gv : Bool) (n : Nd) : (ZD q gv n).id = n.id ∧ (ZD q gv n).blk = n.blk ∧ (ZD q gv n).src = n.src ∧ (ZD q gv n).wt = n.wt := by
 cases gv <;> exact ⟨rfl, rfl, rfl, rfl⟩
end Go.Proofs.YtdbjihkgafhakaaGreatDoor
/-
 spin's Pick: the walk.
-/
namespace Go.Proofs.YtdbjihkgafhakaaGreatDoor
open Go.RowKit
def itV (x : It) : Value := .agg #[.int .i64 x.id, .int .i64 x.cost]
def Zbr (ρ : Roles) (pre : List Int) (k : Nat) : Prop := ∃ s, ρ k = pre ++ 5 :: s
structure SrcLaw {α : Type} (pre : List Int) (T K : Nat) (ok : Int → Value → Prop) (In : α → Roles → World → Prop) (pk : α → Int → α × It) : Prop where
 later : ∀ {a ρ ρ' w}, In a ρ w → Later ρ ρ' w → In a ρ' w
 frame : ∀ {a ρ w w'} {S : Nat → Prop}, In a ρ w → Fp S w w' → (∀ k, k < w.heap.size → Zbr ρ pre k → ¬ S k) → In a ρ w'
 cost : ∀ {a ρ w id src}, In a ρ w → ok id src → 1 ≤ (pk a id).2.cost ∧ (pk a id).2.cost ≤ 64
 call : ∀ {a ρ w id src}, In a ρ w → ok id src → ∃ u u', src = .iface T u ∧ (∀ w, (method 353 T u "Pick").run Tryz.prog w = .ok (K, u') w) ∧ (∀ w, (callFunc K #[u']).run Tryz.prog w = .ok (.enter K #[u']) w) ∧
  Calls Tryz.prog K #[u'] w fun e w' => e = .returned (.tuple #[itV (pk a id).2, .bool true]) ∧ ∃ ρ', Later ρ ρ' w ∧ (∀ k, w.heap.size ≤ k → ρ' k = ρ k ∨ Zbr ρ' pre k) ∧ In (pk a id).1 ρ' w' ∧ Fp (Zbr ρ pre) w w'
section
variable {pre : List Int} {ρ : Roles} {sp : Nat} {q : Int} {gv : Bool} {v : Value} {ns : List Nd}
end
def ZA (ρ' : Roles) (pre : List Int) (n : Nat) : Prop := ∀ k, n ≤ k → ρ' k = [] ∨ Part ρ' pre k
def ZaN (ρ : Roles) (pre : List Int) (k : Nat) : Prop := Zs ρ pre k ∨ Zbr ρ pre k
def ZhT {α : Type} (pre : List Int) (ρ : Roles) (In : α → Roles → World → Prop) (q : Int) (pk : α → Int → α × It) (w : World) (sp : Nat) (gv : Bool) (ns : List Nd) (a : α) (e : Ending) (w' : World) : Prop :=
 ∃ n r a2 x v' ρ', e = .returned (.tuple #[.pointer (some ⟨n.blk, 0, none⟩), itV x, .bool true]) ∧ Picks q pk gv ns a (n :: r) a2 x ∧ NdsOk true (n :: r) ∧ Later ρ ρ' w ∧ ZA ρ' pre w.heap.size ∧ SpinAt pre ρ' w' sp q true v' (n :: r) ∧ In a2 ρ' w' ∧ Fp (ZaN ρ pre) w w'
structure PRel {α : Type} (pre : List Int) (ρ : Roles) (In : α → Roles → World → Prop) (ok : Int → Value → Prop) (q : Int) (pk : α → Int → α × It) (w : World) (sp : Nat) (gv0 : Bool) (ns0 : List Nd) (a0 : α) (g : Nat) (wr : World) (gv : Bool) (n : Nd) (r : List Nd) (a : α) (v : Value) (ρr : Roles) : Prop where
 less : g = Zac gv (n :: r)
 good : NdsOk gv (n :: r)
 same : ∀ ns2 a2 y, Picks q pk gv (n :: r) a ns2 a2 y → Picks q pk gv0 ns0 a0 ns2 a2 y
 oks : ∀ m ∈ n :: r, ok m.id m.src
 later : Later ρ ρr w
 news : ZA ρr pre w.heap.size
 cellR : ρr w.heap.size = []
 cell : wr.heap[w.heap.size]? = some (.cells #[.int .i64 0, .int .i64 0] 132 (0, 0))
 ring : SpinAt pre ρr wr sp q gv v (n :: r)
 ins : In a ρr wr
 fp : Fp (ZaN ρ pre) w wr
section
variable {pre : List Int} {ρ : Roles} {sp : Nat} {q : Int} {gv : Bool} {v : Value} {ns : List Nd}
theorem Zi5 {w w' : World} {n : Nd} {r : List Nd} (h : SpinAt pre ρ w sp q gv v (n :: r)) (hw : w' = (w.setCell ⟨n.blk, 2, none⟩ (.int .i64 (n.df + q * n.wt))).setCell ⟨sp, 2, none⟩ (.bool true)) (hg : gv = false) :
 SpinAt pre ρ w' sp q true v (ZD q gv n :: r) ∧ Fp (Zs ρ pre) w w' := by
 have h0 := h.node 0 n rfl
 have hne : n.blk ≠ sp := fun e => by have h1 := h0.1; rw [e, h.rs] at h1; simp at h1
 have hF : Fp (Zs ρ pre) w w' := by
  rw [hw]
  exact ((Fp.refl (Zs ρ pre) w).setCell (p := ⟨n.blk, 2, none⟩) (fun _ => .inr (.inr ⟨_, h0.1⟩)) _).setCell (p := ⟨sp, 2, none⟩) (fun _ => .inl h.rs) _
 have hoth : ∀ k, k ≠ n.blk → k ≠ sp → w'.heap[k]? = w.heap[k]? := fun k h1 h2 => by
  rw [hw, Zh h2, Zh h1]
 subst hg
 refine ⟨⟨?_, h.rs, h.arr.kept (fun k hk => hoth k (fun e => ?_) (fun e => ?_)), h.ra, fun i m hm => ?_, h.once, h.few⟩, hF⟩
 ·rw [hw]
  exact Ze ((Zh (Ne.symm hne)).trans h.head)
 ·have h1 := h.ra k hk
  rw [e, h0.1] at h1
  simp at h1
 ·have h1 := h.ra k hk
  rw [e, h.rs] at h1
  simp at h1
 ·cases i with
  | zero =>
    simp at hm
    subst hm
    refine ⟨h0.1, ?_⟩
    rw [hw]
    show _ = some (Obj.cells (ndC (ZD q false n)) _ _)
    rw [show (ZD q false n).blk = n.blk from rfl, Zh hne]
    exact Ze h0.2
  | succ i =>
    have hm' : (n :: r)[i + 1]? = some m := hm
    have h1 := h.node (i + 1) m hm'
    refine ⟨h1.1, (hoth _ (h.apart hm' (show (n :: r)[0]? = some n from rfl) (by simp)) (fun e => ?_)).trans h1.2⟩
    have h2 := h1.1
    rw [e, h.rs] at h2
    simp at h2
end
end Go.Proofs.YtdbjihkgafhakaaGreatDoor
/-
 A round of Pick: what the append leaves; what the source's call leaves.
-/
namespace Go.Proofs.YtdbjihkgafhakaaGreatDoor
open Go.RowKit
def tailV (v : Value) : Value := match v with
 | .slice (some ⟨g, off, d⟩) n cap => .slice (if cap = 1 then some ⟨g, off, d⟩ else some ⟨g, off + 1, d⟩) (n - 1) (cap - 1)
 | x => x
theorem ZdG {w : World} {v : Value} {b : Nat} {bs : List Nat} (h : ArrIn 120 w v (b :: bs)) : ArrIn 120 w (tailV v) bs ∧ (tailV v).ownBlock = v.ownBlock := by
 rcases h with ⟨_, h0⟩ | ⟨g, off, cap, cur, rfl, hg, hfit, hle, hcm, hc⟩
 ·cases h0
 ·rw [List.length_cons] at hle
  by_cases h1 : cap = 1
  ·have h0 : bs = [] := List.length_eq_zero_iff.1 (by omega)
   subst h0
   subst h1
   exact ⟨.inr ⟨g, off, 0, cur, rfl, hg, by omega, Nat.le_refl _, by omega, fun i b hb => by simp at hb⟩, rfl⟩
  ·refine ⟨.inr ⟨g, off + 1, cap - 1, cur, ?_, hg, by omega, by omega, by omega, fun i x hx => ?_⟩, ?_⟩
   ·simp only [tailV, if_neg h1, List.length_cons, Nat.add_sub_cancel]
   ·have := hc (i + 1) x (by simpa using hx)
    rwa [show off + 1 + i = off + (i + 1) by omega]
   ·simp only [tailV, if_neg h1]
    rfl
section
variable {pre : List Int} {ρ : Roles} {sp : Nat} {q : Int} {gv : Bool} {v v' : Value} {w wb wc : World} {n : Nd} {r : List Nd}
theorem Zi6 {o : Obj} (h : SpinAt pre ρ w sp q gv v (n :: r)) (hA : ArrIn 120 wb v' (r.map Nd.blk ++ [n.blk])) (hg : (w.alloc o).grownBy wb v.ownBlock) (hat : v'.ownBlock = v.ownBlock ∨ v'.ownBlock = some (w.heap.size + 1))
 (hw : wc = (wb.setCell ⟨sp, 1, none⟩ v').setCell ⟨sp, 2, none⟩ (.bool false)) :
 ∃ ρ', Later ρ ρ' w ∧ (∀ k, w.heap.size ≤ k → ρ' k = [] ∨ ρ' k = pre ++ [3]) ∧ SpinAt pre ρ' wc sp q false v' (r ++ [n]) ∧ Fp (Zs ρ pre) w wc := by
 obtain ⟨ρ', hρ'⟩ : ∃ ρ' : Roles, ρ' = fun k => if k < w.heap.size then ρ k else if v'.ownBlock = some k then pre ++ [3] else [] := ⟨_, rfl⟩
 have hl : Later ρ ρ' w := fun k hk => by rw [hρ']; simp [hk]
 have hsv : v.ownBlock ≠ some sp := fun e => by have h1 := h.ra sp e; rw [h.rs] at h1; simp at h1
 have hspw := Zb h.head
 have hv'sp : v'.ownBlock ≠ some sp := fun e => by
  rcases hat with h1 | h1
  ·exact hsv (h1.symm.trans e)
  ·rw [h1] at e
   simp at e
   omega
 have hF : Fp (Zs ρ pre) w wb := ((Fp.refl _ w).alloc o).grown hg (fun k _ hk => .inr (.inl (h.ra k hk)))
 have hFc : Fp (Zs ρ pre) w wc := by rw [hw]; exact (hF.setCell (p := ⟨sp, 1, none⟩) (fun _ => .inl h.rs) _).setCell (p := ⟨sp, 2, none⟩) (fun _ => .inl h.rs) _
 have hoth : ∀ k, k ≠ sp → wc.heap[k]? = wb.heap[k]? := fun k hk => by rw [hw, Zh hk, Zh hk]
 have hb : ∀ k, k < w.heap.size → v.ownBlock ≠ some k → wb.heap[k]? = w.heap[k]? := fun k hk hne => (hg.block k (by simp; omega) (fun e => hne e.symm)).trans (Below.heap_alloc _ _ _ hk)
 have hnode : ∀ (i : Nat) m, (n :: r)[i]? = some m → ρ' m.blk = pre ++ [4, m.id] ∧ wc.heap[m.blk]? = some (.cells (ndC m) 128 (0, 0)) := fun i m hm => by
  have h1 := h.node i m hm
  have h2 := Zb h1.2
  refine ⟨(hl _ h2).trans h1.1, ?_⟩
  rw [hoth _ (fun e => by have h3 := h1.1; rw [e, h.rs] at h3; simp at h3), hb _ h2 (fun e => by have h3 := h.ra _ e; rw [h1.1] at h3; simp at h3)]
  exact h1.2
 refine ⟨ρ', hl, fun k hk => ?_, ⟨?_, (hl _ hspw).trans h.rs, ?_, fun k hk => ?_, fun i m hm => ?_, ?_, ?_⟩, hFc⟩
 ·rw [hρ']
  simp only [if_neg (Nat.not_lt.2 hk)]
  split
  ·exact .inr rfl
  ·exact .inl rfl
 ·rw [hw]
  exact Ze (Ze ((hb sp hspw hsv).trans h.head))
 ·rw [List.map_append]
  exact hA.kept (fun k hk => hoth k (fun e => hv'sp (by rw [hk, e])))
 ·rcases Nat.lt_or_ge k w.heap.size with hk2 | hk2
  ·rcases hat with h1 | h1
   ·exact (hl k hk2).trans (h.ra k (h1.symm.trans hk))
   ·rw [h1] at hk
    simp at hk
    omega
  ·rw [hρ']
   simp only [if_neg (Nat.not_lt.2 hk2), hk, if_true]
 ·rcases Nat.lt_or_ge i r.length with hi | hi
  ·rw [List.getElem?_append_left hi] at hm
   exact hnode (i + 1) m hm
  ·rw [List.getElem?_append_right hi] at hm
   have hi0 : i - r.length < [n].length := (List.getElem?_eq_some_iff.1 hm).1
   have hi1 : i - r.length = 0 := by simp at hi0; omega
   rw [hi1] at hm
   simp at hm
   subst hm
   exact hnode 0 n rfl
 ·have h1 := h.once
  rw [List.map_cons] at h1
  rw [List.map_append]
  exact ((List.perm_append_comm (l₁ := r.map Nd.id) (l₂ := [n].map Nd.id)).nodup_iff).2 h1
 ·have := h.few
  simp at this ⊢
  omega
theorem Zlq {w' : World} {ρ' : Roles} {ns : List Nd} (h : SpinAt pre ρ w sp q gv v ns) (hF : Fp (Zbr ρ pre) w w') (hl : Later ρ ρ' w) : SpinAt pre ρ' w' sp q gv v ns := by
 refine (h.later hl).frame hF (fun k hk hS => ?_)
 rintro ⟨s, hs⟩
 unfold Zs at hS
 rw [hl k hk, hs] at hS
 rcases hS with h1 | h1 | ⟨id, h1⟩ <;> simp at h1
end
end Go.Proofs.YtdbjihkgafhakaaGreatDoor
/-
 spin's Pick: the walk of the loop.
-/
namespace Go.Proofs.YtdbjihkgafhakaaGreatDoor
open Go.RowKit
section
variable {α : Type} {T K : Nat} {ok : Int → Value → Prop} {In : α → Roles → World → Prop} {pk : α → Int → α × It}
variable {pre : List Int} {ρ : Roles} {sp : Nat} {q : Int} {gv : Bool} {v : Value} {ns : List Nd}
theorem ZU {ρ : Roles} {k : Nat} (h : Zs ρ pre k) : Part ρ pre k := by
 rcases h with h | h | ⟨id, h⟩ <;> exact ⟨_, h⟩
theorem Zdd {ρ : Roles} {k : Nat} (h : Zbr ρ pre k) : Part ρ pre k := by
 obtain ⟨s, h⟩ := h
 exact ⟨_, h⟩
theorem Z2 {ρ : Roles} {k : Nat} (h : Zs ρ pre k) : ¬ Zbr ρ pre k := by
 rintro ⟨s, hs⟩
 unfold Zs at h
 rw [hs] at h
 rcases h with h1 | h1 | ⟨id, h1⟩ <;> simp at h1
theorem Zcy {ρ ρ' : Roles} {w : World} (hl : Later ρ ρ' w) {k : Nat} (hk : k < w.heap.size) (h : ZaN ρ' pre k) : ZaN ρ pre k := by
 unfold ZaN Zs Zbr at h ⊢
 rw [hl k hk] at h
 exact h
theorem PRel.start (L : SrcLaw pre T K ok In pk) {w : World} {a : α} {n : Nd} {r : List Nd} (hS : SpinAt pre ρ w sp q gv v (n :: r)) (hI : In a ρ w) (hok : NdsOk gv (n :: r)) (hoks : ∀ m ∈ n :: r, ok m.id m.src) :
 PRel pre ρ In ok q pk w sp gv (n :: r) a (Zac gv (n :: r)) (w.alloc (.cells #[.int .i64 0, .int .i64 0] 132)) gv n r a v (fence ρ w) where
 less := rfl
 good := hok
 same := fun _ _ _ h => h
 oks := hoks
 later := Zg ρ w
 news := fun k hk => .inl (by simp [fence, Nat.not_lt.2 hk])
 cellR := by simp [fence]
 cell := Zf
 ring := (hS.later (Zg ρ w)).below box_below
 ins := L.frame (S := fun _ => False) (L.later hI (Zg ρ w)) (Fp.of_below box_below) (fun _ _ _ h => h)
 fp := Fp.of_below box_below
end
section
variable {α : Type} {T K : Nat} {ok : Int → Value → Prop} {In : α → Roles → World → Prop} {pk : α → Int → α × It}
variable {pre : List Int} {ρ ρr ρ2 : Roles} {sp g : Nat} {q : Int} {gv gv' : Bool} {v v' : Value} {ns : List Nd} {n m : Nd} {r : List Nd} {a a' : α} {x : It} {w wr wc w2 w3 w4 : World}
structure Round (pre : List Int) (ρ : Roles) (In : α → Roles → World → Prop) (ok : Int → Value → Prop) (q : Int) (pk : α → Int → α × It) (w : World) (sp : Nat) (gv : Bool) (ns : List Nd) (a : α) (g : Nat) (wr : World) (gv' : Bool) (n : Nd) (r : List Nd) (a' : α) (v' : Value) (ρr : Roles) (m : Nd) (x : It) (w3 : World) (ρ2 : Roles) : Prop where
 rel : PRel pre ρ In ok q pk w sp gv ns a g wr gv' n r a' v' ρr
 hm : m = ZD q gv' n
 hx : x = (pk a' n.id).2
 cost : 1 ≤ x.cost ∧ x.cost ≤ 64
 later : Later ρ ρ2 w
 news : ZA ρ2 pre w.heap.size
 cellR : ρ2 w.heap.size = []
 cell : w3.heap[w.heap.size]? = some (.cells #[.int .i64 0, .int .i64 0] 132 (0, 0))
 ring : SpinAt pre ρ2 w3 sp q true v' (m :: r)
 ins : In (pk a' n.id).1 ρ2 w3
 fp : Fp (ZaN ρ pre) w w3
theorem hg3 {w wb : World} {n : Nat} {o : Obj} {b : Option Nat} (h : ((w.drewN n).alloc o).grownBy wb b) : (w.alloc o).grownBy wb b := ⟨h.os, h.tape, h.output, h.size, h.block⟩
theorem Round.mk' (L : SrcLaw pre T K ok In pk) (hR : PRel pre ρ In ok q pk w sp gv ns a g wr gv' n r a' v' ρr) (hm : m = ZD q gv' n) (hx : x = (pk a' n.id).2) (hc : 1 ≤ x.cost ∧ x.cost ≤ 64) (hF1 : Fp (Zs ρr pre) wr wc) (hF2 : Fp (Zbr ρr pre) wc w2)
 (hl2 : Later ρr ρ2 wc) (hn2 : ∀ k, wc.heap.size ≤ k → ρ2 k = ρr k ∨ Zbr ρ2 pre k) (hS2 : SpinAt pre ρ2 w2 sp q true v' (m :: r)) (hI2 : In (pk a' n.id).1 ρ2 w2) (hB3 : Below w2.heap.size w2 w3) :
 Round pre ρ In ok q pk w sp gv ns a g wr gv' n r a' v' ρr m x w3 ρ2 := by
 have hz : w.heap.size < wr.heap.size := Zb hR.cell
 have hz1 := hF1.size
 have hz2 := hF2.size
 have hrole : ρ2 w.heap.size = [] := (hl2 _ (by omega)).trans hR.cellR
 have hc1 := hF1.heap hR.cell (fun h => by have h1 := hR.cellR; rcases h with h | h | ⟨_, h⟩ <;> rw [h1] at h <;> simp at h)
 have hc2 := hF2.heap hc1 (fun h => by have h1 := hR.cellR; obtain ⟨_, h⟩ := h; rw [h1] at h; simp at h)
 refine ⟨hR, hm, hx, hc, fun k hk => (hl2 k (by omega)).trans (hR.later k hk), fun k hk => ?_, hrole, (hB3.block _ (Zb hc2)).trans hc2, hS2.below hB3, L.frame (S := fun _ => False) hI2 (Fp.of_below hB3) (fun _ _ _ h => h), ?_⟩
 ·have key : ρ2 k = ρr k → ρ2 k = [] ∨ Part ρ2 pre k := fun e => by
   rcases hR.news k hk with h | ⟨s, h⟩
   ·exact .inl (e.trans h)
   ·exact .inr ⟨s, e.trans h⟩
  rcases Nat.lt_or_ge k wc.heap.size with h | h
  ·exact key (hl2 k h)
  ·rcases hn2 k h with h | h
   ·exact key h
   ·exact .inr (Zdd h)
 ·refine (hR.fp.trans (hF1.mono (S' := ZaN ρr pre) (fun k hk => .inl hk)) (fun k hk h => Zcy hR.later hk h)).trans (S' := ZaN ρr pre) ?_ (fun k hk h => Zcy hR.later hk h)
  exact (hF2.mono (S' := ZaN ρr pre) (fun k hk => .inr hk)).then_below hB3
theorem Round.grant (L : SrcLaw pre T K ok In pk) (hq1 : 1 ≤ q) (hq : q ≤ 64) (h : Round pre ρ In ok q pk w sp gv ns a g wr gv' n r a' v' ρr m x w3 ρ2) (hle : x.cost ≤ m.df) (hF : Fp (fun k => k = w.heap.size) w3 w4) :
 ZhT pre ρ In q pk w sp gv ns a (.returned (.tuple #[.pointer (some ⟨m.blk, 0, none⟩), itV x, .bool true])) w4 := by
 refine ⟨m, r, (pk a' n.id).1, x, v', ρ2, rfl, ?_, ⟨?_, h.rel.good.2⟩, h.later, h.news, h.ring.frame hF (fun k _ hk e => ?_), L.frame h.ins hF (fun k _ hk e => ?_), h.fp.trans hF (fun k hk e => by omega)⟩
 ·refine h.rel.same _ _ _ ?_
  have h1 := h.hx
  have h2 := h.hm
  subst h1 h2
  exact .grant hle
 ·have h2 := h.hm
  subst h2
  exact Zcs hq1 hq h.rel.good.1
 ·subst e
  have h1 := h.cellR
  rcases hk with h | h | ⟨_, h⟩ <;> rw [h1] at h <;> simp at h
 ·subst e
  have h1 := h.cellR
  obtain ⟨_, h⟩ := hk
  rw [h1] at h
  simp at h
theorem Round.rotate (L : SrcLaw pre T K ok In pk) (hq1 : 1 ≤ q) (hq : q ≤ 64) (h : Round pre ρ In ok q pk w sp gv ns a g wr gv' n r a' v' ρr m x w3 ρ2) (hle : ¬ x.cost ≤ m.df) {o : Obj} {wb w5 : World} {v2 : Value}
 (hA : ArrIn 120 wb v2 (r.map Nd.blk ++ [m.blk])) (hg : (w3.alloc o).grownBy wb v'.ownBlock) (hat : v2.ownBlock = v'.ownBlock ∨ v2.ownBlock = some (w3.heap.size + 1)) (hw : w5 = (wb.setCell ⟨sp, 1, none⟩ v2).setCell ⟨sp, 2, none⟩ (.bool false)) :
 ∃ n2 r2 ρ3, PRel pre ρ In ok q pk w sp gv ns a (Zac false (r ++ [m])) w5 false n2 r2 (pk a' n.id).1 v2 ρ3 := by
 obtain ⟨ρ3, hl3, hn3, hS3, hF3⟩ := Zi6 h.ring hA hg hat hw
 obtain ⟨n2, r2, hnr⟩ : ∃ n2 r2, r ++ [m] = n2 :: r2 := by
  cases r with
  | nil => exact ⟨_, _, rfl⟩
  | cons y r => exact ⟨_, _, rfl⟩
 have hz3 := h.fp.size
 have hz5 := hF3.size
 have hlt := Zb h.cell
 have hgood : NdsOk false (r ++ [m]) := by
  have h2 := h.hm
  subst h2
  exact Zeh hq1 hq h.cost.2 h.rel.good hle
 rw [hnr] at hS3 hgood ⊢
 have hnp : ¬ Zs ρ2 pre w.heap.size := fun hk => by
  have h1 := h.cellR
  rcases hk with h | h | ⟨_, h⟩ <;> rw [h1] at h <;> simp at h
 refine ⟨n2, r2, ρ3, rfl, hgood, fun ns2 a2 y hp => h.rel.same _ _ _ ?_, fun k hk => ?_, h.later.trans hl3 hz3, fun k hk => ?_, (hl3 _ hlt).trans h.cellR, hF3.heap h.cell hnp, hS3, ?_, ?_⟩
 ·have h1 := h.hx
  have h2 := h.hm
  subst h1 h2
  rw [← hnr] at hp
  exact .rotate hle hp
 ·rw [← hnr] at hk
  rcases List.mem_append.1 hk with hk | hk
  ·exact h.rel.oks k (List.mem_cons_of_mem _ hk)
  ·rw [List.mem_singleton] at hk
   subst hk
   have h2 := h.hm
   subst h2
   have h3 := Z4 q gv' n
   rw [h3.1, h3.2.2.1]
   exact h.rel.oks n List.mem_cons_self
 ·rcases Nat.lt_or_ge k w3.heap.size with hk2 | hk2
  ·rcases h.news k hk with h1 | ⟨s, h1⟩
   ·exact .inl ((hl3 k hk2).trans h1)
   ·exact .inr ⟨s, (hl3 k hk2).trans h1⟩
  ·rcases hn3 k hk2 with h1 | h1
   ·exact .inl h1
   ·exact .inr ⟨_, h1⟩
 ·exact L.frame (L.later h.ins hl3) hF3 (fun k hk hi hs => Z2 hs (by unfold Zbr at hi ⊢; rwa [hl3 k hk] at hi))
 ·refine h.fp.trans (S' := ZaN ρ2 pre) (hF3.mono (fun k hk => .inl hk)) (fun k hk hr => Zcy h.later hk hr)
end
section
variable {α : Type} {T K : Nat} {ok : Int → Value → Prop} {In : α → Roles → World → Prop} {pk : α → Int → α × It}
variable {pre : List Int} {ρ : Roles} {sp : Nat} {q : Int} {gv : Bool} {v : Value} {ns : List Nd}
set_option maxRecDepth 100000 in
set_option maxHeartbeats 4000000 in
theorem Zei (L : SrcLaw pre T K ok In pk) (hq1 : 1 ≤ q) (hq : q ≤ 64) (a : α) (n0 : Nd) (r0 : List Nd) (w : World) (hS : SpinAt pre ρ w sp q gv v (n0 :: r0)) (hI : In a ρ w) (hok : NdsOk gv (n0 :: r0)) (hoks : ∀ m ∈ n0 :: r0, ok m.id m.src) :
 Calls Tryz.prog 96 #[.pointer (some ⟨sp, 0, none⟩)] w (ZhT pre ρ In q pk w sp gv (n0 :: r0) a) := by
 have HL := Lib.hid L
 have HST := Lib.hid (PRel.start L hS hI hok hoks)
 have hsp := Zb hS.head
 have HQ1 := Lib.hid hq1
 have HQ := Lib.hid hq
 clear L hS hI hok hoks hq1 hq
 go_enter Tryz.func96, Tryz.ntmps96
 go_wp2_with fail
 go_loopg [] (Zac gv (n0 :: r0)) (fun g wr => ∃ gv' n r a' v' ρr, PRel pre ρ In ok q pk w sp gv (n0 :: r0) a g wr gv' n r a' v' ρr)
 case atStart => exact ⟨gv, n0, r0, a, v, _, HST.out⟩
 case round =>
  obtain ⟨gv', n, r, a', v', ρr, hR⟩ := hrel
  have HR := Lib.hid hR
  clear hR
  obtain ⟨gb, off, cap, hv, hc⟩ := HR.out.ring.at (i := 0) (n := n) rfl
  have HV := Lib.hid hv
  have hfew : r.length + 1 ≤ 1000000 := by have := HR.out.ring.few; simpa using this
  have d1 : wr.cell? ⟨sp, 1, none⟩ = some (.slice (some ⟨gb, off, none⟩) (r.length + 1) cap) := by have := HR.out.ring.c1; rw [hv] at this; simpa using this
  have d2 := HR.out.ring.c2
  have d3 : wr.cell? ⟨gb, off, none⟩ = some (.pointer (some ⟨n.blk, 0, none⟩)) := by simpa using hc
  clear hv hc
  go_upto_if 24 with fail
  go_cut [5] (fun s wx => s = .pointer (some ⟨n.blk, 0, none⟩) ∧ SpinAt pre ρr wx sp q true v' (ZD q gv' n :: r) ∧ Fp (Zs ρr pre) wr wx)
  case first =>
   rcases gv' with _ | _
   ·have e1 : wr.cell? ⟨n.blk, 1, none⟩ = some (.int .i64 n.wt) := Za (HR.out.ring.node 0 n rfl).2 rfl
    have e2 : wr.cell? ⟨n.blk, 2, none⟩ = some (.int .i64 n.df) := Za (HR.out.ring.node 0 n rfl).2 rfl
    have f2 := Zd (i := 2) (HR.out.ring.node 0 n rfl).2
    have f3 := Zd (i := 2) HR.out.ring.head
    have c0 := HR.out.ring.c0
    have hg := HR.out.good.1
    have hm := Zcr HQ1.out HQ.out hg.1 hg.2.1
    have hw1 : wrap64 (q * n.wt) = q * n.wt := by unfold wrap64; omega
    have hw2 : wrap64 (n.df + q * n.wt) = n.df + q * n.wt := by have h3 := hg.2.2.1; have h4 := hg.2.2.2; simp at h4; unfold wrap64; omega
    clear hg hm
    go_wp2_with fail
    go_region
    clear d2 f2 f3 e1 e2 c0
    obtain ⟨w1, hw1'⟩ : ∃ w1 : World, w1 = wr.setCell ⟨n.blk, 2, none⟩ (.int .i64 (n.df + q * n.wt)) := ⟨_, rfl⟩
    have hne : sp ≠ n.blk := fun e => by have h1 := (HR.out.ring.node 0 n rfl).1; rw [← e, HR.out.ring.rs] at h1; simp at h1
    have hh1 : w1.heap[sp]? = some (.cells #[.int .i64 q, v', .bool false] 115 (0, 0)) := by rw [hw1', Zh hne]; exact HR.out.ring.head
    have d2 : w1.cell? ⟨sp, 2, none⟩ = some (.bool false) := Za hh1 rfl
    have f2 := Zd (i := 2) hh1
    have HW1 := Lib.hid hw1'
    rw [← hw1']
    clear hh1 hne hw1'
    go_wp2_with fail
    go_meet
    case rel =>
     obtain ⟨hs, hf⟩ := Zi5 HR.out.ring (w' := (wr.setCell ⟨n.blk, 2, none⟩ (.int .i64 (n.df + q * n.wt))).setCell ⟨sp, 2, none⟩ (.bool true)) rfl rfl
     rw [← HW1.out] at hs hf
     have hb : Below (w1.setCell ⟨sp, 2, none⟩ (.bool true)).heap.size (w1.setCell ⟨sp, 2, none⟩ (.bool true)) (w1.drew.setCell ⟨sp, 2, none⟩ (.bool true)) := ⟨rfl, rfl, rfl, Nat.le_refl _, fun _ _ => rfl⟩
     exact ⟨rfl, hs.below hb, hf.then_below hb⟩
   ·go_wp2_with fail
    go_meet
    case rel => exact ⟨rfl, HR.out.ring, Fp.refl _ _⟩
  case rest =>
   obtain ⟨rfl, hS1, hF1⟩ := hcut
   obtain ⟨x, hx⟩ : ∃ x : It, x = (pk a' n.id).2 := ⟨_, rfl⟩
   obtain ⟨m, hm⟩ : ∃ m : Nd, m = ZD q gv' n := ⟨_, rfl⟩
   have hid := Z4 q gv' n
   rw [← hm] at hS1 hid
   have hIc : In a' ρr wc := HL.out.frame HR.out.ins hF1 (fun k _ hi hs => Z2 hs hi)
   have hon := HR.out.oks n List.mem_cons_self
   have hcost := HL.out.cost hIc hon
   obtain ⟨u, u', hsrc, hm1, hk1, hcall⟩ := HL.out.call hIc hon
   rw [← hx] at hcall hcost
   unfold itV at hcall
   have c3 : wc.cell? ⟨n.blk, 3, none⟩ = some (.iface T u) := by rw [← hsrc, ← hid.2.2.1, ← hid.2.1]; exact Za (hS1.node 0 m rfl).2 rfl
   have HX := Lib.hid hx
   have HM := Lib.hid hm
   have HID := Lib.hid hid
   have HC := Lib.hid hcost
   have HF1 := Lib.hid hF1
   have HS1 := Lib.hid hS1
   clear hx hm hid hcost hF1 hS1 d1 d2 d3 hIc hon hsrc
   go_wp2_with fail
   refine hcall.mono ?_
   rintro e w2 ⟨rfl, ρ2, hl2, hn2, hI2, hF2⟩
   have HS2 := Lib.hid (Zlq HS1.out hF2 hl2)
   have HL2 := Lib.hid hl2
   have HN2 := Lib.hid hn2
   have HI2 := Lib.hid hI2
   have HF2 := Lib.hid hF2
   clear hl2 hn2 hI2 hF2 hcall hm1 hk1 c3
   go_upto_region 7 with fail
   obtain ⟨w3, hw3⟩ : ∃ w3 : World, w3 = w2.alloc (.cells #[.int .i64 x.id, .int .i64 x.cost] 132) := ⟨_, rfl⟩
   obtain ⟨xb, hxb⟩ : ∃ xb : Nat, xb = w2.heap.size := ⟨_, rfl⟩
   rw [← hw3, ← hxb]
   have HB3 := Lib.hid (show Below w2.heap.size w2 w3 by rw [hw3]; exact box_below)
   have HX3 := Lib.hid (show w3.heap[xb]? = some (.cells #[.int .i64 x.id, .int .i64 x.cost] 132 (0, 0)) by rw [hw3, hxb]; exact Zf)
   have HRD := Lib.hid (Round.mk' HL.out HR.out HM.out HX.out HC.out HF1.out HF2.out HL2.out HN2.out HS2.out HI2.out HB3.out)
   have HXB := Lib.hid hxb
   have HW3 := Lib.hid hw3
   clear hw3 hxb
   have x1 : w3.cell? ⟨xb, 1, none⟩ = some (.int .i64 x.cost) := Za HX3.out rfl
   have e2 : w3.cell? ⟨n.blk, 2, none⟩ = some (.int .i64 m.df) := by rw [← HID.out.2.1]; exact Za (HRD.out.ring.node 0 m rfl).2 rfl
   by_cases hle : x.cost ≤ m.df
   ·have hd : decide (x.cost ≤ m.df) = true := decide_eq_true hle
    have HLE := Lib.hid hle
    clear hle
    go_quiet (fail)
    clear e2
    have hR3 := HRD.out.cell
    have x0 : w3.cell? ⟨xb, 0, none⟩ = some (.int .i64 x.id) := Za HX3.out rfl
    have z0 : w3.cell? ⟨w.heap.size, 0, none⟩ = some (.int .i64 0) := Za hR3 rfl
    have z1 : w3.cell? ⟨w.heap.size, 1, none⟩ = some (.int .i64 0) := Za hR3 rfl
    have g0 := Zd (i := 0) hR3
    have g1 := Zd (i := 1) hR3
    go_wp2_with fail
    clear hR3
    go_region
    clear x0 x1 z0 z1 g0 g1
    go_wp2_with fail
    obtain ⟨w4, hw4⟩ : ∃ w4 : World, w4 = ((w3.drewN (nq + 1)).setCell ⟨w.heap.size, 0, none⟩ (.int .i64 x.id)).setCell ⟨w.heap.size, 1, none⟩ (.int .i64 x.cost) := ⟨_, rfl⟩
    have hh4 : w4.heap[w.heap.size]? = some (.cells #[.int .i64 x.id, .int .i64 x.cost] 132 (0, 0)) := by rw [hw4]; exact Ze (Ze (w := w3.drewN (nq + 1)) HRD.out.cell)
    have HF4 := Lib.hid (show Fp (fun k => k = w.heap.size) w3 w4 by
     rw [hw4]
     have h0 : Fp (fun k => k = w.heap.size) w3 (w3.drewN (nq + 1)) := ⟨rfl, rfl, rfl, Nat.le_refl _, fun _ _ _ => rfl⟩
     exact (h0.setCell (p := ⟨w.heap.size, 0, none⟩) (fun _ => rfl) _).setCell (p := ⟨w.heap.size, 1, none⟩) (fun _ => rfl) _)
    have k0 : w4.cell? ⟨w.heap.size, 0, none⟩ = some (.int .i64 x.id) := Za hh4 rfl
    have k1 : w4.cell? ⟨w.heap.size, 1, none⟩ = some (.int .i64 x.cost) := Za hh4 rfl
    rw [← hw4]
    clear hw4 hh4
    refine bodyPost_ret (v := .tuple #[.pointer (some ⟨n.blk, 0, none⟩), .agg #[.int .i64 x.id, .int .i64 x.cost], .bool true]) (by simp [results, Tryz.results96, go_sem, k0, k1]) rfl ?_
    rw [← HID.out.2.1]
    exact HRD.out.grant HL.out HQ1.out HQ.out HLE.out HF4.out
   ·have hd : decide (x.cost ≤ m.df) = false := decide_eq_false hle
    have HLE := Lib.hid hle
    clear hle
    go_quiet (fail)
    clear e2 x1
    have hr1 := HRD.out.ring
    have hsv : v'.ownBlock ≠ some sp := fun e => by have h1 := hr1.ra sp e; rw [hr1.rs] at h1; simp at h1
    have HSV := Lib.hid (fun e => hsv (Eq.symm e) : some sp ≠ v'.ownBlock)
    have HSP := Lib.hid (Zb hr1.head)
    have HLN := Lib.hid (show (r.map Nd.blk).length < 1000000 by rw [List.length_map]; omega)
    have d1 : w3.cell? ⟨sp, 1, none⟩ = some (.slice (some ⟨gb, off, none⟩) (r.length + 1) cap) := by have := hr1.c1; rw [HV.out] at this; simpa using this
    have hcl : r.length + 1 ≤ cap := by obtain ⟨_, c, h1, h2⟩ := hr1.form; rw [HV.out] at h1; cases h1; simpa using h2
    clear hr1 hsv
    by_cases hcap : cap = 1
    ·have hv2 : tailV v' = .slice (some ⟨gb, off, none⟩) r.length (cap - 1) := by rw [HV.out]; simp [tailV, hcap]
     have HSL := Lib.hid (show ArrIn 120 w3 (.slice (some ⟨gb, off, none⟩) r.length (cap - 1)) (r.map Nd.blk) by rw [← hv2]; exact (ZdG HRD.out.ring.arr).1)
     have HOB := Lib.hid (show (Value.slice (some ⟨gb, off, none⟩) r.length (cap - 1)).ownBlock = v'.ownBlock by rw [← hv2]; exact (ZdG HRD.out.ring.arr).2)
     clear hv2
     obtain rfl : r = [] := List.length_eq_zero_iff.1 (by omega)
     subst hcap
     have HSL := Lib.hid (show ArrIn 120 w3 (.slice (some ⟨gb, off, none⟩) 0 0) ([] : List Nat) from HSL.out)
     have HOB := Lib.hid (show (Value.slice (some ⟨gb, off, none⟩) 0 0).ownBlock = v'.ownBlock from HOB.out)
     go_upto_region 10 with (at_builtin; refine Zax rfl _ _ 113 rfl 120 Tryz.underlying113 ZeM (v := .slice (some ⟨gb, off, none⟩) 0 0) (bs := []) rfl (HSL.out.below ((ZO (Below.refl _ _) nq).alloc (Nat.le_refl _) _)) w3.heap.size n.blk rfl (Zm rfl) HLN.out ?_; intro v2 wb harr hg hat; rw [HOB.out] at hg hat; obtain ⟨va, vn, vc, hvf⟩ : ∃ a n c, v2 = Value.slice a n c := (by obtain ⟨a, c, h1, _⟩ := harr.form; exact ⟨a, _, c, h1⟩); subst hvf; (have HHB := Lib.hid ((hg.block sp (Nat.lt_of_lt_of_le HSP.out box_below.size) HSV.out).trans (Zi (w := w3.drewN nq) HRD.out.ring.head))); (have k1 := Za HHB.out (i := 1) rfl); (have g1 := Zd (i := 1) HHB.out))
     have HARR := Lib.hid harr
     have HG := Lib.hid hg
     have HAT := Lib.hid hat
     clear harr hg hat
     obtain ⟨w5, hw5⟩ : ∃ w5 : World, w5 = wb.setCell ⟨sp, 1, none⟩ (.slice va vn vc) := ⟨_, rfl⟩
     have HH5 := Lib.hid (show w5.heap[sp]? = some (.cells #[.int .i64 q, .slice va vn vc, .bool true] 115 (0, 0)) by rw [hw5]; exact Ze HHB.out)
     have HW5 := Lib.hid hw5
     rw [← hw5]
     clear hw5 k1 g1
     have k2 : w5.cell? ⟨sp, 2, none⟩ = some (.bool true) := Za HH5.out rfl
     have g2 : w5.frozen? ⟨sp, 2, none⟩ = false := Zd HH5.out
     go_wp2_with fail
     go_roundg (Zac false ([] ++ [m]))
     case rel =>
      obtain ⟨n2, r2, ρ3, hp⟩ := HRD.out.rotate HL.out HQ1.out HQ.out (Int.not_le.2 HLE.out) (by rw [HID.out.2.1]; exact HARR.out) (hg3 HG.out) (by have h := HAT.out; simpa using h) (w5 := w5.setCell ⟨sp, 2, none⟩ (.bool false)) (by rw [HW5.out])
      exact ⟨false, n2, r2, _, _, ρ3, hp⟩
     case measure =>
      rw [HR.out.less]
      have h1 := HM.out
      have h2 := HX.out
      have h3 := HLE.out
      subst h1 h2
      exact Zcl HQ1.out HQ.out HC.out.2 HR.out.good (Int.not_le.2 h3)
    ·have hv2 : tailV v' = .slice (some ⟨gb, off + 1, none⟩) r.length (cap - 1) := by rw [HV.out]; simp [tailV, hcap]
     have HSL := Lib.hid (show ArrIn 120 w3 (.slice (some ⟨gb, off + 1, none⟩) r.length (cap - 1)) (r.map Nd.blk) by rw [← hv2]; exact (ZdG HRD.out.ring.arr).1)
     have HOB := Lib.hid (show (Value.slice (some ⟨gb, off + 1, none⟩) r.length (cap - 1)).ownBlock = v'.ownBlock by rw [← hv2]; exact (ZdG HRD.out.ring.arr).2)
     clear hv2
     go_upto_region 10 with (at_builtin; refine Zax rfl _ _ 113 rfl 120 Tryz.underlying113 ZeM (v := .slice (some ⟨gb, off + 1, none⟩) r.length (cap - 1)) (bs := r.map Nd.blk) rfl (HSL.out.below ((ZO (Below.refl _ _) nq).alloc (Nat.le_refl _) _)) w3.heap.size n.blk rfl (Zm rfl) HLN.out ?_; intro v2 wb harr hg hat; rw [HOB.out] at hg hat; obtain ⟨va, vn, vc, hvf⟩ : ∃ a n c, v2 = Value.slice a n c := (by obtain ⟨a, c, h1, _⟩ := harr.form; exact ⟨a, _, c, h1⟩); subst hvf; (have HHB := Lib.hid ((hg.block sp (Nat.lt_of_lt_of_le HSP.out box_below.size) HSV.out).trans (Zi (w := w3.drewN nq) HRD.out.ring.head))); (have k1 := Za HHB.out (i := 1) rfl); (have g1 := Zd (i := 1) HHB.out))
     have HARR := Lib.hid harr
     have HG := Lib.hid hg
     have HAT := Lib.hid hat
     clear harr hg hat
     obtain ⟨w5, hw5⟩ : ∃ w5 : World, w5 = wb.setCell ⟨sp, 1, none⟩ (.slice va vn vc) := ⟨_, rfl⟩
     have HH5 := Lib.hid (show w5.heap[sp]? = some (.cells #[.int .i64 q, .slice va vn vc, .bool true] 115 (0, 0)) by rw [hw5]; exact Ze HHB.out)
     have HW5 := Lib.hid hw5
     rw [← hw5]
     clear hw5 k1 g1
     have k2 : w5.cell? ⟨sp, 2, none⟩ = some (.bool true) := Za HH5.out rfl
     have g2 : w5.frozen? ⟨sp, 2, none⟩ = false := Zd HH5.out
     go_wp2_with fail
     go_roundg (Zac false (r ++ [m]))
     case rel =>
      obtain ⟨n2, r2, ρ3, hp⟩ := HRD.out.rotate HL.out HQ1.out HQ.out (Int.not_le.2 HLE.out) (by rw [HID.out.2.1]; exact HARR.out) (hg3 HG.out) (by have h := HAT.out; simpa using h) (w5 := w5.setCell ⟨sp, 2, none⟩ (.bool false)) (by rw [HW5.out])
      exact ⟨false, n2, r2, _, _, ρ3, hp⟩
     case measure =>
      rw [HR.out.less]
      have h1 := HM.out
      have h2 := HX.out
      have h3 := HLE.out
      subst h1 h2
      exact Zcl HQ1.out HQ.out HC.out.2 HR.out.good (Int.not_le.2 h3)
end
end Go.Proofs.YtdbjihkgafhakaaGreatDoor
