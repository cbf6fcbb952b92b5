/-
  ref17 (pools): Enter, where the need is there, or there is no room; set: the walks.
  ref17 (pools): Push: the walk.
-/
import Derived.Test.YtdbjihkgafhakaaGreatDoorSk20
import Derived.Deep.AppendLies
import Derived.Lib.LazyBuf
import Derived.Lib.QuietBelow
import Derived.BigQuiet
import Derived.StillTailTactics
namespace Go.Proofs.YtdbjihkgafhakaaGreatDoor
open Go.RowKit Go.Sort
variable {G : Nat → Prop}
set_option maxRecDepth 100000 in
set_option maxHeartbeats 2000000 in
theorem r17Enter_old (s : ByteArray) (k : Nat) (p : QP) (b : Nat) (x : PX) (next : Int) (v : Value) (l : List QP) (w : World) (h : RefP G w b x next v l) (hp : placeS s (l.map QP.name) = k) (hk : l[k]? = some p) (hu : 1 ≤ p.uses ∧ p.uses ≤ 1000000000) :
    Calls Tryz.prog 40 #[.pointer (some ⟨b, 0, none⟩), .string s] w (QDocPost G b x next (withA k { p.abs with uses := p.uses + 1 } (l.map QP.abs)) (.int .i64 0) w) := by
  have HR := Lib.hid h
  have HP := Lib.hid hp
  have HK := Lib.hid hk
  have HU := Lib.hid (show wrap64 (p.uses + 1) = p.uses + 1 by unfold wrap64; omega)
  have hkl : (k : Int) < (l.length : Int) := by have := (List.getElem?_eq_some_iff.1 hk).1; omega
  clear h hp hk hu
  go_enter Tryz.func40, Tryz.ntmps40
  go_wp2_with (refine wpList_load_agg (cs := pC x next v) 45 HR.out.head Tryz.underlying45 rfl (pC_sz x next v) rfl _ rfl rfl ?_)
  refine (r17Find_any s x next v l w HR.out.rows (by have := HR.out.few; omega)).mono ?_
  rintro e w2 ⟨rfl, hb2⟩
  rw [HP.out]
  have HB2 := Lib.hid hb2
  have HR2 := Lib.hid (HR.out.below hb2)
  obtain ⟨g, off, cap, hv, _, hc⟩ := HR2.out.rows.at encQP_len (by decide) HK.out
  have b4 : w2.cell? ⟨b, 4, none⟩ = some v := fr_cell_of_heap HR2.out.head rfl
  rw [hv] at b4
  have HRA := Lib.hid (show w2.rangeAt g (off + k * 4) (encQP p) from fun i u hu => hc i u hu)
  have HQ2 := Lib.hid (HR2.out.inv p (List.mem_of_getElem? HK.out))
  clear hb2 hc hv
  go_upto_region 4 with (first
    | (refine wpList_load_mid rfl 55 _ rfl g (off + k * 4) rfl (encQP p) _ HRA.out Tryz.underlying55 rfl (qp_sz p) ?_)
    | (refine wpList_store_new rfl 55 _ _ rfl w2.heap.size rfl (encQP p).toArray rfl rfl (qp_sz p) rfl HQ2.out.one ?_))
  simp only [Act.put]
  obtain ⟨w3, hw3⟩ : ∃ w3 : World, w3 = w2.alloc (.cells (encQP p).toArray 55) := ⟨_, rfl⟩
  obtain ⟨rb, hrb⟩ : ∃ rb : Nat, rb = w2.heap.size := ⟨_, rfl⟩
  rw [← hw3, ← hrb]
  have HB3 := Lib.hid (show Below w2.heap.size w2 w3 by rw [hw3]; exact box_below)
  have hh3 : w3.heap[rb]? = some (.cells (encQP p).toArray 55 (0, 0)) := by rw [hw3, hrb]; exact fr_alloc_at
  have HH3 := Lib.hid hh3
  have HRB := Lib.hid (show w2.heap.size ≤ rb by rw [hrb]; exact Nat.le_refl _)
  have y1 : w3.cell? ⟨rb, 1, none⟩ = some (.int .i64 p.uses) := fr_cell_of_heap hh3 rfl
  have f1 : w3.frozen? ⟨rb, 1, none⟩ = false := fr_free_of_heap hh3
  clear hw3 hrb hh3 b4
  go_upto_region 5 with fail
  rw [HU.out]
  obtain ⟨w4, hw4⟩ : ∃ w4 : World, w4 = w3.setCell ⟨rb, 1, none⟩ (.int .i64 (p.uses + 1)) := ⟨_, rfl⟩
  rw [← hw4]
  obtain ⟨p', hp'⟩ : ∃ p' : QP, p' = { p with uses := p.uses + 1 } := ⟨_, rfl⟩
  have HH4 := Lib.hid (show w4.heap[rb]? = some (.cells (encQP p').toArray 55 (0, 0)) by rw [hw4, hp']; exact fr_setCell_at HH3.out)
  have hb4 : Below w.heap.size w w4 := (HB2.out.trans (HB3.out.mono HB2.out.size)).trans (by rw [hw4]; exact Below.setCell (Below.refl _ _) (by have := HRB.out; have := HB2.out.size; simp; omega) _)
  have HB4 := Lib.hid hb4
  have HX := Lib.hid (show QPAt x.q w4 p' ∧ QPG G x.q w4 p' ∧ p'.served.length = x.classes ∧ p'.sh.length = x.classes ∧ p'.abs = { p.abs with uses := p.uses + 1 } from by
    have h0 := (HR.out.inv p (List.mem_of_getElem? HK.out)).below hb4
    have h1 := (HR.out.ig p (List.mem_of_getElem? HK.out)).grow hb4.size
    have h2 := HR.out.lens p (List.mem_of_getElem? HK.out)
    rw [hp']
    exact ⟨⟨h0.sv, h0.hv, h0.inv⟩, ⟨h1.sg, h1.hg, h1.ig⟩, h2.1, h2.2, rfl⟩)
  clear hw4 hp' hb4 y1 f1
  go_wp2_with (refine wpList_load_agg (cs := (encQP p').toArray) 55 HH4.out Tryz.underlying55 rfl (qp_sz p') rfl _ rfl rfl ?_)
  refine (r17With_any b x next v l k p' w4 (HR.out.below HB4.out) (by omega) HX.out.1 HX.out.2.1 ⟨HX.out.2.2.1, HX.out.2.2.2.1⟩).mono ?_
  rintro e w5 ⟨rfl, hF5, v5, hR5⟩
  have HF5 := Lib.hid ((Fp.of_below HB4.out).trans hF5 (fun _ _ h => h))
  have HR5 := Lib.hid hR5
  clear hF5 hR5
  go_wp2_with fail
  go_ret
  exact ⟨rfl, HF5.out, v5, _, HR5.out, by rw [withQ_abs, HX.out.2.2.2.2]⟩
set_option maxRecDepth 100000 in
set_option maxHeartbeats 2000000 in
theorem r17Enter_full (s : ByteArray) (b : Nat) (x : PX) (next : Int) (v : Value) (l : List QP) (w : World) (h : RefP G w b x next v l) (hp : placeS s (l.map QP.name) = -1) (hfull : x.pools ≤ (l.length : Int)) : Calls Tryz.prog 40 #[.pointer (some ⟨b, 0, none⟩), .string s] w fun e w' => e = .returned (.int .i64 14) ∧ Below w.heap.size w w' := by
  have HR := Lib.hid h
  have HP := Lib.hid hp
  clear h hp
  go_enter Tryz.func40, Tryz.ntmps40
  go_wp2_with (refine wpList_load_agg (cs := pC x next v) 45 HR.out.head Tryz.underlying45 rfl (pC_sz x next v) rfl _ rfl rfl ?_)
  refine (r17Find_any s x next v l w HR.out.rows (by have := HR.out.few; omega)).mono ?_
  rintro e w2 ⟨rfl, hb2⟩
  rw [HP.out]
  have HB2 := Lib.hid hb2
  have HR2 := Lib.hid (HR.out.below hb2)
  clear hb2
  obtain ⟨a, cap, hv, -⟩ := HR2.out.rows.form
  have b0 := cell_regrown (show w2.cell? ⟨b, 0, none⟩ = some (.int .i64 x.pools) from fr_cell_of_heap HR2.out.head rfl)
  have b4 := cell_regrown (show w2.cell? ⟨b, 4, none⟩ = some (.slice a l.length cap) by rw [← hv]; exact fr_cell_of_heap HR2.out.head rfl)
  clear hv
  go_upto_region 7 with fail
  refine wp_region_quiet_below (by kernel_rfl) (by kernel_rfl) ?_
  repeat (go_big_quiet_step (fail))
  refine wpQuiet_nil ?_
  rintro _ ⟨⟨dq, osq⟩, rfl⟩
  obtain ⟨w3, hw3⟩ : ∃ w3 : World, w3 = grow (redrawn w2 dq) osq := ⟨_, rfl⟩
  have HB3 := Lib.hid (HB2.out.trans ((show Below w2.heap.size w2 w3 by rw [hw3]; exact below_regrown w2 dq osq).mono HB2.out.size))
  rw [show (grow (redrawn w2 (Regrown.mk dq osq).d) (Regrown.mk dq osq).os) = w3 from hw3.symm]
  clear hw3 b0 b4
  go_wp2_with fail
  go_ret
  exact ⟨rfl, HB3.out⟩
theorem s_info : (Tryz.prog.info? 100).map (fun i => (i.zero, i.size, i.bytes)) = some (some (.agg #[.int .i64 0, .slice none 0 0, .bool false]), 3, 40) := by kernel_rfl
theorem int_info17 : (Tryz.prog.info? 3).map (fun i => (i.zero, i.size, i.bytes)) = some (some (.int .i64 0), 1, 8) := by kernel_rfl
theorem sl_elems {α : Type} {enc : α → List Value} {K : Nat} (hK : ∀ x, (enc x).length = K) (h0 : 0 < K) {w : World} {g off cap : Nat} {l : List α} (hle : l.length ≤ cap) (h : ∀ k x, l[k]? = some x → w.rangeAt g (off + k * K) (enc x)) : SlAt w (.slice (some ⟨g, off, none⟩) l.length cap) l.length (l.flatMap enc) := by
  refine ⟨_, cap, rfl, hle, fun j u hu => ⟨g, off, rfl, ?_⟩⟩
  have hl : (l.flatMap enc).length = l.length * K := flat_len enc K hK l
  have hj : j < l.length * K := by rw [← hl]; exact (List.getElem?_eq_some_iff.1 hu).1
  have hm := Nat.mod_lt j h0
  have hd : j / K < l.length := Nat.div_lt_of_lt_mul (by rw [Nat.mul_comm]; exact hj)
  have e : j / K * K + j % K = j := by rw [Nat.mul_comm]; exact Nat.div_add_mod j K
  have hx : l[j / K]? = some (l[j / K]'hd) := List.getElem?_eq_getElem hd
  have h1 := flat_at enc K hK (j % K) hx hm
  rw [e, hu] at h1
  have h2 := h _ _ hx (j % K) u h1.symm
  rw [Nat.add_assoc, e] at h2
  exact h2
def SetPost (G : Nat → Prop) (b : Nat) (x : PX) (next : Int) (i j : Nat) (p : QP) (y : Bool × List TRow) (at' : Int) (l : List QP) (w : World) (e : Ending) (w' : World) : Prop := e = .returned (.tuple #[]) ∧ Fp (fun j => j = b) w w' ∧ ∃ v' l', RefP G w' b x next v' l' ∧ l'.map QP.abs = (l.map QP.abs).set i { p.abs with served := p.served.set j at', sh := (p.sh.map QS.abs).set j y }
theorem qs_one {w : World} {q : Int} {y : QS} (h : DRowsAt w y.v y.l) : (encQS q y).toArray.all (·.oneCell') = true := by
  obtain ⟨a, c, hv, _⟩ := h.form
  unfold encQS
  rw [hv]
  simp [Value.oneCell']
theorem encQS_one {w : World} {q : Int} {l : List QS} (h : ∀ s ∈ l, DRowsAt w s.v s.l) : ∀ u ∈ l.flatMap (encQS q), u.oneCell' = true := by
  intro u hu
  obtain ⟨s, hs, hx⟩ := List.mem_flatMap.1 hu
  obtain ⟨a, c, hv, _⟩ := (h s hs).form
  simp [encQS] at hx
  rcases hx with rfl | rfl | rfl
  · rfl
  · rw [hv]
    rfl
  · rfl
theorem encZ_one {l : List Int} : ∀ u ∈ l.flatMap encZ, u.oneCell' = true := by
  intro u hu
  obtain ⟨s, _, hx⟩ := List.mem_flatMap.1 hu
  simp [encZ] at hx
  rw [hx]
  rfl
structure CopyAt (K : Nat) (w w' : World) (g n cap : Nat) (us : List Value) (T : TypeId) : Prop where
  own : w'.ownsRow w.heap.size T K (.slice (some ⟨g, 0, none⟩) n cap) n us
  below : Below w.heap.size w w'
  lo : w.heap.size ≤ g
  hi : g < w'.heap.size
theorem wpList_copy_sl {P : Program} {w0 : World} {ops : Array Oper} {rest : List Oper} {o : Oper} {a : Act} {Q : Exit → Act → World → Prop} (hgd : o.guard = none) (s y : Operand) (t : TypeId)
    (ho : o.op = .call { callee := .builtin .append, args := #[s, y], argTypes := #[t, t] })
    (e : TypeId) (i : TypeInfo) (z : Value) (size bytes : Nat) (ht : P.underlying t = some (.slice e)) (hi : P.info? e = some i) (hz : i.zero = some z)
    (hsize : i.size = size) (hby : i.bytes = bytes) (hzs : z.cells.size = size) (hsz : 0 < size)
    (hs : a.eval s = .slice (some ⟨w0.heap.size, 0, none⟩) 0 0) (v : Value) (n : Nat) (us : List Value) (hx : a.eval y = v) (hsl : SlAt w0 v n us) (hl : us.length = n * size) (h1 : ∀ u ∈ us, u.oneCell' = true)
    (hn : 0 < n) (h63 : n ≤ maxLen) (hbytes : n * bytes ≤ 140737488355328)
    (h : ∀ g cap w', CopyAt size w0 w' g n cap us e → wpList P ops Q rest (a.put o.dst (.slice (some ⟨g, 0, none⟩) n cap)) w') : wpList P ops Q (o :: rest) a (w0.alloc (.cells #[] e)) := by
  obtain ⟨ad, cap, rfl, _, hc⟩ := hsl
  have hne : 0 < us.length := by rw [hl]; exact Nat.mul_pos hn hsz
  obtain ⟨g, off, rfl, _⟩ := hc 0 _ (List.getElem?_eq_getElem hne)
  refine wpList_append_lies _ hgd s y t ho w0.heap.size e i z size bytes ht hi hz hsize hby hzs hsz (.slice (some ⟨w0.heap.size, 0, none⟩) 0 0) 0 [] hs (own_empty (Nat.le_refl _)) ⟨g, off, none⟩ n cap us hx hl (fun j u hu => ?_) h1 hn (by rw [Nat.zero_add]; exact h63) (by rw [Nat.zero_add]; exact hbytes) (by simp) _ rfl (fun g3 cap3 w3 ho3 hg3 hat3 hlt3 => ?_)
  · obtain ⟨g', off', he, h0⟩ := hc j u hu
    cases he
    rw [Addr.add_mid]
    exact cell_below box_below h0
  · rw [Nat.zero_add, List.nil_append] at ho3
    rw [Nat.zero_add]
    refine h g3 cap3 w3 ⟨ho3, box_below.trans ⟨hg3.os, hg3.tape, hg3.output, Nat.le_trans (by simp) hg3.size, fun k hk => hg3.block k (by simp; omega) (fun e => by simp [Value.ownBlock] at e; omega)⟩, ?_, hlt3⟩
    exact own_block ho3 g3 rfl
theorem CopyAt.there {K : Nat} {w w' : World} {g cap k : Nat} {α : Type} {enc : α → List Value} {l : List α} {T : TypeId} (h : CopyAt K w w' g l.length cap (l.flatMap enc) T) (hk : k < l.length) : w'.there g (k * K) K := by
  obtain ⟨a, c, hv, _, _, hl, hc⟩ := own_cells h.own
  cases hv
  intro j hj
  have hlt : k * K + j < (l.flatMap enc).length := by
    rw [hl]
    have : (k + 1) * K ≤ l.length * K := Nat.mul_le_mul_right _ hk
    rw [Nat.add_mul] at this
    omega
  obtain ⟨g', he, _, _, h1, h2⟩ := hc (k * K + j) _ (List.getElem?_eq_getElem hlt)
  cases he
  exact ⟨by rw [h1]; rfl, h2⟩
theorem CopyAt.range {K : Nat} {w w' : World} {g cap k : Nat} {α : Type} {enc : α → List Value} {l : List α} {T : TypeId} {y : α} (h : CopyAt K w w' g l.length cap (l.flatMap enc) T) (hK : ∀ x, (enc x).length = K) (hk : l[k]? = some y) : w'.rangeAt g (k * K) (enc y) := by
  obtain ⟨a, c, hv, _, _, hl, hc⟩ := own_cells h.own
  cases hv
  intro j u hu
  have hj : j < K := by rw [← hK y]; exact (List.getElem?_eq_some_iff.1 hu).1
  obtain ⟨g', he, _, _, h1, _⟩ := hc (k * K + j) u (by rw [flat_at enc K hK j hk hj]; exact hu)
  cases he
  exact h1
theorem CopyAt.set {K : Nat} {w w' : World} {g cap j : Nat} {α : Type} {enc : α → List Value} {l : List α} {T : TypeId} (h : CopyAt K w w' g l.length cap (l.flatMap enc) T) (hK : ∀ x, (enc x).length = K) (h0 : 0 < K) (hj : j < l.length) (y : α) :
    SlAt (w'.setCells g (j * K) (enc y)) (.slice (some ⟨g, 0, none⟩) l.length cap) (l.set j y).length ((l.set j y).flatMap enc) ∧ Below w.heap.size w (w'.setCells g (j * K) (enc y)) := by
  obtain ⟨a, c, hv, hle, _⟩ := own_cells h.own
  cases hv
  refine ⟨?_, below_setCells h.lo _ _ _ h.below⟩
  rw [show (Value.slice (some ⟨g, 0, none⟩) l.length cap) = .slice (some ⟨g, 0, none⟩) (l.set j y).length cap by rw [List.length_set]]
  refine sl_elems hK h0 (by rw [List.length_set]; exact hle) (fun k z hz => ?_)
  rw [Nat.zero_add]
  by_cases e : j = k
  · subst e
    rw [List.getElem?_set_self hj] at hz
    cases hz
    exact World.rangeAt_setCells_same _ _ _ _ (by rw [hK]; exact h.there hj)
  · rw [List.getElem?_set_ne e] at hz
    refine World.rangeAt_setCells_apart (h.range hK hz) _ _ _ (.inr ?_)
    rw [hK, hK]
    rcases Nat.lt_or_ge k j with h1 | h1
    · left
      have : (k + 1) * K ≤ j * K := Nat.mul_le_mul_right _ h1
      rw [Nat.add_mul] at this
      omega
    · right
      have : (j + 1) * K ≤ k * K := Nat.mul_le_mul_right _ (by omega)
      rw [Nat.add_mul] at this
      omega
theorem SlAt.other {w : World} {v : Value} {n : Nat} {us : List Value} {rb i : Nat} {u : Value} (h : SlAt w v n us) (hb : ∀ g, v.ownBlock = some g → g ≠ rb ∧ g < w.heap.size) : SlAt (w.setCell ⟨rb, i, none⟩ u) v n us :=
  h.fp (G := fun k => k ≠ rb) (S := fun k => k = rb) (fun _ g hg => hb g hg) ((Fp.refl (fun k => k = rb) w).setCell (p := ⟨rb, i, none⟩) (fun _ => rfl) u) (fun _ _ hk => hk)
set_option maxRecDepth 100000 in
set_option maxHeartbeats 8000000 in
theorem r17Set_any (i j : Nat) (p : QP) (y : QS) (at' : Int) (b : Nat) (x : PX) (next : Int) (v : Value) (l : List QP) (w : World) (h : RefP G w b x next v l) (hi : l[i]? = some p) (hj : j < x.classes) (hcl : x.classes ≤ 1000) (hu : 0 < p.uses) (hy : DRowsAt w y.v y.l) (hyg : QSG G x.q w y) :
    Calls Tryz.prog 73 #[.pointer (some ⟨b, 0, none⟩), .int .i64 i, .int .i64 j, .agg (encQS x.q y).toArray, .int .i64 at'] w (SetPost G b x next i j p y.abs at' l w) := by
  have HR := Lib.hid h
  have HI := Lib.hid hi
  have HJ := Lib.hid (And.intro hj hcl)
  have HU := Lib.hid hu
  have HY := Lib.hid hy
  have HYG := Lib.hid hyg
  have hil : (i : Int) < (l.length : Int) := by have := (List.getElem?_eq_some_iff.1 hi).1; omega
  clear h hi hj hcl hu hy hyg
  go_enter Tryz.func73, Tryz.ntmps73
  go_upto_region 1 with fail
  obtain ⟨w1, hw1⟩ : ∃ w1 : World, w1 = w.alloc (.cells (encQS x.q y).toArray 100) := ⟨_, rfl⟩
  obtain ⟨sb, hsb⟩ : ∃ sb : Nat, sb = w.heap.size := ⟨_, rfl⟩
  rw [← hw1, ← hsb]
  have HB1 := Lib.hid (show Below w.heap.size w w1 by rw [hw1]; exact box_below)
  have HS1 := Lib.hid (show w1.heap[sb]? = some (.cells (encQS x.q y).toArray 100 (0, 0)) by rw [hw1, hsb]; exact fr_alloc_at)
  have HSB := Lib.hid (show w.heap.size ≤ sb by omega)
  clear hw1 hsb
  have HR1 := Lib.hid (HR.out.below HB1.out)
  obtain ⟨g, off, cap, hv, _, hc⟩ := HR1.out.rows.at encQP_len (by decide) HI.out
  have b4 : w1.cell? ⟨b, 4, none⟩ = some v := fr_cell_of_heap HR1.out.head rfl
  rw [hv] at b4
  have HRA := Lib.hid (show w1.rangeAt g (off + i * 4) (encQP p) from fun i u hu => hc i u hu)
  have HQ1 := Lib.hid (HR1.out.inv p (List.mem_of_getElem? HI.out))
  have HL := Lib.hid (HR.out.lens p (List.mem_of_getElem? HI.out))
  clear hc hv
  go_upto_region 2 with (first
    | (refine wpList_load_mid rfl 55 _ rfl g (off + i * 4) rfl (encQP p) _ HRA.out Tryz.underlying55 rfl (qp_sz p) ?_)
    | (refine wpList_store_new rfl 55 _ _ rfl w1.heap.size rfl (encQP p).toArray rfl rfl (qp_sz p) rfl HQ1.out.one ?_))
  simp only [Act.put]
  obtain ⟨w2, hw2⟩ : ∃ w2 : World, w2 = w1.alloc (.cells (encQP p).toArray 55) := ⟨_, rfl⟩
  obtain ⟨rb, hrb⟩ : ∃ rb : Nat, rb = w1.heap.size := ⟨_, rfl⟩
  rw [← hw2, ← hrb]
  have HB2 := Lib.hid (HB1.out.trans ((show Below w1.heap.size w1 w2 by rw [hw2]; exact box_below).mono HB1.out.size))
  have HH2 := Lib.hid (show w2.heap[rb]? = some (.cells (encQP p).toArray 55 (0, 0)) by rw [hw2, hrb]; exact fr_alloc_at)
  have HS2 := Lib.hid (show w2.heap[sb]? = some (.cells (encQS x.q y).toArray 100 (0, 0)) by rw [hw2]; exact fr_alloc_old HS1.out)
  have HRB := Lib.hid (show w.heap.size ≤ rb ∧ rb ≠ sb by have := HB1.out.size; have := fp_lt_of_heap HS1.out; omega)
  have HQ2 := Lib.hid ((HR.out.inv p (List.mem_of_getElem? HI.out)).below HB2.out)
  clear hw2 hrb b4
  have HSL := Lib.hid HQ2.out.hv
  have HSV := Lib.hid HQ2.out.sv
  have r3 : w2.cell? ⟨rb, 3, none⟩ = some p.hv := fr_cell_of_heap HH2.out rfl
  have hrw := fp_lt_of_heap HH2.out
  obtain ⟨i0, hi0, hz0, hz1, hz2⟩ := info_parts s_info
  have HONE := Lib.hid (encQS_one (q := x.q) HQ2.out.inv)
  have HNP := Lib.hid (show p.sh.length ≠ 0 ∧ p.sh.length ≤ 1000 ∧ p.served.length ≠ 0 ∧ p.served.length ≤ 1000 by have := HL.out; have := HJ.out; omega)
  go_upto_region 3 with (at_builtin; refine wpList_copy_sl rfl _ _ _ rfl 100 i0 _ 3 40 Tryz.underlying53 hi0 hz0 hz1 hz2 rfl (by decide) rfl p.hv p.sh.length (p.sh.flatMap (encQS x.q)) rfl HSL.out (flat_len (encQS x.q) 3 (encQS_len x.q) p.sh) HONE.out (by have := HNP.out; omega) (by have := HNP.out; unfold maxLen; omega) (by have := HNP.out; omega) ?_; intro g3 cap3 w3 hc3)
  have HC3 := Lib.hid hc3
  clear hc3 r3 hrw hi0 hz0 hz1 hz2
  have HS3 := Lib.hid ((HC3.out.below.block sb (fp_lt_of_heap HS2.out)).trans HS2.out)
  have hjn : (j : Int) < (p.sh.length : Int) := by have := HL.out; have := HJ.out; omega
  have HTH := Lib.hid (HC3.out.there (k := j) (by omega))
  go_upto_region 4 with (first
    | (refine wpList_load_agg (cs := (encQS x.q y).toArray) 100 HS3.out Tryz.underlying100 rfl (qs_sz x.q y) rfl _ rfl rfl ?_)
    | (refine wpList_store_mid rfl 100 _ _ rfl g3 (j * 3) (encQS x.q y).toArray rfl rfl HTH.out (qs_sz x.q y) (qs_one HY.out) ?_))
  obtain ⟨w4, hw4⟩ : ∃ w4 : World, w4 = w3.setCells g3 (j * 3) (encQS x.q y).toArray.toList := ⟨_, rfl⟩
  rw [← hw4]
  have HC4 := Lib.hid (show SlAt w4 (.slice (some ⟨g3, 0, none⟩) p.sh.length cap3) (p.sh.set j y).length ((p.sh.set j y).flatMap (encQS x.q)) ∧ Below w2.heap.size w2 w4 by rw [hw4]; exact HC3.out.set (encQS_len x.q) (by decide) (by omega) y)
  have HG4 := Lib.hid (show g3 < w4.heap.size ∧ w2.heap.size ≤ g3 by rw [hw4]; exact ⟨Nat.lt_of_lt_of_le HC3.out.hi (Fp.setCells (S := fun _ => True) (fun _ => trivial) _ _ (Fp.refl _ w3)).size, HC3.out.lo⟩)
  clear hw4
  have HB4 := Lib.hid (HB2.out.trans (HC4.out.2.mono HB2.out.size))
  have HH4 := Lib.hid ((HC4.out.2.block rb (fp_lt_of_heap HH2.out)).trans HH2.out)
  have r2 : w4.cell? ⟨rb, 2, none⟩ = some p.sv := fr_cell_of_heap HH4.out rfl
  have hrw := fp_lt_of_heap HH4.out
  obtain ⟨i1, hi0, hz0, hz1, hz2⟩ := info_parts int_info17
  have HSV4 := Lib.hid (HSV.out.below HC4.out.2)
  go_upto_region 5 with (at_builtin; refine wpList_copy_sl rfl _ _ _ rfl 3 i1 _ 1 8 Tryz.underlying52 hi0 hz0 hz1 hz2 rfl (by decide) rfl p.sv p.served.length (p.served.flatMap encZ) rfl HSV4.out (flat_len encZ 1 encZ_len p.served) encZ_one (by have := HNP.out; omega) (by have := HNP.out; unfold maxLen; omega) (by have := HNP.out; omega) ?_; intro g5 cap5 w5 hc5)
  have HC5 := Lib.hid hc5
  clear hc5 r2 hrw hi0 hz0 hz1 hz2
  have hjs : (j : Int) < (p.served.length : Int) := by have := HL.out; have := HJ.out; omega
  have HTH5 := Lib.hid (HC5.out.there (k := j) (by omega))
  have u5 : w5.cell? ⟨g5, j, none⟩ = some (.int .i64 (p.served[j]'(by omega))) := by
    have h1 := HC5.out.range encZ_len (List.getElem?_eq_getElem (show j < p.served.length by omega)) 0 _ rfl
    simpa using h1
  have f5 : w5.frozen? ⟨g5, j, none⟩ = false := by
    have h1 := (HTH5.out 0 (by decide)).2
    simpa using h1
  go_upto_region 6 with fail
  obtain ⟨w6, hw6⟩ : ∃ w6 : World, w6 = w5.setCell ⟨g5, j, none⟩ (.int .i64 at') := ⟨_, rfl⟩
  rw [← hw6]
  have HC6 := Lib.hid (show SlAt w6 (.slice (some ⟨g5, 0, none⟩) p.served.length cap5) (p.served.set j at').length ((p.served.set j at').flatMap encZ) ∧ Below w4.heap.size w4 w6 by
    have h1 := HC5.out.set encZ_len (by decide) (show j < p.served.length by omega) at'
    rw [Nat.mul_one, show w5.setCells g5 j (encZ at') = w6 by rw [hw6]; rfl] at h1
    exact h1)
  have HG6 := Lib.hid (show g5 < w6.heap.size ∧ w4.heap.size ≤ g5 by rw [hw6]; exact ⟨by simp [World.setCell]; exact HC5.out.hi, HC5.out.lo⟩)
  clear hw6 u5 f5
  have HB6 := Lib.hid (HB4.out.trans (HC6.out.2.mono HB4.out.size))
  have HH6 := Lib.hid ((HC6.out.2.block rb (fp_lt_of_heap HH4.out)).trans HH4.out)
  have f3 : w6.frozen? ⟨rb, 3, none⟩ = false := fr_free_of_heap HH6.out
  have y3 : w6.cell? ⟨rb, 3, none⟩ = some p.hv := fr_cell_of_heap HH6.out rfl
  go_upto_region 7 with fail
  obtain ⟨w7, hw7⟩ : ∃ w7 : World, w7 = w6.setCell ⟨rb, 3, none⟩ (.slice (some ⟨g3, 0, none⟩) p.sh.length cap3) := ⟨_, rfl⟩
  rw [← hw7]
  have HH7 := Lib.hid (show w7.heap[rb]? = some (.cells #[.string p.name, .int .i64 p.uses, p.sv, .slice (some ⟨g3, 0, none⟩) p.sh.length cap3] 55 (0, 0)) by rw [hw7]; exact fr_setCell_at HH6.out)
  have HW7 := Lib.hid hw7
  clear f3 y3 hw7
  have f2 : w7.frozen? ⟨rb, 2, none⟩ = false := fr_free_of_heap HH7.out
  have y2 : w7.cell? ⟨rb, 2, none⟩ = some p.sv := fr_cell_of_heap HH7.out rfl
  go_upto_region 8 with fail
  obtain ⟨w8, hw8⟩ : ∃ w8 : World, w8 = w7.setCell ⟨rb, 2, none⟩ (.slice (some ⟨g5, 0, none⟩) p.served.length cap5) := ⟨_, rfl⟩
  rw [← hw8]
  obtain ⟨p', hp'⟩ : ∃ p' : QP, p' = ⟨p.name, p.uses, p.served.set j at', p.sh.set j y, .slice (some ⟨g5, 0, none⟩) p.served.length cap5, .slice (some ⟨g3, 0, none⟩) p.sh.length cap3⟩ := ⟨_, rfl⟩
  have HH8 := Lib.hid (show w8.heap[rb]? = some (.cells (encQP p').toArray 55 (0, 0)) by rw [hw8, hp']; exact fr_setCell_at HH7.out)
  have hb8 : Below w.heap.size w w8 := by
    rw [hw8, HW7.out]
    exact Below.setCell (Below.setCell HB6.out HRB.out.1 _) HRB.out.1 _
  have hz8 : w8.heap.size = w6.heap.size := by rw [hw8, HW7.out]; simp [World.setCell]
  have hlt := fp_lt_of_heap HH4.out
  have HX := Lib.hid (show QPAt x.q w8 p' ∧ QPG G x.q w8 p' ∧ p'.served.length = x.classes ∧ p'.sh.length = x.classes ∧ p'.abs = { p.abs with served := p.served.set j at', sh := (p.sh.map QS.abs).set j y.abs } ∧ 0 < p'.uses from by
    have h0 := HR.out.inv p (List.mem_of_getElem? HI.out)
    have h1 := HR.out.ig p (List.mem_of_getElem? HI.out)
    have hg3 : g3 ≠ rb := by have := HG4.out.2; have := fp_lt_of_heap HH2.out; omega
    have hg5 : g5 ≠ rb := by have := HG6.out.2; omega
    have s3 := HC4.out.1.below HC6.out.2
    have s5 := HC6.out.1
    have hlt3 : g3 < w6.heap.size := Nat.lt_of_lt_of_le HG4.out.1 HC6.out.2.size
    have k3 : SlAt w8 (.slice (some ⟨g3, 0, none⟩) p.sh.length cap3) (p.sh.set j y).length ((p.sh.set j y).flatMap (encQS x.q)) := by
      rw [hw8, HW7.out]
      refine (s3.other (fun g hg => ?_)).other (fun g hg => ?_)
      · simp [Value.ownBlock] at hg
        subst hg
        exact ⟨hg3, hlt3⟩
      · simp [Value.ownBlock] at hg
        subst hg
        exact ⟨hg3, by simpa [World.setCell] using hlt3⟩
    have k5 : SlAt w8 (.slice (some ⟨g5, 0, none⟩) p.served.length cap5) (p.served.set j at').length ((p.served.set j at').flatMap encZ) := by
      rw [hw8, HW7.out]
      refine (s5.other (fun g hg => ?_)).other (fun g hg => ?_)
      · simp [Value.ownBlock] at hg
        subst hg
        exact ⟨hg5, HG6.out.1⟩
      · simp [Value.ownBlock] at hg
        subst hg
        exact ⟨hg5, by simpa [World.setCell] using HG6.out.1⟩
    have hs2 := HB2.out.size
    have hs4 := HB4.out.size
    rw [hp']
    refine ⟨⟨k5, k3, fun s hs => ?_⟩, ⟨fun _ g hg => ?_, fun _ g hg => ?_, fun s hs => ?_⟩, by rw [List.length_set]; exact HL.out.1, by rw [List.length_set]; exact HL.out.2, ?_, HU.out⟩
    · rcases mem_set hs with h | rfl
      · exact (h0.inv s h).below hb8
      · exact HY.out.below hb8
    · simp [Value.ownBlock] at hg
      subst hg
      exact ⟨HR.out.up _ (by have := HG6.out.2; omega), by rw [hz8]; exact HG6.out.1⟩
    · simp [Value.ownBlock] at hg
      subst hg
      exact ⟨HR.out.up _ (by have := HG4.out.2; omega), by rw [hz8]; exact hlt3⟩
    · rcases mem_set hs with h | rfl
      · exact (h1.ig s h).grow hb8.size
      · exact HYG.out.grow hb8.size
    · unfold QP.abs
      simp only [set_map])
  have HB8 := Lib.hid hb8
  clear hw8 hp' hb8 hz8 hlt y2 f2
  go_wp2_with (refine wpList_load_agg (cs := (encQP p').toArray) 55 HH8.out Tryz.underlying55 rfl (qp_sz p') rfl _ rfl rfl ?_)
  refine (r17With_any b x next v l i p' w8 (HR.out.below HB8.out) (by omega) HX.out.1 HX.out.2.1 ⟨HX.out.2.2.1, HX.out.2.2.2.1⟩).mono ?_
  rintro e w9 ⟨rfl, hF9, v9, hR9⟩
  have HF9 := Lib.hid ((Fp.of_below HB8.out).trans hF9 (fun _ _ h => h))
  have HR9 := Lib.hid hR9
  clear hF9 hR9
  go_wp2_with fail
  go_end0
  exact ⟨rfl, HF9.out, v9, _, HR9.out, by rw [withQ_abs, HX.out.2.2.2.2.1]; unfold withA; exact if_pos (show 0 < p.uses from HU.out)⟩
end Go.Proofs.YtdbjihkgafhakaaGreatDoor
namespace Go.Proofs.YtdbjihkgafhakaaGreatDoor
open Go.RowKit Go.Sort
variable {G : Nat → Prop}
theorem entC_def (E : Ent) : entC E = #[.string E.need, .int .i64 E.cls, .int .i64 E.ten, .int .i64 E.tw, .int .i64 E.inv, .int .i64 E.iw, .int .i64 E.id, .int .i64 E.cost] := rfl
theorem RefP.share {w w' : World} {b sb : Nat} {x : PX} {next : Int} {v : Value} {l : List QP} (h : RefP G w b x next v l) {p : QP} (hp : p ∈ l) {y : QS} (hy : y ∈ p.sh) (hb : Below w.heap.size w w') (hsb : w.heap.size ≤ sb) (hh : w'.heap[sb]? = some (.cells (encQS x.q y).toArray 100 (0, 0))) :
    RefS (But G sb) w' sb x.q y.gv y.v y.l := by
  have hi := (h.inv p hp).inv y hy
  have hg := (h.ig p hp).ig y hy
  have hlt := fp_lt_of_heap hh
  exact ⟨hh, hi.below hb, fun hl k hk => ⟨⟨(hg.vg hl k hk).1, by have := (hg.vg hl k hk).2; omega⟩, Nat.lt_of_lt_of_le (hg.vg hl k hk).2 hb.size⟩,
    fun d hd => ⟨fun hl k hk => ⟨⟨((hg.ig d hd).vg hl k hk).1, by have := ((hg.ig d hd).vg hl k hk).2; omega⟩, Nat.lt_of_lt_of_le ((hg.ig d hd).vg hl k hk).2 hb.size⟩, fun r hr k hk => ⟨⟨((hg.ig d hd).ig r hr k hk).1, by have := ((hg.ig d hd).ig r hr k hk).2; omega⟩, Nat.lt_of_lt_of_le ((hg.ig d hd).ig r hr k hk).2 hb.size⟩, (hg.ig d hd).few, (hg.ig d hd).fews⟩,
    fun e => e.2 rfl, fun k hk => ⟨h.up k (by have := hb.size; omega), by omega⟩, hg.few, hg.qs⟩
theorem RefS.value {w : World} {sb : Nat} {q : Int} {gv : Bool} {v : Value} {l : List DV} (h : RefS (But G sb) w sb q gv v l) : DRowsAt w v l ∧ QSG G q w ⟨gv, v, l⟩ :=
  ⟨h.rows, ⟨fun hl k hk => ⟨(h.vg hl k hk).1.1, (h.vg hl k hk).2⟩, fun d hd => ⟨fun hl k hk => ⟨((h.ig d hd).vg hl k hk).1.1, ((h.ig d hd).vg hl k hk).2⟩, fun r hr k hk => ⟨((h.ig d hd).ig r hr k hk).1.1, ((h.ig d hd).ig r hr k hk).2⟩, (h.ig d hd).few, (h.ig d hd).fews⟩, h.few, h.qs⟩⟩
theorem lset_id {α : Type} {l : List α} {j : Nat} {a : α} (h : l[j]? = some a) : l.set j a = l := by
  obtain ⟨hj, rfl⟩ := List.getElem?_eq_some_iff.1 h
  exact List.set_getElem_self hj
set_option maxRecDepth 100000 in
set_option maxHeartbeats 8000000 in
theorem r17Push_none (E : Ent) (b : Nat) (x : PX) (next : Int) (v : Value) (l : List QP) (w : World) (h : RefP G w b x next v l) (hn : placeS E.need (l.map QP.name) = -1) :
    Calls Tryz.prog 42 #[.pointer (some ⟨b, 0, none⟩), entV E] w (fun e w' => e = .returned (.int .i64 7) ∧ Below w.heap.size w w') := by
  have HR := Lib.hid h
  obtain ⟨I, hI⟩ : ∃ I : Int, I = -1 := ⟨_, rfl⟩
  have HI := Lib.hid (hn.trans hI.symm)
  have hI0 : I < 0 := by omega
  clear h hn hI
  unfold entV
  rw [entC_def]
  go_enter Tryz.func42, Tryz.ntmps42
  go_upto_region 1 with fail
  obtain ⟨w1, hw1⟩ : ∃ w1 : World, w1 = w.alloc (.cells #[.string E.need, .int .i64 E.cls, .int .i64 E.ten, .int .i64 E.tw, .int .i64 E.inv, .int .i64 E.iw, .int .i64 E.id, .int .i64 E.cost] 25) := ⟨_, rfl⟩
  obtain ⟨bx, hbx⟩ : ∃ bx : Nat, bx = w.heap.size := ⟨_, rfl⟩
  rw [← hw1, ← hbx]
  have HB1 := Lib.hid (show Below w.heap.size w w1 by rw [hw1]; exact box_below)
  have hx1 : w1.heap[bx]? = some (.cells (entC E) 25 (0, 0)) := by rw [hw1, hbx]; exact fr_alloc_at
  have HX1 := Lib.hid hx1
  have HBX := Lib.hid (show w.heap.size ≤ bx by omega)
  have HR1 := Lib.hid (HR.out.below HB1.out)
  have x0 := cell_regrown (show w1.cell? ⟨bx, 0, none⟩ = some (.string E.need) from fr_cell_of_heap hx1 rfl)
  have b0 := cell_regrown (show w1.cell? ⟨b, 0, none⟩ = some (.int .i64 x.pools) from fr_cell_of_heap HR1.out.head rfl)
  have b1 := cell_regrown (show w1.cell? ⟨b, 1, none⟩ = some (.int .i64 x.classes) from fr_cell_of_heap HR1.out.head rfl)
  have b2 := cell_regrown (show w1.cell? ⟨b, 2, none⟩ = some (.int .i64 x.q) from fr_cell_of_heap HR1.out.head rfl)
  have b3 := cell_regrown (show w1.cell? ⟨b, 3, none⟩ = some (.int .i64 next) from fr_cell_of_heap HR1.out.head rfl)
  have b4 := cell_regrown (show w1.cell? ⟨b, 4, none⟩ = some v from fr_cell_of_heap HR1.out.head rfl)
  have hfind : ∀ (d : Nat) (os : Array Obj), Calls Tryz.prog 50 #[.agg #[.int .i64 x.pools, .int .i64 x.classes, .int .i64 x.q, .int .i64 next, v], .string E.need] (grow (redrawn w1 d) os) fun e w' => e = .returned (.int .i64 I) ∧ Below (grow (redrawn w1 d) os).heap.size (grow (redrawn w1 d) os) w' := fun d os => by
    have h := r17Find_any E.need x next v l _ (HR1.out.below (below_regrown w1 d os)).rows (by have := HR.out.few; omega)
    rw [HI.out] at h
    exact h
  have HFIND := Lib.hid hfind
  clear hw1 hbx hx1 hfind
  refine wp_region_quiet_below (by kernel_rfl) (by kernel_rfl) ?_
  repeat (go_big_quiet_step (exact Calls.regrown_of (HFIND.out _ _)))
  refine wpQuiet_nil ?_
  rintro _ ⟨⟨dq, osq⟩, rfl⟩
  obtain ⟨w2, hw2⟩ : ∃ w2 : World, w2 = grow (redrawn w1 dq) osq := ⟨_, rfl⟩
  have HB2 := Lib.hid (HB1.out.trans ((show Below w1.heap.size w1 w2 by rw [hw2]; exact below_regrown w1 dq osq).mono HB1.out.size) : Below w.heap.size w w2)
  have hx2 : w2.heap[bx]? = some (.cells (entC E) 25 (0, 0)) := ((show Below w1.heap.size w1 w2 by rw [hw2]; exact below_regrown w1 dq osq).block bx (fp_lt_of_heap HX1.out)).trans HX1.out
  rw [show (grow (redrawn w1 (Regrown.mk dq osq).d) (Regrown.mk dq osq).os) = w2 from hw2.symm]
  have HX2 := Lib.hid hx2
  have HR2 := Lib.hid (HR.out.below HB2.out)
  clear hw2 x0 b0 b1 b2 b3 b4 HFIND
  clear hx2
  go_wp2_with fail
  go_ret
  exact ⟨rfl, HB2.out⟩
set_option maxRecDepth 100000 in
set_option maxHeartbeats 8000000 in
theorem r17Push_bad (E : Ent) (k : Nat) (b : Nat) (x : PX) (next : Int) (v : Value) (l : List QP) (w : World) (h : RefP G w b x next v l) (hn : placeS E.need (l.map QP.name) = k) (hbad : E.cls < 0 ∨ (x.classes : Int) ≤ E.cls) :
    Calls Tryz.prog 42 #[.pointer (some ⟨b, 0, none⟩), entV E] w (fun e w' => e = .returned (.int .i64 1) ∧ Below w.heap.size w w') := by
  have HR := Lib.hid h
  have HBAD := Lib.hid hbad
  obtain ⟨I, hI⟩ : ∃ I : Int, I = k := ⟨_, rfl⟩
  have HI := Lib.hid (hn.trans hI.symm)
  have hI0 : ¬ I < 0 := by omega
  clear h hn hI hbad
  unfold entV
  rw [entC_def]
  go_enter Tryz.func42, Tryz.ntmps42
  go_upto_region 1 with fail
  obtain ⟨w1, hw1⟩ : ∃ w1 : World, w1 = w.alloc (.cells #[.string E.need, .int .i64 E.cls, .int .i64 E.ten, .int .i64 E.tw, .int .i64 E.inv, .int .i64 E.iw, .int .i64 E.id, .int .i64 E.cost] 25) := ⟨_, rfl⟩
  obtain ⟨bx, hbx⟩ : ∃ bx : Nat, bx = w.heap.size := ⟨_, rfl⟩
  rw [← hw1, ← hbx]
  have HB1 := Lib.hid (show Below w.heap.size w w1 by rw [hw1]; exact box_below)
  have hx1 : w1.heap[bx]? = some (.cells (entC E) 25 (0, 0)) := by rw [hw1, hbx]; exact fr_alloc_at
  have HX1 := Lib.hid hx1
  have HBX := Lib.hid (show w.heap.size ≤ bx by omega)
  have HR1 := Lib.hid (HR.out.below HB1.out)
  have x0 := cell_regrown (show w1.cell? ⟨bx, 0, none⟩ = some (.string E.need) from fr_cell_of_heap hx1 rfl)
  have b0 := cell_regrown (show w1.cell? ⟨b, 0, none⟩ = some (.int .i64 x.pools) from fr_cell_of_heap HR1.out.head rfl)
  have b1 := cell_regrown (show w1.cell? ⟨b, 1, none⟩ = some (.int .i64 x.classes) from fr_cell_of_heap HR1.out.head rfl)
  have b2 := cell_regrown (show w1.cell? ⟨b, 2, none⟩ = some (.int .i64 x.q) from fr_cell_of_heap HR1.out.head rfl)
  have b3 := cell_regrown (show w1.cell? ⟨b, 3, none⟩ = some (.int .i64 next) from fr_cell_of_heap HR1.out.head rfl)
  have b4 := cell_regrown (show w1.cell? ⟨b, 4, none⟩ = some v from fr_cell_of_heap HR1.out.head rfl)
  have hfind : ∀ (d : Nat) (os : Array Obj), Calls Tryz.prog 50 #[.agg #[.int .i64 x.pools, .int .i64 x.classes, .int .i64 x.q, .int .i64 next, v], .string E.need] (grow (redrawn w1 d) os) fun e w' => e = .returned (.int .i64 I) ∧ Below (grow (redrawn w1 d) os).heap.size (grow (redrawn w1 d) os) w' := fun d os => by
    have h := r17Find_any E.need x next v l _ (HR1.out.below (below_regrown w1 d os)).rows (by have := HR.out.few; omega)
    rw [HI.out] at h
    exact h
  have HFIND := Lib.hid hfind
  clear hw1 hbx hx1 hfind
  refine wp_region_quiet_below (by kernel_rfl) (by kernel_rfl) ?_
  repeat (go_big_quiet_step (exact Calls.regrown_of (HFIND.out _ _)))
  refine wpQuiet_nil ?_
  rintro _ ⟨⟨dq, osq⟩, rfl⟩
  obtain ⟨w2, hw2⟩ : ∃ w2 : World, w2 = grow (redrawn w1 dq) osq := ⟨_, rfl⟩
  have HB2 := Lib.hid (HB1.out.trans ((show Below w1.heap.size w1 w2 by rw [hw2]; exact below_regrown w1 dq osq).mono HB1.out.size) : Below w.heap.size w w2)
  have hx2 : w2.heap[bx]? = some (.cells (entC E) 25 (0, 0)) := ((show Below w1.heap.size w1 w2 by rw [hw2]; exact below_regrown w1 dq osq).block bx (fp_lt_of_heap HX1.out)).trans HX1.out
  rw [show (grow (redrawn w1 (Regrown.mk dq osq).d) (Regrown.mk dq osq).os) = w2 from hw2.symm]
  have HX2 := Lib.hid hx2
  have HR2 := Lib.hid (HR.out.below HB2.out)
  clear hw2 x0 b0 b1 b2 b3 b4 HFIND
  have y1 := cell_regrown (show w2.cell? ⟨bx, 1, none⟩ = some (.int .i64 E.cls) from fr_cell_of_heap hx2 rfl)
  have c1 := cell_regrown (show w2.cell? ⟨b, 1, none⟩ = some (.int .i64 x.classes) from fr_cell_of_heap HR2.out.head rfl)
  clear hx2
  go_upto_region 4 with fail
  have hg : decide (E.cls < 0) = true ∨ (decide (E.cls < 0) = false ∧ decide ((x.classes : Int) ≤ E.cls) = true) := by
    have := HBAD.out
    by_cases h1 : E.cls < 0
    · exact .inl (decide_eq_true h1)
    · exact .inr ⟨decide_eq_false h1, decide_eq_true (by omega)⟩
  rcases hg with g1 | ⟨g1, g2⟩
  · refine wp_region_quiet_below (by kernel_rfl) (by kernel_rfl) ?_
    repeat (go_big_quiet_step (fail))
    refine wpQuiet_nil ?_
    rintro _ ⟨⟨dq, osq⟩, rfl⟩
    obtain ⟨w3, hw3⟩ : ∃ w3 : World, w3 = grow (redrawn w2 dq) osq := ⟨_, rfl⟩
    have HB3 := Lib.hid (HB2.out.trans ((show Below w2.heap.size w2 w3 by rw [hw3]; exact below_regrown w2 dq osq).mono HB2.out.size))
    rw [show (grow (redrawn w2 (Regrown.mk dq osq).d) (Regrown.mk dq osq).os) = w3 from hw3.symm]
    clear hw3 y1 c1
    go_wp2_with fail
    go_ret
    exact ⟨rfl, HB3.out⟩
  · refine wp_region_quiet_below (by kernel_rfl) (by kernel_rfl) ?_
    repeat (go_big_quiet_step (fail))
    refine wpQuiet_nil ?_
    rintro _ ⟨⟨dq, osq⟩, rfl⟩
    obtain ⟨w3, hw3⟩ : ∃ w3 : World, w3 = grow (redrawn w2 dq) osq := ⟨_, rfl⟩
    have HB3 := Lib.hid (HB2.out.trans ((show Below w2.heap.size w2 w3 by rw [hw3]; exact below_regrown w2 dq osq).mono HB2.out.size))
    rw [show (grow (redrawn w2 (Regrown.mk dq osq).d) (Regrown.mk dq osq).os) = w3 from hw3.symm]
    clear hw3 y1 c1
    go_wp2_with fail
    go_ret
    exact ⟨rfl, HB3.out⟩
set_option maxRecDepth 100000 in
set_option maxHeartbeats 8000000 in
theorem r17Push_some (E : Ent) (k j : Nat) (p : QP) (y : QS) (b : Nat) (x : PX) (next : Int) (v : Value) (l : List QP) (w : World) (h : RefP G w b x next v l) (hn : placeS E.need (l.map QP.name) = k) (hk : l[k]? = some p) (hj : E.cls = j) (hy : p.sh[j]? = some y) (hcl : x.classes ≤ 1000) (hu : 0 < p.uses) (hfull : ∀ t ∈ y.l.map Prod.fst, t.rows ≠ [] ∧ ∀ r ∈ t.rows, r.its ≠ []) (hf : totT (y.l.map Prod.fst) < 1000000) (hlen : y.l.length < 1000000) :
    Calls Tryz.prog 42 #[.pointer (some ⟨b, 0, none⟩), entV E] w (QDocPost G b x next ((l.map QP.abs).set k { p.abs with sh := (p.sh.map QS.abs).set j (y.gv, (pushT E (y.l.map Prod.fst)).2) }) (.int .i64 (pushT E (y.l.map Prod.fst)).1) w) := by
  have HR := Lib.hid h
  obtain ⟨I, hI⟩ : ∃ I : Int, I = k := ⟨_, rfl⟩
  have HI := Lib.hid (hn.trans hI.symm)
  have hI0 : ¬ I < 0 := by omega
  have HL := Lib.hid (h.lens p (List.mem_of_getElem? hk))
  have hjl : j < p.sh.length := (List.getElem?_eq_some_iff.1 hy).1
  have g1 : decide ((j : Int) < 0) = false := decide_eq_false (by omega)
  have g2 : decide (x.classes ≤ j) = false := decide_eq_false (by have := HL.out; omega)
  have HII := Lib.hid hI
  have HK := Lib.hid hk
  have HJ := Lib.hid hj
  have HY := Lib.hid hy
  have HCL := Lib.hid (And.intro hcl hu)
  have HFU := Lib.hid (And.intro hfull (And.intro hf hlen))
  have HJL := Lib.hid hjl
  clear h hn hI hk hj hy hcl hu hfull hf hlen hjl
  unfold entV
  rw [entC_def]
  go_enter Tryz.func42, Tryz.ntmps42
  go_upto_region 1 with fail
  obtain ⟨w1, hw1⟩ : ∃ w1 : World, w1 = w.alloc (.cells #[.string E.need, .int .i64 E.cls, .int .i64 E.ten, .int .i64 E.tw, .int .i64 E.inv, .int .i64 E.iw, .int .i64 E.id, .int .i64 E.cost] 25) := ⟨_, rfl⟩
  obtain ⟨bx, hbx⟩ : ∃ bx : Nat, bx = w.heap.size := ⟨_, rfl⟩
  rw [← hw1, ← hbx]
  have HB1 := Lib.hid (show Below w.heap.size w w1 by rw [hw1]; exact box_below)
  have hx1 : w1.heap[bx]? = some (.cells (entC E) 25 (0, 0)) := by rw [hw1, hbx]; exact fr_alloc_at
  have HX1 := Lib.hid hx1
  have HBX := Lib.hid (show w.heap.size ≤ bx by omega)
  have HR1 := Lib.hid (HR.out.below HB1.out)
  have x0 := cell_regrown (show w1.cell? ⟨bx, 0, none⟩ = some (.string E.need) from fr_cell_of_heap hx1 rfl)
  have b0 := cell_regrown (show w1.cell? ⟨b, 0, none⟩ = some (.int .i64 x.pools) from fr_cell_of_heap HR1.out.head rfl)
  have b1 := cell_regrown (show w1.cell? ⟨b, 1, none⟩ = some (.int .i64 x.classes) from fr_cell_of_heap HR1.out.head rfl)
  have b2 := cell_regrown (show w1.cell? ⟨b, 2, none⟩ = some (.int .i64 x.q) from fr_cell_of_heap HR1.out.head rfl)
  have b3 := cell_regrown (show w1.cell? ⟨b, 3, none⟩ = some (.int .i64 next) from fr_cell_of_heap HR1.out.head rfl)
  have b4 := cell_regrown (show w1.cell? ⟨b, 4, none⟩ = some v from fr_cell_of_heap HR1.out.head rfl)
  have hfind : ∀ (d : Nat) (os : Array Obj), Calls Tryz.prog 50 #[.agg #[.int .i64 x.pools, .int .i64 x.classes, .int .i64 x.q, .int .i64 next, v], .string E.need] (grow (redrawn w1 d) os) fun e w' => e = .returned (.int .i64 I) ∧ Below (grow (redrawn w1 d) os).heap.size (grow (redrawn w1 d) os) w' := fun d os => by
    have h := r17Find_any E.need x next v l _ (HR1.out.below (below_regrown w1 d os)).rows (by have := HR.out.few; omega)
    rw [HI.out] at h
    exact h
  have HFIND := Lib.hid hfind
  clear hw1 hbx hx1 hfind
  refine wp_region_quiet_below (by kernel_rfl) (by kernel_rfl) ?_
  repeat (go_big_quiet_step (exact Calls.regrown_of (HFIND.out _ _)))
  refine wpQuiet_nil ?_
  rintro _ ⟨⟨dq, osq⟩, rfl⟩
  obtain ⟨w2, hw2⟩ : ∃ w2 : World, w2 = grow (redrawn w1 dq) osq := ⟨_, rfl⟩
  have HB2 := Lib.hid (HB1.out.trans ((show Below w1.heap.size w1 w2 by rw [hw2]; exact below_regrown w1 dq osq).mono HB1.out.size) : Below w.heap.size w w2)
  have hx2 : w2.heap[bx]? = some (.cells (entC E) 25 (0, 0)) := ((show Below w1.heap.size w1 w2 by rw [hw2]; exact below_regrown w1 dq osq).block bx (fp_lt_of_heap HX1.out)).trans HX1.out
  rw [show (grow (redrawn w1 (Regrown.mk dq osq).d) (Regrown.mk dq osq).os) = w2 from hw2.symm]
  have HX2 := Lib.hid hx2
  have HR2 := Lib.hid (HR.out.below HB2.out)
  clear hw2 x0 b0 b1 b2 b3 b4 HFIND
  have y1 := cell_regrown (show w2.cell? ⟨bx, 1, none⟩ = some (.int .i64 j) by rw [← HJ.out]; exact fr_cell_of_heap hx2 rfl)
  have c1 := cell_regrown (show w2.cell? ⟨b, 1, none⟩ = some (.int .i64 x.classes) from fr_cell_of_heap HR2.out.head rfl)
  clear hx2
  go_upto_region 4 with fail
  refine wp_region_quiet_below (by kernel_rfl) (by kernel_rfl) ?_
  repeat (go_big_quiet_step (fail))
  refine wpQuiet_nil ?_
  rintro _ ⟨⟨dq, osq⟩, rfl⟩
  obtain ⟨w3, hw3⟩ : ∃ w3 : World, w3 = grow (redrawn w2 dq) osq := ⟨_, rfl⟩
  have HB23 := Lib.hid (show Below w2.heap.size w2 w3 by rw [hw3]; exact below_regrown w2 dq osq)
  have HB3 := Lib.hid (HB2.out.trans (HB23.out.mono HB2.out.size))
  rw [show (grow (redrawn w2 (Regrown.mk dq osq).d) (Regrown.mk dq osq).os) = w3 from hw3.symm]
  clear hw3 y1 c1 g1 g2
  rw [HII.out]
  have hx3 := (HB23.out.block bx (fp_lt_of_heap HX2.out)).trans HX2.out
  have HX3 := Lib.hid hx3
  have HR3 := Lib.hid (HR.out.below HB3.out)
  obtain ⟨g, off, cap, hv, _, hc⟩ := HR3.out.rows.at encQP_len (by decide) HK.out
  have HP3 := Lib.hid (HR3.out.inv p (List.mem_of_getElem? HK.out))
  obtain ⟨g2, off2, cap2, hv2, _, hc2⟩ := HP3.out.hv.at (encQS_len x.q) (by decide) HY.out
  obtain ⟨ya, yc, hyv, -⟩ := (HP3.out.inv y (List.mem_of_getElem? HY.out)).form
  have HVF := Lib.hid (And.intro hv (And.intro hv2 hyv))
  have x1 : w3.cell? ⟨bx, 1, none⟩ = some (.int .i64 j) := by rw [← HJ.out]; exact fr_cell_of_heap hx3 rfl
  have d4 : w3.cell? ⟨b, 4, none⟩ = some (.slice (some ⟨g, off, none⟩) l.length cap) := by rw [← hv]; exact fr_cell_of_heap HR3.out.head rfl
  have r3 : w3.cell? ⟨g, off + k * 4 + 3, none⟩ = some (.slice (some ⟨g2, off2, none⟩) p.sh.length cap2) := by rw [← hv2]; exact hc 3 _ rfl
  have s0 : w3.cell? ⟨g2, off2 + j * 3, none⟩ = some (.int .i64 x.q) := hc2 0 _ rfl
  have s1 : w3.cell? ⟨g2, off2 + j * 3 + 1, none⟩ = some (.slice ya y.l.length yc) := by rw [← hyv]; exact hc2 1 _ rfl
  have s2 : w3.cell? ⟨g2, off2 + j * 3 + 2, none⟩ = some (.bool y.gv) := hc2 2 _ rfl
  have hkl : (k : Int) < (l.length : Int) := by have := (List.getElem?_eq_some_iff.1 HK.out).1; omega
  have hjl : (j : Int) < (p.sh.length : Int) := by have := HJL.out; omega
  have lb := fp_lt_of_heap HR3.out.head
  have lx := fp_lt_of_heap hx3
  have lg := World.block_lt_of_cell? w3 _ r3
  have lg2 := World.block_lt_of_cell? w3 _ s0
  clear hx3 hc hc2 hv hv2 hyv
  go_upto_region 6 with fail
  go_region
  clear x1 d4 r3 s0 s1 s2 hkl hjl lb lx lg lg2
  obtain ⟨w4, hw4⟩ : ∃ w4 : World, w4 = (w3.alloc (.cells #[.int .i64 x.q, .slice ya y.l.length yc, .bool y.gv] 100)).drew := ⟨_, rfl⟩
  obtain ⟨sb, hsb⟩ : ∃ sb : Nat, sb = w3.heap.size := ⟨_, rfl⟩
  rw [← hw4, ← hsb]
  have HB34 := Lib.hid (show Below w3.heap.size w3 w4 by rw [hw4]; exact ⟨rfl, rfl, rfl, by show _ ≤ (w3.alloc _).heap.size; simp, fun k hk => Below.heap_alloc _ _ _ hk⟩)
  have HB4 := Lib.hid (HB3.out.trans (HB34.out.mono HB3.out.size))
  have HSB := Lib.hid (show w3.heap.size ≤ sb by omega)
  have HRS := Lib.hid (HR.out.share (List.mem_of_getElem? HK.out) (List.mem_of_getElem? HY.out) HB4.out (by have := HB3.out.size; omega) (show w4.heap[sb]? = some (.cells (encQS x.q y).toArray 100 (0, 0)) by rw [hw4, hsb, show (encQS x.q y).toArray = #[.int .i64 x.q, .slice ya y.l.length yc, .bool y.gv] by unfold encQS; rw [HVF.out.2.2]]; exact fr_alloc_at))
  have HX4 := Lib.hid ((HB34.out.block bx (fp_lt_of_heap HX3.out)).trans HX3.out)
  clear hw4 hsb
  go_wp2_with (refine wpList_load_agg (cs := entC E) 25 HX4.out Tryz.underlying25 rfl (ent_sz E) rfl _ rfl rfl ?_)
  refine (r16Push_any E sb x.q y.gv y.v y.l w4 HRS.out HFU.out.1 HFU.out.2.1 HFU.out.2.2).mono ?_
  rintro e w5 ⟨rfl, hF5, v5, l5, hR5, hm5⟩
  have HR5 := Lib.hid hR5
  have HM5 := Lib.hid hm5
  have hb45 : Below w3.heap.size w4 w5 := hF5.below HB34.out.size (fun j hj e => by have := HSB.out; omega)
  have HB5 := Lib.hid (HB4.out.trans (hb45.mono HB3.out.size))
  have hx5 := (hb45.block bx (fp_lt_of_heap HX3.out)).trans HX4.out
  have HRP5 := Lib.hid (HR.out.below HB5.out)
  obtain ⟨va, vc, hv5, -⟩ := hR5.rows.form
  obtain ⟨g, off, cap, hv, _, hc⟩ := HRP5.out.rows.at encQP_len (by decide) HK.out
  obtain ⟨so, hso⟩ : ∃ so, p.served[j]? = some so := ⟨_, List.getElem?_eq_getElem (by have := HL.out; have := HJL.out; omega)⟩
  have HP5 := Lib.hid (HRP5.out.inv p (List.mem_of_getElem? HK.out))
  obtain ⟨g2, off2, cap2, hv2, _, hc2⟩ := HP5.out.sv.at encZ_len (by decide) hso
  have HSO := Lib.hid hso
  have x1 : w5.cell? ⟨bx, 1, none⟩ = some (.int .i64 j) := by rw [← HJ.out]; exact fr_cell_of_heap hx5 rfl
  have d4 : w5.cell? ⟨b, 4, none⟩ = some (.slice (some ⟨g, off, none⟩) l.length cap) := by rw [← hv]; exact fr_cell_of_heap HRP5.out.head rfl
  have r2 : w5.cell? ⟨g, off + k * 4 + 2, none⟩ = some (.slice (some ⟨g2, off2, none⟩) p.served.length cap2) := by rw [← hv2]; exact hc 2 _ rfl
  have z0 : w5.cell? ⟨g2, off2 + j, none⟩ = some (.int .i64 so) := by have := hc2 0 _ rfl; simpa using this
  have t0 : w5.cell? ⟨sb, 0, none⟩ = some (.int .i64 x.q) := fr_cell_of_heap hR5.head rfl
  have t1 : w5.cell? ⟨sb, 1, none⟩ = some (.slice va l5.length vc) := by rw [← hv5]; exact fr_cell_of_heap hR5.head rfl
  have t2 : w5.cell? ⟨sb, 2, none⟩ = some (.bool y.gv) := fr_cell_of_heap hR5.head rfl
  have hkl : (k : Int) < (l.length : Int) := by have := (List.getElem?_eq_some_iff.1 HK.out).1; omega
  have hjs : (j : Int) < (p.served.length : Int) := by have := (List.getElem?_eq_some_iff.1 hso).1; omega
  have HV5 := Lib.hid hv5
  clear hF5 hR5 hm5 hb45 hx5 hv5 hv hc hso hv2 hc2
  go_upto_region 8 with fail
  go_still_tail 17, (by kernel_rfl)
  clear x1 d4 r2 z0 t0 t1 t2 hkl hjs
  obtain ⟨w6, hw6⟩ : ∃ w6 : World, w6 = w5.drew := ⟨_, rfl⟩
  change wpList _ _ _ _ _ w5.drew
  rw [← hw6]
  have HB56 := Lib.hid (show Below w5.heap.size w5 w6 by rw [hw6]; exact ⟨rfl, rfl, rfl, Nat.le_refl _, fun _ _ => rfl⟩)
  have HB6 := Lib.hid (HB5.out.trans (HB56.out.mono HB5.out.size))
  have hset := r17Set_any k j p ⟨y.gv, v5, l5⟩ so b x next v l w6 (HR.out.below HB6.out) HK.out (by have := HL.out; have := HJL.out; omega) HCL.out.1 HCL.out.2 (HR5.out.below HB56.out).value.1 (HR5.out.below HB56.out).value.2
  rw [show (encQS x.q ⟨y.gv, v5, l5⟩).toArray = #[.int .i64 x.q, .slice va l5.length vc, .bool y.gv] by unfold encQS; simp only [HV5.out]] at hset
  have HSET := Lib.hid hset
  clear hw6 hset
  go_wp2_with fail
  refine HSET.out.mono ?_
  rintro e w7 ⟨rfl, hF7, v7, l7, hR7, hm7⟩
  have HF7 := Lib.hid ((Fp.of_below HB6.out).trans hF7 (fun _ _ h => h))
  have HR7 := Lib.hid hR7
  have HM7 := Lib.hid hm7
  clear hF7 hR7 hm7
  go_wp2_with fail
  go_ret
  exact ⟨rfl, HF7.out, v7, l7, HR7.out, by rw [HM7.out, lset_id HSO.out]; unfold QS.abs; rw [HM5.out]; rfl⟩
end Go.Proofs.YtdbjihkgafhakaaGreatDoor
