/-
 share.Share: rows in plain words; how a share lies in memory; its sources, tenant: the walks.
-/
import Derived.Test.YtdbjihkgafhakaaGreatDoorSl07
import Derived.Test.YtdbjihkgafhakaaGreatDoorSl08
import Derived.Lib.QuietBelow
import Derived.BigQuiet
namespace Go.Proofs.YtdbjihkgafhakaaGreatDoor
open Go.RowKit
structure TRow where
 id : Int
 wt : Int
 df : Int
 gv : Bool
 rows : List FRow
def Z5 (rows : List FRow) : It := match rows with
 | r :: _ => r.its.headD ⟨0, 0⟩
 | [] => ⟨0, 0⟩
def ZaZ (q : Int) (gv : Bool) (x : TRow) : TRow := if gv then x else { x with df := x.df + q * x.wt }
inductive PicksT (q : Int) : Bool → List TRow → List TRow → Prop
 | grant {gv : Bool} {x : TRow} {r : List TRow} {l2 : List FRow} (hp : PicksR q x.gv x.rows l2) (h : (Z5 l2).cost ≤ (ZaZ q gv x).df) : PicksT q gv (x :: r) ({ ZaZ q gv x with gv := true, rows := l2 } :: r)
 | rotate {gv : Bool} {x : TRow} {r l3 : List TRow} {l2 : List FRow} (hp : PicksR q x.gv x.rows l2) (h : ¬ (Z5 l2).cost ≤ (ZaZ q gv x).df) (hr : PicksT q false (r ++ [{ ZaZ q gv x with gv := true, rows := l2 }]) l3) : PicksT q gv (x :: r) l3
theorem PicksT.once {q : Int} {gv : Bool} {l l2 l3 : List TRow} (h : PicksT q gv l l2) (h' : PicksT q gv l l3) : l2 = l3 := by
 induction h with
 | grant hp h =>
   cases h' with
   | grant hp' h1 => rw [hp.once hp']
   | rotate hp' h1 => exact absurd (hp.once hp' ▸ h) h1
 | rotate hp h _ ih =>
   cases h' with
   | grant hp' h1 => exact absurd (hp.once hp' ▸ h1) h
   | rotate hp' _ h2 => exact ih (by rw [hp.once hp']; exact h2)
/-! ### The inner pick as a function -/
def pickA (q : Int) (s : Bool × List FRow) : Bool × List FRow := (true, goR q (Zac s.1 (s.2.map ndOf) + 1) s.1 s.2)
theorem ZjV {q : Int} (hq1 : 1 ≤ q) (hq : q ≤ 64) : ∀ (n : Nat) {gv : Bool} {l : List FRow}, RowsOk gv l → l ≠ [] → Zac gv (l.map ndOf) < n → ends q n gv l = true
 | 0, _, _, _, _, h => by omega
 | n + 1, gv, [], _, h, _ => absurd rfl h
 | n + 1, gv, x :: r, hok, _, hn => by
   unfold ends
   by_cases hc : headC x.its ≤ (ZF q gv x).df
   ·simp [hc]
   ·obtain ⟨h1, h2⟩ := hok.rotate hq1 hq hc
    have h3 := ZjV hq1 hq n h1 (by simp) (by omega)
    simp [h3]
theorem Zcn {q : Int} {gv : Bool} {l : List FRow} (hq1 : 1 ≤ q) (hq : q ≤ 64) (hok : RowsOk gv l) (hne : l ≠ []) : PicksR q gv l (pickA q (gv, l)).2 := ZgP (ZjV hq1 hq _ hok hne (Nat.lt_succ_self _))
theorem ZbC {q : Int} {gv : Bool} {l l2 : List FRow} (h : PicksR q gv l l2) : l2 ≠ [] := by
 induction h with
 | grant h => simp
 | rotate h hr ih => exact ih
theorem ZeR {gv : Bool} {l : List FRow} (hok : RowsOk gv l) (hne : l ≠ []) : 1 ≤ (Z5 l).cost ∧ (Z5 l).cost ≤ 64 := by
 cases l with
 | nil => exact absurd rfl hne
 | cons x r =>
   obtain ⟨y, ys, hy, h1, h2⟩ := hok.full x List.mem_cons_self
   have : Z5 (x :: r) = y := by
    show x.its.headD ⟨0, 0⟩ = y
    rw [hy]
    rfl
   rw [this]
   exact ⟨h1, h2⟩
def ZcL (q : Int) (a : Int → Bool × List FRow) (id : Int) : (Int → Bool × List FRow) × It := (upd a id (pickA q (a id)), Z5 (pickA q (a id)).2)
def Zj (a : Int → Bool × List FRow) (n : Nd) : TRow := ⟨n.id, n.wt, n.df, (a n.id).1, (a n.id).2⟩
theorem ZbV (a : Int → Bool × List FRow) (q : Int) (gv : Bool) (n : Nd) : Zj a (ZD q gv n) = ZaZ q gv (Zj a n) := by
 cases gv <;> rfl
theorem Zen {a : Int → Bool × List FRow} {id : Int} {s : Bool × List FRow} {ns : List Nd} (h : ∀ n ∈ ns, n.id ≠ id) : ns.map (Zj (upd a id s)) = ns.map (Zj a) := List.map_congr_left (fun m hm => by
 unfold Zj
 rw [Zx _ (h m hm)])
def ZeS (a : Int → Bool × List FRow) (ns : List Nd) : Prop := ∀ n ∈ ns, RowsOk (a n.id).1 (a n.id).2 ∧ (a n.id).2 ≠ []
theorem Zjh {q : Int} {gv : Bool} {ns ns2 : List Nd} {a a2 : Int → Bool × List FRow} {y : It} (h : Picks q (ZcL q) gv ns a ns2 a2 y) (hq1 : 1 ≤ q) (hq : q ≤ 64) (hon : (ns.map Nd.id).Nodup) (hok : ZeS a ns) :
 PicksT q gv (ns.map (Zj a)) (ns2.map (Zj a2)) ∧ (∀ n r, ns2 = n :: r → y = Z5 (a2 n.id).2) ∧ ZeS a2 ns2 ∧ ∀ P : Int → Value → Prop, (∀ n ∈ ns, P n.id n.src) → ∀ n ∈ ns2, P n.id n.src := by
 induction h with
 | @grant gv n r a h =>
   have hn := hok n List.mem_cons_self
   have hp := Zcn hq1 hq hn.1 hn.2
   rw [List.map_cons, List.nodup_cons] at hon
   have hnr : ∀ m ∈ r, m.id ≠ n.id := fun m hm e => hon.1 (e ▸ List.mem_map_of_mem hm)
   refine ⟨?_, fun n' r' e => ?_, fun m hm => ?_, fun P hP m hm => ?_⟩
   ·rw [List.map_cons, List.map_cons]
    rw [show (ZcL q a n.id).1 = upd a n.id (pickA q (a n.id)) from rfl, Zen hnr]
    have e : Zj (upd a n.id (pickA q (a n.id))) (ZD q gv n) = { ZaZ q gv (Zj a n) with gv := true, rows := (pickA q (a n.id)).2 } := by
     rw [← ZbV]
     unfold Zj
     rw [(Z4 q gv n).1, ZE]
     rfl
    rw [e]
    refine .grant hp ?_
    rw [← ZbV]
    exact h
   ·cases e
    rw [(Z4 q gv n).1]
    show Z5 (pickA q (a n.id)).2 = Z5 (upd a n.id (pickA q (a n.id)) n.id).2
    rw [ZE]
   ·show RowsOk (upd a n.id (pickA q (a n.id)) m.id).1 (upd a n.id (pickA q (a n.id)) m.id).2 ∧ (upd a n.id (pickA q (a n.id)) m.id).2 ≠ []
    rcases List.mem_cons.1 hm with rfl | hm
    ·rw [(Z4 q gv n).1, ZE]
     exact ⟨ZbX hp hq1 hq hn.1, ZbC hp⟩
    ·rw [Zx _ (hnr m hm)]
     exact hok m (List.mem_cons_of_mem _ hm)
   ·rcases List.mem_cons.1 hm with rfl | hm
    ·rw [(Z4 q gv n).1, (Z4 q gv n).2.2.1]
     exact hP n List.mem_cons_self
    ·exact hP m (List.mem_cons_of_mem _ hm)
 | @rotate gv n r a ns2 a2 y h hr ih =>
   have hn := hok n List.mem_cons_self
   have hp := Zcn hq1 hq hn.1 hn.2
   have hon' := hon
   rw [List.map_cons, List.nodup_cons] at hon
   have hnr : ∀ m ∈ r, m.id ≠ n.id := fun m hm e => hon.1 (e ▸ List.mem_map_of_mem hm)
   have hon2 : ((r ++ [ZD q gv n]).map Nd.id).Nodup := by
    rw [List.map_append, List.map_cons, List.map_nil, (Z4 q gv n).1]
    rw [List.nodup_append]
    refine ⟨hon.2, by simp, fun x hx z hz e => ?_⟩
    rw [List.mem_singleton] at hz
    subst hz
    exact hon.1 (e ▸ hx)
   have hok2 : ZeS (ZcL q a n.id).1 (r ++ [ZD q gv n]) := fun m hm => by
    show RowsOk (upd a n.id (pickA q (a n.id)) m.id).1 (upd a n.id (pickA q (a n.id)) m.id).2 ∧ (upd a n.id (pickA q (a n.id)) m.id).2 ≠ []
    rcases List.mem_append.1 hm with hm | hm
    ·rw [Zx _ (hnr m hm)]
     exact hok m (List.mem_cons_of_mem _ hm)
    ·rw [List.mem_singleton] at hm
     subst hm
     rw [(Z4 q gv n).1, ZE]
     exact ⟨ZbX hp hq1 hq hn.1, ZbC hp⟩
   obtain ⟨h1, h2, h3, h4⟩ := ih hon2 hok2
   refine ⟨?_, h2, h3, fun P hP => h4 P (fun m hm => ?_)⟩
   ·rw [List.map_cons]
    have e : Zj (upd a n.id (pickA q (a n.id))) (ZD q gv n) = { ZaZ q gv (Zj a n) with gv := true, rows := (pickA q (a n.id)).2 } := by
     rw [← ZbV]
     unfold Zj
     rw [(Z4 q gv n).1, ZE]
     rfl
    refine .rotate hp ?_ ?_
    ·rw [← ZbV]
     exact h
    ·rw [← e]
     have h1' := h1
     rw [List.map_append, List.map_cons, List.map_nil, show (ZcL q a n.id).1 = upd a n.id (pickA q (a n.id)) from rfl, Zen hnr] at h1'
     exact h1'
   ·rcases List.mem_append.1 hm with hm | hm
    ·exact hP m (List.mem_cons_of_mem _ hm)
    ·rw [List.mem_singleton] at hm
     subst hm
     rw [(Z4 q gv n).1, (Z4 q gv n).2.2.1]
     exact hP n List.mem_cons_self
/-! ### In memory -/
def srcT (b : Nat) : Value := .iface 135 (.agg #[.pointer (some ⟨b, 0, none⟩)])
structure SPre (pre : List Int) (ρ : Roles) (w : World) (f sp : Nat) (q : Int) (gv : Bool) (v : Value) (ns : List Nd) (fb : Int → Nat) (a : Int → Bool × List FRow) : Prop where
 head : w.heap[f]? = some (.cells #[.pointer (some ⟨sp, 0, none⟩)] 117 (0, 0))
 rf : ρ f = pre ++ [6]
 spin : SpinAt pre ρ w sp q gv v ns
 src : ∀ n ∈ ns, n.src = srcT (fb n.id)
 ring : ∀ n ∈ ns, RingAt (pre ++ [5, n.id]) ρ w (fb n.id) q (a n.id).1 (a n.id).2
 q1 : 1 ≤ q
 q2 : q ≤ 64
 good : NdsOk gv ns
 idok : ∀ n ∈ ns, 0 ≤ n.id ∧ I64 n.id
structure ShAt (pre : List Int) (ρ : Roles) (w : World) (f sp : Nat) (q : Int) (gv : Bool) (v : Value) (ns : List Nd) (fb : Int → Nat) (a : Int → Bool × List FRow) : Prop where
 pre' : SPre pre ρ w f sp q gv v ns fb a
 full : ∀ n ∈ ns, (a n.id).2 ≠ []
def ShareAt (pre : List Int) (ρ : Roles) (w : World) (f : Nat) (q : Int) (gv : Bool) (rows : List TRow) : Prop := ∃ sp v ns fb a, ShAt pre ρ w f sp q gv v ns fb a ∧ rows = ns.map (Zj a)
section
variable {pre : List Int} {ρ ρ' : Roles} {w w' : World} {f sp : Nat} {q : Int} {gv : Bool} {v : Value} {ns : List Nd} {fb : Int → Nat} {a : Int → Bool × List FRow} {rows : List TRow}
theorem SPre.later (h : SPre pre ρ w f sp q gv v ns fb a) (hl : Later ρ ρ' w) : SPre pre ρ' w f sp q gv v ns fb a :=
 ⟨h.head, (hl f (Zb h.head)).trans h.rf, h.spin.later hl, h.src, fun n hn => (h.ring n hn).later hl, h.q1, h.q2, h.good, h.idok⟩
theorem SPre.frame (h : SPre pre ρ w f sp q gv v ns fb a) {S : Nat → Prop} (hf : Fp S w w') (hS : ∀ k, k < w.heap.size → Part ρ pre k → ¬ S k) : SPre pre ρ w' f sp q gv v ns fb a :=
 ⟨hf.heap h.head (hS f (Zb h.head) ⟨_, h.rf⟩), h.rf, h.spin.frame hf (fun k hk hp => hS k hk (ZU hp)), h.src, fun n hn => (h.ring n hn).frame hf (fun k hk hp => hS k hk (ZaO hp)), h.q1, h.q2, h.good, h.idok⟩
theorem SPre.below (h : SPre pre ρ w f sp q gv v ns fb a) (hb : Below w.heap.size w w') : SPre pre ρ w' f sp q gv v ns fb a := h.frame (S := fun _ => False) (Fp.of_below hb) (fun _ _ _ h => h)
theorem SPre.c0 (h : SPre pre ρ w f sp q gv v ns fb a) : w.cell? ⟨f, 0, none⟩ = some (.pointer (some ⟨sp, 0, none⟩)) := Za h.head rfl
theorem ShAt.later (h : ShAt pre ρ w f sp q gv v ns fb a) (hl : Later ρ ρ' w) : ShAt pre ρ' w f sp q gv v ns fb a := ⟨h.pre'.later hl, h.full⟩
theorem ShAt.frame (h : ShAt pre ρ w f sp q gv v ns fb a) {S : Nat → Prop} (hf : Fp S w w') (hS : ∀ k, k < w.heap.size → Part ρ pre k → ¬ S k) : ShAt pre ρ w' f sp q gv v ns fb a := ⟨h.pre'.frame hf hS, h.full⟩
theorem ShAt.below (h : ShAt pre ρ w f sp q gv v ns fb a) (hb : Below w.heap.size w w') : ShAt pre ρ w' f sp q gv v ns fb a := ⟨h.pre'.below hb, h.full⟩
theorem ShAt.ok (h : ShAt pre ρ w f sp q gv v ns fb a) : ZeS a ns := fun n hn => ⟨(h.pre'.ring n hn).rowsOk, h.full n hn⟩
theorem ShareAt.later (h : ShareAt pre ρ w f q gv rows) (hl : Later ρ ρ' w) : ShareAt pre ρ' w f q gv rows := by
 obtain ⟨sp, v, ns, fb, a, h, e⟩ := h
 exact ⟨sp, v, ns, fb, a, h.later hl, e⟩
theorem ShareAt.frame (h : ShareAt pre ρ w f q gv rows) {S : Nat → Prop} (hf : Fp S w w') (hS : ∀ k, k < w.heap.size → Part ρ pre k → ¬ S k) : ShareAt pre ρ w' f q gv rows := by
 obtain ⟨sp, v, ns, fb, a, h, e⟩ := h
 exact ⟨sp, v, ns, fb, a, h.frame hf hS, e⟩
theorem ShareAt.below (h : ShareAt pre ρ w f q gv rows) (hb : Below w.heap.size w w') : ShareAt pre ρ w' f q gv rows := h.frame (S := fun _ => False) (Fp.of_below hb) (fun _ _ _ h => h)
theorem ShareAt.lt (h : ShareAt pre ρ w f q gv rows) : f < w.heap.size := by
 obtain ⟨sp, v, ns, fb, a, h, _⟩ := h
 exact Zb h.pre'.head
end
section
variable {pre : List Int} {ρ : Roles} {fb : Nat} {q : Int} {gv : Bool} {rows : List FRow}
set_option maxRecDepth 100000 in
set_option maxHeartbeats 2000000 in
theorem Zh1 (hpre : pre ≠ []) (w : World) (hR : RingAt pre ρ w fb q gv rows) (hne : rows ≠ []) : Calls Tryz.prog 167 #[.agg #[.pointer (some ⟨fb, 0, none⟩)]] w fun e w' => ∃ l2 ρ', e = .returned (.tuple #[itV (Z5 l2), .bool true]) ∧ PicksR q gv rows l2 ∧ Later ρ ρ' w ∧ ZA ρ' pre w.heap.size ∧ RingAt pre ρ' w' fb q true l2 ∧ Fp (Part ρ pre) w w' := by
 have HR := Lib.hid (hR.later (Zg ρ w))
 have HNE := Lib.hid hne
 have hfw := hR.lt
 clear hR hne
 go_enter Tryz.func167, Tryz.ntmps167
 go_upto_region 1 with fail
 obtain ⟨w1, hw1⟩ : ∃ w1 : World, w1 = (w.alloc (.cells #[.pointer (some ⟨fb, 0, none⟩)] 135)).alloc (.cells #[.int .i64 0, .int .i64 0] 132) := ⟨_, rfl⟩
 rw [← hw1]
 have hb1 : Below w.heap.size w w1 := by rw [hw1]; exact box_below.alloc (by simp) _
 have hk1 : w1.heap[w.heap.size]? = some (.cells #[.pointer (some ⟨fb, 0, none⟩)] 135 (0, 0)) := by rw [hw1]; exact Zi Zf
 have ho1 : w1.heap[w.heap.size + 1]? = some (.cells #[.int .i64 0, .int .i64 0] 132 (0, 0)) := by
  rw [hw1, show w.heap.size + 1 = (w.alloc (.cells #[.pointer (some ⟨fb, 0, none⟩)] 135)).heap.size by simp]
  exact Zf
 have hs1 := Zb ho1
 have HB1 := Lib.hid hb1
 have HO1 := Lib.hid ho1
 have k0 : w1.cell? ⟨w.heap.size, 0, none⟩ = some (.pointer (some ⟨fb, 0, none⟩)) := Za hk1 rfl
 clear hw1 hb1 hk1 ho1
 go_wp2_with fail
 refine (Zd5 hpre _ (HR.out.below HB1.out) HNE.out).mono ?_
 rintro e w2 ⟨row, rest, ρ2, rfl, hp, hl, hn, hR2, hF2⟩
 have hcr : ∀ k, w.heap.size ≤ k → ¬ Part (fence ρ w) pre k := fun k hk => ZbZ hpre hk
 have HCR := Lib.hid hcr
 have HO2 := Lib.hid (hF2.heap HO1.out (hcr _ (by omega)))
 obtain ⟨x, hx⟩ : ∃ x, x = row.its.headD ⟨0, 0⟩ := ⟨_, rfl⟩
 rw [← hx]
 have HX := Lib.hid hx
 have HP := Lib.hid hp
 have HL := Lib.hid hl
 have HN := Lib.hid hn
 have HR2 := Lib.hid (hR2.later (Zg ρ2 w2))
 have HF2 := Lib.hid hF2
 unfold itV
 clear hx hp hl hn hR2 hF2 k0 hcr
 go_upto_region 2 with fail
 obtain ⟨w3, hw3⟩ : ∃ w3 : World, w3 = w2.alloc (.cells #[.int .i64 x.id, .int .i64 x.cost] 132) := ⟨_, rfl⟩
 obtain ⟨xb, hxb⟩ : ∃ xb : Nat, xb = w2.heap.size := ⟨_, rfl⟩
 rw [← hw3, ← hxb]
 have HB3 := Lib.hid (show Below w2.heap.size w2 w3 by rw [hw3]; exact box_below)
 have hx3 : w3.heap[xb]? = some (.cells #[.int .i64 x.id, .int .i64 x.cost] 132 (0, 0)) := by rw [hw3, hxb]; exact Zf
 have hr3 := (HB3.out.block _ (Zb HO2.out)).trans HO2.out
 have HR3 := Lib.hid hr3
 have x0 : w3.cell? ⟨xb, 0, none⟩ = some (.int .i64 x.id) := Za hx3 rfl
 have x1 : w3.cell? ⟨xb, 1, none⟩ = some (.int .i64 x.cost) := Za hx3 rfl
 have z0 : w3.cell? ⟨w.heap.size + 1, 0, none⟩ = some (.int .i64 0) := Za hr3 rfl
 have z1 : w3.cell? ⟨w.heap.size + 1, 1, none⟩ = some (.int .i64 0) := Za hr3 rfl
 have g0 : w3.frozen? ⟨w.heap.size + 1, 0, none⟩ = false := Zd hr3
 have g1 : w3.frozen? ⟨w.heap.size + 1, 1, none⟩ = false := Zd hr3
 clear hx3 hr3 hw3 hxb
 go_wp2_with fail
 have hh4 : ((w3.setCell ⟨w.heap.size + 1, 0, none⟩ (.int .i64 x.id)).setCell ⟨w.heap.size + 1, 1, none⟩ (.int .i64 x.cost)).heap[w.heap.size + 1]? = some (.cells #[.int .i64 x.id, .int .i64 x.cost] 132 (0, 0)) := Ze (Ze HR3.out)
 have hF4 : Fp (fun k => k = w.heap.size + 1) w2 ((w3.setCell ⟨w.heap.size + 1, 0, none⟩ (.int .i64 x.id)).setCell ⟨w.heap.size + 1, 1, none⟩ (.int .i64 x.cost)) :=
  (((Fp.of_below (S := fun k => k = w.heap.size + 1) HB3.out).setCell (p := ⟨w.heap.size + 1, 0, none⟩) (fun _ => rfl) _).setCell (p := ⟨w.heap.size + 1, 1, none⟩) (fun _ => rfl) _)
 refine bodyPost_ret (v := .tuple #[.agg #[.int .i64 x.id, .int .i64 x.cost], .bool true]) (ZL Tryz.results167 rfl rfl hh4 Tryz.underlying132 rfl (Zaw x)) rfl ?_
 have hs12 := HF2.out.size
 have hb1s := HB1.out.size
 have hro : fence ρ2 w2 (w.heap.size + 1) = [] := by
  rw [Zg ρ2 w2 _ (by omega), HL.out _ hs1]
  simp [fence, show ¬ w.heap.size + 1 < w.heap.size by omega]
 refine ⟨row :: rest, fence ρ2 w2, by rw [HX.out]; rfl, HP.out, fun k hk => ?_, fun k hk => ?_, HR2.out.frame hF4 (fun k _ ⟨s, hs⟩ e => ?_), ?_⟩
 ·rw [Zg ρ2 w2 k (by omega), HL.out k (by omega), Zg ρ w k hk]
 ·rcases Nat.lt_or_ge k w2.heap.size with h2 | h2
  ·have e : fence ρ2 w2 k = ρ2 k := Zg ρ2 w2 k h2
   rcases Nat.lt_or_ge k w1.heap.size with h1 | h1
   ·left
    rw [e, HL.out k h1]
    simp [fence, Nat.not_lt.2 hk]
   ·rcases HN.out k h1 with h3 | ⟨s, h3⟩
    ·exact .inl (e.trans h3)
    ·exact .inr ⟨s, e.trans h3⟩
  ·exact .inl (by simp [fence, Nat.not_lt.2 h2])
 ·rw [e, hro] at hs
  exact hpre (List.append_eq_nil_iff.1 hs.symm).1
 ·refine ((Fp.of_below (S := Part (fence ρ w) pre) HB1.out).trans HF2.out (fun _ _ h => h)).mono (fun k hk => ZaS hpre hk) |>.trans hF4 (fun k hk e => by omega)
set_option maxRecDepth 100000 in
set_option maxHeartbeats 2000000 in
theorem Zhu (w : World) (hR : RingAt pre ρ w fb q gv rows) : Calls Tryz.prog 166 #[.agg #[.pointer (some ⟨fb, 0, none⟩)]] w fun e w' => e = .returned (.bool ((rows.length : Int) == 0)) ∧ Below w.heap.size w w' := by
 have HR := Lib.hid (hR.below (box_below (o := .cells #[.pointer (some ⟨fb, 0, none⟩)] 135)))
 clear hR
 go_enter Tryz.func166, Tryz.ntmps166
 go_wp2_with fail
 refine (ZcP _ HR.out).mono ?_
 rintro e w2 ⟨v2, l2, rfl, h2, hm, hb⟩
 have HB := Lib.hid (box_below.trans (hb.mono (by simp)) : Below w.heap.size w w2)
 have HM := Lib.hid (show l2.length = rows.length by have := congrArg List.length hm; rwa [List.length_map] at this)
 obtain ⟨av, cv, hv, -⟩ := ZC h2.own
 clear h2 hm hb
 subst hv
 rw [HM.out]
 go_wp2_with fail
 go_ret
 exact ⟨rfl, HB.out⟩
end
end Go.Proofs.YtdbjihkgafhakaaGreatDoor
/-
 share.Share: its source law; ok, tenant, Waits, Given: the walks.
-/
namespace Go.Proofs.YtdbjihkgafhakaaGreatDoor
open Go.RowKit
section
variable {pre : List Int} {q : Int} {ns : List Nd} {fb : Int → Nat}
theorem Zlv (hq1 : 1 ≤ q) (hq : q ≤ 64) : SrcLaw (α := Int → Bool × List FRow) pre 135 167 (fun id src => (∃ n ∈ ns, n.id = id) ∧ src = srcT (fb id)) (fun a ρ w => ∀ n ∈ ns, RingAt (pre ++ [5, n.id]) ρ w (fb n.id) q (a n.id).1 (a n.id).2 ∧ (a n.id).2 ≠ []) (ZcL q) where
 later := fun h hl n hn => ⟨(h n hn).1.later hl, (h n hn).2⟩
 frame := fun h hF hS n hn => ⟨(h n hn).1.frame hF (fun k hk hp => hS k hk (Z7 hp)), (h n hn).2⟩
 cost := fun {a ρ w id src} h ho => by
  obtain ⟨⟨n, hn, rfl⟩, _⟩ := ho
  obtain ⟨hR, hne⟩ := h n hn
  have hp := Zcn hq1 hq hR.rowsOk hne
  exact ZeR (ZbX hp hq1 hq hR.rowsOk) (ZbC hp)
 call := fun {a ρ w id src} h ho => by
  obtain ⟨⟨n, hn, rfl⟩, rfl⟩ := ho
  obtain ⟨hR, hne⟩ := h n hn
  refine ⟨.agg #[.pointer (some ⟨fb n.id, 0, none⟩)], .agg #[.pointer (some ⟨fb n.id, 0, none⟩)], rfl, fun w => by kernel_rfl, fun w => by kernel_rfl, ?_⟩
  refine (Zh1 (pre := pre ++ [5, n.id]) (by simp) w hR hne).mono ?_
  rintro e w' ⟨l2, ρ1, rfl, hp, hl, hN, hR', hF⟩
  have hl2 : (pickA q (a n.id)).2 = l2 := (Zcn hq1 hq hR.rowsOk hne).once hp
  have hpk : pickA q (a n.id) = (true, l2) := Prod.ext rfl hl2
  obtain ⟨ρ2, hρ2⟩ : ∃ ρ2 : Roles, ρ2 = fun k => if ρ1 k = [] then ρ k else ρ1 k := ⟨_, rfl⟩
  have hold : ∀ k, k < w.heap.size → ρ2 k = ρ k := fun k hk => by
   rw [hρ2]
   simp only
   split
   ·rfl
   ·exact hl k hk
  have hsame : ∀ k, ρ1 k ≠ [] → ρ2 k = ρ1 k := fun k hk => by
   rw [hρ2]
   exact if_neg hk
  refine ⟨by show Ending.returned (.tuple #[itV (Z5 l2), .bool true]) = .returned (.tuple #[itV (Z5 (pickA q (a n.id)).2), .bool true]); rw [hl2], ρ2, hold, fun k hk => ?_, fun m hm => ?_, hF.mono (fun k hk => Z7 hk)⟩
  ·by_cases h0 : ρ1 k = []
   ·left
    rw [hρ2]
    exact if_pos h0
   ·right
    rcases hN k hk with h1 | ⟨s, h1⟩
    ·exact absurd h1 h0
    ·exact ⟨n.id :: s, by rw [hsame k h0, h1]; simp⟩
  ·show RingAt (pre ++ [5, m.id]) ρ2 w' (fb m.id) q (upd a n.id (pickA q (a n.id)) m.id).1 (upd a n.id (pickA q (a n.id)) m.id).2 ∧ (upd a n.id (pickA q (a n.id)) m.id).2 ≠ []
   by_cases e : m.id = n.id
   ·rw [e, ZE, hpk]
    exact ⟨hR'.rerole hsame, ZbC hp⟩
   ·rw [Zx _ e]
    refine ⟨((h m hm).1.later hold).frame hF (fun k hk hp1 hp2 => ?_), (h m hm).2⟩
    obtain ⟨s, hs⟩ := hp1
    obtain ⟨t, ht⟩ := hp2
    rw [hold k hk, ht] at hs
    simp at hs
    exact e hs.1.symm
end
set_option maxRecDepth 100000 in
set_option maxHeartbeats 1000000 in
theorem ZaF (f sp : Nat) (w : World) (hc : w.cell? ⟨f, 0, none⟩ = some (.pointer (some ⟨sp, 0, none⟩))) : Calls Tryz.prog 57 #[.pointer (some ⟨f, 0, none⟩)] w fun e w' => e = .returned (.bool true) ∧ w = w' := by
 go_enter Tryz.func57, Tryz.ntmps57
 go_wp2
 go_ret
 exact ⟨rfl, rfl⟩
theorem Zh2 (v : Value) (w : World) : (Instr.typeAssert (.iface 135 v) 126 135 false).run Tryz.prog w = .ok v w := by kernel_rfl
theorem Zh3 (b : Nat) (w : World) : (Instr.field 135 (.agg #[.pointer (some ⟨b, 0, none⟩)]) 0).run Tryz.prog w = .ok (.pointer (some ⟨b, 0, none⟩)) w := by kernel_rfl
section
variable {pre : List Int} {ρ : Roles} {f sp : Nat} {q : Int} {gv : Bool} {v : Value} {ns : List Nd} {fb : Int → Nat} {a : Int → Bool × List FRow} {rows : List TRow}
set_option maxRecDepth 100000 in
set_option maxHeartbeats 1000000 in
theorem Zfi (id : Int) (w : World) (hR : SPre pre ρ w f sp q gv v ns fb a) (h : ∀ n ∈ ns, n.id ≠ id) : Calls Tryz.prog 58 #[.pointer (some ⟨f, 0, none⟩), .int .i64 id] w fun e w' => e = .returned (.tuple #[.pointer none, .pointer none]) ∧ Below w.heap.size w w' := by
 have HR := Lib.hid hR
 have HH := Lib.hid h
 have c0 := hR.c0
 clear hR h
 go_enter Tryz.func58, Tryz.ntmps58
 go_wp2_with fail
 refine (ZaF f sp _ HR.out.c0).mono ?_
 rintro e w1 ⟨rfl, rfl⟩
 go_wp2_with fail
 refine (Zbp id _ HR.out.spin HH.out).mono ?_
 rintro e w1 ⟨rfl, hb⟩
 have HB := Lib.hid hb
 clear hb
 go_wp2_with fail
 exact bodyPost_ret (v := .tuple #[.pointer none, .pointer none]) (by simp [results, Tryz.results58, go_sem]) rfl ⟨rfl, HB.out⟩
set_option maxRecDepth 100000 in
set_option maxHeartbeats 1000000 in
theorem ZbQ (id : Int) (k : Nat) (n : Nd) (w : World) (hR : SPre pre ρ w f sp q gv v ns fb a) (hn : ns[k]? = some n) (hi : n.id = id) : Calls Tryz.prog 58 #[.pointer (some ⟨f, 0, none⟩), .int .i64 id] w fun e w' => e = .returned (.tuple #[.pointer (some ⟨n.blk, 0, none⟩), .pointer (some ⟨fb n.id, 0, none⟩)]) ∧ Below w.heap.size w w' := by
 have HR := Lib.hid hR
 have HN := Lib.hid hn
 have HP := Lib.hid (hR.spin.place hn hi)
 have c0 := hR.c0
 clear hR hn hi
 go_enter Tryz.func58, Tryz.ntmps58
 go_wp2_with fail
 refine (ZaF f sp _ HR.out.c0).mono ?_
 rintro e w1 ⟨rfl, rfl⟩
 go_wp2_with fail
 refine (Zbq id k n _ HR.out.spin HN.out HP.out).mono ?_
 rintro e w1 ⟨rfl, hb⟩
 have HB := Lib.hid hb
 have c3 : w1.cell? ⟨n.blk, 3, none⟩ = some (.iface 135 (.agg #[.pointer (some ⟨fb n.id, 0, none⟩)])) := Zc hb (by rw [show Value.iface 135 (.agg #[.pointer (some ⟨fb n.id, 0, none⟩)]) = n.src from (HR.out.src n (List.mem_of_getElem? HN.out)).symm]; exact Za (HR.out.spin.node k n HN.out).2 rfl)
 clear hb c0
 have hta := Zh2
 have hfd := Zh3
 go_upto_region 6 with fail
 go_region
 go_wp2_with fail
 exact bodyPost_ret (v := .tuple #[.pointer (some ⟨n.blk, 0, none⟩), .pointer (some ⟨fb n.id, 0, none⟩)]) (by simp [results, Tryz.results58, go_sem]) rfl ⟨rfl, ZO HB.out 1⟩
def findT (id : Int) (rows : List TRow) : Option Nat := rows.findIdx? (fun r => r.id == id)
theorem ShAt.cases {w : World} (_h : ShAt pre ρ w f sp q gv v ns fb a) (id : Int) :
 ((∀ n ∈ ns, n.id ≠ id) ∧ findT id (ns.map (Zj a)) = none) ∨ ∃ (k : Nat) (n : Nd), ns[k]? = some n ∧ n.id = id ∧ findT id (ns.map (Zj a)) = some k := by
 rcases Zdc id ns with ⟨_, h1⟩ | ⟨k, n, hpl, hn, hi⟩
 ·refine .inl ⟨h1, ?_⟩
  unfold findT
  rw [List.findIdx?_eq_none_iff]
  intro r hr
  obtain ⟨n, hn, rfl⟩ := List.mem_map.1 hr
  have := h1 n hn
  simpa [Zj] using this
 ·refine .inr ⟨k, n, hn, hi, ?_⟩
  unfold findT
  rw [List.findIdx?_map]
  have e : (fun r : TRow => r.id == id) ∘ Zj a = idB id := by
   funext m
   rfl
  rw [e]
  unfold Zbh at hpl
  rcases hf : ns.findIdx? (idB id) with _ | j
  ·rw [hf] at hpl
   simp only at hpl
   omega
  ·rw [hf] at hpl
   simp only at hpl
   congr 1
   omega
theorem Zd6 {id : Int} : ∀ {rows : List TRow} {k : Nat} {r : TRow}, findT id rows = some k → rows[k]? = some r → rows.find? (fun r => r.id == id) = some r
 | [], _, _, h, _ => by simp [findT] at h
 | x :: l, k, r, h, hr => by
   by_cases hx : x.id = id
   ·have : k = 0 := by
     unfold findT at h
     simp [List.findIdx?_cons, hx] at h
     exact h.symm
    subst this
    simp at hr
    subst hr
    simp [hx]
   ·obtain ⟨j, rfl, hj⟩ : ∃ j, k = j + 1 ∧ findT id l = some j := by
     unfold findT at h
     simp [List.findIdx?_cons, hx] at h
     obtain ⟨j, hj, hk⟩ := h
     exact ⟨j, hk.symm, hj⟩
    have ih := Zd6 hj (by simpa using hr)
    simp [hx, ih]
set_option maxRecDepth 100000 in
set_option maxHeartbeats 1000000 in
theorem Zds (w : World) (hR : ShareAt pre ρ w f q gv rows) : Calls Tryz.prog 76 #[.pointer (some ⟨f, 0, none⟩)] w fun e w' => e = .returned (.bool gv) ∧ Below w.heap.size w w' := by
 obtain ⟨sp, v, ns, fb, a, h, rfl⟩ := hR
 have c0 := h.pre'.c0
 have c2 := h.pre'.spin.c2
 have C0 := Lib.hid c0
 clear h
 go_enter Tryz.func76, Tryz.ntmps76
 go_wp2_with fail
 refine (ZaF f sp _ C0.out).mono ?_
 rintro e w1 ⟨rfl, rfl⟩
 go_wp2_with fail
 go_ret
 exact ⟨rfl, Below.refl _ _⟩
end
end Go.Proofs.YtdbjihkgafhakaaGreatDoor
/-
 share.Share: Pick: the walk.
-/
namespace Go.Proofs.YtdbjihkgafhakaaGreatDoor
open Go.RowKit
structure Ent where
 need : ByteArray
 cls : Int
 ten : Int
 tw : Int
 inv : Int
 iw : Int
 id : Int
 cost : Int
def entC (x : Ent) : Array Value := #[.string x.need, .int .i64 x.cls, .int .i64 x.ten, .int .i64 x.tw, .int .i64 x.inv, .int .i64 x.iw, .int .i64 x.id, .int .i64 x.cost]
def entV (x : Ent) : Value := .agg (entC x)
theorem ZmX : (Tryz.prog.info? 25).map (·.size) = some 8 := by kernel_rfl
theorem ZZ (x : Ent) : (Tryz.prog.info? 25).map (·.size) = some (entC x).size := ZmX
theorem ZaJ (x : Ent) : (entC x).all (·.oneCell') = true := by simp [entC, Value.oneCell']
def Zf3 (w : World) (g : Nat) (x : Ent) : World := ((((((((w.setCell ⟨g, 0, none⟩ (.string x.need)).setCell ⟨g, 1, none⟩ (.int .i64 x.cls)).setCell ⟨g, 2, none⟩ (.int .i64 x.ten)).setCell ⟨g, 3, none⟩ (.int .i64 x.tw)).setCell ⟨g, 4, none⟩ (.int .i64 x.inv)).setCell ⟨g, 5, none⟩ (.int .i64 x.iw)).setCell ⟨g, 6, none⟩ (.int .i64 x.id)).setCell ⟨g, 7, none⟩ (.int .i64 x.cost))
theorem Zji {w : World} {g : Nat} {T : TypeId} {fr : Nat × Nat} {a0 a1 a2 a3 a4 a5 a6 a7 : Value} (x : Ent) (h : w.heap[g]? = some (.cells #[a0, a1, a2, a3, a4, a5, a6, a7] T fr)) : (Zf3 w g x).heap[g]? = some (.cells (entC x) T fr) := by
 have h0 := Ze (i := 0) (v := (.string x.need)) h
 rw [show (#[a0, a1, a2, a3, a4, a5, a6, a7] : Array Value).setIfInBounds 0 (.string x.need) = #[.string x.need, a1, a2, a3, a4, a5, a6, a7] by simp] at h0
 have h1 := Ze (i := 1) (v := (.int .i64 x.cls)) h0
 rw [show (#[.string x.need, a1, a2, a3, a4, a5, a6, a7] : Array Value).setIfInBounds 1 (.int .i64 x.cls) = #[.string x.need, .int .i64 x.cls, a2, a3, a4, a5, a6, a7] by simp] at h1
 have h2 := Ze (i := 2) (v := (.int .i64 x.ten)) h1
 rw [show (#[.string x.need, .int .i64 x.cls, a2, a3, a4, a5, a6, a7] : Array Value).setIfInBounds 2 (.int .i64 x.ten) = #[.string x.need, .int .i64 x.cls, .int .i64 x.ten, a3, a4, a5, a6, a7] by simp] at h2
 have h3 := Ze (i := 3) (v := (.int .i64 x.tw)) h2
 rw [show (#[.string x.need, .int .i64 x.cls, .int .i64 x.ten, a3, a4, a5, a6, a7] : Array Value).setIfInBounds 3 (.int .i64 x.tw) = #[.string x.need, .int .i64 x.cls, .int .i64 x.ten, .int .i64 x.tw, a4, a5, a6, a7] by simp] at h3
 have h4 := Ze (i := 4) (v := (.int .i64 x.inv)) h3
 rw [show (#[.string x.need, .int .i64 x.cls, .int .i64 x.ten, .int .i64 x.tw, a4, a5, a6, a7] : Array Value).setIfInBounds 4 (.int .i64 x.inv) = #[.string x.need, .int .i64 x.cls, .int .i64 x.ten, .int .i64 x.tw, .int .i64 x.inv, a5, a6, a7] by simp] at h4
 have h5 := Ze (i := 5) (v := (.int .i64 x.iw)) h4
 rw [show (#[.string x.need, .int .i64 x.cls, .int .i64 x.ten, .int .i64 x.tw, .int .i64 x.inv, a5, a6, a7] : Array Value).setIfInBounds 5 (.int .i64 x.iw) = #[.string x.need, .int .i64 x.cls, .int .i64 x.ten, .int .i64 x.tw, .int .i64 x.inv, .int .i64 x.iw, a6, a7] by simp] at h5
 have h6 := Ze (i := 6) (v := (.int .i64 x.id)) h5
 rw [show (#[.string x.need, .int .i64 x.cls, .int .i64 x.ten, .int .i64 x.tw, .int .i64 x.inv, .int .i64 x.iw, a6, a7] : Array Value).setIfInBounds 6 (.int .i64 x.id) = #[.string x.need, .int .i64 x.cls, .int .i64 x.ten, .int .i64 x.tw, .int .i64 x.inv, .int .i64 x.iw, .int .i64 x.id, a7] by simp] at h6
 have h7 := Ze (i := 7) (v := (.int .i64 x.cost)) h6
 rw [show (#[.string x.need, .int .i64 x.cls, .int .i64 x.ten, .int .i64 x.tw, .int .i64 x.inv, .int .i64 x.iw, .int .i64 x.id, a7] : Array Value).setIfInBounds 7 (.int .i64 x.cost) = #[.string x.need, .int .i64 x.cls, .int .i64 x.ten, .int .i64 x.tw, .int .i64 x.inv, .int .i64 x.iw, .int .i64 x.id, .int .i64 x.cost] by simp] at h7
 exact h7
theorem Zlw (w : World) (g : Nat) (x : Ent) : Fp (fun k => k = g) w (Zf3 w g x) := (((((((((Fp.refl (fun k => k = g) w).setCell (p := ⟨g, 0, none⟩) (fun _ => rfl) _).setCell (p := ⟨g, 1, none⟩) (fun _ => rfl) _).setCell (p := ⟨g, 2, none⟩) (fun _ => rfl) _).setCell (p := ⟨g, 3, none⟩) (fun _ => rfl) _).setCell (p := ⟨g, 4, none⟩) (fun _ => rfl) _).setCell (p := ⟨g, 5, none⟩) (fun _ => rfl) _).setCell (p := ⟨g, 6, none⟩) (fun _ => rfl) _).setCell (p := ⟨g, 7, none⟩) (fun _ => rfl) _)
def ent0 : Ent := ⟨⟨#[]⟩, 0, 0, 0, 0, 0, 0, 0⟩
def Zlx (rows : List FRow) : FRow := match rows with
 | r :: _ => r
 | [] => ⟨0, 0, 0, []⟩
def entOf (x : TRow) : Ent := ⟨⟨#[]⟩, 0, x.id, x.wt, (Zlx x.rows).id, (Zlx x.rows).wt, (Z5 x.rows).id, (Z5 x.rows).cost⟩
def Zly (pre : List Int) (ρ : Roles) (w : World) (f : Nat) (q : Int) (gv : Bool) (rows : List TRow) (e : Ending) (w' : World) : Prop :=
 ∃ row rest ρ', e = .returned (.tuple #[entV (entOf row), .bool true]) ∧ PicksT q gv rows (row :: rest) ∧ Later ρ ρ' w ∧ ZA ρ' pre w.heap.size ∧ ShareAt pre ρ' w' f q true (row :: rest) ∧ Fp (Part ρ pre) w w'
section
variable {pre : List Int} {ρ : Roles} {f sp : Nat} {q : Int} {gv : Bool} {v : Value} {ns : List Nd} {fb : Int → Nat} {a : Int → Bool × List FRow} {rows : List TRow}
theorem Zh4 {w w1 w2 : World} {ρ0 ρ2 : Roles} {n : Nd} {r : List Nd} {x : It} {v2 : Value} {a2 : Int → Bool × List FRow} (hr : ShAt pre ρ0 w f sp q gv v ns fb a) (hb : Below w.heap.size w w1)
 (hp : Picks q (ZcL q) gv ns a (n :: r) a2 x) (hok : NdsOk true (n :: r)) (hl : Later ρ0 ρ2 w1) (hS : SpinAt pre ρ2 w2 sp q true v2 (n :: r)) (hI : ∀ m ∈ ns, RingAt (pre ++ [5, m.id]) ρ2 w2 (fb m.id) q (a2 m.id).1 (a2 m.id).2 ∧ (a2 m.id).2 ≠ []) (hF : Fp (ZaN ρ0 pre) w1 w2) :
 ShAt pre ρ2 w2 f sp q true v2 (n :: r) fb a2 ∧ PicksT q gv (ns.map (Zj a)) ((n :: r).map (Zj a2)) ∧ x = Z5 (a2 n.id).2 ∧ Fp (Part ρ0 pre) w w2 := by
 obtain ⟨h1, h2, h3, h4⟩ := Zjh hp hr.pre'.q1 hr.pre'.q2 hr.pre'.spin.once hr.ok
 have hP := h4 (fun id src => ∃ m ∈ ns, m.id = id ∧ src = m.src) (fun m hm => ⟨m, hm, rfl, rfl⟩)
 have hfw := Zb hr.pre'.head
 have hz := hb.size
 refine ⟨⟨⟨?_, ?_, hS, fun m hm => ?_, fun m hm => ?_, hr.pre'.q1, hr.pre'.q2, hok, fun m hm => ?_⟩, fun m hm => (h3 m hm).2⟩, h1, h2 n r rfl, ?_⟩
 ·refine hF.heap ((hb.block f hfw).trans hr.pre'.head) (fun h => ?_)
  have h1 := hr.pre'.rf
  rcases h with h | h
  ·rcases h with h | h | ⟨_, h⟩ <;> rw [h1] at h <;> simp at h
  ·obtain ⟨_, h⟩ := h
   rw [h1] at h
   simp at h
 ·exact (hl f (by omega)).trans hr.pre'.rf
 ·obtain ⟨m', hm', he, hs⟩ := hP m hm
  rw [hs, ← he]
  exact hr.pre'.src m' hm'
 ·obtain ⟨m', hm', he, hs⟩ := hP m hm
  rw [← he]
  exact (hI m' hm').1
 ·obtain ⟨m', hm', he, hs⟩ := hP m hm
  rw [← he]
  exact hr.pre'.idok m' hm'
 ·refine (Fp.of_below (S := Part ρ0 pre) hb).trans (hF.mono (S' := Part ρ0 pre) (fun k hk => ?_)) (fun _ _ h => h)
  rcases hk with h | h
  ·exact ZU h
  ·exact Zdd h
set_option maxRecDepth 100000 in
set_option maxHeartbeats 4000000 in
theorem Zgx (hpre : pre ≠ []) (w : World) (hR : ShareAt pre ρ w f q gv rows) (hne : rows ≠ []) : Calls Tryz.prog 67 #[.pointer (some ⟨f, 0, none⟩)] w (Zly pre ρ w f q gv rows) := by
 obtain ⟨sp, v, ns, fb, a, hr0, rfl⟩ := hR
 obtain ⟨n0, r0, rfl⟩ : ∃ n r, ns = n :: r := by
  cases ns with
  | nil => exact absurd rfl hne
  | cons n r => exact ⟨n, r, rfl⟩
 have HR := Lib.hid (hr0.later (Zg ρ w))
 have hfw := Zb hr0.pre'.head
 have c0 := hr0.pre'.c0
 clear hr0 hne
 go_enter Tryz.func67, Tryz.ntmps67
 go_upto_region 1 with fail
 obtain ⟨w1, hw1⟩ : ∃ w1 : World, w1 = w.alloc (.cells #[.string ⟨#[]⟩, .int .i64 0, .int .i64 0, .int .i64 0, .int .i64 0, .int .i64 0, .int .i64 0, .int .i64 0] 25) := ⟨_, rfl⟩
 obtain ⟨eb, heb⟩ : ∃ eb : Nat, eb = w.heap.size := ⟨_, rfl⟩
 rw [← hw1, ← heb]
 have HB1 := Lib.hid (show Below w.heap.size w w1 by rw [hw1]; exact box_below)
 have HE1 := Lib.hid (show w1.heap[eb]? = some (.cells #[.string ⟨#[]⟩, .int .i64 0, .int .i64 0, .int .i64 0, .int .i64 0, .int .i64 0, .int .i64 0, .int .i64 0] 25 (0, 0)) by rw [hw1, heb]; exact Zf)
 have HEB := Lib.hid heb
 have c0 : w1.cell? ⟨f, 0, none⟩ = some (.pointer (some ⟨sp, 0, none⟩)) := Zc HB1.out c0
 clear hw1 heb
 go_wp2_with fail
 refine (ZaF f sp _ (HR.out.below HB1.out).pre'.c0).mono ?_
 rintro e w2 ⟨rfl, rfl⟩
 go_wp2_with fail
 have hin : ∀ m ∈ n0 :: r0, RingAt (pre ++ [5, m.id]) (fence ρ w) w1 (fb m.id) q (a m.id).1 (a m.id).2 ∧ (a m.id).2 ≠ [] := fun m hm => ⟨(HR.out.pre'.ring m hm).below HB1.out, HR.out.full m hm⟩
 refine (Zei (Zlv (pre := pre) (fb := fb) (ns := n0 :: r0) HR.out.pre'.q1 HR.out.pre'.q2) HR.out.pre'.q1 HR.out.pre'.q2 a n0 r0 _ (HR.out.pre'.spin.below HB1.out) hin HR.out.pre'.good (fun m hm => ⟨⟨m, hm, rfl⟩, HR.out.pre'.src m hm⟩)).mono ?_
 rintro e w2 ⟨n, r, a2, x, v2, ρ2, rfl, hp, hok, hl, hn, hS, hI, hF⟩
 obtain ⟨k1, k2, k3, k4⟩ := Zh4 HR.out HB1.out hp hok hl hS hI hF
 have her : fence ρ w eb = [] := by rw [HEB.out]; simp [fence]
 have he2 := hF.heap HE1.out (fun h => by
  rcases h with h | h
  ·rcases h with h | h | ⟨_, h⟩ <;> rw [her] at h <;> simp at h
  ·obtain ⟨_, h⟩ := h
   rw [her] at h
   simp at h)
 have HE2 := Lib.hid he2
 have K1 := Lib.hid (k1.later (Zg ρ2 w2))
 have K2 := Lib.hid k2
 have K3 := Lib.hid k3
 have K4 := Lib.hid k4
 have HL := Lib.hid hl
 have HN := Lib.hid hn
 clear hp hok hl hn hS hI hF hin k1 k2 k3 k4 he2 her c0
 unfold itV
 go_upto_region 6 with fail
 obtain ⟨w3, hw3⟩ : ∃ w3 : World, w3 = w2.alloc (.cells #[.int .i64 x.id, .int .i64 x.cost] 132) := ⟨_, rfl⟩
 obtain ⟨xb, hxb⟩ : ∃ xb : Nat, xb = w2.heap.size := ⟨_, rfl⟩
 rw [← hw3, ← hxb]
 have HB3 := Lib.hid (show Below w2.heap.size w2 w3 by rw [hw3]; exact box_below)
 have HX3 := Lib.hid (show w3.heap[xb]? = some (.cells #[.int .i64 x.id, .int .i64 x.cost] 132 (0, 0)) by rw [hw3, hxb]; exact Zf)
 have HE3 := Lib.hid ((HB3.out.block _ (Zb HE2.out)).trans HE2.out)
 have K1' := Lib.hid (K1.out.below HB3.out)
 have c3 : w3.cell? ⟨n.blk, 3, none⟩ = some (.iface 135 (.agg #[.pointer (some ⟨fb n.id, 0, none⟩)])) := by
  rw [show Value.iface 135 (.agg #[.pointer (some ⟨fb n.id, 0, none⟩)]) = n.src from (K1'.out.pre'.src n List.mem_cons_self).symm]
  exact Za (K1'.out.pre'.spin.node 0 n rfl).2 rfl
 have hta := Zh2
 have hfd := Zh3
 clear hw3 hxb
 go_wp2_with fail
 refine (ZcP _ (K1'.out.pre'.ring n List.mem_cons_self)).mono ?_
 rintro e w4 ⟨v4, l4, rfl, h4, hm4, hb4⟩
 obtain ⟨r1, rs, hrr⟩ : ∃ r1 rs, (a2 n.id).2 = r1 :: rs := by
  have := K1'.out.full n List.mem_cons_self
  cases h : (a2 n.id).2 with
  | nil => exact absurd h this
  | cons r1 rs => exact ⟨r1, rs, rfl⟩
 rw [hrr] at hm4
 obtain ⟨⟨r1', u1⟩, l5, rfl⟩ : ∃ p l', l4 = p :: l' := by
  cases l4 with
  | nil => cases hm4
  | cons p l' => exact ⟨p, l', rfl⟩
 rw [List.map_cons, List.cons.injEq] at hm4
 obtain ⟨rfl, -⟩ := hm4
 have hrows := ZbB h4.own (fun p hp => ItsAt.own (h4.its p hp))
 obtain ⟨au, cu, rfl⟩ : ∃ au cu, u1 = .slice au r1'.its.length cu := ZN (hrows.its _ List.mem_cons_self)
 obtain ⟨g, off, cap, rfl, -, q0, q1, q2, q3⟩ := hrows.at (k := 0) rfl
 simp only [Nat.zero_mul, Nat.add_zero] at q0 q1 q2 q3
 have hpos : (0 : Int) < (l5.length : Int) + 1 := by omega
 have HB4 := Lib.hid hb4
 have HRR := Lib.hid hrr
 clear h4 hb4 hrr hrows c3 hta hfd
 go_upto_region 7 with fail
 obtain ⟨w5, hw5⟩ : ∃ w5 : World, w5 = w4.alloc (.cells #[.int .i64 r1'.id, .int .i64 r1'.wt, .int .i64 r1'.df, .slice au r1'.its.length cu] 143) := ⟨_, rfl⟩
 obtain ⟨rb, hrb⟩ : ∃ rb : Nat, rb = w4.heap.size := ⟨_, rfl⟩
 rw [← hw5, ← hrb]
 have HB5 := Lib.hid (show Below w4.heap.size w4 w5 by rw [hw5]; exact box_below)
 have hr5 : w5.heap[rb]? = some (.cells #[.int .i64 r1'.id, .int .i64 r1'.wt, .int .i64 r1'.df, .slice au r1'.its.length cu] 143 (0, 0)) := by rw [hw5, hrb]; exact Zf
 have HB35 := Lib.hid (HB4.out.trans (HB5.out.mono HB4.out.size) : Below w3.heap.size w3 w5)
 have he5 := (HB35.out.block _ (Zb HE3.out)).trans HE3.out
 have hx5 := (HB35.out.block _ (Zb HX3.out)).trans HX3.out
 have hn3 := (K1'.out.pre'.spin.node 0 n rfl).2
 have hn5 := (HB35.out.block _ (Zb hn3)).trans hn3
 have HE5 := Lib.hid he5
 have n0' : w5.cell? ⟨n.blk, 0, none⟩ = some (.int .i64 n.id) := Za hn5 rfl
 have n1' : w5.cell? ⟨n.blk, 1, none⟩ = some (.int .i64 n.wt) := Za hn5 rfl
 have x0 : w5.cell? ⟨xb, 0, none⟩ = some (.int .i64 x.id) := Za hx5 rfl
 have x1 : w5.cell? ⟨xb, 1, none⟩ = some (.int .i64 x.cost) := Za hx5 rfl
 have s0 : w5.cell? ⟨rb, 0, none⟩ = some (.int .i64 r1'.id) := Za hr5 rfl
 have s1 : w5.cell? ⟨rb, 1, none⟩ = some (.int .i64 r1'.wt) := Za hr5 rfl
 have z0 : w5.cell? ⟨eb, 0, none⟩ = some (.string ⟨#[]⟩) := Za he5 rfl
 have g0 : w5.frozen? ⟨eb, 0, none⟩ = false := Zd he5
 have z1 : w5.cell? ⟨eb, 1, none⟩ = some (.int .i64 0) := Za he5 rfl
 have g1 : w5.frozen? ⟨eb, 1, none⟩ = false := Zd he5
 have z2 : w5.cell? ⟨eb, 2, none⟩ = some (.int .i64 0) := Za he5 rfl
 have g2 : w5.frozen? ⟨eb, 2, none⟩ = false := Zd he5
 have z3 : w5.cell? ⟨eb, 3, none⟩ = some (.int .i64 0) := Za he5 rfl
 have g3 : w5.frozen? ⟨eb, 3, none⟩ = false := Zd he5
 have z4 : w5.cell? ⟨eb, 4, none⟩ = some (.int .i64 0) := Za he5 rfl
 have g4 : w5.frozen? ⟨eb, 4, none⟩ = false := Zd he5
 have z5 : w5.cell? ⟨eb, 5, none⟩ = some (.int .i64 0) := Za he5 rfl
 have g5 : w5.frozen? ⟨eb, 5, none⟩ = false := Zd he5
 have z6 : w5.cell? ⟨eb, 6, none⟩ = some (.int .i64 0) := Za he5 rfl
 have g6 : w5.frozen? ⟨eb, 6, none⟩ = false := Zd he5
 have z7 : w5.cell? ⟨eb, 7, none⟩ = some (.int .i64 0) := Za he5 rfl
 have g7 : w5.frozen? ⟨eb, 7, none⟩ = false := Zd he5
 clear hw5 hrb hr5 he5 hx5 hn3 hn5 q0 q1 q2 q3
 go_region
 clear n0' n1' x0 x1 s0 s1 z0 g0 z1 g1 z2 g2 z3 g3 z4 g4 z5 g5 z6 g6 z7 g7
 go_wp2_with fail
 obtain ⟨w6, hw6⟩ : ∃ w6 : World, w6 = ((((((((w5.setCell ⟨eb, 0, none⟩ (.string ⟨#[]⟩)).setCell ⟨eb, 1, none⟩ (.int .i64 0)).setCell ⟨eb, 2, none⟩ (.int .i64 n.id)).setCell ⟨eb, 3, none⟩ (.int .i64 n.wt)).setCell ⟨eb, 4, none⟩ (.int .i64 r1'.id)).setCell ⟨eb, 5, none⟩ (.int .i64 r1'.wt)).setCell ⟨eb, 6, none⟩ (.int .i64 x.id)).setCell ⟨eb, 7, none⟩ (.int .i64 x.cost)).drew := ⟨_, rfl⟩
 rw [← hw6]
 obtain ⟨E, hE⟩ : ∃ E : Ent, E = ⟨⟨#[]⟩, 0, n.id, n.wt, r1'.id, r1'.wt, x.id, x.cost⟩ := ⟨_, rfl⟩
 obtain ⟨w7, hw7⟩ : ∃ w7 : World, w7 = Zf3 w5 eb E := ⟨_, rfl⟩
 have hw6' : w6 = w7.drew := by
  rw [hw6, hw7, hE]
  unfold Zf3
  rfl
 have hh7 : w7.heap[eb]? = some (.cells (entC E) 25 (0, 0)) := by
  rw [hw7]
  exact Zji E HE5.out
 have hF7 : Fp (fun k => k = eb) w5 w7 := by
  rw [hw7]
  exact Zlw w5 eb E
 clear hw6 hw7
 have hh6 : w6.heap[eb]? = some (.cells (entC E) 25 (0, 0)) := by
  rw [hw6']
  exact hh7
 have hF6 : Fp (fun k => k = eb) w3 w6 := (Fp.of_below HB35.out).trans (S' := fun k => k = eb) (by rw [hw6']; exact hF7.drew) (fun _ _ h => h)
 have hEO : E = entOf (Zj a2 n) := by
  have h1 : (Zj a2 n).rows = r1' :: rs := HRR.out
  have h2 : Z5 (Zj a2 n).rows = x := K3.out.symm
  unfold entOf
  rw [h2, hE, h1]
  rfl
 clear hw6' hh7 hF7
 refine bodyPost_ret (v := .tuple #[.agg (entC E), .bool true]) (ZL Tryz.results67 rfl rfl hh6 Tryz.underlying25 rfl (ZZ E)) rfl ?_
 have hz1 := HB1.out.size
 have heb := HEB.out
 have he1 := Zb HE1.out
 have he2 := Zb HE2.out
 have hro : fence ρ2 w2 eb = [] := by
  rw [Zg ρ2 w2 _ he2, HL.out _ he1, heb]
  simp [fence]
 refine ⟨Zj a2 n, r.map (Zj a2), fence ρ2 w2, by rw [hEO]; rfl, K2.out, fun k hk => ?_, fun k hk => ?_, ⟨sp, v2, n :: r, fb, a2, K1'.out.frame hF6 (fun k _ ⟨s, hs⟩ e => ?_), rfl⟩, ?_⟩
 ·rw [Zg ρ2 w2 k (by omega), HL.out k (by omega), Zg ρ w k hk]
 ·rcases Nat.lt_or_ge k w2.heap.size with h2 | h2
  ·have e : fence ρ2 w2 k = ρ2 k := Zg ρ2 w2 k h2
   rcases Nat.lt_or_ge k w1.heap.size with h1 | h1
   ·left
    rw [e, HL.out k h1]
    simp [fence, Nat.not_lt.2 hk]
   ·rcases HN.out k h1 with h3 | ⟨s, h3⟩
    ·exact .inl (e.trans h3)
    ·exact .inr ⟨s, e.trans h3⟩
  ·exact .inl (by simp [fence, Nat.not_lt.2 h2])
 ·rw [e, hro] at hs
  exact hpre (List.append_eq_nil_iff.1 hs.symm).1
 ·exact ((K4.out.mono (fun k hk => ZaS hpre hk)).then_below HB3.out).trans hF6 (fun k hk e => by omega)
end
end Go.Proofs.YtdbjihkgafhakaaGreatDoor
/-
 share.Share: what a ring's turn, a deficit's, and a source's going leave of a share; Drop: the walks.
-/
namespace Go.Proofs.YtdbjihkgafhakaaGreatDoor
open Go.RowKit
def withT (k : Nat) (x : TRow) (gv : Bool) (rows : List TRow) : Bool × List TRow := if x.rows = [] then (if k = 0 then false else gv, rows.eraseIdx k) else (gv, rows.set k x)
section
variable {pre : List Int} {ρ ρ' : Roles} {w w' : World} {f sp k : Nat} {q : Int} {gv : Bool} {v v' : Value} {ns : List Nd} {fb : Int → Nat} {a : Int → Bool × List FRow} {n : Nd} {s : Bool × List FRow}
theorem SPre.ring_turn (h : SPre pre ρ w f sp q gv v ns fb a) (hl : Later ρ ρ' w) (hF : Fp (Part ρ (pre ++ [5, n.id])) w w') (hR : RingAt (pre ++ [5, n.id]) ρ' w' (fb n.id) q s.1 s.2) : SPre pre ρ' w' f sp q gv v ns fb (upd a n.id s) := by
 have h' := h.later hl
 have hF' : Fp (Part ρ' (pre ++ [5, n.id])) w w' := hF.mono_on (fun k hk ⟨s, hs⟩ => ⟨s, (hl k hk).trans hs⟩)
 refine ⟨hF'.heap h'.head (fun hp => ?_), h'.rf, h'.spin.frame hF' (fun k _ hs hp => Z2 hs (Z7 hp)), h'.src, fun m hm => ?_, h'.q1, h'.q2, h'.good, h'.idok⟩
 ·obtain ⟨s, hs⟩ := Z7 hp
  rw [h'.rf] at hs
  simp at hs
 ·by_cases e : m.id = n.id
  ·rw [e, ZE]
   exact hR
  ·rw [Zx _ e]
   refine (h'.ring m hm).frame hF' (fun k _ h1 h2 => ?_)
   obtain ⟨s, hs⟩ := h1
   obtain ⟨t, ht⟩ := h2
   rw [hs] at ht
   simp at ht
   exact e ht.1
theorem SPre.df_turn (h : SPre pre ρ w f sp q gv v ns fb a) (hn : ns[k]? = some n) (d : Int) (hg : NdsOk gv (ns.set k { n with df := d })) : SPre pre ρ (w.setCell ⟨n.blk, 2, none⟩ (.int .i64 d)) f sp q gv v (ns.set k { n with df := d }) fb a := by
 obtain ⟨hs, hF⟩ := ZfY h.spin hn d
 have h0 := (h.spin.node k n hn).1
 have hmem := List.mem_of_getElem? hn
 refine ⟨hF.heap h.head (fun e => ?_), h.rf, hs, fun m hm => ?_, fun m hm => ?_, h.q1, h.q2, hg, fun m hm => ?_⟩
 ·have h1 := h.rf
  rw [e, h0] at h1
  simp at h1
 ·rcases ZaA hm with hm | rfl
  ·exact h.src m hm
  ·exact h.src n hmem
 ·have hq : ∀ m ∈ ns, RingAt (pre ++ [5, m.id]) ρ (w.setCell ⟨n.blk, 2, none⟩ (.int .i64 d)) (fb m.id) q (a m.id).1 (a m.id).2 := fun m hm => (h.ring m hm).frame hF (fun k _ hp e => by
   obtain ⟨s, hs⟩ := hp
   rw [e, h0] at hs
   simp at hs)
  rcases ZaA hm with hm | rfl
  ·exact hq m hm
  ·exact hq n hmem
 ·rcases ZaA hm with hm | rfl
  ·exact h.idok m hm
  ·exact h.idok n hmem
theorem SPre.gone (h : SPre pre ρ w f sp q gv v ns fb a) (hS : SpinAt pre ρ w' sp q (if k = 0 then false else gv) v' (ns.eraseIdx k)) (hF : Fp (fun j => j = sp ∨ v.ownBlock = some j) w w') : SPre pre ρ w' f sp q (if k = 0 then false else gv) v' (ns.eraseIdx k) fb a := by
 have hno : ∀ j, (j = sp ∨ v.ownBlock = some j) → Zs ρ pre j := fun j hj => by
  rcases hj with rfl | hj
  ·exact .inl h.spin.rs
  ·exact .inr (.inl (h.spin.ra j hj))
 refine ⟨hF.heap h.head (fun e => ?_), h.rf, hS, fun m hm => h.src m (List.mem_of_mem_eraseIdx hm), fun m hm => (h.ring m (List.mem_of_mem_eraseIdx hm)).frame hF (fun j _ hp e => Z2 (hno j e) (Z7 hp)), h.q1, h.q2, Zfd k h.good, fun m hm => h.idok m (List.mem_of_mem_eraseIdx hm)⟩
 have h1 := hno f e
 have h2 := h.rf
 rcases h1 with h1 | h1 | ⟨_, h1⟩ <;> rw [h2] at h1 <;> simp at h1
theorem Zh5 {ns : List Nd} (honce : (ns.map Nd.id).Nodup) (hn : ns[k]? = some n) (s : Bool × List FRow) : ns.map (Zj (upd a n.id s)) = (ns.map (Zj a)).set k ⟨n.id, n.wt, n.df, s.1, s.2⟩ := by
 apply List.ext_getElem?
 intro i
 rw [List.getElem?_map, List.getElem?_set]
 rcases hi : ns[i]? with _ | m
 ·split
  ·rename_i e
   subst e
   rw [hn] at hi
   cases hi
  ·rw [List.getElem?_map, hi]
   rfl
 ·split
  ·rename_i e
   subst e
   rw [hn] at hi
   cases hi
   rw [if_pos (by rw [List.length_map]; exact (List.getElem?_eq_some_iff.1 hn).1)]
   simp [Zj, ZE]
  ·rename_i e
   rw [List.getElem?_map, hi]
   simp only [Option.map_some, Option.some.injEq]
   have hne : m.id ≠ n.id := fun he => by
    have h1 : (ns.map Nd.id)[i]? = some m.id := by simp [hi]
    have h2 : (ns.map Nd.id)[k]? = some m.id := by simp [hn, he]
    have := (List.getElem?_inj (List.getElem?_eq_some_iff.1 h2).1 honce).1 (h2.trans h1.symm)
    exact e this
   unfold Zj
   rw [Zx _ hne]
theorem Zfj (u : Value) (w : World) : (method 353 135 u "Empty").run Tryz.prog w = .ok (166, u) w := by kernel_rfl
theorem Zeo (u : Value) (w : World) : (callFunc 166 #[u]).run Tryz.prog w = .ok (.enter 166 #[u]) w := by kernel_rfl
theorem Zkp {w : World} {k : Nat} {n : Nd} (h : SPre pre ρ w f sp q gv v ns fb a) (hn : ns[k]? = some n) (hfull : ∀ m ∈ ns, m.id ≠ n.id → (a m.id).2 ≠ []) :
 Calls Tryz.prog 64 #[.pointer (some ⟨sp, 0, none⟩), .pointer (some ⟨n.blk, 0, none⟩)] w fun e w' => e = .returned (.tuple #[]) ∧ ShareAt pre ρ w' f q (withT k (Zj a n) gv (ns.map (Zj a))).1 (withT k (Zj a n) gv (ns.map (Zj a))).2 ∧ Fp (Zs ρ pre) w w' := by
 have hmem := List.mem_of_getElem? hn
 have hq := h.ring n hmem
 have hE : ∀ w', Below w.heap.size w w' → Calls Tryz.prog 166 #[.agg #[.pointer (some ⟨fb n.id, 0, none⟩)]] w' fun e w2 => e = .returned (.bool (((a n.id).2.length : Int) == 0)) ∧ Below w'.heap.size w' w2 := fun w' hb => Zhu w' (hq.below hb)
 by_cases hl : (a n.id).2 = []
 ·rw [hl] at hE
  refine (Zd4 k n w h.spin hn 135 166 _ _ (h.src n hmem) (Zfj _) (Zeo _) hE).mono ?_
  rintro e w' ⟨rfl, ⟨v', hS⟩, hF⟩
  have hW : withT k (Zj a n) gv (ns.map (Zj a)) = (if k = 0 then false else gv, (ns.map (Zj a)).eraseIdx k) := by
   unfold withT
   rw [if_pos (show (Zj a n).rows = [] from hl)]
  rw [hW]
  refine ⟨rfl, ⟨sp, v', ns.eraseIdx k, fb, a, ⟨h.gone hS hF, fun m hm => ?_⟩, (eraseIdx_map' _ _ _).symm⟩, hF.mono (fun j hj => ?_)⟩
  ·obtain ⟨i, hi⟩ := List.mem_iff_getElem?.1 hm
   refine hfull m (List.mem_of_mem_eraseIdx hm) (fun e => ?_)
   rw [List.getElem?_eraseIdx] at hi
   have h2 : (ns.map Nd.id)[k]? = some m.id := by simp [hn, e]
   split at hi
   ·have h3 : (ns.map Nd.id)[i]? = some m.id := by simp [hi]
    have := (List.getElem?_inj (List.getElem?_eq_some_iff.1 h2).1 h.spin.once).1 (h2.trans h3.symm)
    omega
   ·have h3 : (ns.map Nd.id)[i + 1]? = some m.id := by simp [hi]
    have := (List.getElem?_inj (List.getElem?_eq_some_iff.1 h2).1 h.spin.once).1 (h2.trans h3.symm)
    omega
  ·rcases hj with rfl | hj
   ·exact .inl h.spin.rs
   ·exact .inr (.inl (h.spin.ra j hj))
 ·have hz : (((a n.id).2.length : Int) == 0) = false := by
   have := List.length_pos_iff.2 hl
   simp
   exact hl
  rw [hz] at hE
  refine (Zeg k n w h.spin hn 135 166 _ _ (h.src n hmem) (Zfj _) (Zeo _) hE).mono ?_
  rintro e w' ⟨rfl, hb⟩
  have hW : withT k (Zj a n) gv (ns.map (Zj a)) = (gv, ns.map (Zj a)) := by
   unfold withT
   rw [if_neg (show ¬ (Zj a n).rows = [] from hl), Zch (by rw [List.getElem?_map, hn]; rfl)]
  rw [hW]
  refine ⟨rfl, ⟨sp, v, ns, fb, a, ⟨h.below hb, fun m hm => ?_⟩, rfl⟩, Fp.of_below hb⟩
  by_cases e : m.id = n.id
  ·rw [e]
   exact hl
  ·exact hfull m hm e
end
section
variable {pre : List Int} {ρ : Roles} {f : Nat} {q : Int} {gv : Bool} {rows : List TRow}
end
end Go.Proofs.YtdbjihkgafhakaaGreatDoor
/-
 share.Share: Take: the walk.
-/
namespace Go.Proofs.YtdbjihkgafhakaaGreatDoor
open Go.RowKit
def tookA (s : Bool × List FRow) : Bool × List FRow := match s.2 with
 | r :: rs => tookR r rs
 | [] => s
def tookT (row : TRow) (rest : List TRow) : Bool × List TRow := withT 0 { row with df := row.df - (Z5 row.rows).cost, gv := (tookA (row.gv, row.rows)).1, rows := (tookA (row.gv, row.rows)).2 } true (row :: rest)
theorem PicksT.le {q : Int} {gv : Bool} {l l2 : List TRow} (h : PicksT q gv l l2) : ∃ x r y ys, l2 = x :: r ∧ x.gv = true ∧ x.rows = y :: ys ∧ headC y.its ≤ y.df ∧ (Z5 x.rows).cost ≤ x.df := by
 induction h with
 | grant hp h =>
   obtain ⟨y, ys, he, hle⟩ := hp.le
   refine ⟨_, _, y, ys, rfl, rfl, he, hle, ?_⟩
   exact h
 | rotate hp h hr ih => exact ih
theorem Zf4 {q : Int} {y : FRow} {ys : List FRow} (h : headC y.its ≤ y.df) : PicksR q true (y :: ys) (y :: ys) := .grant (by rw [show ZF q true y = y from rfl]; exact h)
def Zlz (pre : List Int) (ρ : Roles) (w : World) (f : Nat) (q : Int) (gv : Bool) (rows : List TRow) (e : Ending) (w' : World) : Prop :=
 ∃ row rest ρ', e = .returned (.tuple #[entV (entOf row), .bool true]) ∧ PicksT q gv rows (row :: rest) ∧ Later ρ ρ' w ∧ ZA ρ' pre w.heap.size ∧ ShareAt pre ρ' w' f q (tookT row rest).1 (tookT row rest).2 ∧ Fp (Part ρ pre) w w'
section
variable {pre : List Int} {ρ : Roles} {f : Nat} {q : Int} {gv : Bool} {rows : List TRow}
set_option maxRecDepth 100000 in
set_option maxHeartbeats 4000000 in
theorem Zdt (hpre : pre ≠ []) (w : World) (hR : ShareAt pre ρ w f q gv rows) (hne : rows ≠ []) : Calls Tryz.prog 37 #[.pointer (some ⟨f, 0, none⟩)] w (Zlz pre ρ w f q gv rows) := by
 have HR := Lib.hid (hR.later (Zg ρ w))
 have HNE := Lib.hid hne
 have hfw := hR.lt
 clear hR hne
 go_enter Tryz.func37, Tryz.ntmps37
 go_upto_region 1 with fail
 obtain ⟨w1, hw1⟩ : ∃ w1 : World, w1 = w.alloc (.cells #[.string ⟨#[]⟩, .int .i64 0, .int .i64 0, .int .i64 0, .int .i64 0, .int .i64 0, .int .i64 0, .int .i64 0] 25) := ⟨_, rfl⟩
 obtain ⟨eb, heb⟩ : ∃ eb : Nat, eb = w.heap.size := ⟨_, rfl⟩
 rw [← hw1, ← heb]
 have HB1 := Lib.hid (show Below w.heap.size w w1 by rw [hw1]; exact box_below)
 have HE1 := Lib.hid (show w1.heap[eb]? = some (.cells #[.string ⟨#[]⟩, .int .i64 0, .int .i64 0, .int .i64 0, .int .i64 0, .int .i64 0, .int .i64 0, .int .i64 0] 25 (0, 0)) by rw [hw1, heb]; exact Zf)
 have HEB := Lib.hid heb
 clear hw1 heb
 go_wp2_with fail
 refine (Zgx hpre _ (HR.out.below HB1.out) HNE.out).mono ?_
 rintro e w2 ⟨row, rest, ρ2, rfl, hp, hl, hn, hR2, hF2⟩
 have her0 : fence ρ w eb = [] := by rw [HEB.out]; simp [fence]
 have HE2 := Lib.hid (hF2.heap HE1.out (fun ⟨s, hs⟩ => by rw [her0] at hs; exact hpre (List.append_eq_nil_iff.1 hs.symm).1))
 have HP := Lib.hid hp
 have HL := Lib.hid hl
 have HN := Lib.hid hn
 have HF2 := Lib.hid ((Fp.of_below (S := Part (fence ρ w) pre) HB1.out).trans hF2 (fun _ _ h => h))
 obtain ⟨sp, v, ns, fb, a, hA, he⟩ := hR2.later (Zg ρ2 w2)
 obtain ⟨n, r, rfl⟩ : ∃ n r, ns = n :: r := by
  cases ns with
  | nil => cases he
  | cons n r => exact ⟨n, r, rfl⟩
 rw [List.map_cons, List.cons.injEq] at he
 obtain ⟨rfl, rfl⟩ := he
 obtain ⟨E, hE⟩ : ∃ E, E = entOf (Zj a n) := ⟨_, rfl⟩
 rw [← hE]
 have HE := Lib.hid hE
 have HTEN := Lib.hid (show n.id = E.ten by rw [hE]; rfl)
 have HCOST := Lib.hid (show E.cost = (Z5 (a n.id).2).cost by rw [hE]; rfl)
 have HA := Lib.hid hA
 unfold entV entC
 clear hp hl hn hF2 hA hE her0 hR2
 go_upto_region 2 with fail
 obtain ⟨w3, hw3⟩ : ∃ w3 : World, w3 = w2.alloc (.cells #[.string E.need, .int .i64 E.cls, .int .i64 E.ten, .int .i64 E.tw, .int .i64 E.inv, .int .i64 E.iw, .int .i64 E.id, .int .i64 E.cost] 25) := ⟨_, rfl⟩
 obtain ⟨xb, hxb⟩ : ∃ xb : Nat, xb = w2.heap.size := ⟨_, rfl⟩
 rw [← hw3, ← hxb]
 have HB3 := Lib.hid (show Below w2.heap.size w2 w3 by rw [hw3]; exact box_below)
 have hx3 : w3.heap[xb]? = some (.cells #[.string E.need, .int .i64 E.cls, .int .i64 E.ten, .int .i64 E.tw, .int .i64 E.inv, .int .i64 E.iw, .int .i64 E.id, .int .i64 E.cost] 25 (0, 0)) := by rw [hw3, hxb]; exact Zf
 have HX3 := Lib.hid hx3
 have HR3 := Lib.hid ((HB3.out.block _ (Zb HE2.out)).trans HE2.out)
 have HXB := Lib.hid hxb
 have HA3 := Lib.hid (HA.out.below HB3.out)
 have t2 : w3.cell? ⟨xb, 2, none⟩ = some (.int .i64 E.ten) := Za hx3 rfl
 clear hw3 hxb hx3
 go_wp2_with fail
 refine (ZbQ E.ten 0 n _ HA3.out.pre' rfl HTEN.out).mono ?_
 rintro e w4 ⟨rfl, hb4⟩
 have HB4 := Lib.hid hb4
 have HA4 := Lib.hid (HA3.out.below hb4)
 clear hb4 t2
 go_wp2_with fail
 obtain ⟨px, pr, py, pys, hpe, hgv, hrw, hle1, hle2⟩ := HP.out.le
 rw [List.cons.injEq] at hpe
 obtain ⟨rfl, rfl⟩ := hpe
 have hag : a n.id = (true, py :: pys) := Prod.ext hgv hrw
 have HAG := Lib.hid hag
 have HLE1 := Lib.hid hle1
 have HLE2 := Lib.hid hle2
 clear hgv hrw hle1 hle2 hag
 have hr4 := HA4.out.pre'.ring n List.mem_cons_self
 rw [HAG.out] at hr4
 refine (Zhs (pre := pre ++ [5, n.id]) (by simp) _ hr4 (by simp)).mono ?_
 rintro e w5 ⟨row', rest', ρ5, rfl, hp5, hl5, hn5, hR5, hF5⟩
 have hsm := hp5.once (Zf4 HLE1.out)
 rw [List.cons.injEq] at hsm
 obtain ⟨rfl, rfl⟩ := hsm
 have hP5 := HA4.out.pre'.ring_turn (s := tookR row' rest') hl5 hF5 hR5
 have HL5 := Lib.hid hl5
 have HN5 := Lib.hid hn5
 have hcr2 : ρ2 eb = [] := by
  rw [HL.out eb (Zb HE1.out), HEB.out]
  simp [fence]
 have hcr : fence ρ2 w2 eb = [] := by
  unfold fence
  rw [hcr2]
  simp
 have hxr : fence ρ2 w2 xb = [] := by rw [HXB.out]; simp [fence]
 have hnp : ∀ k, fence ρ2 w2 k = [] → ¬ Part (fence ρ2 w2) pre k := fun k hk ⟨s, h⟩ => by
  rw [hk] at h
  exact hpre (List.append_eq_nil_iff.1 h.symm).1
 have hz23 := HB3.out.size
 have hz34 := HB4.out.size
 have HX4 := Lib.hid ((HB4.out.block _ (Zb HX3.out)).trans HX3.out)
 have HE4 := Lib.hid ((HB4.out.block _ (Zb HR3.out)).trans HR3.out)
 have hxr5 : ρ5 xb = [] := (hl5 xb (Zb HX4.out)).trans hxr
 have hcr5 : ρ5 eb = [] := (hl5 eb (Zb HE4.out)).trans hcr
 have HF5 := Lib.hid ((Fp.of_below (S := Part (fence ρ2 w2) pre) (HB3.out.trans (HB4.out.mono HB3.out.size))).trans (Zdq hF5) (fun _ _ h => h))
 have HX5 := Lib.hid (hF5.heap HX4.out (fun h => hnp _ hxr (ZaO h)))
 have HR5 := Lib.hid (hF5.heap HE4.out (fun h => hnp _ hcr (ZaO h)))
 have hd := HA4.out.pre'.good.1
 have hcost : 1 ≤ E.cost ∧ E.cost ≤ 64 := by
  rw [HCOST.out]
  exact ZeR (HA4.out.ok n List.mem_cons_self).1 (HA4.out.ok n List.mem_cons_self).2
 have hle : E.cost ≤ n.df := by
  rw [HCOST.out]
  exact HLE2.out
 have hw1 : wrap64 (n.df - E.cost) = n.df - E.cost := by
  have h3 := hd.2.2.1
  have h4 := hd.2.2.2
  simp at h4
  unfold wrap64
  omega
 have HND := Lib.hid (show NdsOk true ((n :: r).set 0 { n with df := n.df - E.cost }) from ⟨⟨hd.1, hd.2.1, by show 0 ≤ n.df - E.cost; omega, by have h4 := hd.2.2.2; simp at h4; show n.df - E.cost ≤ 2112; omega⟩, HA4.out.pre'.good.2⟩)
 have HP5 := Lib.hid hP5
 have e2 : w5.cell? ⟨n.blk, 2, none⟩ = some (.int .i64 n.df) := Za (hP5.spin.node 0 n rfl).2 rfl
 have f2 : w5.frozen? ⟨n.blk, 2, none⟩ = false := Zd (hP5.spin.node 0 n rfl).2
 have x7 : w5.cell? ⟨xb, 7, none⟩ = some (.int .i64 E.cost) := Za HX5.out rfl
 have HCR5 := Lib.hid hcr5
 have HXR5 := Lib.hid hxr5
 have HZ23 := Lib.hid (Nat.le_trans hz23 hz34)
 clear hl5 hn5 hR5 hF5 hp5 hP5 hcr2 hcr hxr hnp hxr5 hcr5 hd hcost hle hr4 hz23 hz34
 unfold itV
 go_upto_region 6 with fail
 go_region
 clear e2 f2 x7 hw1
 obtain ⟨w6, hw6⟩ : ∃ w6 : World, w6 = (w5.setCell ⟨n.blk, 2, none⟩ (.int .i64 (n.df - E.cost))).drew := ⟨_, rfl⟩
 rw [← hw6]
 have hF6 : Fp (fun k => k = n.blk) w5 w6 := by rw [hw6]; exact ((Fp.refl (fun k => k = n.blk) w5).setCell (p := ⟨n.blk, 2, none⟩) (fun _ => rfl) _).drew
 have hnb := (HP5.out.spin.node 0 n rfl).1
 have HP6 := Lib.hid (show SPre pre ρ5 w6 f sp q true v ((n :: r).set 0 { n with df := n.df - E.cost }) fb (upd a n.id (tookR row' rest')) by
  rw [hw6]
  have h := HP5.out.df_turn (k := 0) (n := n) rfl (n.df - E.cost) HND.out
  exact h.below ⟨rfl, rfl, rfl, Nat.le_refl _, fun _ _ => rfl⟩)
 have hnbp : ∀ k, ρ5 k = [] → k ≠ n.blk := fun k hk e => by
  rw [e, hnb] at hk
  simp at hk
 have HX6 := Lib.hid (hF6.heap HX5.out (hnbp _ HXR5.out))
 have HR6 := Lib.hid (hF6.heap HR5.out (hnbp _ HCR5.out))
 have HF6 := Lib.hid (hF6.mono (S' := Part ρ5 pre) (fun k hk => by subst hk; exact ⟨_, hnb⟩))
 have c0 : w6.cell? ⟨f, 0, none⟩ = some (.pointer (some ⟨sp, 0, none⟩)) := Za HP6.out.head rfl
 clear hF6 hnb hnbp hw6
 go_wp2_with fail
 refine (Zkp (k := 0) (n := { n with df := n.df - E.cost }) HP6.out rfl (fun m hm e => by
  rw [Zx _ e]
  rcases ZaA hm with hm | rfl
  ·exact HA4.out.full m hm
  ·exact absurd rfl e)).mono ?_
 rintro e w7 ⟨rfl, hR7, hF7⟩
 have HR7 := Lib.hid hR7
 have hnp5 : ∀ k, ρ5 k = [] → ¬ Zs ρ5 pre k := fun k hk h => by
  rcases h with h | h | ⟨_, h⟩ <;> rw [hk] at h <;> simp at h
 have HRR := Lib.hid (hF7.heap HR6.out (hnp5 _ HCR5.out))
 have HX7 := Lib.hid (hF7.heap HX6.out (hnp5 _ HXR5.out))
 have HF7 := Lib.hid (HF6.out.trans (hF7.mono (S' := Part ρ5 pre) (fun _ h => ZU h)) (fun _ _ h => h))
 clear hR7 hF7 c0 hnp5
 have x0 : w7.cell? ⟨xb, 0, none⟩ = some (.string E.need) := Za HX7.out rfl
 have x1 : w7.cell? ⟨xb, 1, none⟩ = some (.int .i64 E.cls) := Za HX7.out rfl
 have x2 : w7.cell? ⟨xb, 2, none⟩ = some (.int .i64 E.ten) := Za HX7.out rfl
 have x3 : w7.cell? ⟨xb, 3, none⟩ = some (.int .i64 E.tw) := Za HX7.out rfl
 have x4 : w7.cell? ⟨xb, 4, none⟩ = some (.int .i64 E.inv) := Za HX7.out rfl
 have x5 : w7.cell? ⟨xb, 5, none⟩ = some (.int .i64 E.iw) := Za HX7.out rfl
 have x6 : w7.cell? ⟨xb, 6, none⟩ = some (.int .i64 E.id) := Za HX7.out rfl
 have x7 : w7.cell? ⟨xb, 7, none⟩ = some (.int .i64 E.cost) := Za HX7.out rfl
 go_upto_region 8 with fail
 go_wp2_with (refine wpList_store_row rfl 25 _ _ rfl eb #[.string E.need, .int .i64 E.cls, .int .i64 E.ten, .int .i64 E.tw, .int .i64 E.inv, .int .i64 E.iw, .int .i64 E.id, .int .i64 E.cost] rfl rfl 25 _ HRR.out (ZZ E) rfl (ZaJ E) ?_)
 clear x0 x1 x2 x3 x4 x5 x6 x7
 have hh8 := setRow_heap w7 eb _ #[.string E.need, .int .i64 E.cls, .int .i64 E.ten, .int .i64 E.tw, .int .i64 E.inv, .int .i64 E.iw, .int .i64 E.id, .int .i64 E.cost] _ _ HRR.out
 have hF8 : Fp (fun k => k = eb) w7 (w7.setRow eb #[.string E.need, .int .i64 E.cls, .int .i64 E.ten, .int .i64 E.tw, .int .i64 E.inv, .int .i64 E.iw, .int .i64 E.id, .int .i64 E.cost]) := (Fp.refl (fun k => k = eb) w7).setRow (fun _ => rfl)
 refine bodyPost_ret (v := .tuple #[.agg #[.string E.need, .int .i64 E.cls, .int .i64 E.ten, .int .i64 E.tw, .int .i64 E.inv, .int .i64 E.iw, .int .i64 E.id, .int .i64 E.cost], .bool true]) (ZL Tryz.results37 rfl rfl hh8 Tryz.underlying25 rfl (ZZ E)) rfl ?_
 have hres := HR7.out.frame hF8 (fun k _ ⟨s, hs⟩ e => by
  rw [e, HCR5.out] at hs
  exact hpre (List.append_eq_nil_iff.1 hs.symm).1)
 have hcfg : withT 0 (Zj (upd a n.id (tookR row' rest')) { n with df := n.df - E.cost }) true (((n :: r).set 0 { n with df := n.df - E.cost }).map (Zj (upd a n.id (tookR row' rest')))) = tookT (Zj a n) (r.map (Zj a)) := by
  have ho : n.id ∉ r.map Nd.id := by
   have h := HA4.out.pre'.spin.once
   rw [List.map_cons, List.nodup_cons] at h
   exact h.1
  have hm : r.map (Zj (upd a n.id (tookR row' rest'))) = r.map (Zj a) := Zen (fun m hm e => ho (by rw [← e]; exact List.mem_map_of_mem hm))
  have htk : tookA ((Zj a n).gv, (Zj a n).rows) = tookR row' rest' := by
   have h2 : (Zj a n).rows = row' :: rest' := by
    show (a n.id).2 = _
    rw [HAG.out]
   unfold tookA
   rw [h2]
  rw [List.set_cons_zero, List.map_cons, hm]
  unfold tookT withT
  rw [htk, show (Z5 (Zj a n).rows).cost = E.cost from HCOST.out.symm]
  simp [Zj, ZE]
 rw [hcfg] at hres
 have hz12 := HF2.out.size
 have hze := Zb HE1.out
 have hze2 := Zb HE2.out
 have hzb := HB1.out.size
 have hz24 := HZ23.out
 have heb := HEB.out
 have hz45 := HF5.out.size
 have hz12' : w1.heap.size ≤ w2.heap.size ∨ True := .inr trivial
 refine ⟨Zj a n, r.map (Zj a), ρ5, by rw [← HE.out]; rfl, HP.out, fun k hk => ?_, fun k hk => ?_, hres, ?_⟩
 ·rw [HL5.out k (by omega), Zg ρ2 w2 k (by omega), HL.out k (by omega), Zg ρ w k hk]
 ·rcases Nat.lt_or_ge k w4.heap.size with h4 | h4
  ·have e5 : ρ5 k = fence ρ2 w2 k := HL5.out k h4
   rcases Nat.lt_or_ge k w2.heap.size with h2 | h2
   ·have e : ρ5 k = ρ2 k := e5.trans (Zg ρ2 w2 k h2)
    rcases Nat.lt_or_ge k w1.heap.size with h1 | h1
    ·left
     rw [e, HL.out k h1]
     simp [fence, Nat.not_lt.2 hk]
    ·rcases HN.out k h1 with h3 | ⟨s, h3⟩
     ·exact .inl (e.trans h3)
     ·exact .inr ⟨s, e.trans h3⟩
   ·exact .inl (by rw [e5]; simp [fence, Nat.not_lt.2 h2])
  ·rcases HN5.out k h4 with h3 | h3
   ·exact .inl h3
   ·exact .inr (ZaO h3)
 ·have hA1 : Fp (Part ρ pre) w w5 := (HF2.out.mono (fun k hk => ZaS hpre hk)).trans HF5.out (fun k hk ⟨s, h⟩ => by
   rw [Zg ρ2 w2 k (by omega), HL.out k (by omega), Zg ρ w k hk] at h
   exact ⟨s, h⟩)
  have hA2 : Fp (fun k => Part ρ5 pre k ∨ k = eb) w5 (w7.setRow eb #[.string E.need, .int .i64 E.cls, .int .i64 E.ten, .int .i64 E.tw, .int .i64 E.inv, .int .i64 E.iw, .int .i64 E.id, .int .i64 E.cost]) := (HF7.out.mono (fun k hk => .inl hk)).trans (hF8.mono (S' := fun k => Part ρ5 pre k ∨ k = eb) (fun k hk => .inr hk)) (fun _ _ h => h)
  refine hA1.trans hA2 (fun k hk h => ?_)
  rcases h with ⟨s, h⟩ | h
  ·rw [HL5.out k (by omega), Zg ρ2 w2 k (by omega), HL.out k (by omega), Zg ρ w k hk] at h
   exact ⟨s, h⟩
  ·omega
end
end Go.Proofs.YtdbjihkgafhakaaGreatDoor
/-
 share.Share: New, Push: the walks.
-/
namespace Go.Proofs.YtdbjihkgafhakaaGreatDoor
open Go.RowKit Go.Sort
set_option maxRecDepth 100000 in
set_option maxHeartbeats 1000000 in
theorem Zep (q : Int) (w : World) (h : ¬ (1 ≤ q ∧ q ≤ 64)) : Calls Tryz.prog 25 #[.int .i64 q] w fun e w' => e = .returned (.pointer none) ∧ Below w.heap.size w w' := by
 have hq3 : q < 1 ∨ (¬ q < 1 ∧ 64 < q) := by omega
 clear h
 go_enter Tryz.func25, Tryz.ntmps25
 rcases hq3 with hq1 | ⟨hq1, hq2⟩
 all_goals
  go_wp2_with fail
  go_ret
  exact ⟨rfl, Below.refl _ _⟩
set_option maxRecDepth 100000 in
set_option maxHeartbeats 1000000 in
theorem ZbD (q : Int) (w : World) (h1 : 1 ≤ q) (h2 : q ≤ 64) : Calls Tryz.prog 25 #[.int .i64 q] w fun e w' => e = .returned (.pointer (some ⟨w.heap.size + 1, 0, none⟩)) ∧ w' = (w.alloc (.cells #[.int .i64 q, .slice none 0 0, .bool false] 115)).alloc (.cells #[.pointer (some ⟨w.heap.size, 0, none⟩)] 117) := by
 have g1 : ¬ q < 1 := by omega
 have g2 : ¬ 64 < q := by omega
 clear h1 h2
 go_enter Tryz.func25, Tryz.ntmps25
 go_wp2
 go_ret
 exact ⟨rfl, rfl⟩
theorem Zjj {pre : List Int} {ρ : Roles} {q : Int} (w : World) (h1 : 1 ≤ q) (h2 : q ≤ 64) (hs : ρ w.heap.size = pre ++ [1]) (hf : ρ (w.heap.size + 1) = pre ++ [6]) :
 ShareAt pre ρ ((w.alloc (.cells #[.int .i64 q, .slice none 0 0, .bool false] 115)).alloc (.cells #[.pointer (some ⟨w.heap.size, 0, none⟩)] 117)) (w.heap.size + 1) q false [] := by
 refine ⟨w.heap.size, .slice none 0 0, [], fun _ => 0, fun _ => (false, []), ⟨⟨?_, hf, ⟨Zi Zf, hs, .inl ⟨rfl, rfl⟩, (fun k hk => by cases hk), (fun i n hn => by simp at hn), by simp, by simp⟩, (fun n hn => by cases hn), (fun n hn => by cases hn), h1, h2, trivial, (fun n hn => by cases hn)⟩, (fun n hn => by cases hn)⟩, rfl⟩
 rw [show w.heap.size + 1 = (w.alloc (.cells #[.int .i64 q, .slice none 0 0, .bool false] 115)).heap.size by simp]
 exact Zf
set_option maxRecDepth 100000 in
set_option maxHeartbeats 1000000 in
theorem Zbs (id wt : Int) (w : World) (h : ¬ Zz id wt) : Calls Tryz.prog 59 #[.int .i64 id, .int .i64 wt] w fun e w' => e = .returned (.bool true) ∧ Below w.heap.size w w' := by
 obtain ⟨h0, h1, h2⟩ := Zek h
 have g0 : id ≥ 0 := by omega
 have g1 : wt ≥ 1 := by omega
 have g2 : wt ≤ 16 := by omega
 clear h h0 h1 h2
 go_enter Tryz.func59, Tryz.ntmps59
 go_wp2_with fail
 go_ret
 exact ⟨Zo (by simp), Below.refl _ _⟩
set_option maxRecDepth 100000 in
set_option maxHeartbeats 1000000 in
theorem Zd7 (id wt : Int) (w : World) (h : Zz id wt) : Calls Tryz.prog 59 #[.int .i64 id, .int .i64 wt] w fun e w' => e = .returned (.bool false) ∧ Below w.heap.size w w' := by
 have hc : ¬ id ≥ 0 ∨ (id ≥ 0 ∧ ¬ wt ≥ 1) ∨ (id ≥ 0 ∧ wt ≥ 1 ∧ ¬ wt ≤ 16) := by unfold Zz at h; omega
 clear h
 go_enter Tryz.func59, Tryz.ntmps59
 rcases hc with h0 | ⟨h0, h1⟩ | ⟨h0, h1, h2⟩
 all_goals
  go_wp2_with fail
  go_ret
  refine ⟨Zo ?_, Below.refl _ _⟩
  simp
def itOf (e : Ent) : It := ⟨e.id, e.cost⟩
def pushT (e : Ent) (rows : List TRow) : Int × List TRow := match findT e.ten rows, rows.find? (fun r => r.id == e.ten) with
 | some k, some r => if Zz e.ten e.tw ∨ r.wt ≠ e.tw then (1, rows) else (pushE e.inv e.iw (itOf e) r.rows, rows.set k { r with rows := ZQ e.inv e.iw (itOf e) r.rows })
 | _, _ => if Zz e.ten e.tw then (1, rows) else (pushE e.inv e.iw (itOf e) [], if pushE e.inv e.iw (itOf e) [] = 0 then rows ++ [⟨e.ten, e.tw, 0, false, ZQ e.inv e.iw (itOf e) []⟩] else rows)
theorem Zkq {e : Ent} {rows : List TRow} (h : findT e.ten rows = none) : pushT e rows = if Zz e.ten e.tw then (1, rows) else (pushE e.inv e.iw (itOf e) [], if pushE e.inv e.iw (itOf e) [] = 0 then rows ++ [⟨e.ten, e.tw, 0, false, ZQ e.inv e.iw (itOf e) []⟩] else rows) := by unfold pushT; rw [h]
theorem Zkr {e : Ent} {rows : List TRow} {k : Nat} {r : TRow} (h : findT e.ten rows = some k) (hr : rows[k]? = some r) : pushT e rows = if Zz e.ten e.tw ∨ r.wt ≠ e.tw then (1, rows) else (pushE e.inv e.iw (itOf e) r.rows, rows.set k { r with rows := ZQ e.inv e.iw (itOf e) r.rows }) := by
 unfold pushT
 rw [h, Zd6 h hr]
theorem ZjW {id wt : Int} {x : It} {rows : List FRow} (h : rows ≠ [] ∨ pushE id wt x rows = 0) : ZQ id wt x rows ≠ [] := by
 unfold ZQ
 split
 ·unfold pushR
  split
  ·rename_i k hk
   intro e
   have h1 := congrArg List.length e
   rw [List.length_modify] at h1
   obtain ⟨hl, _⟩ := List.findIdx?_eq_some_iff_getElem.1 hk
   simp at h1
   rw [h1] at hl
   simp at hl
  ·simp
 ·rename_i h0
  rcases h with h | h
  ·exact h
  ·exact absurd h h0
def totT (rows : List TRow) : Nat := (rows.map (fun r => totR r.rows)).sum
theorem Zci : ∀ {rows : List TRow} {r : TRow}, r ∈ rows → totR r.rows ≤ totT rows
 | [], _, h => by cases h
 | x :: l, r, h => by
   rcases List.mem_cons.1 h with rfl | h
   ·simp [totT]
   ·have := Zci h
    simp [totT] at this ⊢
    omega
def ZbE (pre : List Int) (ρ : Roles) (w : World) (f : Nat) (q : Int) (gv : Bool) (r : Int × List TRow) (e : Ending) (w' : World) : Prop :=
 e = .returned (.int .i64 r.1) ∧ ∃ ρ', Later ρ ρ' w ∧ ZA ρ' pre w.heap.size ∧ ShareAt pre ρ' w' f q gv r.2 ∧ Fp (Part ρ pre) w w'
section
variable {pre : List Int} {ρ : Roles} {f sp : Nat} {q : Int} {gv : Bool} {v : Value} {ns : List Nd} {fb : Int → Nat} {a : Int → Bool × List FRow}
theorem Zf5 {w w' : World} {c : Int} (h : ShAt pre ρ w f sp q gv v ns fb a) (hb : Below w.heap.size w w') : ZbE pre ρ w f q gv (c, ns.map (Zj a)) (.returned (.int .i64 c)) w' :=
 ⟨rfl, fence ρ w, Zg ρ w, fun k hk => .inl (by simp [fence, Nat.not_lt.2 hk]), ⟨sp, v, ns, fb, a, (h.later (Zg ρ w)).below hb, rfl⟩, Fp.of_below hb⟩
set_option maxRecDepth 100000 in
set_option maxHeartbeats 4000000 in
theorem ZcR (E : Ent) (w : World) (h : ShAt pre ρ w f sp q gv v ns fb a) (hbad : Zz E.ten E.tw) :
 Calls Tryz.prog 31 #[.pointer (some ⟨f, 0, none⟩), .agg #[.string E.need, .int .i64 E.cls, .int .i64 E.ten, .int .i64 E.tw, .int .i64 E.inv, .int .i64 E.iw, .int .i64 E.id, .int .i64 E.cost]] w (ZbE pre ρ w f q gv (1, ns.map (Zj a))) := by
 have HH := Lib.hid h
 have HS := Lib.hid h.pre'
 have HBAD := Lib.hid hbad
 have c0 := h.pre'.c0
 have hfw := Zb h.pre'.head
 have hcase := h.cases E.ten
 clear h hbad
 go_enter Tryz.func31, Tryz.ntmps31
 go_upto_region 1 with fail
 obtain ⟨w1, hw1⟩ : ∃ w1 : World, w1 = w.alloc (.cells #[.string E.need, .int .i64 E.cls, .int .i64 E.ten, .int .i64 E.tw, .int .i64 E.inv, .int .i64 E.iw, .int .i64 E.id, .int .i64 E.cost] 25) := ⟨_, rfl⟩
 obtain ⟨bx, hbx⟩ : ∃ bx : Nat, bx = w.heap.size := ⟨_, rfl⟩
 rw [← hw1, ← hbx]
 have HB1 := Lib.hid (show Below w.heap.size w w1 by rw [hw1]; exact box_below)
 have hx1 : w1.heap[bx]? = some (.cells #[.string E.need, .int .i64 E.cls, .int .i64 E.ten, .int .i64 E.tw, .int .i64 E.inv, .int .i64 E.iw, .int .i64 E.id, .int .i64 E.cost] 25 (0, 0)) := by rw [hw1, hbx]; exact Zf
 have HX1 := Lib.hid hx1
 have HBX := Lib.hid hbx
 have c0 : w1.cell? ⟨f, 0, none⟩ = some (.pointer (some ⟨sp, 0, none⟩)) := Zc HB1.out c0
 have x2 : w1.cell? ⟨bx, 2, none⟩ = some (.int .i64 E.ten) := Za hx1 rfl
 clear hw1 hbx hx1
 go_wp2_with fail
 refine (ZaF f sp _ (HS.out.below HB1.out).c0).mono ?_
 rintro e w2 ⟨rfl, rfl⟩
 go_wp2_with fail
 have hten : ∃ u1 u2 : Value, Calls Tryz.prog 58 #[.pointer (some ⟨f, 0, none⟩), .int .i64 E.ten] w1 fun e w' => e = .returned (.tuple #[u1, u2]) ∧ Below w1.heap.size w1 w' := by
  rcases hcase with ⟨h1, _⟩ | ⟨k, n, hn, hi, _⟩
  ·exact ⟨_, _, Zfi E.ten _ (HS.out.below HB1.out) h1⟩
  ·exact ⟨_, _, ZbQ E.ten k n _ (HS.out.below HB1.out) hn hi⟩
 obtain ⟨u1, u2, hten⟩ := hten
 refine hten.mono ?_
 rintro e w3 ⟨rfl, hb3⟩
 have HB3 := Lib.hid hb3
 have hx3 := (hb3.block bx (Zb HX1.out)).trans HX1.out
 have x2' := cell_regrown (show w3.cell? ⟨bx, 2, none⟩ = some (.int .i64 E.ten) from Za hx3 rfl)
 have x3' := cell_regrown (show w3.cell? ⟨bx, 3, none⟩ = some (.int .i64 E.tw) from Za hx3 rfl)
 have HRIGHT := Lib.hid (fun (d : Nat) (os : Array Obj) => Zd7 E.ten E.tw (grow (redrawn w3 d) os) HBAD.out)
 clear hten hb3 hx3 x2 c0 hcase
 go_upto_region 4 with fail
 refine wp_region_quiet_below (by kernel_rfl) (by kernel_rfl) ?_
 repeat (go_big_quiet_step (exact Calls.regrown_of (HRIGHT.out _ _)))
 refine wpQuiet_nil ?_
 rintro _ ⟨⟨dq, osq⟩, rfl⟩
 clear x2' x3'
 go_wp2_with fail
 go_ret
 exact Zf5 HH.out (HB1.out.trans ((Zp HB3.out HB3.out.size).mono HB1.out.size))
set_option maxRecDepth 100000 in
set_option maxHeartbeats 4000000 in
theorem Zh6 (E : Ent) (k : Nat) (n : Nd) (w : World) (h : ShAt pre ρ w f sp q gv v ns fb a) (hn : ns[k]? = some n) (hi : n.id = E.ten) (hgood : ¬ Zz E.ten E.tw) (hwt : n.wt ≠ E.tw) :
 Calls Tryz.prog 31 #[.pointer (some ⟨f, 0, none⟩), .agg #[.string E.need, .int .i64 E.cls, .int .i64 E.ten, .int .i64 E.tw, .int .i64 E.inv, .int .i64 E.iw, .int .i64 E.id, .int .i64 E.cost]] w (ZbE pre ρ w f q gv (1, ns.map (Zj a))) := by
 have HH := Lib.hid h
 have HS := Lib.hid h.pre'
 have HGOOD := Lib.hid hgood
 have HN := Lib.hid hn
 have HI := Lib.hid hi
 have hwne : (n.wt != E.tw) = true := by simp [hwt]
 have c0 := h.pre'.c0
 have hfw := Zb h.pre'.head
 clear h hgood hn hi hwt
 go_enter Tryz.func31, Tryz.ntmps31
 go_upto_region 1 with fail
 obtain ⟨w1, hw1⟩ : ∃ w1 : World, w1 = w.alloc (.cells #[.string E.need, .int .i64 E.cls, .int .i64 E.ten, .int .i64 E.tw, .int .i64 E.inv, .int .i64 E.iw, .int .i64 E.id, .int .i64 E.cost] 25) := ⟨_, rfl⟩
 obtain ⟨bx, hbx⟩ : ∃ bx : Nat, bx = w.heap.size := ⟨_, rfl⟩
 rw [← hw1, ← hbx]
 have HB1 := Lib.hid (show Below w.heap.size w w1 by rw [hw1]; exact box_below)
 have hx1 : w1.heap[bx]? = some (.cells #[.string E.need, .int .i64 E.cls, .int .i64 E.ten, .int .i64 E.tw, .int .i64 E.inv, .int .i64 E.iw, .int .i64 E.id, .int .i64 E.cost] 25 (0, 0)) := by rw [hw1, hbx]; exact Zf
 have HX1 := Lib.hid hx1
 have HBX := Lib.hid hbx
 have c0 : w1.cell? ⟨f, 0, none⟩ = some (.pointer (some ⟨sp, 0, none⟩)) := Zc HB1.out c0
 have x2 : w1.cell? ⟨bx, 2, none⟩ = some (.int .i64 E.ten) := Za hx1 rfl
 clear hw1 hbx hx1
 go_wp2_with fail
 refine (ZaF f sp _ (HS.out.below HB1.out).c0).mono ?_
 rintro e w2 ⟨rfl, rfl⟩
 go_wp2_with fail
 refine (ZbQ E.ten k n _ (HS.out.below HB1.out) HN.out HI.out).mono ?_
 rintro e w3 ⟨rfl, hb3⟩
 have HB3 := Lib.hid hb3
 have hx3 := (hb3.block bx (Zb HX1.out)).trans HX1.out
 have x2' := cell_regrown (show w3.cell? ⟨bx, 2, none⟩ = some (.int .i64 E.ten) from Za hx3 rfl)
 have x3' := cell_regrown (show w3.cell? ⟨bx, 3, none⟩ = some (.int .i64 E.tw) from Za hx3 rfl)
 have hn3 := (((HS.out.below HB1.out).below hb3).spin.node k n HN.out).2
 have n1' := cell_regrown (show w3.cell? ⟨n.blk, 1, none⟩ = some (.int .i64 n.wt) from Za hn3 rfl)
 have HRIGHT := Lib.hid (fun (d : Nat) (os : Array Obj) => Zbs E.ten E.tw (grow (redrawn w3 d) os) HGOOD.out)
 clear hb3 hx3 x2 c0 hn3
 go_upto_region 4 with fail
 refine wp_region_quiet_below (by kernel_rfl) (by kernel_rfl) ?_
 repeat (go_big_quiet_step (exact Calls.regrown_of (HRIGHT.out _ _)))
 refine wpQuiet_nil ?_
 rintro _ ⟨⟨dq, osq⟩, rfl⟩
 clear x2' x3' n1'
 go_wp2_with fail
 go_ret
 exact Zf5 HH.out (HB1.out.trans ((Zp HB3.out HB3.out.size).mono HB1.out.size))
set_option maxRecDepth 100000 in
set_option maxHeartbeats 4000000 in
theorem Zhv (hpre : pre ≠ []) (E : Ent) (k : Nat) (n : Nd) (w : World) (h : ShAt pre ρ w f sp q gv v ns fb a) (hn : ns[k]? = some n) (hi : n.id = E.ten) (hgood : ¬ Zz E.ten E.tw) (hwt : n.wt = E.tw) (hinv : I64 E.inv) (hid : I64 E.id) (hf : totR (a n.id).2 < 1000000) :
 Calls Tryz.prog 31 #[.pointer (some ⟨f, 0, none⟩), .agg #[.string E.need, .int .i64 E.cls, .int .i64 E.ten, .int .i64 E.tw, .int .i64 E.inv, .int .i64 E.iw, .int .i64 E.id, .int .i64 E.cost]] w (ZbE pre ρ w f q gv (pushE E.inv E.iw (itOf E) (a n.id).2, (ns.map (Zj a)).set k { Zj a n with rows := ZQ E.inv E.iw (itOf E) (a n.id).2 })) := by
 have HH := Lib.hid (h.later (Zg ρ w))
 have HS := Lib.hid (h.later (Zg ρ w)).pre'
 have HGOOD := Lib.hid hgood
 have HN := Lib.hid hn
 have HI := Lib.hid hi
 have HINV := Lib.hid hinv
 have HID := Lib.hid hid
 have HF := Lib.hid hf
 have hwne : (n.wt != E.tw) = false := by simp [hwt]
 have c0 := h.pre'.c0
 have hfw := Zb h.pre'.head
 clear h hgood hn hi hwt hinv hid hf
 go_enter Tryz.func31, Tryz.ntmps31
 go_upto_region 1 with fail
 obtain ⟨w1, hw1⟩ : ∃ w1 : World, w1 = w.alloc (.cells #[.string E.need, .int .i64 E.cls, .int .i64 E.ten, .int .i64 E.tw, .int .i64 E.inv, .int .i64 E.iw, .int .i64 E.id, .int .i64 E.cost] 25) := ⟨_, rfl⟩
 obtain ⟨bx, hbx⟩ : ∃ bx : Nat, bx = w.heap.size := ⟨_, rfl⟩
 rw [← hw1, ← hbx]
 have HB1 := Lib.hid (show Below w.heap.size w w1 by rw [hw1]; exact box_below)
 have hx1 : w1.heap[bx]? = some (.cells #[.string E.need, .int .i64 E.cls, .int .i64 E.ten, .int .i64 E.tw, .int .i64 E.inv, .int .i64 E.iw, .int .i64 E.id, .int .i64 E.cost] 25 (0, 0)) := by rw [hw1, hbx]; exact Zf
 have HX1 := Lib.hid hx1
 have HBX := Lib.hid hbx
 have c0 : w1.cell? ⟨f, 0, none⟩ = some (.pointer (some ⟨sp, 0, none⟩)) := Zc HB1.out c0
 have x2 : w1.cell? ⟨bx, 2, none⟩ = some (.int .i64 E.ten) := Za hx1 rfl
 clear hw1 hbx hx1
 go_wp2_with fail
 refine (ZaF f sp _ (HS.out.below HB1.out).c0).mono ?_
 rintro e w2 ⟨rfl, rfl⟩
 go_wp2_with fail
 refine (ZbQ E.ten k n _ (HS.out.below HB1.out) HN.out HI.out).mono ?_
 rintro e w3 ⟨rfl, hb3⟩
 have HB3 := Lib.hid hb3
 have hx3 := (hb3.block bx (Zb HX1.out)).trans HX1.out
 have HX3 := Lib.hid hx3
 have x2' := cell_regrown (show w3.cell? ⟨bx, 2, none⟩ = some (.int .i64 E.ten) from Za hx3 rfl)
 have x3' := cell_regrown (show w3.cell? ⟨bx, 3, none⟩ = some (.int .i64 E.tw) from Za hx3 rfl)
 have hn3 := (((HS.out.below HB1.out).below hb3).spin.node k n HN.out).2
 have n1' := cell_regrown (show w3.cell? ⟨n.blk, 1, none⟩ = some (.int .i64 n.wt) from Za hn3 rfl)
 have HRIGHT := Lib.hid (fun (d : Nat) (os : Array Obj) => Zbs E.ten E.tw (grow (redrawn w3 d) os) HGOOD.out)
 clear hb3 hx3 x2 c0 hn3
 go_upto_region 4 with fail
 refine wp_region_quiet_below (by kernel_rfl) (by kernel_rfl) ?_
 repeat (go_big_quiet_step (exact Calls.regrown_of (HRIGHT.out _ _)))
 refine wpQuiet_nil ?_
 rintro _ ⟨⟨dq, osq⟩, rfl⟩
 obtain ⟨w4, hw4⟩ : ∃ w4 : World, w4 = grow (redrawn w3 dq) osq := ⟨_, rfl⟩
 have HB4 := Lib.hid (show Below w3.heap.size w3 w4 by rw [hw4]; exact below_regrown w3 dq osq)
 rw [show (grow (redrawn w3 (Regrown.mk dq osq).d) (Regrown.mk dq osq).os) = w4 from hw4.symm]
 have hx4 := (HB4.out.block bx (Zb HX3.out)).trans HX3.out
 have y4 : w4.cell? ⟨bx, 4, none⟩ = some (.int .i64 E.inv) := Za hx4 rfl
 have y5 : w4.cell? ⟨bx, 5, none⟩ = some (.int .i64 E.iw) := Za hx4 rfl
 have y6 : w4.cell? ⟨bx, 6, none⟩ = some (.int .i64 E.id) := Za hx4 rfl
 have y7 : w4.cell? ⟨bx, 7, none⟩ = some (.int .i64 E.cost) := Za hx4 rfl
 have HB14 := Lib.hid (HB1.out.trans ((HB3.out.trans (HB4.out.mono HB3.out.size)).mono HB1.out.size) : Below w.heap.size w w4)
 have HS4 := Lib.hid (HS.out.below HB14.out)
 clear hw4 x2' x3' n1' hx4
 go_wp2_with fail
 refine (ZcQ (pre := pre ++ [5, n.id]) (by simp) E.inv E.iw (itOf E) _ (HS4.out.ring n (List.mem_of_getElem? HN.out)) HINV.out HID.out HF.out).mono ?_
 rintro e w5 ⟨rfl, ρ5, hl5, hn5, hR5, hF5⟩
 have ht := HS4.out.ring_turn (s := ((a n.id).1, ZQ E.inv E.iw (itOf E) (a n.id).2)) hl5 hF5 hR5
 obtain ⟨P, hP⟩ : ∃ P, pushE E.inv E.iw (itOf E) (a n.id).2 = P := ⟨_, rfl⟩
 rw [hP]
 have HP := Lib.hid hP
 have HT := Lib.hid ht
 have HL5 := Lib.hid hl5
 have HN5 := Lib.hid hn5
 have HF5 := Lib.hid hF5
 clear ht hl5 hn5 hR5 hF5 y4 y5 y6 y7 hP
 have hfin : ∀ e, e = Ending.returned (.int .i64 P) → ZbE pre ρ w f q gv (pushE E.inv E.iw (itOf E) (a n.id).2, (ns.map (Zj a)).set k { Zj a n with rows := ZQ E.inv E.iw (itOf E) (a n.id).2 }) e w5 := fun e he => by
  have hz := HB14.out.size
  refine ⟨by rw [HP.out]; exact he, ρ5, Zaf (Zg ρ w) HL5.out hz, fun j hj => ?_, ⟨sp, v, ns, fb, _, ⟨HT.out, fun m hm => ?_⟩, ?_⟩, ?_⟩
  ·rcases Nat.lt_or_ge j w4.heap.size with h4 | h4
   ·exact .inl (by rw [HL5.out j h4]; simp [fence, Nat.not_lt.2 hj])
   ·rcases HN5.out j h4 with h3 | h3
    ·exact .inl h3
    ·exact .inr (ZaO h3)
  ·by_cases e : m.id = n.id
   ·rw [e, ZE]
    exact ZjW (.inl (HH.out.full n (List.mem_of_getElem? HN.out)))
   ·rw [Zx _ e]
    exact HH.out.full m hm
  ·rw [Zh5 HS.out.spin.once HN.out]
   rfl
  ·exact (Fp.of_below (S := Part ρ pre) HB14.out).trans (Zdq HF5.out) (fun k hk hp => ZaS hpre hp)
 have HFIN := Lib.hid hfin
 clear hfin
 by_cases h0 : P = 0
 ·have hne : (P != 0) = false := by simp [h0]
  have H0 := Lib.hid h0
  clear h0
  go_wp2_with fail
  go_ret
  exact HFIN.out _ (by rw [H0.out]; rfl)
 ·have hne : (P != 0) = true := by simp [h0]
  clear h0
  go_wp2_with fail
  go_ret
  exact HFIN.out _ rfl
end
end Go.Proofs.YtdbjihkgafhakaaGreatDoor
/-
 share.Share: Push of a tenant that is new; Push in one law: the walks.
-/
namespace Go.Proofs.YtdbjihkgafhakaaGreatDoor
open Go.RowKit Go.Sort
section
variable {pre : List Int} {ρ : Roles} {f sp : Nat} {q : Int} {gv : Bool} {v : Value} {ns : List Nd} {fb : Int → Nat} {a : Int → Bool × List FRow}
theorem SPre.other {w w' : World} {id : Int} (h : SPre pre ρ w f sp q gv v ns fb a) (hnew : ∀ m ∈ ns, m.id ≠ id) (hF : Fp (Part ρ (pre ++ [5, id])) w w') : SPre pre ρ w' f sp q gv v ns fb a := by
 refine ⟨hF.heap h.head (fun hp => ?_), h.rf, h.spin.frame hF (fun k _ hs hp => Z2 hs (Z7 hp)), h.src, fun m hm => (h.ring m hm).frame hF (fun k _ h1 h2 => ?_), h.q1, h.q2, h.good, h.idok⟩
 ·obtain ⟨s, hs⟩ := Z7 hp
  rw [h.rf] at hs
  simp at hs
 ·obtain ⟨s, hs⟩ := h1
  obtain ⟨t, ht⟩ := h2
  rw [hs] at ht
  simp at ht
  exact hnew m hm ht.1
theorem Zh7 {w w' : World} {id wt : Int} {s : Bool × List FRow} {qn : Nat} {ρ' : Roles} {v' : Value} (h : ShAt pre ρ w f sp q gv v ns fb a) (hnew : ∀ m ∈ ns, m.id ≠ id) (hQ : RingAt (pre ++ [5, id]) ρ w qn q s.1 s.2) (hl : s.2 ≠ []) (hid : 0 ≤ id ∧ I64 id) (hw1 : 1 ≤ wt) (hw : wt ≤ 16)
 (hF : Fp (Zs ρ pre) w w') (hL : Later ρ ρ' w) (hS : SpinAt pre ρ' w' sp q gv v' (ns ++ [⟨id, wt, 0, w.heap.size, srcT qn⟩])) :
 ShareAt pre ρ' w' f q gv (ns.map (Zj a) ++ [⟨id, wt, 0, s.1, s.2⟩]) := by
 have h' := h.later hL
 have hF' : Fp (Zs ρ' pre) w w' := hF.mono_on (fun k hk hs => by
  unfold Zs at hs ⊢
  rw [hL k hk]
  exact hs)
 refine ⟨sp, v', _, upd fb id qn, upd a id s, ⟨⟨hF'.heap h'.pre'.head (fun hs => ?_), h'.pre'.rf, hS, fun m hm => ?_, fun m hm => ?_, h.pre'.q1, h.pre'.q2, ZdH h.pre'.good ⟨hw1, hw, Int.le_refl _, Int.le_refl _⟩, fun m hm => ?_⟩, fun m hm => ?_⟩, ?_⟩
 ·have h1 := h'.pre'.rf
  rcases hs with h2 | h2 | ⟨_, h2⟩ <;> rw [h1] at h2 <;> simp at h2
 ·rcases List.mem_append.1 hm with hm | hm
  ·rw [Zx _ (hnew m hm)]
   exact h.pre'.src m hm
  ·rw [List.mem_singleton] at hm
   subst hm
   rw [ZE]
 ·rcases List.mem_append.1 hm with hm | hm
  ·rw [Zx _ (hnew m hm), Zx _ (hnew m hm)]
   exact (h'.pre'.ring m hm).frame hF' (fun k _ hp hs => Z2 hs (Z7 hp))
  ·rw [List.mem_singleton] at hm
   subst hm
   rw [ZE, ZE]
   exact (hQ.later hL).frame hF' (fun k _ hp hs => Z2 hs (Z7 hp))
 ·rcases List.mem_append.1 hm with hm | hm
  ·exact h.pre'.idok m hm
  ·rw [List.mem_singleton] at hm
   subst hm
   exact hid
 ·rcases List.mem_append.1 hm with hm | hm
  ·rw [Zx _ (hnew m hm)]
   exact h.full m hm
  ·rw [List.mem_singleton] at hm
   subst hm
   rw [ZE]
   exact hl
 ·rw [List.map_append]
  congr 1
  ·exact List.map_congr_left (fun m hm => by
    unfold Zj
    rw [Zx _ (hnew m hm)])
  ·simp [Zj, ZE]
set_option maxRecDepth 100000 in
set_option maxHeartbeats 8000000 in
theorem Zhw (_hpre : pre ≠ []) (E : Ent) (w : World) (h : ShAt pre ρ w f sp q gv v ns fb a) (hnew : ∀ m ∈ ns, m.id ≠ E.ten) (hgood : ¬ Zz E.ten E.tw) (hten : I64 E.ten) (hinv : I64 E.inv) (hid : I64 E.id) (hf : ns.length < 1000000) :
 Calls Tryz.prog 31 #[.pointer (some ⟨f, 0, none⟩), .agg #[.string E.need, .int .i64 E.cls, .int .i64 E.ten, .int .i64 E.tw, .int .i64 E.inv, .int .i64 E.iw, .int .i64 E.id, .int .i64 E.cost]] w (ZbE pre ρ w f q gv (pushE E.inv E.iw (itOf E) [], if pushE E.inv E.iw (itOf E) [] = 0 then ns.map (Zj a) ++ [⟨E.ten, E.tw, 0, false, ZQ E.inv E.iw (itOf E) []⟩] else ns.map (Zj a))) := by
 have HH0 := Lib.hid h
 have HH := Lib.hid (h.later (Zg ρ w))
 have HS := Lib.hid (h.later (Zg ρ w)).pre'
 have HGOOD := Lib.hid hgood
 have HNEW := Lib.hid hnew
 have HTEN := Lib.hid hten
 have HINV := Lib.hid hinv
 have HID := Lib.hid hid
 have HF := Lib.hid hf
 have c0 := h.pre'.c0
 have hfw := Zb h.pre'.head
 obtain ⟨P, hP⟩ : ∃ P, P = pushE E.inv E.iw (itOf E) [] := ⟨_, rfl⟩
 obtain ⟨res, hres⟩ : ∃ res : List TRow, res = (if P = 0 then ns.map (Zj a) ++ [⟨E.ten, E.tw, 0, false, ZQ E.inv E.iw (itOf E) []⟩] else ns.map (Zj a)) := ⟨_, rfl⟩
 rw [← hP, ← hres]
 have HP := Lib.hid hP
 have HRES := Lib.hid hres
 clear h hgood hnew hten hinv hid hf hP hres
 go_enter Tryz.func31, Tryz.ntmps31
 go_upto_region 1 with fail
 obtain ⟨w1, hw1⟩ : ∃ w1 : World, w1 = w.alloc (.cells #[.string E.need, .int .i64 E.cls, .int .i64 E.ten, .int .i64 E.tw, .int .i64 E.inv, .int .i64 E.iw, .int .i64 E.id, .int .i64 E.cost] 25) := ⟨_, rfl⟩
 obtain ⟨bx, hbx⟩ : ∃ bx : Nat, bx = w.heap.size := ⟨_, rfl⟩
 rw [← hw1, ← hbx]
 have HB1 := Lib.hid (show Below w.heap.size w w1 by rw [hw1]; exact box_below)
 have hx1 : w1.heap[bx]? = some (.cells #[.string E.need, .int .i64 E.cls, .int .i64 E.ten, .int .i64 E.tw, .int .i64 E.inv, .int .i64 E.iw, .int .i64 E.id, .int .i64 E.cost] 25 (0, 0)) := by rw [hw1, hbx]; exact Zf
 have HX1 := Lib.hid hx1
 have HBX := Lib.hid hbx
 have c0 : w1.cell? ⟨f, 0, none⟩ = some (.pointer (some ⟨sp, 0, none⟩)) := Zc HB1.out c0
 have x2 : w1.cell? ⟨bx, 2, none⟩ = some (.int .i64 E.ten) := Za hx1 rfl
 clear hw1 hbx hx1
 go_wp2_with fail
 refine (ZaF f sp _ (HS.out.below HB1.out).c0).mono ?_
 rintro e w2 ⟨rfl, rfl⟩
 go_wp2_with fail
 refine (Zfi E.ten _ (HS.out.below HB1.out) HNEW.out).mono ?_
 rintro e w3 ⟨rfl, hb3⟩
 have HB3 := Lib.hid hb3
 have hx3 := (hb3.block bx (Zb HX1.out)).trans HX1.out
 have HX3 := Lib.hid hx3
 have x2' := cell_regrown (show w3.cell? ⟨bx, 2, none⟩ = some (.int .i64 E.ten) from Za hx3 rfl)
 have x3' := cell_regrown (show w3.cell? ⟨bx, 3, none⟩ = some (.int .i64 E.tw) from Za hx3 rfl)
 have HRIGHT := Lib.hid (fun (d : Nat) (os : Array Obj) => Zbs E.ten E.tw (grow (redrawn w3 d) os) HGOOD.out)
 clear hb3 hx3 x2 c0
 go_upto_region 4 with fail
 refine wp_region_quiet_below (by kernel_rfl) (by kernel_rfl) ?_
 repeat (go_big_quiet_step (exact Calls.regrown_of (HRIGHT.out _ _)))
 refine wpQuiet_nil ?_
 rintro _ ⟨⟨dq, osq⟩, rfl⟩
 obtain ⟨w4, hw4⟩ : ∃ w4 : World, w4 = grow (redrawn w3 dq) osq := ⟨_, rfl⟩
 have HB4 := Lib.hid (show Below w3.heap.size w3 w4 by rw [hw4]; exact below_regrown w3 dq osq)
 rw [show (grow (redrawn w3 (Regrown.mk dq osq).d) (Regrown.mk dq osq).os) = w4 from hw4.symm]
 have HX4 := Lib.hid ((HB4.out.block bx (Zb HX3.out)).trans HX3.out)
 have HB14 := Lib.hid (HB1.out.trans ((HB3.out.trans (HB4.out.mono HB3.out.size)).mono HB1.out.size) : Below w.heap.size w w4)
 have HS4 := Lib.hid (HS.out.below HB14.out)
 have e0 := HS4.out.c0
 have s0 := HS4.out.spin.c0
 clear hw4 x2' x3'
 go_wp2_with fail
 refine (Zfc q _ HS4.out.q1 HS4.out.q2).mono ?_
 rintro e w5 ⟨rfl, hw5⟩
 obtain ⟨ρ1, hρ1⟩ : ∃ ρ1, ρ1 = Zbg (Zbg (fence ρ w) w4.heap.size (pre ++ [5, E.ten] ++ [1])) (w4.heap.size + 1) (pre ++ [5, E.ten] ++ [6]) := ⟨_, rfl⟩
 have HR5 := Lib.hid (show RingAt (pre ++ [5, E.ten]) ρ1 w5 (w4.heap.size + 1) q false [] by
  rw [hw5, hρ1]
  exact ZfX w4 HS4.out.q1 HS4.out.q2 ((ZY _ (by omega)).trans (Z1 _ _ _)) (Z1 _ _ _))
 have HB5 := Lib.hid (show Below w4.heap.size w4 w5 by rw [hw5]; exact box_below.alloc (by simp) _)
 have HZ5 := Lib.hid (show w5.heap.size = w4.heap.size + 2 by rw [hw5]; simp)
 have HL1 := Lib.hid (show Later (fence ρ w) ρ1 w4 by
  rw [hρ1]
  intro k hk
  rw [ZY _ (by omega), ZY _ (by omega)])
 have HRO1 := Lib.hid hρ1
 have hx5 := (HB5.out.block bx (Zb HX4.out)).trans HX4.out
 have HX5 := Lib.hid hx5
 have y4 : w5.cell? ⟨bx, 4, none⟩ = some (.int .i64 E.inv) := Za hx5 rfl
 have y5 : w5.cell? ⟨bx, 5, none⟩ = some (.int .i64 E.iw) := Za hx5 rfl
 have y6 : w5.cell? ⟨bx, 6, none⟩ = some (.int .i64 E.id) := Za hx5 rfl
 have y7 : w5.cell? ⟨bx, 7, none⟩ = some (.int .i64 E.cost) := Za hx5 rfl
 have HH5 := Lib.hid (((HH.out.below HB14.out).later HL1.out).below HB5.out)
 clear hw5 hρ1 hx5 e0 s0
 go_wp2_with fail
 refine (ZcQ (pre := pre ++ [5, E.ten]) (by simp) E.inv E.iw (itOf E) _ HR5.out HINV.out HID.out (by decide)).mono ?_
 rintro e w6 ⟨rfl, ρ2, hl2, hn2, hR6, hF6⟩
 rw [← HP.out]
 have HL2 := Lib.hid hl2
 have HN2 := Lib.hid hn2
 have HR6 := Lib.hid hR6
 have HF6 := Lib.hid hF6
 have hH6 : ShAt pre ρ2 w6 f sp q gv v ns fb a := ⟨(HH5.out.pre'.later hl2).other HNEW.out (hF6.mono_on (fun k hk ⟨s, hs⟩ => ⟨s, (hl2 k hk).trans hs⟩)), HH5.out.full⟩
 have HH6 := Lib.hid hH6
 have hbr : ρ1 bx = [] := by
  rw [HL1.out bx (Zb HX4.out), HBX.out]
  simp [fence]
 have HX6 := Lib.hid (hF6.heap HX5.out (fun ⟨s, hs⟩ => by
  rw [hbr] at hs
  simp at hs))
 clear hl2 hn2 hR6 hF6 hH6 y4 y5 y6 y7 hbr
 have hlat : Later ρ ρ2 w := by
  have hz := HB14.out.size
  have hz5 := HB5.out.size
  exact Zaf (Zg ρ w) (Zaf HL1.out HL2.out hz5) hz
 have hroles : ∀ k, w.heap.size ≤ k → k < w6.heap.size → ρ2 k = [] ∨ Part ρ2 pre k := fun k hk hk6 => by
  rcases Nat.lt_or_ge k w5.heap.size with h5 | h5
  ·rcases Nat.lt_or_ge k w4.heap.size with h4 | h4
   ·left
    rw [HL2.out k h5, HL1.out k h4]
    simp [fence, Nat.not_lt.2 hk]
   ·right
    have e : ρ2 k = ρ1 k := HL2.out k h5
    have hz5 := HZ5.out
    by_cases e1 : k = w4.heap.size + 1
    ·exact ⟨[5, E.ten] ++ [6], by rw [e, HRO1.out, e1, Z1, List.append_assoc]⟩
    ·have e2 : k = w4.heap.size := by omega
     exact ⟨[5, E.ten] ++ [1], by rw [e, HRO1.out, ZY _ e1, e2, Z1, List.append_assoc]⟩
  ·rcases HN2.out k h5 with h3 | h3
   ·exact .inl h3
   ·exact .inr (ZaO h3)
 have hFall : Fp (Part ρ pre) w w6 := (Fp.of_below (S := Part ρ pre) (HB14.out.trans (HB5.out.mono HB14.out.size))).trans (Zdq HF6.out) (fun k hk ⟨s, hs⟩ => by
  have hz := HB14.out.size
  rw [HL1.out k (by omega), Zg ρ w k hk] at hs
  exact ⟨s, hs⟩)
 have HLAT := Lib.hid hlat
 have HROLES := Lib.hid hroles
 have HFALL := Lib.hid hFall
 clear hlat hroles hFall
 by_cases h0 : P = 0
 ·have hne : (P != 0) = false := by simp [h0]
  have H0 := Lib.hid h0
  have e0 := HH6.out.pre'.c0
  have x2 : w6.cell? ⟨bx, 2, none⟩ = some (.int .i64 E.ten) := Za HX6.out rfl
  have x3 : w6.cell? ⟨bx, 3, none⟩ = some (.int .i64 E.tw) := Za HX6.out rfl
  have HHD := Lib.hid (HH6.out.below (w' := w6.drew) ⟨rfl, rfl, rfl, Nat.le_refl _, fun _ _ => rfl⟩)
  have HX6D := Lib.hid (show w6.drew.heap[bx]? = some (.cells #[.string E.need, .int .i64 E.cls, .int .i64 E.ten, .int .i64 E.tw, .int .i64 E.inv, .int .i64 E.iw, .int .i64 E.id, .int .i64 E.cost] 25 (0, 0)) from HX6.out)
  have HFD := Lib.hid (HFALL.out.then_below (w2 := w6.drew) ⟨rfl, rfl, rfl, Nat.le_refl _, fun _ _ => rfl⟩)
  have HFSP := Lib.hid (show ¬ Zs ρ2 pre f from fun hs => by
   have h1 := HH6.out.pre'.rf
   rcases hs with h2 | h2 | ⟨_, h2⟩ <;> rw [h1] at h2 <;> simp at h2)
  have HBSP := Lib.hid (show ¬ Zs ρ2 pre bx from fun hs => by
   have h1 : ρ2 bx = [] := by
    rw [HL2.out bx (Zb HX5.out), HL1.out bx (Zb HX4.out), HBX.out]
    simp [fence]
   rcases hs with h2 | h2 | ⟨_, h2⟩ <;> rw [h1] at h2 <;> simp at h2)
  clear h0
  go_upto_region 12 with fail
  go_region_held3 (fun w' => w'.cell? ⟨f, 0, none⟩ = some (.pointer (some ⟨sp, 0, none⟩)) ∧ w'.cell? ⟨bx, 2, none⟩ = some (.int .i64 E.ten) ∧ w'.cell? ⟨bx, 3, none⟩ = some (.int .i64 E.tw))
   (first | go_keep | exact ⟨HJ.out.1, HJ.out.2.1, HJ.out.2.2⟩)
   (first
     | (go_at_call 62; refine (ZcO E.ten E.tw 135 (.agg #[.pointer (some ⟨w4.heap.size + 1, 0, none⟩)]) _ HHD.out.pre'.spin HNEW.out HF.out).mono ?_; rintro e w7 ⟨rfl, hF7, hz7, v', hv', hS7⟩; (have HF7 := Lib.hid hF7); (have HV7 := Lib.hid hv'); (have HS7 := Lib.hid hS7); (have HJ := Lib.hid (show w7.cell? ⟨f, 0, none⟩ = some (.pointer (some ⟨sp, 0, none⟩)) ∧ w7.cell? ⟨bx, 2, none⟩ = some (.int .i64 E.ten) ∧ w7.cell? ⟨bx, 3, none⟩ = some (.int .i64 E.tw) from ⟨Za (hF7.heap HHD.out.pre'.head HFSP.out) rfl, Za (hF7.heap HX6D.out HBSP.out) rfl, Za (hF7.heap HX6D.out HBSP.out) rfl⟩)); clear hF7 hv' hS7))
  clear e0 x2 x3
  go_wp2_with fail
  go_ret
  have hzd : w6.drew.heap.size = w6.heap.size := rfl
  obtain ⟨b0, b1, b2⟩ := Zek HGOOD.out
  obtain ⟨ρ3, hρ3⟩ : ∃ ρ3 : Roles, ρ3 = fun k => if k < w6.heap.size then ρ2 k else if k = w6.heap.size then pre ++ [4, E.ten] else if v'.ownBlock = some k then pre ++ [3] else [] := ⟨_, rfl⟩
  have hl3 : Later ρ2 ρ3 w6 := fun k hk => by rw [hρ3]; simp [hk]
  have hres := Zh7 (s := (false, ZQ E.inv E.iw (itOf E) [])) HHD.out HNEW.out (HR6.out.below (w' := w6.drew) ⟨rfl, rfl, rfl, Nat.le_refl _, fun _ _ => rfl⟩) (ZjW (.inr (by rw [← HP.out]; exact H0.out))) ⟨Int.not_lt.1 b0, HTEN.out⟩ (Int.not_lt.1 b1) (Int.not_lt.1 b2) HF7.out hl3 (HS7.out ρ3 hl3 (by rw [hρ3]; simp [hzd]) (fun k hk hk2 => by
   rw [hzd] at hk2
   rw [hρ3]
   have h1 := (HV7.out k hk).1
   rw [hzd] at h1
   simp only [if_neg (Nat.not_lt.2 hk2), if_neg h1, hk, if_true]))
  refine ⟨ZM H0.out.symm, ρ3, Zaf HLAT.out hl3 HFALL.out.size, fun k hk => ?_, by rw [HRES.out, if_pos H0.out]; exact hres, HFD.out.trans HF7.out (fun k hk hs => ?_)⟩
  ·rcases Nat.lt_or_ge k w6.heap.size with h6 | h6
   ·have e := hl3 k h6
    rcases HROLES.out k hk h6 with h3 | ⟨s, h3⟩
    ·exact .inl (e.trans h3)
    ·exact .inr ⟨s, e.trans h3⟩
   ·rw [hρ3]
    unfold Part
    simp only [if_neg (Nat.not_lt.2 h6)]
    split
    ·exact .inr ⟨_, rfl⟩
    ·split
     ·exact .inr ⟨_, rfl⟩
     ·exact .inl rfl
  ·exact ZaE HLAT.out hk (ZU hs)
 ·have hne : (P != 0) = true := by simp [h0]
  have H0 := Lib.hid h0
  clear h0
  go_wp2_with fail
  go_ret
  refine ⟨rfl, fence ρ2 w6, Zaf HLAT.out (Zg ρ2 w6) HFALL.out.size, fun k hk => ?_, ⟨sp, v, ns, fb, a, HH6.out.later (Zg ρ2 w6), by rw [HRES.out, if_neg H0.out]⟩, HFALL.out⟩
  rcases Nat.lt_or_ge k w6.heap.size with h6 | h6
  ·have e : fence ρ2 w6 k = ρ2 k := Zg ρ2 w6 k h6
   rcases HROLES.out k hk h6 with h3 | ⟨s, h3⟩
   ·exact .inl (e.trans h3)
   ·exact .inr ⟨s, e.trans h3⟩
  ·exact .inl (by simp [fence, Nat.not_lt.2 h6])
theorem Zhx {rows : List TRow} (hpre : pre ≠ []) (E : Ent) (w : World) (hR : ShareAt pre ρ w f q gv rows) (hten : I64 E.ten) (hinv : I64 E.inv) (hid : I64 E.id) (hf : totT rows < 1000000) (hlen : rows.length < 1000000) :
 Calls Tryz.prog 31 #[.pointer (some ⟨f, 0, none⟩), entV E] w (ZbE pre ρ w f q gv (pushT E rows)) := by
 obtain ⟨sp, v, ns, fb, a, h, rfl⟩ := hR
 unfold entV entC
 rcases h.cases E.ten with ⟨h1, h2⟩ | ⟨k, n, hn, hi, h2⟩
 ·rw [Zkq h2]
  by_cases hb : Zz E.ten E.tw
  ·rw [if_pos hb]
   exact ZcR E w h hb
  ·rw [if_neg hb]
   exact Zhw hpre E w h h1 hb hten hinv hid (by rw [List.length_map] at hlen; exact hlen)
 ·have hr : (ns.map (Zj a))[k]? = some (Zj a n) := by rw [List.getElem?_map, hn]; rfl
  rw [Zkr h2 hr]
  by_cases hb : Zz E.ten E.tw
  ·rw [if_pos (.inl hb)]
   exact ZcR E w h hb
  ·by_cases hw : n.wt = E.tw
   ·rw [if_neg (by rintro (h | h); exact hb h; exact h hw)]
    exact Zhv hpre E k n w h hn hi hb hw hinv hid (Nat.lt_of_le_of_lt (Zci (List.mem_of_getElem? hr)) hf)
   ·rw [if_pos (.inr hw)]
    exact Zh6 E k n w h hn hi hb hw
end
end Go.Proofs.YtdbjihkgafhakaaGreatDoor
/-
 share.Share: Rows: the walk.
-/
namespace Go.Proofs.YtdbjihkgafhakaaGreatDoor
open Go.RowKit
abbrev TV := TRow × Value × List (FRow × Value)
def encTV (p : TV) : List Value := [.int .i64 p.1.id, .int .i64 p.1.wt, .int .i64 p.1.df, p.2.1, .bool p.1.gv]
def ZbR (l : List TV) : List Value := l.flatMap encTV
theorem Zfk (l : List TV) (p : TV) : ZbR (l ++ [p]) = ZbR l ++ encTV p := by simp [ZbR]
theorem ZgV : (Tryz.prog.info? 140).map (fun i => (i.zero, i.size, i.bytes)) = some (some (.agg #[.int .i64 0, .int .i64 0, .int .i64 0, .slice none 0 0, .bool false]), 5, 56) := by kernel_rfl
structure TRowsIn (w : World) (base : Nat) (v : Value) (l : List TV) : Prop where
 own : w.ownsRow base 140 5 v l.length (ZbR l)
 inv : ∀ p ∈ l, RowsIn 143 w base p.2.1 p.2.2 ∧ p.2.2.map Prod.fst = p.1.rows
def ZlA (rows : List TRow) (w : World) (e : Ending) (w' : World) : Prop := ∃ v l, e = .returned v ∧ TRowsIn w' w.heap.size v l ∧ l.map Prod.fst = rows ∧ Below w.heap.size w w'
theorem TRowsIn.below {w w' : World} {base : Nat} {v : Value} {l : List TV} (h : TRowsIn w base v l) (hb : Below w.heap.size w w') : TRowsIn w' base v l := ⟨Zk h.own hb, fun p hp => ⟨(h.inv p hp).1.below hb, (h.inv p hp).2⟩⟩
theorem Zr {w1 w2 w3 : World} (h1 : Below w1.heap.size w1 w2) (h2 : Below w2.heap.size w2 w3) : Below w1.heap.size w1 w3 := h1.trans (h2.mono h1.size)
theorem RowsIn.base {T : TypeId} {w : World} {base b : Nat} {v : Value} {l : List (FRow × Value)} (h : RowsIn T w base v l) (hb : b ≤ base) : RowsIn T w b v l := ⟨Zap h.own hb, fun p hp => Zap (h.its p hp) hb⟩
def TRel (rows : List TRow) (w : World) (g : Nat) (i ov : Value) (wr : World) : Prop :=
 ∃ (k : Nat) (l : List TV), g = rows.length - k ∧ i = .int .i64 k ∧ k ≤ rows.length ∧ l.map Prod.fst = rows.take k ∧ TRowsIn wr w.heap.size ov l ∧ Below w.heap.size w wr
section
variable {pre : List Int} {ρ : Roles} {f sp : Nat} {q : Int} {gv : Bool} {v : Value} {ns : List Nd} {fb : Int → Nat} {a : Int → Bool × List FRow} {rows : List TRow}
set_option maxRecDepth 100000 in
set_option maxHeartbeats 4000000 in
theorem Zcz (w : World) (hR : ShareAt pre ρ w f q gv rows) : Calls Tryz.prog 65 #[.pointer (some ⟨f, 0, none⟩)] w (ZlA rows w) := by
 obtain ⟨sp, v, ns, fb, a, h, rfl⟩ := hR
 have hr := h.pre'
 have HR := Lib.hid hr
 have c0 := hr.c0
 obtain ⟨av, cap, hv, -⟩ := hr.spin.form
 have c1 : w.cell? ⟨sp, 1, none⟩ = some (.slice av ns.length cap) := by rw [← hv]; exact hr.spin.c1
 have HV := Lib.hid hv
 have HF := Lib.hid hr.spin.few
 clear h hr hv
 go_enter Tryz.func65, Tryz.ntmps65
 go_wp2_with fail
 refine (ZaF f sp _ HR.out.c0).mono ?_
 rintro e w1 ⟨rfl, rfl⟩
 go_wp2_with fail
 go_loopg [19, 3] ns.length (fun g i ov wr => TRel (ns.map (Zj a)) w g i ov wr)
 case atStart => exact ⟨0, [], by simp, rfl, Nat.zero_le _, rfl, ⟨Za4 _ _ _ _, fun p hp => by cases hp⟩, Below.refl _ _⟩
 case round =>
  obtain ⟨k, l, hg, rfl, hk, hm, hown, hb⟩ := hrel
  rw [List.length_map] at hk hg
  have HG := Lib.hid hg
  have HM := Lib.hid hm
  have HO := Lib.hid hown
  have HB := Lib.hid hb
  clear hg hm hown hb c0 c1
  by_cases hlt : k < ns.length
  ·obtain ⟨n, hn⟩ : ∃ n, ns[k]? = some n := ⟨_, List.getElem?_eq_getElem hlt⟩
   obtain ⟨g, off, cap', hv, hc⟩ := HR.out.spin.at hn
   obtain ⟨rfl, rfl⟩ : av = some ⟨g, off, none⟩ ∧ cap = cap' := by rw [HV.out] at hv; cases hv; exact ⟨rfl, rfl⟩
   have d0 := Zc HB.out hc
   have hnc := HB.out.block _ (Zb (HR.out.spin.node k n hn).2) |>.trans (HR.out.spin.node k n hn).2
   have HNC := Lib.hid hnc
   have n0 : wr.cell? ⟨n.blk, 0, none⟩ = some (.int .i64 n.id) := Za hnc rfl
   have HN := Lib.hid hn
   have hfew := HF.out
   clear hn hv hc hnc
   go_wp2_with fail
   refine (ZbQ n.id k n _ (HR.out.below HB.out) HN.out rfl).mono ?_
   rintro e w1 ⟨rfl, hb1⟩
   have HB1 := Lib.hid (HB.out.trans (hb1.mono HB.out.size))
   have HO1 := Lib.hid (HO.out.below hb1)
   have HNC1 := Lib.hid ((hb1.block _ (Zb HNC.out)).trans HNC.out)
   clear hb1 n0 d0
   go_upto_region 8 with fail
   have HQ1 := Lib.hid ((HR.out.ring n (List.mem_of_getElem? HN.out)).below HB1.out)
   have n0 : w1.cell? ⟨n.blk, 0, none⟩ = some (.int .i64 n.id) := Za HNC1.out rfl
   have n1 : w1.cell? ⟨n.blk, 1, none⟩ = some (.int .i64 n.wt) := Za HNC1.out rfl
   have n2 : w1.cell? ⟨n.blk, 2, none⟩ = some (.int .i64 n.df) := Za HNC1.out rfl
   obtain ⟨i0, hi0, hz0, hz1, hz2⟩ := info_parts ZgV
   have hll : l.length = k := by
    have h := congrArg List.length HM.out
    rw [List.length_map, List.length_take, List.length_map] at h
    omega
   have hbd : Below w1.heap.size w1 w1.drew := ⟨rfl, rfl, rfl, Nat.le_refl _, fun _ _ => rfl⟩
   have hwz := HB1.out.size
   have hfar : n.blk < w.heap.size := Zb (HR.out.spin.node k n HN.out).2
   go_region_held3 (fun w' => w'.cell? ⟨n.blk, 0, none⟩ = some (.int .i64 n.id) ∧ w'.cell? ⟨n.blk, 1, none⟩ = some (.int .i64 n.wt) ∧ w'.cell? ⟨n.blk, 2, none⟩ = some (.int .i64 n.df))
    (first
      | go_keep
      | exact ⟨Zc hb5 n0, Zc hb5 n1, Zc hb5 n2⟩
      | exact ⟨Zc hb6 n0, Zc hb6 n1, Zc hb6 n2⟩
      | exact ⟨(hb9.cell (p := ⟨n.blk, 0, none⟩) hfar).trans n0, (hb9.cell (p := ⟨n.blk, 1, none⟩) hfar).trans n1, (hb9.cell (p := ⟨n.blk, 2, none⟩) hfar).trans n2⟩)
    (first
      | (go_at_call 90; refine (ZcP _ (HQ1.out.below hbd)).mono ?_; rintro e w5 ⟨vi, li, rfl, hown5, hmi5, hb5'⟩; (have hb5 := Zr hbd hb5'); obtain ⟨ai, ci, hvi, -⟩ := ZC hown5.own; (have HLI := Lib.hid (show li.length = (a n.id).2.length by have h := congrArg List.length hmi5; rwa [List.length_map] at h)); rw [HLI.out] at hvi; subst hvi; (have hs5 : w1.heap.size ≤ w5.heap.size := hb5.size); (have HOWN5 := Lib.hid hown5); (have HMI5 := Lib.hid hmi5); clear hb5' hown5 hmi5)
      | (go_at_call 91; refine (Zhr _ (HQ1.out.below hb5)).mono ?_; rintro e w6 ⟨rfl, hb6'⟩; (have HB56 := Lib.hid hb6'); (have hb6 := Zr hb5 hb6'); (have hs6 : w1.heap.size ≤ w6.heap.size := hb6.size); (have hs56 : w5.heap.size ≤ w6.heap.size := hb6'.size); clear hb6')
      | (refine step_append_lies _ (by rfl) _ _ _ (by rfl) w.heap.size 140 i0 _ 5 56 Tryz.underlying101 hi0 hz0 hz1 hz2 rfl (by omega) u3 l.length (ZbR l) (by rfl) ((Zk HO1.out.own hb6).alloc _)
          ⟨w6.heap.size, 0, none⟩ 1 1 (encTV (Zj a n, .slice ai (a n.id).2.length ci, li)) (by rfl) (by rfl) (World.news_of_block (cs := #[.int .i64 n.id, .int .i64 n.wt, .int .i64 n.df, .slice ai (a n.id).2.length ci, .bool (a n.id).1]) (t := 140) (fr := (0, 0)) (heap_alloc_new w6 _)) (by simp [Value.oneCell', encTV]) (by omega) (by unfold maxLen; omega) (by omega) (by simp; omega) (w6.heap.size + 1) (by simp) ?_; intro gg gcap w9 hown9 hgrow hat hlt9; (have hb9 : Below w.heap.size w1 w9 := ((hb6.mono hwz).alloc (by omega) _).grown hgrow (by simp; omega) (fun j hj => Zl HO1.out.own j hj))))
   have hr9 := (show TRowsIn w9 w.heap.size (.slice (some ⟨gg, 0, none⟩) (l.length + 1) gcap) (l ++ [(Zj a n, .slice ai (a n.id).2.length ci, li)]) from ⟨by rw [List.length_append, Zfk]; exact hown9, fun p hp => by
    have hkp : ∀ {e : TypeId} {s : Nat} {vv : Value} {m : Nat} {xs : List Value}, e ≠ 140 → w6.ownsRow w.heap.size e s vv m xs → w9.ownsRow w.heap.size e s vv m xs := fun hne h => World.ownsRow.kept (h.alloc _) hgrow (ZG h (Zk HO1.out.own hb6) hne)
    have hkr : ∀ {vv : Value} {l2 : List (FRow × Value)}, RowsIn 143 w6 w.heap.size vv l2 → RowsIn 143 w9 w.heap.size vv l2 := fun h => ⟨hkp (by decide) h.own, fun p hp => hkp (by decide) (h.its p hp)⟩
    rcases List.mem_append.1 hp with hp | hp
    ·exact ⟨hkr ((HO1.out.inv p hp).1.below hb6), (HO1.out.inv p hp).2⟩
    ·rw [List.mem_singleton] at hp
     subst hp
     exact ⟨hkr ((HOWN5.out.below HB56.out).base hwz), HMI5.out⟩⟩)
   rw [hll] at hr9
   have HR9 := Lib.hid hr9
   have HB9 := Lib.hid (HB1.out.trans hb9)
   clear hr9
   clear hown9 hgrow hat hlt9 hb5 hb6 hb9 hbd n0 n1 n2 hi0 hz0 hz1 hz2 hs5 hs6 hs56 hwz hfar hfew
   go_wp2_with fail
   go_roundg (ns.length - (k + 1))
   case rel =>
    have hf := HF.out
    refine ⟨k + 1, _, by rw [List.length_map], by rw [show wrap64 ((k : Int) + 1) = ((k + 1 : Nat) : Int) by unfold wrap64; omega], by rw [List.length_map]; omega, ?_, HR9.out, HB9.out⟩
    rw [List.map_append, HM.out, List.take_succ_eq_append_getElem (by rw [List.length_map]; exact hlt)]
    congr 1
    have h := HN.out
    rw [List.getElem?_eq_getElem hlt] at h
    simp at h
    simp [h]
   case measure => have := HG.out; omega
  ·have hk2 : ns.length = k := by omega
   have HK := Lib.hid hk2
   clear hk2
   go_wp2_with fail
   go_ret
   refine ⟨_, l, rfl, HO.out, ?_, HB.out⟩
   rw [HM.out, List.take_of_length_le (by rw [List.length_map]; have := HK.out; omega)]
end
end Go.Proofs.YtdbjihkgafhakaaGreatDoor
