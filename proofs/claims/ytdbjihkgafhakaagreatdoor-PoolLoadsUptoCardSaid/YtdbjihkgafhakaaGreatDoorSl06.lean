/-
 flow.Ring: rows in plain words; how a ring of flows lies in memory; its source: the walk.
-/
import Derived.Test.YtdbjihkgafhakaaGreatDoorSl05
import Derived.Deep.AppendLies
namespace Go.Proofs.YtdbjihkgafhakaaGreatDoor
open Go.RowKit
structure FRow where
 id : Int
 wt : Int
 df : Int
 its : List It
def headC (l : List It) : Int := (l.headD ⟨0, 0⟩).cost
def ZF (q : Int) (gv : Bool) (r : FRow) : FRow := if gv then r else { r with df := r.df + q * r.wt }
inductive PicksR (q : Int) : Bool → List FRow → List FRow → Prop
 | grant {gv : Bool} {x : FRow} {r : List FRow} (h : headC x.its ≤ (ZF q gv x).df) : PicksR q gv (x :: r) (ZF q gv x :: r)
 | rotate {gv : Bool} {x : FRow} {r l2 : List FRow} (h : ¬ headC x.its ≤ (ZF q gv x).df) (hr : PicksR q false (r ++ [ZF q gv x]) l2) : PicksR q gv (x :: r) l2
theorem PicksR.once {q : Int} {gv : Bool} {l l2 l3 : List FRow} (h : PicksR q gv l l2) (h' : PicksR q gv l l3) : l2 = l3 := by
 induction h with
 | grant h =>
   cases h' with
   | grant => rfl
   | rotate h1 => exact absurd h1 (fun h1 => h1 h)
 | rotate h _ ih =>
   cases h' with
   | grant h1 => exact absurd h1 h
   | rotate _ h2 => exact ih h2
def rowOf (its : Int → List It) (n : Nd) : FRow := ⟨n.id, n.wt, n.df, its n.id⟩
theorem Zb9 (its : Int → List It) (q : Int) (gv : Bool) (n : Nd) : rowOf its (ZD q gv n) = ZF q gv (rowOf its n) := by
 cases gv <;> rfl
def Zej (its : Int → List It) (_ : Unit) (id : Int) : Unit × It := ((), (its id).headD ⟨0, 0⟩)
theorem Zki {its : Int → List It} {q : Int} {gv : Bool} {ns ns2 : List Nd} {a a2 : Unit} {y : It} (h : Picks q (Zej its) gv ns a ns2 a2 y) :
 PicksR q gv (ns.map (rowOf its)) (ns2.map (rowOf its)) ∧ (∀ n r, ns2 = n :: r → y = (its n.id).headD ⟨0, 0⟩) ∧ ∀ P : Int → Value → Prop, (∀ n ∈ ns, P n.id n.src) → ∀ n ∈ ns2, P n.id n.src := by
 induction h with
 | @grant gv n r a h =>
   refine ⟨?_, fun n' r' e => ?_, fun P hP m hm => ?_⟩
   ·rw [List.map_cons, List.map_cons, Zb9]
    refine .grant ?_
    rw [← Zb9]
    exact h
   ·cases e
    rw [(Z4 q gv n).1]
    rfl
   ·rcases List.mem_cons.1 hm with rfl | hm
    ·rw [(Z4 q gv n).1, (Z4 q gv n).2.2.1]
     exact hP n List.mem_cons_self
    ·exact hP m (List.mem_cons_of_mem _ hm)
 | @rotate gv n r a ns2 a2 y h hr ih =>
   obtain ⟨h1, h2, h3⟩ := ih
   refine ⟨?_, h2, fun P hP => h3 P (fun m hm => ?_)⟩
   ·rw [List.map_cons]
    refine .rotate ?_ ?_
    ·rw [← Zb9]
     exact h
    ·rw [← Zb9]
     simpa using h1
   ·rcases List.mem_append.1 hm with hm | hm
    ·exact hP m (List.mem_cons_of_mem _ hm)
    ·rw [List.mem_singleton] at hm
     subst hm
     rw [(Z4 q gv n).1, (Z4 q gv n).2.2.1]
     exact hP n List.mem_cons_self
/-! ### In memory -/
def srcV (b : Nat) : Value := .iface 171 (.agg #[.pointer (some ⟨b, 0, none⟩)])
structure RAt (pre : List Int) (ρ : Roles) (w : World) (f sp : Nat) (q : Int) (gv : Bool) (v : Value) (ns : List Nd) (qb : Int → Nat) (its : Int → List It) : Prop where
 head : w.heap[f]? = some (.cells #[.pointer (some ⟨sp, 0, none⟩)] 164 (0, 0))
 rf : ρ f = pre ++ [6]
 spin : SpinAt pre ρ w sp q gv v ns
 src : ∀ n ∈ ns, n.src = srcV (qb n.id)
 que : ∀ n ∈ ns, QueAt (pre ++ [5, n.id]) ρ w (qb n.id) (its n.id)
 full : ∀ n ∈ ns, its n.id ≠ []
 q1 : 1 ≤ q
 q2 : q ≤ 64
 good : NdsOk gv ns
 idok : ∀ n ∈ ns, 0 ≤ n.id ∧ I64 n.id
def RingAt (pre : List Int) (ρ : Roles) (w : World) (f : Nat) (q : Int) (gv : Bool) (rows : List FRow) : Prop := ∃ sp v ns qb its, RAt pre ρ w f sp q gv v ns qb its ∧ rows = ns.map (rowOf its)
section
variable {pre : List Int} {ρ ρ' : Roles} {w w' : World} {f sp : Nat} {q : Int} {gv : Bool} {v : Value} {ns : List Nd} {qb : Int → Nat} {its : Int → List It} {rows : List FRow}
theorem ZaO {s : List Int} {k : Nat} (h : Part ρ (pre ++ s) k) : Part ρ pre k := by
 obtain ⟨t, h⟩ := h
 exact ⟨s ++ t, by rw [h, List.append_assoc]⟩
theorem Z7 {id : Int} {k : Nat} (h : Part ρ (pre ++ [5, id]) k) : Zbr ρ pre k := by
 obtain ⟨t, h⟩ := h
 exact ⟨id :: t, by rw [h]; simp⟩
theorem RAt.later (h : RAt pre ρ w f sp q gv v ns qb its) (hl : Later ρ ρ' w) : RAt pre ρ' w f sp q gv v ns qb its :=
 ⟨h.head, (hl f (Zb h.head)).trans h.rf, h.spin.later hl, h.src, fun n hn => (h.que n hn).later hl, h.full, h.q1, h.q2, h.good, h.idok⟩
theorem RAt.frame (h : RAt pre ρ w f sp q gv v ns qb its) {S : Nat → Prop} (hf : Fp S w w') (hS : ∀ k, k < w.heap.size → Part ρ pre k → ¬ S k) : RAt pre ρ w' f sp q gv v ns qb its :=
 ⟨hf.heap h.head (hS f (Zb h.head) ⟨_, h.rf⟩), h.rf, h.spin.frame hf (fun k hk hp => hS k hk (ZU hp)), h.src, fun n hn => (h.que n hn).frame hf (fun k hk hp => hS k hk (ZaO hp)), h.full, h.q1, h.q2, h.good, h.idok⟩
theorem RAt.below (h : RAt pre ρ w f sp q gv v ns qb its) (hb : Below w.heap.size w w') : RAt pre ρ w' f sp q gv v ns qb its := h.frame (S := fun _ => False) (Fp.of_below hb) (fun _ _ _ h => h)
theorem RingAt.later (h : RingAt pre ρ w f q gv rows) (hl : Later ρ ρ' w) : RingAt pre ρ' w f q gv rows := by
 obtain ⟨sp, v, ns, qb, its, h, e⟩ := h
 exact ⟨sp, v, ns, qb, its, h.later hl, e⟩
theorem RingAt.frame (h : RingAt pre ρ w f q gv rows) {S : Nat → Prop} (hf : Fp S w w') (hS : ∀ k, k < w.heap.size → Part ρ pre k → ¬ S k) : RingAt pre ρ w' f q gv rows := by
 obtain ⟨sp, v, ns, qb, its, h, e⟩ := h
 exact ⟨sp, v, ns, qb, its, h.frame hf hS, e⟩
theorem RingAt.below (h : RingAt pre ρ w f q gv rows) (hb : Below w.heap.size w w') : RingAt pre ρ w' f q gv rows := h.frame (S := fun _ => False) (Fp.of_below hb) (fun _ _ _ h => h)
theorem RingAt.lt (h : RingAt pre ρ w f q gv rows) : f < w.heap.size := by
 obtain ⟨sp, v, ns, qb, its, h, _⟩ := h
 exact Zb h.head
theorem QueAt.rerole {b : Nat} {l : List It} (h : QueAt pre ρ w b l) (he : ∀ k, ρ k ≠ [] → ρ' k = ρ k) : QueAt pre ρ' w b l := by
 obtain ⟨m, lk, D, h⟩ := h
 exact ⟨m, lk, D, h.head, (he b (by rw [h.rq]; simp)).trans h.rq, (he m (by rw [h.rm]; simp)).trans h.rm, h.map, h.size, h.has, h.at_, fun i x hx => ⟨(he _ (by rw [(h.link i x hx).1]; simp)).trans (h.link i x hx).1, (h.link i x hx).2⟩, h.good⟩
theorem SpinAt.rerole (h : SpinAt pre ρ w sp q gv v ns) (he : ∀ k, ρ k ≠ [] → ρ' k = ρ k) : SpinAt pre ρ' w sp q gv v ns :=
 ⟨h.head, (he sp (by rw [h.rs]; simp)).trans h.rs, h.arr, fun k hk => (he k (by rw [h.ra k hk]; simp)).trans (h.ra k hk), fun i n hn => ⟨(he _ (by rw [(h.node i n hn).1]; simp)).trans (h.node i n hn).1, (h.node i n hn).2⟩, h.once, h.few⟩
theorem RingAt.rerole (h : RingAt pre ρ w f q gv rows) (he : ∀ k, ρ k ≠ [] → ρ' k = ρ k) : RingAt pre ρ' w f q gv rows := by
 obtain ⟨sp, v, ns, qb, its, h, e⟩ := h
 exact ⟨sp, v, ns, qb, its, ⟨h.head, (he f (by rw [h.rf]; simp)).trans h.rf, h.spin.rerole he, h.src, fun n hn => (h.que n hn).rerole he, h.full, h.q1, h.q2, h.good, h.idok⟩, e⟩
end
section
variable {pre : List Int} {ρ : Roles} {qq : Nat} {l : List It}
set_option maxRecDepth 100000 in
set_option maxHeartbeats 1000000 in
theorem Zi7 (x : It) (r : List It) (w : World) (hQ : QueAt pre ρ w qq (x :: r)) : Calls Tryz.prog 170 #[.agg #[.pointer (some ⟨qq, 0, none⟩)]] w fun e w' => e = .returned (.tuple #[itV x, .bool true]) ∧ Below w.heap.size w w' := by
 have HQ := Lib.hid hQ
 clear hQ
 unfold itV
 go_enter Tryz.func170, Tryz.ntmps170
 go_wp2_with fail
 have hB : Below w.heap.size w ((w.alloc (.cells #[.pointer (some ⟨qq, 0, none⟩)] 171)).alloc (.cells #[.int .i64 0, .int .i64 0] 132)) := box_below.alloc (by simp) _
 refine (Zd3 x r _ (HQ.out.below hB)).mono ?_
 rintro e w1 ⟨rfl, hb1⟩
 have HB1 := Lib.hid (hB.trans (hb1.mono (by simp; omega)))
 have h0 : ((w.alloc (.cells #[.pointer (some ⟨qq, 0, none⟩)] 171)).alloc (.cells #[.int .i64 0, .int .i64 0] 132)).heap[w.heap.size + 1]? = some (.cells #[.int .i64 0, .int .i64 0] 132 (0, 0)) := by
  rw [show w.heap.size + 1 = (w.alloc (.cells #[.pointer (some ⟨qq, 0, none⟩)] 171)).heap.size by simp]
  exact Zf
 have HR1 := Lib.hid ((hb1.block (w.heap.size + 1) (by simp)).trans h0)
 clear hB hb1 h0
 go_wp2_with (refine wpList_store_row rfl 132 _ _ rfl (w.heap.size + 1) #[.int .i64 x.id, .int .i64 x.cost] rfl rfl 132 _ HR1.out (Zaw x) rfl (Zce x) ?_)
 refine bodyPost_ret (v := .tuple #[.agg #[.int .i64 x.id, .int .i64 x.cost], .bool true]) (ZL Tryz.results170 rfl rfl (setRow_heap w1 (w.heap.size + 1) _ _ _ _ HR1.out) Tryz.underlying132 rfl (Zaw x)) rfl ⟨rfl, ?_⟩
 exact (Fp.setRow (S := fun k => k = w.heap.size + 1) (Fp.of_below HB1.out) (fun h => rfl)).below (Nat.le_refl _) (fun k hk e => by omega)
end
section
variable {pre : List Int} {f sp : Nat} {q : Int} {gv : Bool} {v : Value} {ns : List Nd} {qb : Int → Nat} {its : Int → List It}
theorem ZmQ (hf : ∀ n ∈ ns, its n.id ≠ []) : SrcLaw (α := Unit) pre 171 170 (fun id src => (∃ n ∈ ns, n.id = id) ∧ src = srcV (qb id)) (fun _ ρ w => ∀ n ∈ ns, QueAt (pre ++ [5, n.id]) ρ w (qb n.id) (its n.id)) (Zej its) where
 later := fun h hl n hn => (h n hn).later hl
 frame := fun h hF hS n hn => (h n hn).frame hF (fun k hk hp => hS k hk (Z7 hp))
 cost := fun {a ρ w id src} h ho => by
  obtain ⟨⟨n, hn, rfl⟩, _⟩ := ho
  have hg := (h n hn).good
  have h1 := hf n hn
  unfold Zej
  cases hl : its n.id with
  | nil => exact absurd hl h1
  | cons x r =>
    have := hg.ok x (by rw [hl]; exact List.mem_cons_self)
    exact ⟨this.2.2.1, this.2.2.2⟩
 call := fun {a ρ w id src} h ho => by
  obtain ⟨⟨n, hn, rfl⟩, rfl⟩ := ho
  refine ⟨.agg #[.pointer (some ⟨qb n.id, 0, none⟩)], .agg #[.pointer (some ⟨qb n.id, 0, none⟩)], rfl, fun w => by kernel_rfl, fun w => by kernel_rfl, ?_⟩
  have h1 := hf n hn
  have hq := h n hn
  unfold Zej
  cases hl : its n.id with
  | nil => exact absurd hl h1
  | cons x r =>
    rw [hl] at hq
    refine (Zi7 x r w hq).mono ?_
    rintro e w' ⟨rfl, hb⟩
    exact ⟨rfl, ρ, Later.refl _ _, fun _ _ => .inl rfl, fun m hm => (h m hm).below hb, Fp.of_below hb⟩
end
end Go.Proofs.YtdbjihkgafhakaaGreatDoor
/-
 flow.Ring: New, ok, queue, Len, Deficit, Given: the walks.
-/
namespace Go.Proofs.YtdbjihkgafhakaaGreatDoor
open Go.RowKit
set_option maxRecDepth 100000 in
set_option maxHeartbeats 1000000 in
theorem Zi8 (q : Int) (w : World) (h : ¬ (1 ≤ q ∧ q ≤ 64)) : Calls Tryz.prog 60 #[.int .i64 q] w fun e w' => e = .returned (.pointer none) ∧ Below w.heap.size w w' := by
 by_cases h1 : q < 1
 ·clear h
  have hd : decide (q < 1) = true := decide_eq_true h1
  go_enter Tryz.func60, Tryz.ntmps60
  go_wp2
  go_ret
  exact ⟨rfl, Below.refl _ _⟩
 ·have h2 : 64 < q := by omega
  clear h
  go_enter Tryz.func60, Tryz.ntmps60
  go_wp2
  go_ret
  exact ⟨rfl, Below.refl _ _⟩
set_option maxRecDepth 100000 in
set_option maxHeartbeats 1000000 in
theorem Zfc (q : Int) (w : World) (h1 : 1 ≤ q) (h2 : q ≤ 64) : Calls Tryz.prog 60 #[.int .i64 q] w fun e w' => e = .returned (.pointer (some ⟨w.heap.size + 1, 0, none⟩)) ∧ w' = (w.alloc (.cells #[.int .i64 q, .slice none 0 0, .bool false] 115)).alloc (.cells #[.pointer (some ⟨w.heap.size, 0, none⟩)] 164) := by
 have g1 : ¬ q < 1 := by omega
 have g2 : ¬ 64 < q := by omega
 clear h1 h2
 go_enter Tryz.func60, Tryz.ntmps60
 go_wp2
 go_ret
 exact ⟨rfl, rfl⟩
section
variable {pre : List Int} {ρ : Roles} {f sp : Nat} {q : Int} {gv : Bool} {v : Value} {ns : List Nd} {qb : Int → Nat} {its : Int → List It} {rows : List FRow}
theorem ZfX (w : World) (h1 : 1 ≤ q) (h2 : q ≤ 64) (hs : ρ w.heap.size = pre ++ [1]) (hf : ρ (w.heap.size + 1) = pre ++ [6]) :
 RingAt pre ρ ((w.alloc (.cells #[.int .i64 q, .slice none 0 0, .bool false] 115)).alloc (.cells #[.pointer (some ⟨w.heap.size, 0, none⟩)] 164)) (w.heap.size + 1) q false [] := by
 refine ⟨w.heap.size, .slice none 0 0, [], fun _ => 0, fun _ => [], ⟨?_, hf, ⟨Zi Zf, hs, .inl ⟨rfl, rfl⟩, (fun k hk => by cases hk), (fun i n hn => by simp at hn), by simp, by simp⟩, (fun n hn => by cases hn), (fun n hn => by cases hn), (fun n hn => by cases hn), h1, h2, trivial, (fun n hn => by cases hn)⟩, rfl⟩
 rw [show w.heap.size + 1 = (w.alloc (.cells #[.int .i64 q, .slice none 0 0, .bool false] 115)).heap.size by simp]
 exact Zf
set_option maxRecDepth 100000 in
set_option maxHeartbeats 1000000 in
theorem Zan (w : World) (hc : w.cell? ⟨f, 0, none⟩ = some (.pointer (some ⟨sp, 0, none⟩))) : Calls Tryz.prog 83 #[.pointer (some ⟨f, 0, none⟩)] w fun e w' => e = .returned (.bool true) ∧ w = w' := by
 go_enter Tryz.func83, Tryz.ntmps83
 go_wp2
 go_ret
 exact ⟨rfl, rfl⟩
theorem RAt.c0 {w : World} (h : RAt pre ρ w f sp q gv v ns qb its) : w.cell? ⟨f, 0, none⟩ = some (.pointer (some ⟨sp, 0, none⟩)) := Za h.head rfl
theorem SpinAt.place {w : World} (h : SpinAt pre ρ w sp q gv v ns) {k : Nat} {n : Nd} {id : Int} (hn : ns[k]? = some n) (hi : n.id = id) : Zbh id ns = k := by
 refine ZhP hn hi (fun j y hj hy e => ?_)
 have h2 : (ns.map Nd.id)[k]? = some id := by simp [hn, hi]
 have h3 : (ns.map Nd.id)[j]? = some id := by simp [hy, e]
 have := (List.getElem?_inj (List.getElem?_eq_some_iff.1 h3).1 h.once).1 (h3.trans h2.symm)
 omega
theorem ZnN (v : Value) (w : World) : (Instr.typeAssert (.iface 171 v) 126 171 false).run Tryz.prog w = .ok v w := by kernel_rfl
theorem ZnO (b : Nat) (w : World) : (Instr.field 171 (.agg #[.pointer (some ⟨b, 0, none⟩)]) 0).run Tryz.prog w = .ok (.pointer (some ⟨b, 0, none⟩)) w := by kernel_rfl
set_option maxRecDepth 100000 in
set_option maxHeartbeats 1000000 in
theorem Zcg (id : Int) (w : World) (hR : RAt pre ρ w f sp q gv v ns qb its) (h : ∀ n ∈ ns, n.id ≠ id) : Calls Tryz.prog 84 #[.pointer (some ⟨f, 0, none⟩), .int .i64 id] w fun e w' => e = .returned (.tuple #[.pointer none, .pointer none]) ∧ Below w.heap.size w w' := by
 have HR := Lib.hid hR
 have HH := Lib.hid h
 have c0 := hR.c0
 clear hR h
 go_enter Tryz.func84, Tryz.ntmps84
 go_wp2_with fail
 refine (Zan _ HR.out.c0).mono ?_
 rintro e w1 ⟨rfl, rfl⟩
 go_wp2_with fail
 refine (Zbp id _ HR.out.spin HH.out).mono ?_
 rintro e w1 ⟨rfl, hb⟩
 have HB := Lib.hid hb
 clear hb
 go_wp2_with fail
 exact bodyPost_ret (v := .tuple #[.pointer none, .pointer none]) (by simp [results, Tryz.results84, go_sem]) rfl ⟨rfl, HB.out⟩
set_option maxRecDepth 100000 in
set_option maxHeartbeats 1000000 in
theorem ZaY (id : Int) (k : Nat) (n : Nd) (w : World) (hR : RAt pre ρ w f sp q gv v ns qb its) (hn : ns[k]? = some n) (hi : n.id = id) : Calls Tryz.prog 84 #[.pointer (some ⟨f, 0, none⟩), .int .i64 id] w fun e w' => e = .returned (.tuple #[.pointer (some ⟨n.blk, 0, none⟩), .pointer (some ⟨qb n.id, 0, none⟩)]) ∧ Below w.heap.size w w' := by
 have HR := Lib.hid hR
 have HN := Lib.hid hn
 have HP := Lib.hid (hR.spin.place hn hi)
 have c0 := hR.c0
 clear hR hn hi
 go_enter Tryz.func84, Tryz.ntmps84
 go_wp2_with fail
 refine (Zan _ HR.out.c0).mono ?_
 rintro e w1 ⟨rfl, rfl⟩
 go_wp2_with fail
 refine (Zbq id k n _ HR.out.spin HN.out HP.out).mono ?_
 rintro e w1 ⟨rfl, hb⟩
 have HB := Lib.hid hb
 have c3 : w1.cell? ⟨n.blk, 3, none⟩ = some (.iface 171 (.agg #[.pointer (some ⟨qb n.id, 0, none⟩)])) := Zc hb (by rw [show Value.iface 171 (.agg #[.pointer (some ⟨qb n.id, 0, none⟩)]) = n.src from (HR.out.src n (List.mem_of_getElem? HN.out)).symm]; exact Za (HR.out.spin.node k n HN.out).2 rfl)
 clear hb c0
 have hta := ZnN
 have hfd := ZnO
 go_upto_region 6 with fail
 go_region
 go_wp2_with fail
 exact bodyPost_ret (v := .tuple #[.pointer (some ⟨n.blk, 0, none⟩), .pointer (some ⟨qb n.id, 0, none⟩)]) (by simp [results, Tryz.results84, go_sem]) rfl ⟨rfl, ZO HB.out 1⟩
end
end Go.Proofs.YtdbjihkgafhakaaGreatDoor
/-
 flow.Ring: Len, Deficit, Given, Pick: the walks.
-/
namespace Go.Proofs.YtdbjihkgafhakaaGreatDoor
open Go.RowKit
def atF (id : Int) (rows : List FRow) : Option FRow := rows.find? (fun r => r.id == id)
theorem ZmR {id : Int} {rows : List FRow} (h : ∀ r ∈ rows, r.id ≠ id) : atF id rows = none := by
 unfold atF
 rw [List.find?_eq_none]
 intro r hr
 simpa using h r hr
theorem ZhU {id : Int} : ∀ {rows : List FRow} {k : Nat} {r : FRow}, rows[k]? = some r → r.id = id → (rows.map FRow.id).Nodup → atF id rows = some r
 | [], k, r, h, _, _ => by simp at h
 | x :: l, 0, r, h, hi, _ => by
   simp at h
   subst h
   simp [atF, hi]
 | x :: l, k + 1, r, h, hi, hn => by
   rw [List.map_cons, List.nodup_cons] at hn
   have h' : l[k]? = some r := by simpa using h
   have hx : x.id ≠ id := fun e => hn.1 (by rw [e, ← hi]; exact List.mem_map_of_mem (List.mem_of_getElem? h'))
   have ih := ZhU h' hi hn.2
   unfold atF at ih ⊢
   rw [List.find?_cons_of_neg (by simpa using hx)]
   exact ih
section
variable {pre : List Int} {ρ : Roles} {f sp : Nat} {q : Int} {gv : Bool} {v : Value} {ns : List Nd} {qb : Int → Nat} {its : Int → List It} {rows : List FRow}
theorem ZmS : (ns.map (rowOf its)).map FRow.id = ns.map Nd.id := by
 rw [List.map_map]
 rfl
theorem RAt.cases {w : World} (h : RAt pre ρ w f sp q gv v ns qb its) (id : Int) :
 ((∀ n ∈ ns, n.id ≠ id) ∧ atF id (ns.map (rowOf its)) = none) ∨ ∃ (k : Nat) (n : Nd), ns[k]? = some n ∧ n.id = id ∧ atF id (ns.map (rowOf its)) = some (rowOf its n) := by
 rcases Zdc id ns with ⟨_, h1⟩ | ⟨k, n, _, hn, hi⟩
 ·refine .inl ⟨h1, ZmR (fun r hr => ?_)⟩
  obtain ⟨n, hn, rfl⟩ := List.mem_map.1 hr
  exact h1 n hn
 ·refine .inr ⟨k, n, hn, hi, ZhU (k := k) (by rw [List.getElem?_map, hn]; rfl) hi ?_⟩
  rw [ZmS]
  exact h.spin.once
set_option maxRecDepth 100000 in
set_option maxHeartbeats 1000000 in
theorem Zhr (w : World) (hR : RingAt pre ρ w f q gv rows) : Calls Tryz.prog 91 #[.pointer (some ⟨f, 0, none⟩)] w fun e w' => e = .returned (.bool gv) ∧ Below w.heap.size w w' := by
 obtain ⟨sp, v, ns, qb, its, hr, rfl⟩ := hR
 have HR := Lib.hid hr
 have c0 := hr.c0
 have c2 := hr.spin.c2
 clear hr
 go_enter Tryz.func91, Tryz.ntmps91
 go_wp2_with fail
 refine (Zan _ HR.out.c0).mono ?_
 rintro e w1 ⟨rfl, rfl⟩
 go_wp2_with fail
 go_ret
 exact ⟨rfl, Below.refl _ _⟩
end
theorem Zde {P : Program} {fn : Func} {a : Act} {slot i k : Nat} {t t' : TypeId} {g : Nat} {cs : Array Value} {fr : Nat × Nat} {d : TypeDesc} {u v : Value} {w : World} (hf : fn.results = #[.tmp i, .cell slot t, .tmp k]) (hs : a.tmps.getD slot undef = .pointer (some ⟨g, 0, none⟩)) (hi0 : a.tmps.getD i undef = u) (hk : a.tmps.getD k undef = v)
 (hg : w.heap[g]? = some (.cells cs t' fr)) (hu : P.underlying t = some d) (hd : (match d with | .struct _ | .array _ _ => true | _ => false) = true) (hi : (P.info? t).map (·.size) = some cs.size) : (results fn a.tmps).run P w = .ok (.tuple #[u, .agg cs, v]) w := by
 have h := run_loadVar_row (P := P) w g t' t cs fr d hg hu hd hi
 have hs' : a.tmps[slot]?.getD undef = .pointer (some ⟨g, 0, none⟩) := by simpa using hs
 have hk' : a.tmps[k]?.getD undef = v := by simpa using hk
 have hi' : a.tmps[i]?.getD undef = u := by simpa using hi0
 simp [results, hf, asAddr, hs', hk', hi', h]
def Zlr (pre : List Int) (ρ : Roles) (w : World) (f : Nat) (q : Int) (gv : Bool) (rows : List FRow) (e : Ending) (w' : World) : Prop :=
 ∃ row rest ρ', e = .returned (.tuple #[.int .i64 row.id, itV (row.its.headD ⟨0, 0⟩), .bool true]) ∧ PicksR q gv rows (row :: rest) ∧ Later ρ ρ' w ∧ ZA ρ' pre w.heap.size ∧ RingAt pre ρ' w' f q true (row :: rest) ∧ Fp (Part ρ pre) w w'
section
variable {pre : List Int} {ρ : Roles} {f sp : Nat} {q : Int} {gv : Bool} {v : Value} {ns : List Nd} {qb : Int → Nat} {its : Int → List It} {rows : List FRow}
theorem Zi9 {w w1 w2 : World} {ρ0 ρ2 : Roles} {n : Nd} {r : List Nd} {x : It} {v2 : Value} {a2 : Unit} (hr : RAt pre ρ0 w f sp q gv v ns qb its) (hb : Below w.heap.size w w1)
 (hp : Picks q (Zej its) gv ns () (n :: r) a2 x) (hok : NdsOk true (n :: r)) (hl : Later ρ0 ρ2 w1) (hS : SpinAt pre ρ2 w2 sp q true v2 (n :: r)) (hI : ∀ m ∈ ns, QueAt (pre ++ [5, m.id]) ρ2 w2 (qb m.id) (its m.id)) (hF : Fp (ZaN ρ0 pre) w1 w2) :
 RAt pre ρ2 w2 f sp q true v2 (n :: r) qb its ∧ PicksR q gv (ns.map (rowOf its)) ((n :: r).map (rowOf its)) ∧ x = (its n.id).headD ⟨0, 0⟩ ∧ Fp (Part ρ0 pre) w w2 := by
 obtain ⟨h1, h2, h3⟩ := Zki hp
 have hP := h3 (fun id src => ∃ m ∈ ns, m.id = id ∧ src = m.src) (fun m hm => ⟨m, hm, rfl, rfl⟩)
 have hfw := Zb hr.head
 have hz := hb.size
 refine ⟨⟨?_, ?_, hS, fun m hm => ?_, fun m hm => ?_, fun m hm => ?_, hr.q1, hr.q2, hok, fun m hm => ?_⟩, h1, h2 n r rfl, ?_⟩
 ·refine hF.heap ((hb.block f hfw).trans hr.head) (fun h => ?_)
  have h1 := hr.rf
  rcases h with h | h
  ·rcases h with h | h | ⟨_, h⟩ <;> rw [h1] at h <;> simp at h
  ·obtain ⟨_, h⟩ := h
   rw [h1] at h
   simp at h
 ·exact (hl f (by omega)).trans hr.rf
 ·obtain ⟨m', hm', he, hs⟩ := hP m hm
  rw [hs, ← he]
  exact hr.src m' hm'
 ·obtain ⟨m', hm', he, hs⟩ := hP m hm
  rw [← he]
  exact hI m' hm'
 ·obtain ⟨m', hm', he, hs⟩ := hP m hm
  rw [← he]
  exact hr.full m' hm'
 ·obtain ⟨m', hm', he, hs⟩ := hP m hm
  rw [← he]
  exact hr.idok m' hm'
 ·refine (Fp.of_below (S := Part ρ0 pre) hb).trans (hF.mono (S' := Part ρ0 pre) (fun k hk => ?_)) (fun _ _ h => h)
  rcases hk with h | h
  ·exact ZU h
  ·exact Zdd h
set_option maxRecDepth 100000 in
set_option maxHeartbeats 1000000 in
theorem Zd5 (hpre : pre ≠ []) (w : World) (hR : RingAt pre ρ w f q gv rows) (hne : rows ≠ []) : Calls Tryz.prog 97 #[.pointer (some ⟨f, 0, none⟩)] w (Zlr pre ρ w f q gv rows) := by
 obtain ⟨sp, v, ns, qb, its, hr0, rfl⟩ := hR
 obtain ⟨n0, r0, rfl⟩ : ∃ n r, ns = n :: r := by
  cases ns with
  | nil => exact absurd rfl hne
  | cons n r => exact ⟨n, r, rfl⟩
 have HR := Lib.hid (hr0.later (Zg ρ w))
 have hfw := Zb hr0.head
 have c0 := hr0.c0
 clear hr0 hne
 go_enter Tryz.func97, Tryz.ntmps97
 go_wp2_with fail
 refine (Zan (sp := sp) _ (Zc box_below HR.out.c0)).mono ?_
 rintro e w1 ⟨rfl, rfl⟩
 go_wp2_with fail
 have hin : ∀ m ∈ n0 :: r0, QueAt (pre ++ [5, m.id]) (fence ρ w) (w.alloc (.cells #[.int .i64 0, .int .i64 0] 132)) (qb m.id) (its m.id) := fun m hm => (HR.out.que m hm).below box_below
 refine (Zei (ZmQ (pre := pre) (qb := qb) (ns := n0 :: r0) HR.out.full) HR.out.q1 HR.out.q2 () n0 r0 _ (HR.out.spin.below box_below) hin HR.out.good (fun m hm => ⟨⟨m, hm, rfl⟩, HR.out.src m hm⟩)).mono ?_
 rintro e w2 ⟨n, r, a2, x, v2, ρ2, rfl, hp, hok, hl, hn, hS, hI, hF⟩
 obtain ⟨k1, k2, k3, k4⟩ := Zi9 HR.out box_below hp hok hl hS hI hF
 have hh2 : w2.heap[w.heap.size]? = some (.cells #[.int .i64 0, .int .i64 0] 132 (0, 0)) := hF.heap Zf (fun h => by
  have h1 : fence ρ w w.heap.size = [] := by simp [fence]
  rcases h with h | h
  ·rcases h with h | h | ⟨_, h⟩ <;> rw [h1] at h <;> simp at h
  ·obtain ⟨_, h⟩ := h
   rw [h1] at h
   simp at h)
 have HH2 := Lib.hid hh2
 have K1 := Lib.hid k1
 have K2 := Lib.hid k2
 have K3 := Lib.hid k3
 have K4 := Lib.hid k4
 have HL := Lib.hid hl
 have HN := Lib.hid hn
 clear hp hok hl hn hS hI hF hin k1 k2 k3 k4 hh2 c0
 unfold itV
 go_upto_region 6 with fail
 obtain ⟨w3, hw3⟩ : ∃ w3 : World, w3 = w2.alloc (.cells #[.int .i64 x.id, .int .i64 x.cost] 132) := ⟨_, rfl⟩
 obtain ⟨xb, hxb⟩ : ∃ xb : Nat, xb = w2.heap.size := ⟨_, rfl⟩
 rw [← hw3, ← hxb]
 have HB3 := Lib.hid (show Below w2.heap.size w2 w3 by rw [hw3]; exact box_below)
 have hx3 : w3.heap[xb]? = some (.cells #[.int .i64 x.id, .int .i64 x.cost] 132 (0, 0)) := by rw [hw3, hxb]; exact Zf
 have hr3 := (HB3.out.block _ (Zb HH2.out)).trans HH2.out
 have HR3 := Lib.hid hr3
 clear hw3 hxb
 have n0' : w3.cell? ⟨n.blk, 0, none⟩ = some (.int .i64 n.id) := Zc HB3.out (Za (K1.out.spin.node 0 n rfl).2 rfl)
 have x0 : w3.cell? ⟨xb, 0, none⟩ = some (.int .i64 x.id) := Za hx3 rfl
 have x1 : w3.cell? ⟨xb, 1, none⟩ = some (.int .i64 x.cost) := Za hx3 rfl
 have z0 : w3.cell? ⟨w.heap.size, 0, none⟩ = some (.int .i64 0) := Za hr3 rfl
 have z1 : w3.cell? ⟨w.heap.size, 1, none⟩ = some (.int .i64 0) := Za hr3 rfl
 have g0 : w3.frozen? ⟨w.heap.size, 0, none⟩ = false := Zd hr3
 have g1 : w3.frozen? ⟨w.heap.size, 1, none⟩ = false := Zd hr3
 clear hx3 hr3
 go_region
 clear n0' x0 x1 z0 z1 g0 g1
 go_wp2_with fail
 obtain ⟨w4, hw4⟩ : ∃ w4 : World, w4 = ((w3.setCell ⟨w.heap.size, 0, none⟩ (.int .i64 x.id)).setCell ⟨w.heap.size, 1, none⟩ (.int .i64 x.cost)).drew := ⟨_, rfl⟩
 have hh4 : w4.heap[w.heap.size]? = some (.cells #[.int .i64 x.id, .int .i64 x.cost] 132 (0, 0)) := by rw [hw4]; exact Ze (Ze HR3.out)
 have HF4 := Lib.hid (show Fp (fun k => k = w.heap.size) w3 w4 by
  rw [hw4]
  exact (((Fp.refl (fun k => k = w.heap.size) w3).setCell (p := ⟨w.heap.size, 0, none⟩) (fun _ => rfl) _).setCell (p := ⟨w.heap.size, 1, none⟩) (fun _ => rfl) _).drew)
 rw [← hw4]
 clear hw4
 refine bodyPost_ret (v := .tuple #[.int .i64 n.id, .agg #[.int .i64 x.id, .int .i64 x.cost], .bool true]) (Zde Tryz.results97 rfl rfl rfl hh4 Tryz.underlying132 rfl (Zaw x)) rfl ?_
 have hcr : ρ2 w.heap.size = [] := by rw [HL.out w.heap.size (by simp)]; simp [fence]
 have hF4 : Fp (fun k => k = w.heap.size) w2 w4 := (Fp.of_below HB3.out).trans HF4.out (fun _ _ h => h)
 refine ⟨rowOf its n, r.map (rowOf its), ρ2, by rw [K3.out]; rfl, K2.out, fun k hk => (HL.out k (by simp; omega)).trans (Zg ρ w k hk), fun k hk => ?_, ⟨sp, v2, n :: r, qb, its, K1.out.frame hF4 (fun k _ hp e => ?_), rfl⟩, ?_⟩
 ·rcases Nat.eq_or_lt_of_le hk with h | h
  ·exact .inl (h ▸ hcr)
  ·exact HN.out k (by simp; omega)
 ·subst e
  obtain ⟨s, hs⟩ := hp
  rw [hcr] at hs
  exact hpre (List.append_eq_nil_iff.1 hs.symm).1
 ·exact ((K4.out.mono (fun k hk => ZaS hpre hk)).trans hF4 (fun k hk e => by omega))
end
end Go.Proofs.YtdbjihkgafhakaaGreatDoor
/-
 flow.Ring: what a queue's turn, a deficit's, and a source's going leave of a ring; Drop, Take: the walks.
-/
namespace Go.Proofs.YtdbjihkgafhakaaGreatDoor
open Go.RowKit
def upd {α : Type} (g : Int → α) (id : Int) (x : α) : Int → α := fun j => if j = id then x else g j
theorem ZE {α : Type} (g : Int → α) (id : Int) (x : α) : upd g id x id = x := by simp [upd]
theorem Zx {α : Type} {g : Int → α} {id j : Int} (x : α) (h : j ≠ id) : upd g id x j = g j := by simp [upd, h]
def withR (k : Nat) (x : FRow) (gv : Bool) (rows : List FRow) : Bool × List FRow := if x.its = [] then (if k = 0 then false else gv, rows.eraseIdx k) else (gv, rows.set k x)
structure RPre (pre : List Int) (ρ : Roles) (w : World) (f sp : Nat) (q : Int) (gv : Bool) (v : Value) (ns : List Nd) (qb : Int → Nat) (its : Int → List It) : Prop where
 head : w.heap[f]? = some (.cells #[.pointer (some ⟨sp, 0, none⟩)] 164 (0, 0))
 rf : ρ f = pre ++ [6]
 spin : SpinAt pre ρ w sp q gv v ns
 src : ∀ n ∈ ns, n.src = srcV (qb n.id)
 que : ∀ n ∈ ns, QueAt (pre ++ [5, n.id]) ρ w (qb n.id) (its n.id)
 q1 : 1 ≤ q
 q2 : q ≤ 64
 good : NdsOk gv ns
 idok : ∀ n ∈ ns, 0 ≤ n.id ∧ I64 n.id
section
variable {pre : List Int} {ρ : Roles} {w w' : World} {f sp k : Nat} {q : Int} {gv : Bool} {v v' : Value} {ns : List Nd} {qb : Int → Nat} {its : Int → List It} {n : Nd}
theorem RAt.pre' (h : RAt pre ρ w f sp q gv v ns qb its) : RPre pre ρ w f sp q gv v ns qb its := ⟨h.head, h.rf, h.spin, h.src, h.que, h.q1, h.q2, h.good, h.idok⟩
theorem RPre.full (h : RPre pre ρ w f sp q gv v ns qb its) (hf : ∀ n ∈ ns, its n.id ≠ []) : RAt pre ρ w f sp q gv v ns qb its := ⟨h.head, h.rf, h.spin, h.src, h.que, hf, h.q1, h.q2, h.good, h.idok⟩
theorem RPre.frame (h : RPre pre ρ w f sp q gv v ns qb its) {S : Nat → Prop} (hf : Fp S w w') (hS : ∀ k, k < w.heap.size → Part ρ pre k → ¬ S k) : RPre pre ρ w' f sp q gv v ns qb its :=
 ⟨hf.heap h.head (hS f (Zb h.head) ⟨_, h.rf⟩), h.rf, h.spin.frame hf (fun k hk hp => hS k hk (ZU hp)), h.src, fun n hn => (h.que n hn).frame hf (fun k hk hp => hS k hk (ZaO hp)), h.q1, h.q2, h.good, h.idok⟩
theorem RPre.below (h : RPre pre ρ w f sp q gv v ns qb its) (hb : Below w.heap.size w w') : RPre pre ρ w' f sp q gv v ns qb its := h.frame (S := fun _ => False) (Fp.of_below hb) (fun _ _ _ h => h)
theorem RPre.que_turn (h : RPre pre ρ w f sp q gv v ns qb its) {l : List It} (hF : Fp (Part ρ (pre ++ [5, n.id])) w w') (hQ : QueAt (pre ++ [5, n.id]) ρ w' (qb n.id) l) : RPre pre ρ w' f sp q gv v ns qb (upd its n.id l) := by
 refine ⟨hF.heap h.head (fun hp => ?_), h.rf, h.spin.frame hF (fun k _ hs hp => Z2 hs (Z7 hp)), h.src, fun m hm => ?_, h.q1, h.q2, h.good, h.idok⟩
 ·obtain ⟨s, hs⟩ := Z7 hp
  rw [h.rf] at hs
  simp at hs
 ·by_cases e : m.id = n.id
  ·rw [e, ZE]
   exact hQ
  ·rw [Zx _ e]
   refine (h.que m hm).frame hF (fun k _ h1 h2 => ?_)
   obtain ⟨s, hs⟩ := h1
   obtain ⟨t, ht⟩ := h2
   rw [hs] at ht
   simp at ht
   exact e ht.1
theorem Zbi {α β : Type} (g : α → β) : ∀ (l : List α) (k : Nat) (x : α), (l.set k x).map g = (l.map g).set k (g x)
 | [], _, _ => rfl
 | _ :: _, 0, _ => rfl
 | y :: r, k + 1, x => by simp [Zbi g r k x]
theorem Zch {α : Type} : ∀ {l : List α} {k : Nat} {x : α}, l[k]? = some x → l.set k x = l
 | [], _, _, h => by simp at h
 | y :: r, 0, x, h => by
   simp at h
   simp [h]
 | y :: r, k + 1, x, h => by
   have := Zch (l := r) (k := k) (x := x) (by simpa using h)
   simp [this]
theorem ZfY (h : SpinAt pre ρ w sp q gv v ns) (hn : ns[k]? = some n) (d : Int) : SpinAt pre ρ (w.setCell ⟨n.blk, 2, none⟩ (.int .i64 d)) sp q gv v (ns.set k { n with df := d }) ∧ Fp (fun j => j = n.blk) w (w.setCell ⟨n.blk, 2, none⟩ (.int .i64 d)) := by
 have h0 := h.node k n hn
 have hk : k < ns.length := (List.getElem?_eq_some_iff.1 hn).1
 have hF : Fp (fun j => j = n.blk) w (w.setCell ⟨n.blk, 2, none⟩ (.int .i64 d)) := (Fp.refl (fun j => j = n.blk) w).setCell (p := ⟨n.blk, 2, none⟩) (fun _ => rfl) _
 refine ⟨⟨hF.heap h.head (fun e => ?_), h.rs, ?_, h.ra, fun i m hm => ?_, ?_, by rw [List.length_set]; exact h.few⟩, hF⟩
 ·have h1 := h0.1
  rw [← e, h.rs] at h1
  simp at h1
 ·have e : (ns.set k { n with df := d }).map Nd.blk = ns.map Nd.blk := by
   rw [Zbi]
   exact Zch (by rw [List.getElem?_map, hn]; rfl)
  rw [e]
  exact h.arr.frame hF (fun j hj e => by
   have h1 := h.ra j hj
   rw [e, h0.1] at h1
   simp at h1)
 ·rw [List.getElem?_set] at hm
  split at hm
  ·rename_i e
   subst e
   simp at hm
   subst hm
   refine ⟨h0.1, ?_⟩
   exact Ze h0.2
  ·rename_i e
   have h1 := h.node i m hm
   exact ⟨h1.1, hF.heap h1.2 (fun e' => h.apart hm hn (Ne.symm e) e')⟩
 ·have e : (ns.set k { n with df := d }).map Nd.id = ns.map Nd.id := by
   rw [Zbi]
   exact Zch (by rw [List.getElem?_map, hn]; rfl)
  rw [e]
  exact h.once
theorem ZaA {α : Type} {l : List α} {k : Nat} {x y : α} (h : y ∈ l.set k x) : y ∈ l ∨ y = x := by
 obtain ⟨i, hi⟩ := List.mem_iff_getElem?.1 h
 rw [List.getElem?_set] at hi
 split at hi
 ·split at hi
  ·simp at hi
   exact .inr hi.symm
  ·simp at hi
 ·exact .inl (List.mem_of_getElem? hi)
theorem RPre.df_turn (h : RPre pre ρ w f sp q gv v ns qb its) (hn : ns[k]? = some n) (d : Int) (hg : NdsOk gv (ns.set k { n with df := d })) : RPre pre ρ (w.setCell ⟨n.blk, 2, none⟩ (.int .i64 d)) f sp q gv v (ns.set k { n with df := d }) qb its := by
 obtain ⟨hs, hF⟩ := ZfY h.spin hn d
 have h0 := (h.spin.node k n hn).1
 have hmem := List.mem_of_getElem? hn
 refine ⟨hF.heap h.head (fun e => ?_), h.rf, hs, fun m hm => ?_, fun m hm => ?_, h.q1, h.q2, hg, fun m hm => ?_⟩
 ·have h1 := h.rf
  rw [e, h0] at h1
  simp at h1
 ·rcases ZaA hm with hm | rfl
  ·exact h.src m hm
  ·exact h.src n hmem
 ·have hq : ∀ m ∈ ns, QueAt (pre ++ [5, m.id]) ρ (w.setCell ⟨n.blk, 2, none⟩ (.int .i64 d)) (qb m.id) (its m.id) := fun m hm => (h.que m hm).frame hF (fun k _ hp e => by
   obtain ⟨s, hs⟩ := hp
   rw [e, h0] at hs
   simp at hs)
  rcases ZaA hm with hm | rfl
  ·exact hq m hm
  ·exact hq n hmem
 ·rcases ZaA hm with hm | rfl
  ·exact h.idok m hm
  ·exact h.idok n hmem
theorem Zfd : ∀ {gv : Bool} {ns : List Nd} (k : Nat), NdsOk gv ns → NdsOk (if k = 0 then false else gv) (ns.eraseIdx k)
 | gv, [], k, _ => by simp [NdsOk]
 | gv, n :: r, 0, h => by
   rw [List.eraseIdx_cons_zero, if_pos rfl, ZaC]
   exact h.2
 | gv, n :: r, k + 1, h => by
   rw [List.eraseIdx_cons_succ, if_neg (by omega)]
   exact ⟨h.1, fun m hm => h.2 m (List.mem_of_mem_eraseIdx hm)⟩
theorem RPre.gone (h : RPre pre ρ w f sp q gv v ns qb its) (hS : SpinAt pre ρ w' sp q (if k = 0 then false else gv) v' (ns.eraseIdx k)) (hF : Fp (fun j => j = sp ∨ v.ownBlock = some j) w w') : RPre pre ρ w' f sp q (if k = 0 then false else gv) v' (ns.eraseIdx k) qb its := by
 have hno : ∀ j, (j = sp ∨ v.ownBlock = some j) → Zs ρ pre j := fun j hj => by
  rcases hj with rfl | hj
  ·exact .inl h.spin.rs
  ·exact .inr (.inl (h.spin.ra j hj))
 refine ⟨hF.heap h.head (fun e => ?_), h.rf, hS, fun m hm => h.src m (List.mem_of_mem_eraseIdx hm), fun m hm => (h.que m (List.mem_of_mem_eraseIdx hm)).frame hF (fun j _ hp e => Z2 (hno j e) (Z7 hp)), h.q1, h.q2, Zfd k h.good, fun m hm => h.idok m (List.mem_of_mem_eraseIdx hm)⟩
 have h1 := hno f e
 have h2 := h.rf
 rcases h1 with h1 | h1 | ⟨_, h1⟩ <;> rw [h2] at h1 <;> simp at h1
theorem ZmT {ns : List Nd} (honce : (ns.map Nd.id).Nodup) (hn : ns[k]? = some n) (l : List It) : ns.map (rowOf (upd its n.id l)) = (ns.map (rowOf its)).set k ⟨n.id, n.wt, n.df, l⟩ := by
 apply List.ext_getElem?
 intro i
 rw [List.getElem?_map, List.getElem?_set]
 rcases hi : ns[i]? with _ | m
 ·split
  ·rename_i e
   subst e
   rw [hn] at hi
   cases hi
  ·rw [List.getElem?_map, hi]
   rfl
 ·split
  ·rename_i e
   subst e
   rw [hn] at hi
   cases hi
   rw [if_pos (by rw [List.length_map]; exact (List.getElem?_eq_some_iff.1 hn).1)]
   simp [rowOf, ZE]
  ·rename_i e
   rw [List.getElem?_map, hi]
   have : m.id ≠ n.id := fun e' => by
    have h2 : (ns.map Nd.id)[k]? = some m.id := by simp [hn, e']
    have h3 : (ns.map Nd.id)[i]? = some m.id := by simp [hi]
    exact e ((List.getElem?_inj (List.getElem?_eq_some_iff.1 h2).1 honce).1 (h2.trans h3.symm))
   simp [rowOf, Zx _ this]
end
section
variable {pre : List Int} {ρ : Roles} {f sp : Nat} {q : Int} {gv : Bool} {v : Value} {ns : List Nd} {qb : Int → Nat} {its : Int → List It} {rows : List FRow}
theorem RAt.rowAt {w : World} (_h : RAt pre ρ w f sp q gv v ns qb its) {k : Nat} {r : FRow} (hr : (ns.map (rowOf its))[k]? = some r) : ∃ n, ns[k]? = some n ∧ r = rowOf its n := by
 rw [List.getElem?_map] at hr
 obtain ⟨n, hn, rfl⟩ := Option.map_eq_some_iff.1 hr
 exact ⟨n, hn, rfl⟩
theorem ZfZ (u : Value) (w : World) : (method 353 171 u "Empty").run Tryz.prog w = .ok (169, u) w := by kernel_rfl
theorem Zfe (u : Value) (w : World) : (callFunc 169 #[u]).run Tryz.prog w = .ok (.enter 169 #[u]) w := by kernel_rfl
theorem Zls {w : World} {k : Nat} {n : Nd} (h : RPre pre ρ w f sp q gv v ns qb its) (hn : ns[k]? = some n) (hfull : ∀ m ∈ ns, m.id ≠ n.id → its m.id ≠ []) :
 Calls Tryz.prog 64 #[.pointer (some ⟨sp, 0, none⟩), .pointer (some ⟨n.blk, 0, none⟩)] w fun e w' => e = .returned (.tuple #[]) ∧ RingAt pre ρ w' f q (withR k (rowOf its n) gv (ns.map (rowOf its))).1 (withR k (rowOf its n) gv (ns.map (rowOf its))).2 ∧ Fp (Zs ρ pre) w w' := by
 have hmem := List.mem_of_getElem? hn
 have hq := h.que n hmem
 have hE : ∀ w', Below w.heap.size w w' → Calls Tryz.prog 169 #[.agg #[.pointer (some ⟨qb n.id, 0, none⟩)]] w' fun e w2 => e = .returned (.bool (((its n.id).length : Int) == 0)) ∧ Below w'.heap.size w' w2 := fun w' hb => ZhR w' (hq.below hb)
 by_cases hl : its n.id = []
 ·rw [hl] at hE
  refine (Zd4 k n w h.spin hn 171 169 _ _ (h.src n hmem) (ZfZ _) (Zfe _) hE).mono ?_
  rintro e w' ⟨rfl, ⟨v', hS⟩, hF⟩
  have hW : withR k (rowOf its n) gv (ns.map (rowOf its)) = (if k = 0 then false else gv, (ns.map (rowOf its)).eraseIdx k) := by
   unfold withR
   rw [if_pos (show (rowOf its n).its = [] from hl)]
  rw [hW]
  refine ⟨rfl, ⟨sp, v', ns.eraseIdx k, qb, its, (h.gone hS hF).full (fun m hm => ?_), (eraseIdx_map' _ _ _).symm⟩, hF.mono (fun j hj => ?_)⟩
  ·obtain ⟨i, hi⟩ := List.mem_iff_getElem?.1 hm
   refine hfull m (List.mem_of_mem_eraseIdx hm) (fun e => ?_)
   rw [List.getElem?_eraseIdx] at hi
   have h2 : (ns.map Nd.id)[k]? = some m.id := by simp [hn, e]
   split at hi
   ·have h3 : (ns.map Nd.id)[i]? = some m.id := by simp [hi]
    have := (List.getElem?_inj (List.getElem?_eq_some_iff.1 h2).1 h.spin.once).1 (h2.trans h3.symm)
    omega
   ·have h3 : (ns.map Nd.id)[i + 1]? = some m.id := by simp [hi]
    have := (List.getElem?_inj (List.getElem?_eq_some_iff.1 h2).1 h.spin.once).1 (h2.trans h3.symm)
    omega
  ·rcases hj with rfl | hj
   ·exact .inl h.spin.rs
   ·exact .inr (.inl (h.spin.ra j hj))
 ·have hz : (((its n.id).length : Int) == 0) = false := by
   have := List.length_pos_iff.2 hl
   simp
   exact hl
  rw [hz] at hE
  refine (Zeg k n w h.spin hn 171 169 _ _ (h.src n hmem) (ZfZ _) (Zfe _) hE).mono ?_
  rintro e w' ⟨rfl, hb⟩
  have hW : withR k (rowOf its n) gv (ns.map (rowOf its)) = (gv, ns.map (rowOf its)) := by
   unfold withR
   rw [if_neg (show ¬ (rowOf its n).its = [] from hl), Zch (by rw [List.getElem?_map, hn]; rfl)]
  rw [hW]
  refine ⟨rfl, ⟨sp, v, ns, qb, its, (h.below hb).full (fun m hm => ?_), rfl⟩, Fp.of_below hb⟩
  by_cases e : m.id = n.id
  ·rw [e]
   exact hl
  ·exact hfull m hm e
theorem Zdq {w w' : World} {s : List Int} (h : Fp (Part ρ (pre ++ s)) w w') : Fp (Part ρ pre) w w' := h.mono (fun _ hk => ZaO hk)
end
end Go.Proofs.YtdbjihkgafhakaaGreatDoor
/-
 flow.Ring: Take: the walk.
-/
namespace Go.Proofs.YtdbjihkgafhakaaGreatDoor
open Go.RowKit
theorem Zas (q : Int) (gv : Bool) (r : FRow) : (ZF q gv r).its = r.its ∧ (ZF q gv r).id = r.id ∧ (ZF q gv r).wt = r.wt := by
 cases gv <;> exact ⟨rfl, rfl, rfl⟩
theorem PicksR.le {q : Int} {gv : Bool} {l l2 : List FRow} (h : PicksR q gv l l2) : ∃ x r, l2 = x :: r ∧ headC x.its ≤ x.df := by
 induction h with
 | @grant gv x r h => exact ⟨_, _, rfl, by rw [(Zas q gv x).1]; exact h⟩
 | rotate _ _ ih => exact ih
def tookR (row : FRow) (rest : List FRow) : Bool × List FRow := withR 0 { row with df := row.df - headC row.its, its := row.its.tail } true (row :: rest)
def Zlt (pre : List Int) (ρ : Roles) (w : World) (f : Nat) (q : Int) (gv : Bool) (rows : List FRow) (e : Ending) (w' : World) : Prop :=
 ∃ row rest ρ', e = .returned (.tuple #[.int .i64 row.id, itV (row.its.headD ⟨0, 0⟩), .bool true]) ∧ PicksR q gv rows (row :: rest) ∧ Later ρ ρ' w ∧ ZA ρ' pre w.heap.size ∧ RingAt pre ρ' w' f q (tookR row rest).1 (tookR row rest).2 ∧ Fp (Part ρ pre) w w'
section
variable {pre : List Int} {ρ : Roles} {f sp : Nat} {q : Int} {gv : Bool} {v : Value} {ns : List Nd} {qb : Int → Nat} {its : Int → List It} {rows : List FRow}
set_option maxRecDepth 100000 in
set_option maxHeartbeats 2000000 in
theorem Zhs (hpre : pre ≠ []) (w : World) (hR : RingAt pre ρ w f q gv rows) (hne : rows ≠ []) : Calls Tryz.prog 68 #[.pointer (some ⟨f, 0, none⟩)] w (Zlt pre ρ w f q gv rows) := by
 have HR := Lib.hid (hR.later (Zg ρ w))
 have HNE := Lib.hid hne
 have hfw := hR.lt
 clear hR hne
 go_enter Tryz.func68, Tryz.ntmps68
 go_wp2_with fail
 refine (Zd5 hpre _ (HR.out.below box_below) HNE.out).mono ?_
 rintro e w2 ⟨row, rest, ρ2, rfl, hp, hl, hn, hR2, hF2⟩
 have hcr0 : fence ρ w w.heap.size = [] := by simp [fence]
 have hh2 : w2.heap[w.heap.size]? = some (.cells #[.int .i64 0, .int .i64 0] 132 (0, 0)) := hF2.heap Zf (fun h => by
  obtain ⟨_, h⟩ := h
  rw [hcr0] at h
  exact hpre (List.append_eq_nil_iff.1 h.symm).1)
 have HH2 := Lib.hid hh2
 have HP := Lib.hid hp
 have HL := Lib.hid hl
 have HN := Lib.hid hn
 have HF2 := Lib.hid ((Fp.of_below (S := Part (fence ρ w) pre) box_below).trans hF2 (fun _ _ h => h))
 obtain ⟨sp, v, ns, qb, its, hA, he⟩ := hR2.later (Zg ρ2 w2)
 obtain ⟨n, r, rfl⟩ : ∃ n r, ns = n :: r := by
  cases ns with
  | nil => cases he
  | cons n r => exact ⟨n, r, rfl⟩
 rw [List.map_cons, List.cons.injEq] at he
 obtain ⟨rfl, rfl⟩ := he
 obtain ⟨x, xs, hx⟩ : ∃ x xs, its n.id = x :: xs := by
  have := hA.full n List.mem_cons_self
  cases h : its n.id with
  | nil => exact absurd h this
  | cons x xs => exact ⟨x, xs, rfl⟩
 have hhd : (rowOf its n).its.headD ⟨0, 0⟩ = x := by
  show (its n.id).headD ⟨0, 0⟩ = x
  rw [hx]
  rfl
 have HA := Lib.hid hA
 have HX := Lib.hid hx
 have HHD := Lib.hid hhd
 rw [hhd]
 rw [show (rowOf its n).id = n.id from rfl]
 unfold itV
 clear hp hl hn hR2 hF2 hcr0 hh2 hA hx hhd
 go_upto_region 2 with fail
 obtain ⟨w3, hw3⟩ : ∃ w3 : World, w3 = w2.alloc (.cells #[.int .i64 x.id, .int .i64 x.cost] 132) := ⟨_, rfl⟩
 obtain ⟨xb, hxb⟩ : ∃ xb : Nat, xb = w2.heap.size := ⟨_, rfl⟩
 rw [← hw3, ← hxb]
 have HB3 := Lib.hid (show Below w2.heap.size w2 w3 by rw [hw3]; exact box_below)
 have HX3 := Lib.hid (show w3.heap[xb]? = some (.cells #[.int .i64 x.id, .int .i64 x.cost] 132 (0, 0)) by rw [hw3, hxb]; exact Zf)
 have HR3 := Lib.hid ((HB3.out.block _ (Zb HH2.out)).trans HH2.out)
 have HXB := Lib.hid hxb
 have HA3 := Lib.hid (HA.out.below HB3.out)
 clear hw3 hxb
 go_wp2_with fail
 refine (ZaY n.id 0 n _ HA3.out rfl rfl).mono ?_
 rintro e w4 ⟨rfl, hb4⟩
 have HB4 := Lib.hid hb4
 have HA4 := Lib.hid (HA3.out.below hb4)
 clear hb4
 go_wp2_with fail
 refine (ZhO (by simp) x xs _ (HX.out ▸ HA4.out.que n List.mem_cons_self)).mono ?_
 rintro e w5 ⟨rfl, hF5, hQ5⟩
 have hgood := (HX.out ▸ HA4.out.que n List.mem_cons_self : QueAt (pre ++ [5, n.id]) (fence ρ2 w2) w4 (qb n.id) (x :: xs)).good
 have hdr : Zam (x :: xs) x.id = xs := by rw [Zbo hgood.once (i := 0) rfl]; rfl
 rw [hdr] at hQ5
 have HP5 := Lib.hid (HA4.out.pre'.que_turn hF5 hQ5)
 have hcr2 : ρ2 w.heap.size = [] := by rw [HL.out w.heap.size (by simp)]; simp [fence]
 have hcr : fence ρ2 w2 w.heap.size = [] := by
  unfold fence
  rw [hcr2]
  simp
 have hxr : fence ρ2 w2 xb = [] := by rw [HXB.out]; simp [fence]
 have hnp : ∀ k, fence ρ2 w2 k = [] → ¬ Part (fence ρ2 w2) pre k := fun k hk h => by
  obtain ⟨_, h⟩ := h
  rw [hk] at h
  exact hpre (List.append_eq_nil_iff.1 h.symm).1
 have HNP := Lib.hid hnp
 have HCR := Lib.hid hcr
 have HCR2 := Lib.hid hcr2
 have HXR := Lib.hid hxr
 have HF5 := Lib.hid ((Fp.of_below (S := Part (fence ρ2 w2) pre) (HB3.out.trans (HB4.out.mono HB3.out.size))).trans (Zdq hF5) (fun _ _ h => h))
 have HX5 := Lib.hid ((hF5.heap ((HB4.out.block _ (Zb HX3.out)).trans HX3.out) (fun h => hnp _ hxr (ZaO h))))
 have HR5 := Lib.hid ((hF5.heap ((HB4.out.block _ (Zb HR3.out)).trans HR3.out) (fun h => hnp _ hcr (ZaO h))))
 have hc := hgood.ok x List.mem_cons_self
 have hd := HA4.out.good.1
 have hle : x.cost ≤ n.df := by
  obtain ⟨y, l, he, hl⟩ := HP.out.le
  cases he
  have e : headC (rowOf its n).its = x.cost := by
   unfold headC
   rw [HHD.out]
  rw [e] at hl
  exact hl
 have hw1 : wrap64 (n.df - x.cost) = n.df - x.cost := by
  have h3 := hd.2.2.1
  have h4 := hd.2.2.2
  simp at h4
  unfold wrap64
  omega
 have HND := Lib.hid (show NdsOk true ((n :: r).set 0 { n with df := n.df - x.cost }) from ⟨⟨hd.1, hd.2.1, by show 0 ≤ n.df - x.cost; omega, by have h4 := hd.2.2.2; simp at h4; show n.df - x.cost ≤ 2112; omega⟩, HA4.out.good.2⟩)
 have e2 : w5.cell? ⟨n.blk, 2, none⟩ = some (.int .i64 n.df) := Za (HP5.out.spin.node 0 n rfl).2 rfl
 have f2 : w5.frozen? ⟨n.blk, 2, none⟩ = false := Zd (HP5.out.spin.node 0 n rfl).2
 have x1 : w5.cell? ⟨xb, 1, none⟩ = some (.int .i64 x.cost) := Za HX5.out rfl
 have HW1 := Lib.hid hw1
 clear hF5 hQ5 hgood hdr hcr hcr2 hxr hnp hc hd hle
 go_upto_region 6 with fail
 go_region
 clear e2 f2 x1 hw1
 obtain ⟨w6, hw6⟩ : ∃ w6 : World, w6 = (w5.setCell ⟨n.blk, 2, none⟩ (.int .i64 (n.df - x.cost))).drew := ⟨_, rfl⟩
 rw [← hw6]
 have hF6 : Fp (fun k => k = n.blk) w5 w6 := by rw [hw6]; exact ((Fp.refl (fun k => k = n.blk) w5).setCell (p := ⟨n.blk, 2, none⟩) (fun _ => rfl) _).drew
 have hnb := (HP5.out.spin.node 0 n rfl).1
 have HP6 := Lib.hid (show RPre pre (fence ρ2 w2) w6 f sp q true v ((n :: r).set 0 { n with df := n.df - x.cost }) qb (upd its n.id xs) by
  rw [hw6]
  have h := HP5.out.df_turn (k := 0) (n := n) rfl (n.df - x.cost) HND.out
  exact h.below ⟨rfl, rfl, rfl, Nat.le_refl _, fun _ _ => rfl⟩)
 have hnbp : ∀ k, fence ρ2 w2 k = [] → k ≠ n.blk := fun k hk e => by
  rw [e, hnb] at hk
  simp at hk
 have HX6 := Lib.hid (hF6.heap HX5.out (hnbp _ HXR.out))
 have HR6 := Lib.hid (hF6.heap HR5.out (hnbp _ HCR.out))
 have HF6 := Lib.hid (HF5.out.trans (hF6.mono (S' := Part (fence ρ2 w2) pre) (fun k hk => by subst hk; exact ⟨_, hnb⟩)) (fun _ _ h => h))
 have c0 : w6.cell? ⟨f, 0, none⟩ = some (.pointer (some ⟨sp, 0, none⟩)) := Za HP6.out.head rfl
 clear hF6 hnb hnbp hw6
 go_wp2_with fail
 refine (Zls (k := 0) (n := { n with df := n.df - x.cost }) HP6.out rfl (fun m hm e => by
  rw [Zx _ e]
  rcases ZaA hm with hm | rfl
  ·exact HA4.out.full m hm
  ·exact absurd rfl e)).mono ?_
 rintro e w7 ⟨rfl, hR7, hF7⟩
 have HR7 := Lib.hid hR7
 have HRR := Lib.hid (hF7.heap HR6.out (fun h => HNP.out _ HCR.out (ZU h)))
 have HX7 := Lib.hid (hF7.heap HX6.out (fun h => HNP.out _ HXR.out (ZU h)))
 have HF7 := Lib.hid (HF6.out.trans (hF7.mono (S' := Part (fence ρ2 w2) pre) (fun _ h => ZU h)) (fun _ _ h => h))
 clear hR7 hF7 c0
 have x0 : w7.cell? ⟨xb, 0, none⟩ = some (.int .i64 x.id) := Za HX7.out rfl
 have x1 : w7.cell? ⟨xb, 1, none⟩ = some (.int .i64 x.cost) := Za HX7.out rfl
 have z0 : w7.cell? ⟨w.heap.size, 0, none⟩ = some (.int .i64 0) := Za HRR.out rfl
 have z1 : w7.cell? ⟨w.heap.size, 1, none⟩ = some (.int .i64 0) := Za HRR.out rfl
 have g0 : w7.frozen? ⟨w.heap.size, 0, none⟩ = false := Zd HRR.out
 have g1 : w7.frozen? ⟨w.heap.size, 1, none⟩ = false := Zd HRR.out
 go_upto_region 8 with fail
 go_region
 clear x0 x1 z0 z1 g0 g1
 go_wp2_with fail
 obtain ⟨w8, hw8⟩ : ∃ w8 : World, w8 = ((w7.setCell ⟨w.heap.size, 0, none⟩ (.int .i64 x.id)).setCell ⟨w.heap.size, 1, none⟩ (.int .i64 x.cost)).drew := ⟨_, rfl⟩
 have hh8 : w8.heap[w.heap.size]? = some (.cells #[.int .i64 x.id, .int .i64 x.cost] 132 (0, 0)) := by rw [hw8]; exact Ze (Ze HRR.out)
 have HF8 := Lib.hid (show Fp (fun k => k = w.heap.size) w7 w8 by
  rw [hw8]
  exact (((Fp.refl (fun k => k = w.heap.size) w7).setCell (p := ⟨w.heap.size, 0, none⟩) (fun _ => rfl) _).setCell (p := ⟨w.heap.size, 1, none⟩) (fun _ => rfl) _).drew)
 rw [← hw8]
 clear hw8
 refine bodyPost_ret (v := .tuple #[.int .i64 n.id, .agg #[.int .i64 x.id, .int .i64 x.cost], .bool true]) (Zde Tryz.results68 rfl rfl rfl hh8 Tryz.underlying132 rfl (Zaw x)) rfl ?_
 have hres := HR7.out.frame HF8.out (fun k _ hp e => HNP.out k (e ▸ HCR.out) hp)
 have hsz2 : w.heap.size < w2.heap.size := Zb HH2.out
 have hcfg : withR 0 (rowOf (upd its n.id xs) { n with df := n.df - x.cost }) true (((n :: r).set 0 { n with df := n.df - x.cost }).map (rowOf (upd its n.id xs))) = tookR (rowOf its n) (r.map (rowOf its)) := by
  have ho : n.id ∉ r.map Nd.id := by
   have h := HA4.out.spin.once
   rw [List.map_cons, List.nodup_cons] at h
   exact h.1
  have hm : r.map (rowOf (upd its n.id xs)) = r.map (rowOf its) := List.map_congr_left (fun m hm => by
   unfold rowOf
   rw [Zx _ (fun e => ho (by rw [← e]; exact List.mem_map_of_mem hm))])
  have hh : headC (rowOf its n).its = x.cost := by
   unfold headC
   rw [HHD.out]
  have ht : (rowOf its n).its.tail = xs := by
   show (its n.id).tail = xs
   rw [HX.out]
   rfl
  rw [List.set_cons_zero, List.map_cons, hm]
  unfold tookR withR
  rw [hh, ht]
  simp [rowOf, ZE]
 rw [hcfg] at hres
 refine ⟨rowOf its n, r.map (rowOf its), fence ρ2 w2, by rw [HHD.out]; rfl, HP.out, fun k hk => ?_, fun k hk => ?_, hres, ?_⟩
 ·rw [Zg ρ2 w2 k (by omega), HL.out k (by simp; omega), Zg ρ w k hk]
 ·rcases Nat.lt_or_ge k w2.heap.size with h2 | h2
  ·have e : fence ρ2 w2 k = ρ2 k := Zg ρ2 w2 k h2
   rcases Nat.eq_or_lt_of_le hk with h | h
   ·subst h
    exact .inl HCR.out
   ·rcases HN.out k (by simp; omega) with h3 | ⟨s, h3⟩
    ·exact .inl (e.trans h3)
    ·exact .inr ⟨s, e.trans h3⟩
  ·exact .inl (by simp [fence, Nat.not_lt.2 h2])
 ·refine (HF2.out.mono (fun k hk => ZaS hpre hk)).trans (S' := fun k => Part (fence ρ2 w2) pre k ∨ k = w.heap.size) ((HF7.out.mono (fun k hk => .inl hk)).trans (HF8.out.mono (S' := fun k => Part (fence ρ2 w2) pre k ∨ k = w.heap.size) (fun k hk => .inr hk)) (fun _ _ h => h)) (fun k hk h => ?_)
  rcases h with h | h
  ·obtain ⟨s, h⟩ := h
   rw [Zg ρ2 w2 k (by omega), HL.out k (by simp; omega), Zg ρ w k hk] at h
   exact ⟨s, h⟩
  ·omega
end
end Go.Proofs.YtdbjihkgafhakaaGreatDoor
/-
 flow.Ring: Push: the walks.
-/
namespace Go.Proofs.YtdbjihkgafhakaaGreatDoor
open Go.RowKit
def Zz (id wt : Int) : Prop := id < 0 ∨ wt < 1 ∨ 16 < wt
instance (id wt : Int) : Decidable (Zz id wt) := by unfold Zz; infer_instance
def pushE (id wt : Int) (x : It) (rows : List FRow) : Int := match atF id rows with
 | some r => if Zz id wt ∨ r.wt ≠ wt then 1 else itE r.its x
 | none => if Zz id wt then 1 else itE [] x
def ZgN (pre : List Int) (ρ : Roles) (w : World) (f : Nat) (q : Int) (gv : Bool) (rows : List FRow) (e : Ending) (w' : World) : Prop :=
 e = .returned (.int .i64 0) ∧ ∃ ρ', Later ρ ρ' w ∧ ZA ρ' pre w.heap.size ∧ RingAt pre ρ' w' f q gv rows ∧ Fp (Part ρ pre) w w'
theorem Fp.mono_on {S S' : Nat → Prop} {w w' : World} (h : Fp S w w') (hs : ∀ k, k < w.heap.size → S k → S' k) : Fp S' w w' := ⟨h.os, h.tape, h.output, h.size, fun k hk hn => h.block k hk (fun hm => hn (hs k hk hm))⟩
section
variable {pre : List Int} {ρ : Roles} {f sp : Nat} {q : Int} {gv : Bool} {v : Value} {ns : List Nd} {qb : Int → Nat} {its : Int → List It} {rows : List FRow}
set_option maxRecDepth 100000 in
set_option maxHeartbeats 2000000 in
theorem ZhV (id wt : Int) (x : It) (w : World) (hR : RingAt pre ρ w f q gv rows) (hx : I64 x.id) (h : pushE id wt x rows ≠ 0) : Calls Tryz.prog 61 #[.pointer (some ⟨f, 0, none⟩), .int .i64 id, .int .i64 wt, .agg #[.int .i64 x.id, .int .i64 x.cost]] w fun e w' => e = .returned (.int .i64 (pushE id wt x rows)) ∧ Below w.heap.size w w' := by
 obtain ⟨sp, v, ns, qb, its, hr, rfl⟩ := hR
 have hb0 : ¬ Zz id wt ↔ (¬ id < 0 ∧ ¬ wt < 1 ∧ ¬ 16 < wt) := by unfold Zz; omega
 have hb1 : Zz id wt ↔ (id < 0 ∨ (¬ id < 0 ∧ wt < 1) ∨ (¬ id < 0 ∧ ¬ wt < 1 ∧ 16 < wt)) := by unfold Zz; omega
 have HB0 := Lib.hid hb0
 have HB1 := Lib.hid hb1
 clear hb0 hb1
 have HR := Lib.hid (hr.below (box_below (o := .cells #[.int .i64 x.id, .int .i64 x.cost] 132)))
 have hfw := Zb hr.head
 have c0 := hr.c0
 have HX := Lib.hid hx
 rcases hr.cases id with ⟨h1, h2⟩ | ⟨k, n, hn, hi, h2⟩
 ·have H1 := Lib.hid h1
  unfold pushE at h ⊢
  rw [h2] at h ⊢
  simp only at h ⊢
  clear hr h1 h2 hx
  by_cases hb : Zz id wt
  ·rw [if_pos hb]
   have HBB := Lib.hid (HB1.out.1 hb)
   clear h hb
   go_enter Tryz.func61, Tryz.ntmps61
   go_wp2_with fail
   refine (Zan (sp := sp) _ HR.out.c0).mono ?_
   rintro e w1 ⟨rfl, rfl⟩
   go_wp2_with fail
   refine (Zcg id _ HR.out H1.out).mono ?_
   rintro e w1 ⟨rfl, hb⟩
   have HB := Lib.hid (Zy hb)
   clear hb c0
   go_upto_region 4 with fail
   rcases HBB.out with h0 | ⟨h0, h1⟩ | ⟨h0, h1, h2⟩
   all_goals
    go_wp2_with fail
    go_ret
    exact ⟨rfl, HB.out⟩
  ·rw [if_neg hb] at h ⊢
   have HE := Lib.hid h
   obtain ⟨h0, h1, h2⟩ := HB0.out.1 hb
   clear h hb
   go_enter Tryz.func61, Tryz.ntmps61
   go_wp2_with fail
   refine (Zan (sp := sp) _ HR.out.c0).mono ?_
   rintro e w1 ⟨rfl, rfl⟩
   go_wp2_with fail
   refine (Zcg id _ HR.out H1.out).mono ?_
   rintro e w1 ⟨rfl, hb⟩
   have HB := Lib.hid (Zy hb)
   have hh1 := (hb.block w.heap.size (by simp)).trans Zf
   have HH1 := Lib.hid hh1
   clear hb c0 hh1
   go_wp2_with fail
   refine (Ze9 _).mono ?_
   rintro e w2 ⟨rfl, hw2⟩
   have HB2 := Lib.hid (show Below w1.heap.size w1 w2 by rw [hw2]; exact box_below.alloc (by simp) _)
   have HQ2 := Lib.hid (show QueAt [0] (Zbg (Zbg (fun _ => []) w1.heap.size ([0] ++ [2])) (w1.heap.size + 1) ([0] ++ [1])) w2 (w1.heap.size + 1) [] by
    rw [hw2]
    exact ZfP w1 (Z1 _ _ _) ((ZY _ (by omega)).trans (Z1 _ _ _)))
   have hh2 := (HB2.out.block _ (Zb HH1.out)).trans HH1.out
   have a0 : w2.cell? ⟨w.heap.size, 0, none⟩ = some (.int .i64 x.id) := Za hh2 rfl
   have a1 : w2.cell? ⟨w.heap.size, 1, none⟩ = some (.int .i64 x.cost) := Za hh2 rfl
   clear hw2 hh2
   go_wp2_with fail
   refine (Zee x _ HQ2.out HX.out HE.out).mono ?_
   rintro e w3 ⟨rfl, hb3⟩
   have HB3 := Lib.hid ((HB.out.trans (HB2.out.mono HB.out.size)).trans (hb3.mono (Nat.le_trans HB.out.size HB2.out.size)))
   have hne : (itE [] x == 0) = false := beq_eq_false_iff_ne.2 HE.out
   clear hb3 a0 a1
   go_wp2_with fail
   go_ret
   exact ⟨rfl, HB3.out⟩
 ·have HN := Lib.hid hn
  have HI := Lib.hid hi
  unfold pushE at h ⊢
  rw [h2] at h ⊢
  simp only at h ⊢
  have hq := hr.que n (List.mem_of_getElem? hn)
  have HQ := Lib.hid hq
  rw [show (rowOf its n).wt = n.wt from rfl, show (rowOf its n).its = its n.id from rfl] at h ⊢
  clear hr h2 hx hq
  by_cases hb : Zz id wt
  ·rw [if_pos (.inl hb)]
   have HBB := Lib.hid (HB1.out.1 hb)
   clear h hb hn hi
   go_enter Tryz.func61, Tryz.ntmps61
   go_wp2_with fail
   refine (Zan (sp := sp) _ HR.out.c0).mono ?_
   rintro e w1 ⟨rfl, rfl⟩
   go_wp2_with fail
   refine (ZaY id k n _ HR.out HN.out HI.out).mono ?_
   rintro e w1 ⟨rfl, hb⟩
   have HB := Lib.hid (Zy hb)
   clear hb c0
   go_upto_region 4 with fail
   rcases HBB.out with h0 | ⟨h0, h1⟩ | ⟨h0, h1, h2⟩
   all_goals
    go_wp2_with fail
    go_ret
    exact ⟨rfl, HB.out⟩
  ·obtain ⟨h0, h1, h2⟩ := HB0.out.1 hb
   by_cases hw : n.wt = wt
   ·rw [if_neg (by rintro (h | h); exact hb h; exact h hw)] at h ⊢
    have HE := Lib.hid h
    have heq : (n.wt != wt) = false := by simp [hw]
    clear h hb hn hi hw
    go_enter Tryz.func61, Tryz.ntmps61
    go_wp2_with fail
    refine (Zan (sp := sp) _ HR.out.c0).mono ?_
    rintro e w1 ⟨rfl, rfl⟩
    go_wp2_with fail
    refine (ZaY id k n _ HR.out HN.out HI.out).mono ?_
    rintro e w1 ⟨rfl, hb⟩
    have HB := Lib.hid (Zy hb)
    have hh1 := (hb.block w.heap.size (by simp)).trans Zf
    have a0 : w1.cell? ⟨w.heap.size, 0, none⟩ = some (.int .i64 x.id) := Za hh1 rfl
    have a1 : w1.cell? ⟨w.heap.size, 1, none⟩ = some (.int .i64 x.cost) := Za hh1 rfl
    have n1 : w1.cell? ⟨n.blk, 1, none⟩ = some (.int .i64 n.wt) := Zc hb (Za (HR.out.spin.node k n HN.out).2 rfl)
    clear hb c0 hh1
    go_wp2_with fail
    refine (Zee x _ (HQ.out.below HB.out) HX.out HE.out).mono ?_
    rintro e w3 ⟨rfl, hb3⟩
    have HB3 := Lib.hid (HB.out.trans (hb3.mono HB.out.size))
    have hne : (itE (its n.id) x == 0) = false := beq_eq_false_iff_ne.2 HE.out
    clear hb3 a0 a1 n1
    go_wp2_with fail
    go_ret
    exact ⟨rfl, HB3.out⟩
   ·rw [if_pos (.inr hw)]
    have heq : (n.wt != wt) = true := by simp [hw]
    clear h hb hn hi hw
    go_enter Tryz.func61, Tryz.ntmps61
    go_wp2_with fail
    refine (Zan (sp := sp) _ HR.out.c0).mono ?_
    rintro e w1 ⟨rfl, rfl⟩
    go_wp2_with fail
    refine (ZaY id k n _ HR.out HN.out HI.out).mono ?_
    rintro e w1 ⟨rfl, hb⟩
    have HB := Lib.hid (Zy hb)
    have n1 : w1.cell? ⟨n.blk, 1, none⟩ = some (.int .i64 n.wt) := Zc hb (Za (HR.out.spin.node k n HN.out).2 rfl)
    clear hb c0
    go_wp2_with fail
    go_ret
    exact ⟨rfl, HB.out⟩
end
end Go.Proofs.YtdbjihkgafhakaaGreatDoor
/-
 flow.Ring: Push that may be: the walks.
-/
namespace Go.Proofs.YtdbjihkgafhakaaGreatDoor
open Go.RowKit
section
variable {pre : List Int} {ρ : Roles} {f sp : Nat} {q : Int} {gv : Bool} {v : Value} {ns : List Nd} {qb : Int → Nat} {its : Int → List It} {rows : List FRow}
theorem Zek {id wt : Int} (h : ¬ Zz id wt) : ¬ id < 0 ∧ ¬ wt < 1 ∧ ¬ 16 < wt := by unfold Zz at h; omega
set_option maxRecDepth 100000 in
set_option maxHeartbeats 2000000 in
theorem ZhW (hpre : pre ≠ []) (k : Nat) (r : FRow) (x : It) (w : World) (hR : RingAt pre ρ w f q gv rows) (hr : rows[k]? = some r) (hx : I64 x.id) (hb : ¬ Zz r.id r.wt) (h0 : itE r.its x = 0) (hf : r.its.length < 1000000) :
 Calls Tryz.prog 61 #[.pointer (some ⟨f, 0, none⟩), .int .i64 r.id, .int .i64 r.wt, .agg #[.int .i64 x.id, .int .i64 x.cost]] w (ZgN pre ρ w f q gv (rows.set k { r with its := r.its ++ [x] })) := by
 obtain ⟨sp, v, ns, qb, its, hr0, rfl⟩ := hR
 obtain ⟨n, hn, rfl⟩ := hr0.rowAt hr
 have HR0 := Lib.hid hr0
 have HR := Lib.hid ((hr0.later (Zg ρ w)).below (box_below (o := .cells #[.int .i64 x.id, .int .i64 x.cost] 132)))
 have HN := Lib.hid hn
 have HX := Lib.hid hx
 have HE := Lib.hid (show itE (its n.id) x = 0 from h0)
 have HF := Lib.hid (show (its n.id).length < 1000000 from hf)
 have c0 := hr0.c0
 have hfw := Zb hr0.head
 obtain ⟨b0, b1, b2⟩ := Zek (show ¬ Zz n.id n.wt from hb)
 have heq : (n.wt != n.wt) = false := by simp
 rw [show (rowOf its n).id = n.id from rfl, show (rowOf its n).wt = n.wt from rfl]
 clear hr0 hn hx h0 hf hb hr
 go_enter Tryz.func61, Tryz.ntmps61
 go_wp2_with fail
 refine (Zan (sp := sp) _ HR.out.c0).mono ?_
 rintro e w1 ⟨rfl, rfl⟩
 go_wp2_with fail
 refine (ZaY n.id k n _ HR.out HN.out rfl).mono ?_
 rintro e w1 ⟨rfl, hb⟩
 have HB := Lib.hid (Zy hb)
 have HR1 := Lib.hid (HR.out.below hb)
 have hh1 := (hb.block w.heap.size (by simp)).trans Zf
 have a0 : w1.cell? ⟨w.heap.size, 0, none⟩ = some (.int .i64 x.id) := Za hh1 rfl
 have a1 : w1.cell? ⟨w.heap.size, 1, none⟩ = some (.int .i64 x.cost) := Za hh1 rfl
 have n1 : w1.cell? ⟨n.blk, 1, none⟩ = some (.int .i64 n.wt) := Zc hb (Za (HR.out.spin.node k n HN.out).2 rfl)
 clear hb c0 hh1
 go_wp2_with fail
 refine (Zfa x _ (HR1.out.que n (List.mem_of_getElem? HN.out)) HX.out HE.out HF.out).mono ?_
 rintro e w3 ⟨rfl, nb, hnb, hnb3, hF3, hQ3⟩
 have HNB := Lib.hid hnb
 have HF3 := Lib.hid hF3
 have HQ3 := Lib.hid hQ3
 clear hnb hnb3 hF3 hQ3 a0 a1 n1
 go_wp2_with fail
 go_ret
 have hz := HB.out.size
 have hl : Later (fence ρ w) (Zbg (fence ρ w) nb (pre ++ [5, n.id] ++ [3, x.id])) w1 := Zed HNB.out
 have hR2 := HR1.out.later hl
 have hon := hR2.spin.once
 have hP := (hR2.pre'.que_turn (n := n) (HF3.out.mono_on (fun k hk ⟨s, hs⟩ => ⟨s, (hl k hk).trans hs⟩)) (HQ3.out _ hl (Z1 _ _ _))).full (fun m hm => by
  by_cases e : m.id = n.id
  ·rw [e, ZE]
   simp
  ·rw [Zx _ e]
   exact HR1.out.full m hm)
 refine ⟨rfl, _, fun k hk => ?_, fun k hk => ?_, ⟨sp, v, ns, qb, _, hP, ?_⟩, ?_⟩
 ·rw [hl k (by omega), Zg ρ w k hk]
 ·by_cases e : k = nb
  ·subst e
   exact .inr ⟨[5, n.id] ++ [3, x.id], by rw [Z1, List.append_assoc]⟩
  ·rw [ZY _ e]
   exact .inl (by simp [fence, Nat.not_lt.2 hk])
 ·rw [ZmT hon HN.out]
  rfl
 ·exact (Fp.of_below HB.out).trans ((Zdq HF3.out).mono (fun k hk => ZaS hpre hk)) (fun _ _ h => h)
theorem RAt.other {w w' : World} {id : Int} (h : RAt pre ρ w f sp q gv v ns qb its) (hnew : ∀ m ∈ ns, m.id ≠ id) (hF : Fp (Part ρ (pre ++ [5, id])) w w') : RAt pre ρ w' f sp q gv v ns qb its := by
 refine ⟨hF.heap h.head (fun hp => ?_), h.rf, h.spin.frame hF (fun k _ hs hp => Z2 hs (Z7 hp)), h.src, fun m hm => (h.que m hm).frame hF (fun k _ h1 h2 => ?_), h.full, h.q1, h.q2, h.good, h.idok⟩
 ·obtain ⟨s, hs⟩ := Z7 hp
  rw [h.rf] at hs
  simp at hs
 ·obtain ⟨s, hs⟩ := h1
  obtain ⟨t, ht⟩ := h2
  rw [hs] at ht
  simp at ht
  exact hnew m hm ht.1
theorem ZdH {gv : Bool} {ns : List Nd} {m : Nd} (h : NdsOk gv ns) (hm : NdOk 0 m) : NdsOk gv (ns ++ [m]) := by
 cases ns with
 | nil => exact ⟨hm.mono (by split <;> omega), fun y hy => by cases hy⟩
 | cons n r =>
   refine ⟨h.1, fun y hy => ?_⟩
   rcases List.mem_append.1 hy with hy | hy
   ·exact h.2 y hy
   ·rw [List.mem_singleton] at hy
    subst hy
    exact hm.mono (by omega)
theorem Zja {w w' : World} {id wt : Int} {l : List It} {qn : Nat} {ρ' : Roles} {v' : Value} (h : RAt pre ρ w f sp q gv v ns qb its) (hnew : ∀ m ∈ ns, m.id ≠ id) (hQ : QueAt (pre ++ [5, id]) ρ w qn l) (hl : l ≠ []) (hid : 0 ≤ id ∧ I64 id) (hw1 : 1 ≤ wt) (hw : wt ≤ 16)
 (hF : Fp (Zs ρ pre) w w') (hL : Later ρ ρ' w) (hS : SpinAt pre ρ' w' sp q gv v' (ns ++ [⟨id, wt, 0, w.heap.size, srcV qn⟩])) :
 RingAt pre ρ' w' f q gv (ns.map (rowOf its) ++ [⟨id, wt, 0, l⟩]) := by
 have h' := h.later hL
 have hF' : Fp (Zs ρ' pre) w w' := hF.mono_on (fun k hk hs => by
  unfold Zs at hs ⊢
  rw [hL k hk]
  exact hs)
 refine ⟨sp, v', _, upd qb id qn, upd its id l, ⟨hF'.heap h'.head (fun hs => ?_), h'.rf, hS, fun m hm => ?_, fun m hm => ?_, fun m hm => ?_, h.q1, h.q2, ZdH h.good ⟨hw1, hw, Int.le_refl _, Int.le_refl _⟩, fun m hm => ?_⟩, ?_⟩
 ·have h1 := h'.rf
  rcases hs with h2 | h2 | ⟨_, h2⟩ <;> rw [h1] at h2 <;> simp at h2
 ·rcases List.mem_append.1 hm with hm | hm
  ·rw [Zx _ (hnew m hm)]
   exact h.src m hm
  ·rw [List.mem_singleton] at hm
   subst hm
   rw [ZE]
 ·rcases List.mem_append.1 hm with hm | hm
  ·rw [Zx _ (hnew m hm), Zx _ (hnew m hm)]
   exact (h'.que m hm).frame hF' (fun k _ hp hs => Z2 hs (Z7 hp))
  ·rw [List.mem_singleton] at hm
   subst hm
   rw [ZE, ZE]
   exact (hQ.later hL).frame hF' (fun k _ hp hs => Z2 hs (Z7 hp))
 ·rcases List.mem_append.1 hm with hm | hm
  ·rw [Zx _ (hnew m hm)]
   exact h.full m hm
  ·rw [List.mem_singleton] at hm
   subst hm
   rw [ZE]
   exact hl
 ·rcases List.mem_append.1 hm with hm | hm
  ·exact h.idok m hm
  ·rw [List.mem_singleton] at hm
   subst hm
   exact hid
 ·rw [List.map_append]
  congr 1
  ·exact List.map_congr_left (fun m hm => by
    unfold rowOf
    rw [Zx _ (hnew m hm)])
  ·simp [rowOf, ZE]
set_option maxRecDepth 100000 in
set_option maxHeartbeats 2000000 in
theorem ZhX (_hpre : pre ≠ []) (id wt : Int) (x : It) (w : World) (hR : RingAt pre ρ w f q gv rows) (hn : atF id rows = none) (hid : I64 id) (hx : I64 x.id) (hb : ¬ Zz id wt) (h0 : itE [] x = 0) (hf : rows.length < 1000000) :
 Calls Tryz.prog 61 #[.pointer (some ⟨f, 0, none⟩), .int .i64 id, .int .i64 wt, .agg #[.int .i64 x.id, .int .i64 x.cost]] w (ZgN pre ρ w f q gv (rows ++ [⟨id, wt, 0, [x]⟩])) := by
 obtain ⟨sp, v, ns, qb, its, hr0, rfl⟩ := hR
 have h1 : ∀ n ∈ ns, n.id ≠ id := by
  rcases hr0.cases id with ⟨h1, -⟩ | ⟨k, n, _, _, h2⟩
  ·exact h1
  ·rw [h2] at hn
   cases hn
 have HR0 := Lib.hid hr0
 have HR := Lib.hid ((hr0.later (Zg ρ w)).below (box_below (o := .cells #[.int .i64 x.id, .int .i64 x.cost] 132)))
 have H1 := Lib.hid h1
 have HX := Lib.hid hx
 have HI := Lib.hid hid
 have HE := Lib.hid h0
 have HF := Lib.hid (show ns.length < 1000000 by rw [List.length_map] at hf; exact hf)
 have c0 := hr0.c0
 have hfw := Zb hr0.head
 obtain ⟨b0, b1, b2⟩ := Zek hb
 clear hr0 hn hx h0 hf hb h1 hid
 go_enter Tryz.func61, Tryz.ntmps61
 go_wp2_with fail
 refine (Zan (sp := sp) _ HR.out.c0).mono ?_
 rintro e w1 ⟨rfl, rfl⟩
 go_wp2_with fail
 refine (Zcg id _ HR.out H1.out).mono ?_
 rintro e w1 ⟨rfl, hb⟩
 have HB := Lib.hid (Zy hb)
 have HR1 := Lib.hid (HR.out.below hb)
 have HH1 := Lib.hid ((hb.block w.heap.size (by simp)).trans Zf)
 clear hb c0
 go_wp2_with fail
 refine (Ze9 _).mono ?_
 rintro e w2 ⟨rfl, hw2⟩
 have hz2 : w2.heap.size = w1.heap.size + 2 := by rw [hw2]; simp
 have HZ2 := Lib.hid hz2
 have HB2 := Lib.hid (show Below w1.heap.size w1 w2 by rw [hw2]; exact box_below.alloc (by simp) _)
 obtain ⟨ρ1, hρ1⟩ : ∃ ρ1, ρ1 = Zbg (Zbg (fence ρ w) w1.heap.size (pre ++ [5, id] ++ [2])) (w1.heap.size + 1) (pre ++ [5, id] ++ [1]) := ⟨_, rfl⟩
 have HQ2 := Lib.hid (show QueAt (pre ++ [5, id]) ρ1 w2 (w1.heap.size + 1) [] by
  rw [hw2, hρ1]
  exact ZfP w1 (Z1 _ _ _) ((ZY _ (by omega)).trans (Z1 _ _ _)))
 have HL1 := Lib.hid (show Later (fence ρ w) ρ1 w1 by
  rw [hρ1]
  intro k hk
  rw [ZY _ (by omega), ZY _ (by omega)])
 have HRO1 := Lib.hid hρ1
 have hh2 := (HB2.out.block _ (Zb HH1.out)).trans HH1.out
 have a0 : w2.cell? ⟨w.heap.size, 0, none⟩ = some (.int .i64 x.id) := Za hh2 rfl
 have a1 : w2.cell? ⟨w.heap.size, 1, none⟩ = some (.int .i64 x.cost) := Za hh2 rfl
 have HR2 := Lib.hid ((HR1.out.later HL1.out).below HB2.out)
 clear hw2 hh2 hz2 hρ1
 go_wp2_with fail
 refine (Zfa x _ HQ2.out HX.out HE.out (by simp)).mono ?_
 rintro e w3 ⟨rfl, nb, hnb, hnb3, hF3, hQ3⟩
 obtain ⟨ρ2, hρ2⟩ : ∃ ρ2, ρ2 = Zbg ρ1 nb (pre ++ [5, id] ++ [3, x.id]) := ⟨_, rfl⟩
 have hl2 : Later ρ1 ρ2 w2 := by rw [hρ2]; exact Zed hnb
 have HQ3 := Lib.hid (hQ3 ρ2 hl2 (by rw [hρ2]; exact Z1 _ _ _))
 have HR3 := Lib.hid ((HR2.out.later hl2).other H1.out (hF3.mono_on (fun k hk ⟨s, hs⟩ => ⟨s, (hl2 k hk).trans hs⟩)))
 have HF3 := Lib.hid hF3
 have HNB := Lib.hid hnb
 have HNB3 := Lib.hid hnb3
 have HL2 := Lib.hid hl2
 have HRO2 := Lib.hid hρ2
 have c0 := HR3.out.c0
 clear hnb hnb3 hF3 hQ3 a0 a1 hl2 hρ2
 go_wp2_with fail
 refine (ZcO id wt 171 (.agg #[.pointer (some ⟨w1.heap.size + 1, 0, none⟩)]) _ HR3.out.spin H1.out HF.out).mono ?_
 rintro e w4 ⟨rfl, hF4, hz4, v', hv', hS4⟩
 have HF4 := Lib.hid hF4
 have HV4 := Lib.hid hv'
 have HS4 := Lib.hid hS4
 clear hF4 hv' hS4 c0
 go_wp2_with fail
 go_ret
 have hz := HB.out.size
 have hz2 := HZ2.out
 have hz3 := HF3.out.size
 obtain ⟨ρ3, hρ3⟩ : ∃ ρ3 : Roles, ρ3 = fun k => if k < w3.heap.size then ρ2 k else if k = w3.heap.size then pre ++ [4, id] else if v'.ownBlock = some k then pre ++ [3] else [] := ⟨_, rfl⟩
 have hl3 : Later ρ2 ρ3 w3 := fun k hk => by rw [hρ3]; simp [hk]
 have hres := Zja HR3.out H1.out HQ3.out (by simp) ⟨b0, HI.out⟩ b1 b2 HF4.out hl3 (HS4.out ρ3 hl3 (by rw [hρ3]; simp) (fun k hk hk2 => by
  rw [hρ3]
  have h1 := (HV4.out k hk).1
  simp only [if_neg (Nat.not_lt.2 hk2), if_neg h1, hk, if_true]))
 refine ⟨rfl, ρ3, fun k hk => ?_, fun k hk => ?_, hres, ?_⟩
 ·rw [hl3 k (by omega), HL2.out k (by omega), HL1.out k (by omega), Zg ρ w k hk]
 ·rcases Nat.lt_or_ge k w3.heap.size with h3 | h3
  ·have e3 := hl3 k h3
   have e2 : ρ2 k = [] ∨ Part ρ2 pre k := by
    rw [HRO2.out]
    by_cases e : k = nb
    ·subst e
     exact .inr ⟨[5, id] ++ [3, x.id], by rw [Z1, List.append_assoc]⟩
    ·unfold Part
     rw [ZY _ e, HRO1.out]
     by_cases e : k = w1.heap.size + 1
     ·subst e
      exact .inr ⟨[5, id] ++ [1], by rw [Z1, List.append_assoc]⟩
     ·rw [ZY _ e]
      by_cases e : k = w1.heap.size
      ·subst e
       exact .inr ⟨[5, id] ++ [2], by rw [Z1, List.append_assoc]⟩
      ·rw [ZY _ e]
       exact .inl (by simp [fence, Nat.not_lt.2 hk])
   rcases e2 with h | ⟨s, h⟩
   ·exact .inl (e3.trans h)
   ·exact .inr ⟨s, e3.trans h⟩
  ·rw [hρ3]
   unfold Part
   simp only [if_neg (Nat.not_lt.2 h3)]
   split
   ·exact .inr ⟨_, rfl⟩
   ·split
    ·exact .inr ⟨_, rfl⟩
    ·exact .inl rfl
 ·refine (Fp.of_below (S := Part ρ pre) (HB.out.trans (HB2.out.mono HB.out.size))).trans (S' := Part ρ2 pre) (((Zdq HF3.out).mono_on (fun k hk ⟨s, hs⟩ => ⟨s, (HL2.out k hk).trans hs⟩)).trans (HF4.out.mono (S' := Part ρ2 pre) (fun k hk => ZU hk)) (fun _ _ h => h)) (fun k hk ⟨s, hs⟩ => ⟨s, ?_⟩)
  rw [HL2.out k (by omega), HL1.out k (by omega), Zg ρ w k hk] at hs
  exact hs
end
end Go.Proofs.YtdbjihkgafhakaaGreatDoor
/-
 flow.Ring: Rows: the walk.
-/
namespace Go.Proofs.YtdbjihkgafhakaaGreatDoor
open Go.RowKit
def encRV (p : FRow × Value) : List Value := [.int .i64 p.1.id, .int .i64 p.1.wt, .int .i64 p.1.df, p.2]
theorem Zct (p : FRow × Value) : (encRV p).length = 4 := rfl
def Zt (l : List (FRow × Value)) : List Value := l.flatMap encRV
theorem Zf0 (l : List (FRow × Value)) : (Zt l).length = l.length * 4 := Zbc encRV 4 Zct l
theorem ZaD (l : List (FRow × Value)) (p : FRow × Value) : Zt (l ++ [p]) = Zt l ++ encRV p := by simp [Zt]
theorem ZgO : (Tryz.prog.info? 143).map (fun i => (i.zero, i.size, i.bytes)) = some (some (.agg #[.int .i64 0, .int .i64 0, .int .i64 0, .slice none 0 0]), 4, 48) := by kernel_rfl
structure RowsIn (T : TypeId) (w : World) (base : Nat) (v : Value) (l : List (FRow × Value)) : Prop where
 own : w.ownsRow base T 4 v l.length (Zt l)
 its : ∀ p ∈ l, w.ownsRow base 132 2 p.2 p.1.its.length (flatI p.1.its)
def ZmU (T : TypeId) (rows : List FRow) (w : World) (e : Ending) (w' : World) : Prop := ∃ v l, e = .returned v ∧ RowsIn T w' w.heap.size v l ∧ l.map Prod.fst = rows ∧ Below w.heap.size w w'
theorem RowsIn.below {T : TypeId} {w w' : World} {base : Nat} {v : Value} {l : List (FRow × Value)} (h : RowsIn T w base v l) (hb : Below w.heap.size w w') : RowsIn T w' base v l := ⟨Zk h.own hb, fun p hp => Zk (h.its p hp) hb⟩
def RRel (rows : List FRow) (w : World) (g : Nat) (i ov : Value) (wr : World) : Prop :=
 ∃ (k : Nat) (l : List (FRow × Value)), g = rows.length - k ∧ i = .int .i64 k ∧ k ≤ rows.length ∧ l.map Prod.fst = rows.take k ∧ RowsIn 143 wr w.heap.size ov l ∧ Below w.heap.size w wr
section
variable {pre : List Int} {ρ : Roles} {f sp : Nat} {q : Int} {gv : Bool} {v : Value} {ns : List Nd} {qb : Int → Nat} {its : Int → List It} {rows : List FRow}
set_option maxRecDepth 100000 in
set_option maxHeartbeats 2000000 in
theorem ZcP (w : World) (hR : RingAt pre ρ w f q gv rows) : Calls Tryz.prog 90 #[.pointer (some ⟨f, 0, none⟩)] w (ZmU 143 rows w) := by
 obtain ⟨sp, v, ns, qb, its, hr, rfl⟩ := hR
 have HR := Lib.hid hr
 have c0 := hr.c0
 obtain ⟨a, cap, hv, -⟩ := hr.spin.form
 have c1 : w.cell? ⟨sp, 1, none⟩ = some (.slice a ns.length cap) := by rw [← hv]; exact hr.spin.c1
 have HV := Lib.hid hv
 have HF := Lib.hid hr.spin.few
 clear hr hv
 go_enter Tryz.func90, Tryz.ntmps90
 go_wp2_with fail
 refine (Zan (sp := sp) _ HR.out.c0).mono ?_
 rintro e w1 ⟨rfl, rfl⟩
 go_wp2_with fail
 go_loopg [19, 3] ns.length (fun g i ov wr => RRel (ns.map (rowOf its)) w g i ov wr)
 case atStart => exact ⟨0, [], by simp, rfl, Nat.zero_le _, rfl, ⟨Za4 _ _ _ _, fun p hp => by cases hp⟩, Below.refl _ _⟩
 case round =>
  obtain ⟨k, l, hg, rfl, hk, hm, hown, hb⟩ := hrel
  rw [List.length_map] at hk hg
  have HG := Lib.hid hg
  have HM := Lib.hid hm
  have HO := Lib.hid hown
  have HB := Lib.hid hb
  clear hg hm hown hb c0 c1
  by_cases hlt : k < ns.length
  ·obtain ⟨n, hn⟩ : ∃ n, ns[k]? = some n := ⟨_, List.getElem?_eq_getElem hlt⟩
   obtain ⟨g, off, cap', hv, hc⟩ := HR.out.spin.at hn
   obtain ⟨rfl, rfl⟩ : a = some ⟨g, off, none⟩ ∧ cap = cap' := by rw [HV.out] at hv; cases hv; exact ⟨rfl, rfl⟩
   have d0 := Zc HB.out hc
   have hnc := HB.out.block _ (Zb (HR.out.spin.node k n hn).2) |>.trans (HR.out.spin.node k n hn).2
   have HNC := Lib.hid hnc
   have n0 : wr.cell? ⟨n.blk, 0, none⟩ = some (.int .i64 n.id) := Za hnc rfl
   have HN := Lib.hid hn
   have hfew := HF.out
   clear hn hv hc hnc
   go_wp2_with fail
   refine (ZaY n.id k n _ (HR.out.below HB.out) HN.out rfl).mono ?_
   rintro e w1 ⟨rfl, hb1⟩
   have HB1 := Lib.hid (HB.out.trans (hb1.mono HB.out.size))
   have HO1 := Lib.hid (HO.out.below hb1)
   have HNC1 := Lib.hid ((hb1.block _ (Zb HNC.out)).trans HNC.out)
   clear hb1 n0 d0
   go_upto_region 8 with fail
   have HQ1 := Lib.hid ((HR.out.que n (List.mem_of_getElem? HN.out)).below HB1.out)
   have n0 : w1.cell? ⟨n.blk, 0, none⟩ = some (.int .i64 n.id) := Za HNC1.out rfl
   have n1 : w1.cell? ⟨n.blk, 1, none⟩ = some (.int .i64 n.wt) := Za HNC1.out rfl
   have n2 : w1.cell? ⟨n.blk, 2, none⟩ = some (.int .i64 n.df) := Za HNC1.out rfl
   obtain ⟨i0, hi0, hz0, hz1, hz2⟩ := info_parts ZgO
   have hll : l.length = k := by
    have h := congrArg List.length HM.out
    rw [List.length_map, List.length_take, List.length_map] at h
    omega
   have hbd : Below w1.heap.size w1 w1.drew := ⟨rfl, rfl, rfl, Nat.le_refl _, fun _ _ => rfl⟩
   have hwz := HB1.out.size
   have hfar : n.blk < w.heap.size := Zb (HR.out.spin.node k n HN.out).2
   go_region_held3 (fun w' => w'.cell? ⟨n.blk, 0, none⟩ = some (.int .i64 n.id) ∧ w'.cell? ⟨n.blk, 1, none⟩ = some (.int .i64 n.wt) ∧ w'.cell? ⟨n.blk, 2, none⟩ = some (.int .i64 n.df))
    (first
      | go_keep
      | exact ⟨Zc (w := w1.drew) hb5 n0, Zc (w := w1.drew) hb5 n1, Zc (w := w1.drew) hb5 n2⟩
      | exact ⟨(hb9.cell (p := ⟨n.blk, 0, none⟩) hfar).trans n0, (hb9.cell (p := ⟨n.blk, 1, none⟩) hfar).trans n1, (hb9.cell (p := ⟨n.blk, 2, none⟩) hfar).trans n2⟩)
    (first
      | (go_at_call 114; refine (ZiW (pre := pre ++ [5, n.id]) (ρ := ρ) (l := its n.id) _ (HQ1.out.below hbd)).mono ?_; rintro e w5 ⟨vi, rfl, hown5, hb5⟩; obtain ⟨ai, ci, hvi, -⟩ := ZC hown5; subst hvi; (have hs5 : w1.heap.size ≤ w5.heap.size := hb5.size))
      | (refine step_append_lies _ (by rfl) _ _ _ (by rfl) w.heap.size 143 i0 _ 4 48 Tryz.underlying138 hi0 hz0 hz1 hz2 rfl (by omega) u3 l.length (Zt l) (by rfl) ((Zk HO1.out.own (hbd.trans hb5)).alloc _)
          ⟨w5.heap.size, 0, none⟩ 1 1 (encRV (rowOf its n, .slice ai (its n.id).length ci)) (by rfl) (by rfl) (World.news_of_block (cs := #[.int .i64 n.id, .int .i64 n.wt, .int .i64 n.df, .slice ai (its n.id).length ci]) (t := 143) (fr := (0, 0)) (heap_alloc_new w5 _)) (by simp [Value.oneCell', encRV]) (by omega) (by unfold maxLen; omega) (by omega) (by simp; omega) (w5.heap.size + 1) (by simp) ?_; intro gg gcap w9 hown9 hgrow hat hlt9; (have hb9 : Below w.heap.size w1 w9 := (((hbd.trans hb5).mono hwz).alloc (by omega) _).grown hgrow (by simp; omega) (fun j hj => Zl HO1.out.own j hj))))
   have hr9 := (show RowsIn 143 w9 w.heap.size (.slice (some ⟨gg, 0, none⟩) (l.length + 1) gcap) (l ++ [(rowOf its n, .slice ai (its n.id).length ci)]) from ⟨by rw [List.length_append, ZaD]; exact hown9, fun p hp => by
    have hkp : ∀ {vv : Value} {m : Nat} {xs : List Value}, w5.ownsRow w.heap.size 132 2 vv m xs → w9.ownsRow w.heap.size 132 2 vv m xs := fun h => World.ownsRow.kept (h.alloc _) hgrow (ZG h (Zk HO1.out.own (hbd.trans hb5)) (by decide))
    rcases List.mem_append.1 hp with hp | hp
    ·exact hkp (Zk (HO1.out.its p hp) (hbd.trans hb5))
    ·rw [List.mem_singleton] at hp
     subst hp
     exact hkp (Zap hown5 hwz)⟩)
   rw [hll] at hr9
   have HR9 := Lib.hid hr9
   have HB9 := Lib.hid (HB1.out.trans hb9)
   clear hr9
   clear hown9 hgrow hat hlt9 hown5 hb5 hb9 hbd n0 n1 n2 hi0 hz0 hz1 hz2 hs5 hwz hfar hfew
   go_wp2_with fail
   go_roundg (ns.length - (k + 1))
   case rel =>
    have hf := HF.out
    refine ⟨k + 1, _, by rw [List.length_map], by rw [show wrap64 ((k : Int) + 1) = ((k + 1 : Nat) : Int) by unfold wrap64; omega], by rw [List.length_map]; omega, ?_, HR9.out, HB9.out⟩
    rw [List.map_append, HM.out, List.take_succ_eq_append_getElem (by rw [List.length_map]; exact hlt)]
    congr 1
    have h := HN.out
    rw [List.getElem?_eq_getElem hlt] at h
    simp at h
    simp [h]
   case measure => have := HG.out; omega
  ·have hk2 : ns.length = k := by omega
   have HK := Lib.hid hk2
   clear hk2
   go_wp2_with fail
   go_ret
   refine ⟨_, l, rfl, HO.out, ?_, HB.out⟩
   rw [HM.out, List.take_of_length_le (by rw [List.length_map]; have := HK.out; omega)]
end
end Go.Proofs.YtdbjihkgafhakaaGreatDoor
/-
 flow.Ring: Push in one law; going round as a function.
-/
namespace Go.Proofs.YtdbjihkgafhakaaGreatDoor
open Go.RowKit
def findF (id : Int) (rows : List FRow) : Option Nat := rows.findIdx? (fun r => r.id == id)
def pushR (id wt : Int) (x : It) (rows : List FRow) : List FRow := match findF id rows with
 | some k => rows.modify k (fun r => { r with its := r.its ++ [x] })
 | none => rows ++ [⟨id, wt, 0, [x]⟩]
def ZQ (id wt : Int) (x : It) (rows : List FRow) : List FRow := if pushE id wt x rows = 0 then pushR id wt x rows else rows
theorem ZeN {id : Int} : ∀ {rows : List FRow}, (findF id rows = none ∧ atF id rows = none) ∨ ∃ k r, findF id rows = some k ∧ rows[k]? = some r ∧ r.id = id ∧ atF id rows = some r
 | [] => .inl ⟨rfl, rfl⟩
 | x :: l => by
   by_cases hx : x.id = id
   ·exact .inr ⟨0, x, by simp [findF, List.findIdx?_cons, hx], rfl, hx, by simp [atF, hx]⟩
   ·have h1 : findF id (x :: l) = (findF id l).map (· + 1) := by simp [findF, List.findIdx?_cons, hx]
    have h2 : atF id (x :: l) = atF id l := by simp [atF, hx]
    rw [h1, h2]
    rcases ZeN (id := id) (rows := l) with ⟨h3, h4⟩ | ⟨k, r, h3, h4, h5, h6⟩
    ·exact .inl ⟨by rw [h3]; rfl, h4⟩
    ·exact .inr ⟨k + 1, r, by rw [h3]; rfl, by simpa using h4, h5, h6⟩
theorem ZcE {α : Type} {g : α → α} : ∀ {l : List α} {k : Nat} {x : α}, l[k]? = some x → l.modify k g = l.set k (g x)
 | [], _, _, h => by simp at h
 | y :: r, 0, x, h => by
   simp at h
   subst h
   simp
 | y :: r, k + 1, x, h => by
   have := ZcE (g := g) (l := r) (k := k) (x := x) (by simpa using h)
   simp [this]
theorem Zkj {id wt : Int} {x : It} {rows : List FRow} (h : pushE id wt x rows = 0) : ¬ Zz id wt ∧ ((findF id rows = none ∧ atF id rows = none ∧ itE [] x = 0) ∨ ∃ k r, findF id rows = some k ∧ rows[k]? = some r ∧ r.id = id ∧ r.wt = wt ∧ itE r.its x = 0) := by
 unfold pushE at h
 rcases ZeN (id := id) (rows := rows) with ⟨h1, h2⟩ | ⟨k, r, h1, h2, h3, h4⟩
 ·rw [h2] at h
  simp only at h
  split at h
  ·cases h
  ·rename_i hb
   exact ⟨hb, .inl ⟨h1, h2, h⟩⟩
 ·rw [h4] at h
  simp only at h
  split at h
  ·cases h
  ·rename_i hb
   refine ⟨fun hb' => hb (.inl hb'), .inr ⟨k, r, h1, h2, h3, ?_, h⟩⟩
   by_cases hw : r.wt = wt
   ·exact hw
   ·exact absurd (.inr hw) hb
def totR (rows : List FRow) : Nat := (rows.map (fun r => r.its.length)).sum
theorem ZeO : ∀ {rows : List FRow} {r : FRow}, r ∈ rows → r.its.length ≤ totR rows
 | [], _, h => by cases h
 | x :: l, r, h => by
   rcases List.mem_cons.1 h with rfl | h
   ·simp [totR]
   ·have := ZeO h
    simp [totR] at this ⊢
    omega
theorem Zdr : ∀ {rows : List FRow}, (∀ r ∈ rows, r.its ≠ []) → rows.length ≤ totR rows
 | [], _ => by simp
 | x :: l, h => by
   have h1 := Zdr (rows := l) (fun r hr => h r (List.mem_cons_of_mem _ hr))
   have h2 := List.length_pos_iff.2 (h x List.mem_cons_self)
   simp [totR] at h1 ⊢
   omega
section
variable {pre : List Int} {ρ : Roles} {f sp : Nat} {q : Int} {gv : Bool} {rows : List FRow}
theorem RingAt.full {w : World} (h : RingAt pre ρ w f q gv rows) : ∀ r ∈ rows, r.its ≠ [] := by
 obtain ⟨sp, v, ns, qb, its, h, rfl⟩ := h
 intro r hr
 obtain ⟨n, hn, rfl⟩ := List.mem_map.1 hr
 exact h.full n hn
def RPushPost' (pre : List Int) (ρ : Roles) (w : World) (f : Nat) (q : Int) (gv : Bool) (rows : List FRow) (id wt : Int) (x : It) (e : Ending) (w' : World) : Prop :=
 e = .returned (.int .i64 (pushE id wt x rows)) ∧ ∃ ρ', Later ρ ρ' w ∧ ZA ρ' pre w.heap.size ∧ RingAt pre ρ' w' f q gv (ZQ id wt x rows) ∧ Fp (Part ρ pre) w w'
theorem ZcQ (hpre : pre ≠ []) (id wt : Int) (x : It) (w : World) (hR : RingAt pre ρ w f q gv rows) (hid : I64 id) (hx : I64 x.id) (hf : totR rows < 1000000) :
 Calls Tryz.prog 61 #[.pointer (some ⟨f, 0, none⟩), .int .i64 id, .int .i64 wt, .agg #[.int .i64 x.id, .int .i64 x.cost]] w (RPushPost' pre ρ w f q gv rows id wt x) := by
 by_cases h : pushE id wt x rows = 0
 ·unfold RPushPost' ZQ
  rw [h, if_pos rfl]
  obtain ⟨hb, ⟨h1, h2, h3⟩ | ⟨k, r, h1, h2, h3, h4, h5⟩⟩ := Zkj h
  ·unfold pushR
   rw [h1]
   exact ZhX hpre id wt x w hR h2 hid hx hb h3 (Nat.lt_of_le_of_lt (Zdr hR.full) hf)
  ·unfold pushR
   rw [h1]
   simp only
   rw [ZcE h2]
   subst h3 h4
   exact ZhW hpre k r x w hR h2 hx hb h5 (Nat.lt_of_le_of_lt (ZeO (List.mem_of_getElem? h2)) hf)
 ·unfold RPushPost' ZQ
  rw [if_neg h]
  refine (ZhV id wt x w hR hx h).mono ?_
  rintro e w' ⟨rfl, hb⟩
  exact ⟨rfl, fence ρ w, Zg ρ w, fun k hk => .inl (by simp [fence, Nat.not_lt.2 hk]), (hR.later (Zg ρ w)).below hb, Fp.of_below hb⟩
end
def goR (q : Int) : Nat → Bool → List FRow → List FRow
 | 0, _, l => l
 | _, _, [] => []
 | n + 1, gv, x :: r => if headC x.its ≤ (ZF q gv x).df then ZF q gv x :: r else goR q n false (r ++ [ZF q gv x])
def ends (q : Int) : Nat → Bool → List FRow → Bool
 | 0, _, _ => false
 | _, _, [] => false
 | n + 1, gv, x :: r => decide (headC x.its ≤ (ZF q gv x).df) || ends q n false (r ++ [ZF q gv x])
theorem ZgP {q : Int} : ∀ {n : Nat} {gv : Bool} {l : List FRow}, ends q n gv l = true → PicksR q gv l (goR q n gv l)
 | 0, _, _, h => by simp [ends] at h
 | n + 1, _, [], h => by simp [ends] at h
 | n + 1, gv, x :: r, h => by
   unfold ends at h
   unfold goR
   by_cases hc : headC x.its ≤ (ZF q gv x).df
   ·rw [if_pos hc]
    exact .grant hc
   ·rw [if_neg hc]
    simp [hc] at h
    exact .rotate hc (ZgP h)
end Go.Proofs.YtdbjihkgafhakaaGreatDoor
