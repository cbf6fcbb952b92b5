/-
  flow.Ring: rows in plain words; how a ring of flows lies in memory; its source: the walk.
-/
import Derived.Test.YtohkchilogmneaaSpin9
namespace Go.Proofs.Ytohkchilogmneaa
open Go.RowKit

structure FRow where
  id : Int
  wt : Int
  df : Int
  its : List It
def headC (l : List It) : Int := (l.headD ⟨0, 0⟩).cost
def chargeR (q : Int) (gv : Bool) (r : FRow) : FRow := if gv then r else { r with df := r.df + q * r.wt }
/-- From (gv, rows) the pick ends at these rows (given). -/
inductive PicksR (q : Int) : Bool → List FRow → List FRow → Prop
  | grant {gv : Bool} {x : FRow} {r : List FRow} (h : headC x.its ≤ (chargeR q gv x).df) : PicksR q gv (x :: r) (chargeR q gv x :: r)
  | rotate {gv : Bool} {x : FRow} {r l2 : List FRow} (h : ¬ headC x.its ≤ (chargeR q gv x).df) (hr : PicksR q false (r ++ [chargeR q gv x]) l2) : PicksR q gv (x :: r) l2
theorem PicksR.once {q : Int} {gv : Bool} {l l2 l3 : List FRow} (h : PicksR q gv l l2) (h' : PicksR q gv l l3) : l2 = l3 := by
  induction h with
  | grant h =>
    cases h' with
    | grant => rfl
    | rotate h1 => exact absurd h1 (fun h1 => h1 h)
  | rotate h _ ih =>
    cases h' with
    | grant h1 => exact absurd h1 h
    | rotate _ h2 => exact ih h2
def rowOf (its : Int → List It) (n : Nd) : FRow := ⟨n.id, n.wt, n.df, its n.id⟩
theorem rowOf_charge (its : Int → List It) (q : Int) (gv : Bool) (n : Nd) : rowOf its (charge q gv n) = chargeR q gv (rowOf its n) := by
  cases gv <;> rfl
def flowPk (its : Int → List It) (_ : Unit) (id : Int) : Unit × It := ((), (its id).headD ⟨0, 0⟩)
theorem picks_rows {its : Int → List It} {q : Int} {gv : Bool} {ns ns2 : List Nd} {a a2 : Unit} {y : It} (h : Picks q (flowPk its) gv ns a ns2 a2 y) :
    PicksR q gv (ns.map (rowOf its)) (ns2.map (rowOf its)) ∧ (∀ n r, ns2 = n :: r → y = (its n.id).headD ⟨0, 0⟩) ∧ ∀ P : Int → Value → Prop, (∀ n ∈ ns, P n.id n.src) → ∀ n ∈ ns2, P n.id n.src := by
  induction h with
  | @grant gv n r a h =>
    refine ⟨?_, fun n' r' e => ?_, fun P hP m hm => ?_⟩
    · rw [List.map_cons, List.map_cons, rowOf_charge]
      refine .grant ?_
      rw [← rowOf_charge]
      exact h
    · cases e
      rw [(charge_id q gv n).1]
      rfl
    · rcases List.mem_cons.1 hm with rfl | hm
      · rw [(charge_id q gv n).1, (charge_id q gv n).2.2.1]
        exact hP n List.mem_cons_self
      · exact hP m (List.mem_cons_of_mem _ hm)
  | @rotate gv n r a ns2 a2 y h hr ih =>
    obtain ⟨h1, h2, h3⟩ := ih
    refine ⟨?_, h2, fun P hP => h3 P (fun m hm => ?_)⟩
    · rw [List.map_cons]
      refine .rotate ?_ ?_
      · rw [← rowOf_charge]
        exact h
      · rw [← rowOf_charge]
        simpa using h1
    · rcases List.mem_append.1 hm with hm | hm
      · exact hP m (List.mem_cons_of_mem _ hm)
      · rw [List.mem_singleton] at hm
        subst hm
        rw [(charge_id q gv n).1, (charge_id q gv n).2.2.1]
        exact hP n List.mem_cons_self
/-! ### In memory -/
def srcV (b : Nat) : Value := .iface 116 (.agg #[.pointer (some ⟨b, 0, none⟩)])
/-- A ring of flows, at block f. -/
structure RAt (pre : List Int) (ρ : Roles) (w : World) (f sp : Nat) (q : Int) (gv : Bool) (v : Value) (ns : List Nd) (qb : Int → Nat) (its : Int → List It) : Prop where
  head : w.heap[f]? = some (.cells #[.pointer (some ⟨sp, 0, none⟩)] 102 (0, 0))
  rf : ρ f = pre ++ [6]
  spin : SpinAt pre ρ w sp q gv v ns
  src : ∀ n ∈ ns, n.src = srcV (qb n.id)
  que : ∀ n ∈ ns, QueAt (pre ++ [5, n.id]) ρ w (qb n.id) (its n.id)
  full : ∀ n ∈ ns, its n.id ≠ []
  q1 : 1 ≤ q
  q2 : q ≤ 64
  good : NdsOk gv ns
  idok : ∀ n ∈ ns, 0 ≤ n.id ∧ I64 n.id
def RingAt (pre : List Int) (ρ : Roles) (w : World) (f : Nat) (q : Int) (gv : Bool) (rows : List FRow) : Prop := ∃ sp v ns qb its, RAt pre ρ w f sp q gv v ns qb its ∧ rows = ns.map (rowOf its)
section
variable {pre : List Int} {ρ ρ' : Roles} {w w' : World} {f sp : Nat} {q : Int} {gv : Bool} {v : Value} {ns : List Nd} {qb : Int → Nat} {its : Int → List It} {rows : List FRow}
theorem part_sub {s : List Int} {k : Nat} (h : Part ρ (pre ++ s) k) : Part ρ pre k := by
  obtain ⟨t, h⟩ := h
  exact ⟨s ++ t, by rw [h, List.append_assoc]⟩
theorem part5_in {id : Int} {k : Nat} (h : Part ρ (pre ++ [5, id]) k) : InPart ρ pre k := by
  obtain ⟨t, h⟩ := h
  exact ⟨id :: t, by rw [h]; simp⟩
theorem RAt.later (h : RAt pre ρ w f sp q gv v ns qb its) (hl : Later ρ ρ' w) : RAt pre ρ' w f sp q gv v ns qb its :=
  ⟨h.head, (hl f (fp_lt_of_heap h.head)).trans h.rf, h.spin.later hl, h.src, fun n hn => (h.que n hn).later hl, h.full, h.q1, h.q2, h.good, h.idok⟩
theorem RAt.frame (h : RAt pre ρ w f sp q gv v ns qb its) {S : Nat → Prop} (hf : Fp S w w') (hS : ∀ k, k < w.heap.size → Part ρ pre k → ¬ S k) : RAt pre ρ w' f sp q gv v ns qb its :=
  ⟨hf.heap h.head (hS f (fp_lt_of_heap h.head) ⟨_, h.rf⟩), h.rf, h.spin.frame hf (fun k hk hp => hS k hk (spinPart_part hp)), h.src, fun n hn => (h.que n hn).frame hf (fun k hk hp => hS k hk (part_sub hp)), h.full, h.q1, h.q2, h.good, h.idok⟩
theorem RAt.below (h : RAt pre ρ w f sp q gv v ns qb its) (hb : Below w.heap.size w w') : RAt pre ρ w' f sp q gv v ns qb its := h.frame (S := fun _ => False) (Fp.of_below hb) (fun _ _ _ h => h)
theorem RingAt.later (h : RingAt pre ρ w f q gv rows) (hl : Later ρ ρ' w) : RingAt pre ρ' w f q gv rows := by
  obtain ⟨sp, v, ns, qb, its, h, e⟩ := h
  exact ⟨sp, v, ns, qb, its, h.later hl, e⟩
theorem RingAt.frame (h : RingAt pre ρ w f q gv rows) {S : Nat → Prop} (hf : Fp S w w') (hS : ∀ k, k < w.heap.size → Part ρ pre k → ¬ S k) : RingAt pre ρ w' f q gv rows := by
  obtain ⟨sp, v, ns, qb, its, h, e⟩ := h
  exact ⟨sp, v, ns, qb, its, h.frame hf hS, e⟩
theorem RingAt.below (h : RingAt pre ρ w f q gv rows) (hb : Below w.heap.size w w') : RingAt pre ρ w' f q gv rows := h.frame (S := fun _ => False) (Fp.of_below hb) (fun _ _ _ h => h)
theorem RingAt.lt (h : RingAt pre ρ w f q gv rows) : f < w.heap.size := by
  obtain ⟨sp, v, ns, qb, its, h, _⟩ := h
  exact fp_lt_of_heap h.head
/-- Where roles are told at all, they are the same. -/
theorem QueAt.rerole {b : Nat} {l : List It} (h : QueAt pre ρ w b l) (he : ∀ k, ρ k ≠ [] → ρ' k = ρ k) : QueAt pre ρ' w b l := by
  obtain ⟨m, lk, D, h⟩ := h
  exact ⟨m, lk, D, h.head, (he b (by rw [h.rq]; simp)).trans h.rq, (he m (by rw [h.rm]; simp)).trans h.rm, h.map, h.size, h.has, h.at_, fun i x hx => ⟨(he _ (by rw [(h.link i x hx).1]; simp)).trans (h.link i x hx).1, (h.link i x hx).2⟩, h.good⟩
theorem SpinAt.rerole (h : SpinAt pre ρ w sp q gv v ns) (he : ∀ k, ρ k ≠ [] → ρ' k = ρ k) : SpinAt pre ρ' w sp q gv v ns :=
  ⟨h.head, (he sp (by rw [h.rs]; simp)).trans h.rs, h.arr, fun k hk => (he k (by rw [h.ra k hk]; simp)).trans (h.ra k hk), fun i n hn => ⟨(he _ (by rw [(h.node i n hn).1]; simp)).trans (h.node i n hn).1, (h.node i n hn).2⟩, h.once, h.few⟩
theorem RingAt.rerole (h : RingAt pre ρ w f q gv rows) (he : ∀ k, ρ k ≠ [] → ρ' k = ρ k) : RingAt pre ρ' w f q gv rows := by
  obtain ⟨sp, v, ns, qb, its, h, e⟩ := h
  exact ⟨sp, v, ns, qb, its, ⟨h.head, (he f (by rw [h.rf]; simp)).trans h.rf, h.spin.rerole he, h.src, fun n hn => (h.que n hn).rerole he, h.full, h.q1, h.q2, h.good, h.idok⟩, e⟩
end
theorem item_und : ∃ fs, Try.prog.underlying 37 = some (.struct fs) := ⟨_, Try.underlying37⟩
section
variable {pre : List Int} {ρ : Roles} {qq : Nat} {l : List It}
set_option maxRecDepth 100000 in
set_option maxHeartbeats 1000000 in
/-- THE WALK: a source's Pick. -/
theorem srcPick_any (x : It) (r : List It) (w : World) (hQ : QueAt pre ρ w qq (x :: r)) : Calls Try.prog 115 #[.agg #[.pointer (some ⟨qq, 0, none⟩)]] w fun e w' => e = .returned (.tuple #[itV x, .bool true]) ∧ Below w.heap.size w w' := by
  have HQ := Lib.hid hQ
  clear hQ
  unfold itV
  go_enter Try.func115, Try.ntmps115
  go_wp2_with fail
  have hB : Below w.heap.size w ((w.alloc (.cells #[.pointer (some ⟨qq, 0, none⟩)] 116)).alloc (.cells #[.int .i64 0, .int .i64 0] 37)) := box_below.alloc (by simp) _
  refine (fifoHead_cons x r _ (HQ.out.below hB)).mono ?_
  rintro e w1 ⟨rfl, hb1⟩
  have HB1 := Lib.hid (hB.trans (hb1.mono (by simp; omega)))
  have h0 : ((w.alloc (.cells #[.pointer (some ⟨qq, 0, none⟩)] 116)).alloc (.cells #[.int .i64 0, .int .i64 0] 37)).heap[w.heap.size + 1]? = some (.cells #[.int .i64 0, .int .i64 0] 37 (0, 0)) := by
    rw [show w.heap.size + 1 = (w.alloc (.cells #[.pointer (some ⟨qq, 0, none⟩)] 116)).heap.size by simp]
    exact fr_alloc_at
  have HR1 := Lib.hid ((hb1.block (w.heap.size + 1) (by simp)).trans h0)
  clear hB hb1 h0
  go_wp2_with (refine wpList_store_row rfl 37 _ _ rfl (w.heap.size + 1) #[.int .i64 x.id, .int .i64 x.cost] rfl rfl 37 _ HR1.out (item_sz x) rfl (item_one x) ?_)
  refine bodyPost_ret (v := .tuple #[.agg #[.int .i64 x.id, .int .i64 x.cost], .bool true]) (results_row2 Try.results115 rfl rfl (setRow_heap w1 (w.heap.size + 1) _ _ _ _ HR1.out) Try.underlying37 rfl (item_sz x)) rfl ⟨rfl, ?_⟩
  exact (Fp.setRow (S := fun k => k = w.heap.size + 1) (Fp.of_below HB1.out) (fun h => rfl)).below (Nat.le_refl _) (fun k hk e => by omega)
end
section
variable {pre : List Int} {f sp : Nat} {q : Int} {gv : Bool} {v : Value} {ns : List Nd} {qb : Int → Nat} {its : Int → List It}
/-- What a ring's sources answer. -/
theorem flow_src (hf : ∀ n ∈ ns, its n.id ≠ []) : SrcLaw (α := Unit) pre 116 115 (fun id src => (∃ n ∈ ns, n.id = id) ∧ src = srcV (qb id)) (fun _ ρ w => ∀ n ∈ ns, QueAt (pre ++ [5, n.id]) ρ w (qb n.id) (its n.id)) (flowPk its) where
  later := fun h hl n hn => (h n hn).later hl
  frame := fun h hF hS n hn => (h n hn).frame hF (fun k hk hp => hS k hk (part5_in hp))
  cost := fun {a ρ w id src} h ho => by
    obtain ⟨⟨n, hn, rfl⟩, _⟩ := ho
    have hg := (h n hn).good
    have h1 := hf n hn
    unfold flowPk
    cases hl : its n.id with
    | nil => exact absurd hl h1
    | cons x r =>
      have := hg.ok x (by rw [hl]; exact List.mem_cons_self)
      exact ⟨this.2.2.1, this.2.2.2⟩
  call := fun {a ρ w id src} h ho => by
    obtain ⟨⟨n, hn, rfl⟩, rfl⟩ := ho
    refine ⟨.agg #[.pointer (some ⟨qb n.id, 0, none⟩)], .agg #[.pointer (some ⟨qb n.id, 0, none⟩)], rfl, fun w => by kernel_rfl, fun w => by kernel_rfl, ?_⟩
    have h1 := hf n hn
    have hq := h n hn
    unfold flowPk
    cases hl : its n.id with
    | nil => exact absurd hl h1
    | cons x r =>
      rw [hl] at hq
      refine (srcPick_any x r w hq).mono ?_
      rintro e w' ⟨rfl, hb⟩
      exact ⟨rfl, ρ, Later.refl _ _, fun _ _ => .inl rfl, fun m hm => (h m hm).below hb, Fp.of_below hb⟩
end
end Go.Proofs.Ytohkchilogmneaa
