/-
  flow.Ring: what a queue's turn, a deficit's, and a source's going leave of a ring; Drop, Take: the walks.
-/
import Derived.Test.YtohkchilogmneaaFlow3
namespace Go.Proofs.Ytohkchilogmneaa
open Go.RowKit

def upd {α : Type} (g : Int → α) (id : Int) (x : α) : Int → α := fun j => if j = id then x else g j
theorem upd_same {α : Type} (g : Int → α) (id : Int) (x : α) : upd g id x id = x := by simp [upd]
theorem upd_other {α : Type} {g : Int → α} {id j : Int} (x : α) (h : j ≠ id) : upd g id x j = g j := by simp [upd, h]
/-- A row in the place of the one that is there; without items it is gone. -/
def withR (k : Nat) (x : FRow) (gv : Bool) (rows : List FRow) : Bool × List FRow := if x.its = [] then (if k = 0 then false else gv, rows.eraseIdx k) else (gv, rows.set k x)
/-- A ring of flows; one of its queues may be empty. -/
structure RPre (pre : List Int) (ρ : Roles) (w : World) (f sp : Nat) (q : Int) (gv : Bool) (v : Value) (ns : List Nd) (qb : Int → Nat) (its : Int → List It) : Prop where
  head : w.heap[f]? = some (.cells #[.pointer (some ⟨sp, 0, none⟩)] 102 (0, 0))
  rf : ρ f = pre ++ [6]
  spin : SpinAt pre ρ w sp q gv v ns
  src : ∀ n ∈ ns, n.src = srcV (qb n.id)
  que : ∀ n ∈ ns, QueAt (pre ++ [5, n.id]) ρ w (qb n.id) (its n.id)
  q1 : 1 ≤ q
  q2 : q ≤ 64
  good : NdsOk gv ns
  idok : ∀ n ∈ ns, 0 ≤ n.id ∧ I64 n.id
section
variable {pre : List Int} {ρ : Roles} {w w' : World} {f sp k : Nat} {q : Int} {gv : Bool} {v v' : Value} {ns : List Nd} {qb : Int → Nat} {its : Int → List It} {n : Nd}
theorem RAt.pre' (h : RAt pre ρ w f sp q gv v ns qb its) : RPre pre ρ w f sp q gv v ns qb its := ⟨h.head, h.rf, h.spin, h.src, h.que, h.q1, h.q2, h.good, h.idok⟩
theorem RPre.full (h : RPre pre ρ w f sp q gv v ns qb its) (hf : ∀ n ∈ ns, its n.id ≠ []) : RAt pre ρ w f sp q gv v ns qb its := ⟨h.head, h.rf, h.spin, h.src, h.que, hf, h.q1, h.q2, h.good, h.idok⟩
theorem RPre.frame (h : RPre pre ρ w f sp q gv v ns qb its) {S : Nat → Prop} (hf : Fp S w w') (hS : ∀ k, k < w.heap.size → Part ρ pre k → ¬ S k) : RPre pre ρ w' f sp q gv v ns qb its :=
  ⟨hf.heap h.head (hS f (fp_lt_of_heap h.head) ⟨_, h.rf⟩), h.rf, h.spin.frame hf (fun k hk hp => hS k hk (spinPart_part hp)), h.src, fun n hn => (h.que n hn).frame hf (fun k hk hp => hS k hk (part_sub hp)), h.q1, h.q2, h.good, h.idok⟩
theorem RPre.below (h : RPre pre ρ w f sp q gv v ns qb its) (hb : Below w.heap.size w w') : RPre pre ρ w' f sp q gv v ns qb its := h.frame (S := fun _ => False) (Fp.of_below hb) (fun _ _ _ h => h)
theorem RPre.que_turn (h : RPre pre ρ w f sp q gv v ns qb its) {l : List It} (hF : Fp (Part ρ (pre ++ [5, n.id])) w w') (hQ : QueAt (pre ++ [5, n.id]) ρ w' (qb n.id) l) : RPre pre ρ w' f sp q gv v ns qb (upd its n.id l) := by
  refine ⟨hF.heap h.head (fun hp => ?_), h.rf, h.spin.frame hF (fun k _ hs hp => spin_not_in hs (part5_in hp)), h.src, fun m hm => ?_, h.q1, h.q2, h.good, h.idok⟩
  · obtain ⟨s, hs⟩ := part5_in hp
    rw [h.rf] at hs
    simp at hs
  · by_cases e : m.id = n.id
    · rw [e, upd_same]
      exact hQ
    · rw [upd_other _ e]
      refine (h.que m hm).frame hF (fun k _ h1 h2 => ?_)
      obtain ⟨s, hs⟩ := h1
      obtain ⟨t, ht⟩ := h2
      rw [hs] at ht
      simp at ht
      exact e ht.1
theorem set_map {α β : Type} (g : α → β) : ∀ (l : List α) (k : Nat) (x : α), (l.set k x).map g = (l.map g).set k (g x)
  | [], _, _ => rfl
  | _ :: _, 0, _ => rfl
  | y :: r, k + 1, x => by simp [set_map g r k x]
theorem set_same {α : Type} : ∀ {l : List α} {k : Nat} {x : α}, l[k]? = some x → l.set k x = l
  | [], _, _, h => by simp at h
  | y :: r, 0, x, h => by
    simp at h
    simp [h]
  | y :: r, k + 1, x, h => by
    have := set_same (l := r) (k := k) (x := x) (by simpa using h)
    simp [this]
theorem spin_setDf (h : SpinAt pre ρ w sp q gv v ns) (hn : ns[k]? = some n) (d : Int) : SpinAt pre ρ (w.setCell ⟨n.blk, 2, none⟩ (.int .i64 d)) sp q gv v (ns.set k { n with df := d }) ∧ Fp (fun j => j = n.blk) w (w.setCell ⟨n.blk, 2, none⟩ (.int .i64 d)) := by
  have h0 := h.node k n hn
  have hk : k < ns.length := (List.getElem?_eq_some_iff.1 hn).1
  have hF : Fp (fun j => j = n.blk) w (w.setCell ⟨n.blk, 2, none⟩ (.int .i64 d)) := (Fp.refl (fun j => j = n.blk) w).setCell (p := ⟨n.blk, 2, none⟩) (fun _ => rfl) _
  refine ⟨⟨hF.heap h.head (fun e => ?_), h.rs, ?_, h.ra, fun i m hm => ?_, ?_, by rw [List.length_set]; exact h.few⟩, hF⟩
  · have h1 := h0.1
    rw [← e, h.rs] at h1
    simp at h1
  · have e : (ns.set k { n with df := d }).map Nd.blk = ns.map Nd.blk := by
      rw [set_map]
      exact set_same (by rw [List.getElem?_map, hn]; rfl)
    rw [e]
    exact h.arr.frame hF (fun j hj e => by
      have h1 := h.ra j hj
      rw [e, h0.1] at h1
      simp at h1)
  · rw [List.getElem?_set] at hm
    split at hm
    · rename_i e
      subst e
      simp at hm
      subst hm
      refine ⟨h0.1, ?_⟩
      exact fr_setCell_at h0.2
    · rename_i e
      have h1 := h.node i m hm
      exact ⟨h1.1, hF.heap h1.2 (fun e' => h.apart hm hn (Ne.symm e) e')⟩
  · have e : (ns.set k { n with df := d }).map Nd.id = ns.map Nd.id := by
      rw [set_map]
      exact set_same (by rw [List.getElem?_map, hn]; rfl)
    rw [e]
    exact h.once
theorem mem_set {α : Type} {l : List α} {k : Nat} {x y : α} (h : y ∈ l.set k x) : y ∈ l ∨ y = x := by
  obtain ⟨i, hi⟩ := List.mem_iff_getElem?.1 h
  rw [List.getElem?_set] at hi
  split at hi
  · split at hi
    · simp at hi
      exact .inr hi.symm
    · simp at hi
  · exact .inl (List.mem_of_getElem? hi)
theorem RPre.df_turn (h : RPre pre ρ w f sp q gv v ns qb its) (hn : ns[k]? = some n) (d : Int) (hg : NdsOk gv (ns.set k { n with df := d })) : RPre pre ρ (w.setCell ⟨n.blk, 2, none⟩ (.int .i64 d)) f sp q gv v (ns.set k { n with df := d }) qb its := by
  obtain ⟨hs, hF⟩ := spin_setDf h.spin hn d
  have h0 := (h.spin.node k n hn).1
  have hmem := List.mem_of_getElem? hn
  refine ⟨hF.heap h.head (fun e => ?_), h.rf, hs, fun m hm => ?_, fun m hm => ?_, h.q1, h.q2, hg, fun m hm => ?_⟩
  · have h1 := h.rf
    rw [e, h0] at h1
    simp at h1
  · rcases mem_set hm with hm | rfl
    · exact h.src m hm
    · exact h.src n hmem
  · have hq : ∀ m ∈ ns, QueAt (pre ++ [5, m.id]) ρ (w.setCell ⟨n.blk, 2, none⟩ (.int .i64 d)) (qb m.id) (its m.id) := fun m hm => (h.que m hm).frame hF (fun k _ hp e => by
      obtain ⟨s, hs⟩ := hp
      rw [e, h0] at hs
      simp at hs)
    rcases mem_set hm with hm | rfl
    · exact hq m hm
    · exact hq n hmem
  · rcases mem_set hm with hm | rfl
    · exact h.idok m hm
    · exact h.idok n hmem
theorem ndsOk_erase : ∀ {gv : Bool} {ns : List Nd} (k : Nat), NdsOk gv ns → NdsOk (if k = 0 then false else gv) (ns.eraseIdx k)
  | gv, [], k, _ => by simp [NdsOk]
  | gv, n :: r, 0, h => by
    rw [List.eraseIdx_cons_zero, if_pos rfl, ndsOk_false]
    exact h.2
  | gv, n :: r, k + 1, h => by
    rw [List.eraseIdx_cons_succ, if_neg (by omega)]
    exact ⟨h.1, fun m hm => h.2 m (List.mem_of_mem_eraseIdx hm)⟩
theorem RPre.gone (h : RPre pre ρ w f sp q gv v ns qb its) (hS : SpinAt pre ρ w' sp q (if k = 0 then false else gv) v' (ns.eraseIdx k)) (hF : Fp (fun j => j = sp ∨ v.ownBlock = some j) w w') : RPre pre ρ w' f sp q (if k = 0 then false else gv) v' (ns.eraseIdx k) qb its := by
  have hno : ∀ j, (j = sp ∨ v.ownBlock = some j) → SpinPart ρ pre j := fun j hj => by
    rcases hj with rfl | hj
    · exact .inl h.spin.rs
    · exact .inr (.inl (h.spin.ra j hj))
  refine ⟨hF.heap h.head (fun e => ?_), h.rf, hS, fun m hm => h.src m (List.mem_of_mem_eraseIdx hm), fun m hm => (h.que m (List.mem_of_mem_eraseIdx hm)).frame hF (fun j _ hp e => spin_not_in (hno j e) (part5_in hp)), h.q1, h.q2, ndsOk_erase k h.good, fun m hm => h.idok m (List.mem_of_mem_eraseIdx hm)⟩
  have h1 := hno f e
  have h2 := h.rf
  rcases h1 with h1 | h1 | ⟨_, h1⟩ <;> rw [h2] at h1 <;> simp at h1
theorem erase_set {α : Type} : ∀ (l : List α) (k : Nat) (x : α), (l.set k x).eraseIdx k = l.eraseIdx k
  | [], _, _ => rfl
  | _ :: _, 0, _ => rfl
  | y :: r, k + 1, x => by simp [erase_set r k x]
theorem withR_set (k : Nat) (x y : FRow) (gv : Bool) (rows : List FRow) : withR k x gv (rows.set k y) = withR k x gv rows := by
  unfold withR
  rw [erase_set, List.set_set]
theorem rows_upd {ns : List Nd} (honce : (ns.map Nd.id).Nodup) (hn : ns[k]? = some n) (l : List It) : ns.map (rowOf (upd its n.id l)) = (ns.map (rowOf its)).set k ⟨n.id, n.wt, n.df, l⟩ := by
  apply List.ext_getElem?
  intro i
  rw [List.getElem?_map, List.getElem?_set]
  rcases hi : ns[i]? with _ | m
  · split
    · rename_i e
      subst e
      rw [hn] at hi
      cases hi
    · rw [List.getElem?_map, hi]
      rfl
  · split
    · rename_i e
      subst e
      rw [hn] at hi
      cases hi
      rw [if_pos (by rw [List.length_map]; exact (List.getElem?_eq_some_iff.1 hn).1)]
      simp [rowOf, upd_same]
    · rename_i e
      rw [List.getElem?_map, hi]
      have : m.id ≠ n.id := fun e' => by
        have h2 : (ns.map Nd.id)[k]? = some m.id := by simp [hn, e']
        have h3 : (ns.map Nd.id)[i]? = some m.id := by simp [hi]
        exact e ((List.getElem?_inj (List.getElem?_eq_some_iff.1 h2).1 honce).1 (h2.trans h3.symm))
      simp [rowOf, upd_other _ this]
end
section
variable {pre : List Int} {ρ : Roles} {f sp : Nat} {q : Int} {gv : Bool} {v : Value} {ns : List Nd} {qb : Int → Nat} {its : Int → List It} {rows : List FRow}
theorem RAt.rowAt {w : World} (_h : RAt pre ρ w f sp q gv v ns qb its) {k : Nat} {r : FRow} (hr : (ns.map (rowOf its))[k]? = some r) : ∃ n, ns[k]? = some n ∧ r = rowOf its n := by
  rw [List.getElem?_map] at hr
  obtain ⟨n, hn, rfl⟩ := Option.map_eq_some_iff.1 hr
  exact ⟨n, hn, rfl⟩
set_option maxRecDepth 100000 in
set_option maxHeartbeats 1000000 in
/-- Drop of a flow that is not there. -/
theorem flowDrop_none (id i : Int) (w : World) (hR : RingAt pre ρ w f q gv rows) (h : atF id rows = none) : Calls Try.prog 16 #[.pointer (some ⟨f, 0, none⟩), .int .i64 id, .int .i64 i] w fun e w' => e = .returned (.bool false) ∧ Below w.heap.size w w' := by
  obtain ⟨sp, v, ns, qb, its, hr, rfl⟩ := hR
  rcases hr.cases id with ⟨h1, -⟩ | ⟨k, n, hn, hi, h2⟩
  · have HR := Lib.hid hr
    have H1 := Lib.hid h1
    clear hr h1 h
    go_enter Try.func16, Try.ntmps16
    go_wp2_with fail
    refine (flowQueue_none id _ HR.out H1.out).mono ?_
    rintro e w1 ⟨rfl, hb⟩
    have HB := Lib.hid hb
    clear hb
    go_wp2_with fail
    refine (fifoDrop_nil i _).mono ?_
    rintro e w2 ⟨rfl, hb2⟩
    have HB2 := Lib.hid (HB.out.trans (hb2.mono HB.out.size))
    clear hb2
    go_wp2_with fail
    go_ret
    exact ⟨rfl, HB2.out.alloc HB2.out.size _⟩
  · rw [h2] at h
    cases h
set_option maxRecDepth 100000 in
set_option maxHeartbeats 1000000 in
/-- Drop of an item that is not there. -/
theorem flowDrop_not (k : Nat) (r : FRow) (i : Int) (w : World) (hR : RingAt pre ρ w f q gv rows) (hr : rows[k]? = some r) (hi : I64 i) (h : hasIt i r.its = false) : Calls Try.prog 16 #[.pointer (some ⟨f, 0, none⟩), .int .i64 r.id, .int .i64 i] w fun e w' => e = .returned (.bool false) ∧ Below w.heap.size w w' := by
  obtain ⟨sp, v, ns, qb, its, hr0, rfl⟩ := hR
  obtain ⟨n, hn, rfl⟩ := hr0.rowAt hr
  have HR := Lib.hid hr0
  have HN := Lib.hid hn
  have HI := Lib.hid hi
  have HH := Lib.hid (show hasIt i (its n.id) = false from h)
  clear hr0 hn hi h hr
  rw [show (rowOf its n).id = n.id from rfl]
  go_enter Try.func16, Try.ntmps16
  go_wp2_with fail
  refine (flowQueue_some n.id k n _ HR.out HN.out rfl).mono ?_
  rintro e w1 ⟨rfl, hb⟩
  have HB := Lib.hid hb
  clear hb
  go_wp2_with fail
  refine (fifoDrop_none i _ ((HR.out.que n (List.mem_of_getElem? HN.out)).below HB.out) HI.out HH.out).mono ?_
  rintro e w2 ⟨rfl, hb2⟩
  have HB2 := Lib.hid (HB.out.trans (hb2.mono HB.out.size))
  clear hb2
  go_wp2_with fail
  go_ret
  exact ⟨rfl, HB2.out.alloc HB2.out.size _⟩
theorem meth_empty (u : Value) (w : World) : (method 285 116 u "Empty").run Try.prog w = .ok (114, u) w := by kernel_rfl
theorem enter_empty (u : Value) (w : World) : (callFunc 114 #[u]).run Try.prog w = .ok (.enter 114 #[u]) w := by kernel_rfl
/-- Tidy, in a ring of flows. -/
theorem flow_tidy {w : World} {k : Nat} {n : Nd} (h : RPre pre ρ w f sp q gv v ns qb its) (hn : ns[k]? = some n) (hfull : ∀ m ∈ ns, m.id ≠ n.id → its m.id ≠ []) :
    Calls Try.prog 52 #[.pointer (some ⟨sp, 0, none⟩), .pointer (some ⟨n.blk, 0, none⟩)] w fun e w' => e = .returned (.tuple #[]) ∧ RingAt pre ρ w' f q (withR k (rowOf its n) gv (ns.map (rowOf its))).1 (withR k (rowOf its n) gv (ns.map (rowOf its))).2 ∧ Fp (SpinPart ρ pre) w w' := by
  have hmem := List.mem_of_getElem? hn
  have hq := h.que n hmem
  have hE : ∀ w', Below w.heap.size w w' → Calls Try.prog 114 #[.agg #[.pointer (some ⟨qb n.id, 0, none⟩)]] w' fun e w2 => e = .returned (.bool (((its n.id).length : Int) == 0)) ∧ Below w'.heap.size w' w2 := fun w' hb => srcEmpty_any w' (hq.below hb)
  by_cases hl : its n.id = []
  · rw [hl] at hE
    refine (spinTidy_gone k n w h.spin hn 116 114 _ _ (h.src n hmem) (meth_empty _) (enter_empty _) hE).mono ?_
    rintro e w' ⟨rfl, ⟨v', hS⟩, hF⟩
    have hW : withR k (rowOf its n) gv (ns.map (rowOf its)) = (if k = 0 then false else gv, (ns.map (rowOf its)).eraseIdx k) := by
      unfold withR
      rw [if_pos (show (rowOf its n).its = [] from hl)]
    rw [hW]
    refine ⟨rfl, ⟨sp, v', ns.eraseIdx k, qb, its, (h.gone hS hF).full (fun m hm => ?_), (eraseIdx_map' _ _ _).symm⟩, hF.mono (fun j hj => ?_)⟩
    · obtain ⟨i, hi⟩ := List.mem_iff_getElem?.1 hm
      refine hfull m (List.mem_of_mem_eraseIdx hm) (fun e => ?_)
      rw [List.getElem?_eraseIdx] at hi
      have h2 : (ns.map Nd.id)[k]? = some m.id := by simp [hn, e]
      split at hi
      · have h3 : (ns.map Nd.id)[i]? = some m.id := by simp [hi]
        have := (List.getElem?_inj (List.getElem?_eq_some_iff.1 h2).1 h.spin.once).1 (h2.trans h3.symm)
        omega
      · have h3 : (ns.map Nd.id)[i + 1]? = some m.id := by simp [hi]
        have := (List.getElem?_inj (List.getElem?_eq_some_iff.1 h2).1 h.spin.once).1 (h2.trans h3.symm)
        omega
    · rcases hj with rfl | hj
      · exact .inl h.spin.rs
      · exact .inr (.inl (h.spin.ra j hj))
  · have hz : (((its n.id).length : Int) == 0) = false := by
      have := List.length_pos_iff.2 hl
      simp
      exact hl
    rw [hz] at hE
    refine (spinTidy_not k n w h.spin hn 116 114 _ _ (h.src n hmem) (meth_empty _) (enter_empty _) hE).mono ?_
    rintro e w' ⟨rfl, hb⟩
    have hW : withR k (rowOf its n) gv (ns.map (rowOf its)) = (gv, ns.map (rowOf its)) := by
      unfold withR
      rw [if_neg (show ¬ (rowOf its n).its = [] from hl), set_same (by rw [List.getElem?_map, hn]; rfl)]
    rw [hW]
    refine ⟨rfl, ⟨sp, v, ns, qb, its, (h.below hb).full (fun m hm => ?_), rfl⟩, Fp.of_below hb⟩
    by_cases e : m.id = n.id
    · rw [e]
      exact hl
    · exact hfull m hm e
def RDropPost (pre : List Int) (ρ : Roles) (w : World) (f : Nat) (q : Int) (p : Bool × List FRow) (e : Ending) (w' : World) : Prop :=
  e = .returned (.bool true) ∧ RingAt pre ρ w' f q p.1 p.2 ∧ Fp (Part ρ pre) w w'
theorem fp_sub {w w' : World} {s : List Int} (h : Fp (Part ρ (pre ++ s)) w w') : Fp (Part ρ pre) w w' := h.mono (fun _ hk => part_sub hk)
set_option maxRecDepth 100000 in
set_option maxHeartbeats 1000000 in
/-- THE WALK: Drop. -/
theorem flowDrop_some (k : Nat) (r : FRow) (x : It) (j : Nat) (w : World) (hR : RingAt pre ρ w f q gv rows) (hr : rows[k]? = some r) (hx : r.its[j]? = some x) : Calls Try.prog 16 #[.pointer (some ⟨f, 0, none⟩), .int .i64 r.id, .int .i64 x.id] w (RDropPost pre ρ w f q (withR k { r with its := dropIt r.its x.id } gv rows)) := by
  obtain ⟨sp, v, ns, qb, its, hr0, rfl⟩ := hR
  obtain ⟨n, hn, rfl⟩ := hr0.rowAt hr
  have HR := Lib.hid hr0
  have HN := Lib.hid hn
  have HX := Lib.hid (show (its n.id)[j]? = some x from hx)
  clear hr0 hn hx hr
  rw [show (rowOf its n).id = n.id from rfl]
  go_enter Try.func16, Try.ntmps16
  go_wp2_with fail
  refine (flowQueue_some n.id k n _ HR.out HN.out rfl).mono ?_
  rintro e w1 ⟨rfl, hb⟩
  have HB := Lib.hid hb
  clear hb
  go_wp2_with fail
  refine (fifoDrop_some x j _ ((HR.out.que n (List.mem_of_getElem? HN.out)).below HB.out) HX.out).mono ?_
  rintro e w2 ⟨rfl, hF2, hQ2⟩
  have HF2 := Lib.hid hF2
  have HP2 := Lib.hid ((HR.out.pre'.below HB.out).que_turn hF2 hQ2)
  clear hF2 hQ2
  go_upto_region 3 with fail
  obtain ⟨w3, hw3⟩ : ∃ w3 : World, w3 = w2.alloc (.cells #[.int .i64 x.id, .int .i64 x.cost] 37) := ⟨_, rfl⟩
  rw [← hw3]
  have HB3 := Lib.hid (show Below w2.heap.size w2 w3 by rw [hw3]; exact box_below)
  have HP3 := Lib.hid (HP2.out.below HB3.out)
  have HF3 := Lib.hid (((Fp.of_below (S := Part ρ pre) HB.out).trans (fp_sub HF2.out) (fun _ _ h => h)).then_below HB3.out)
  have c0 : w3.cell? ⟨f, 0, none⟩ = some (.pointer (some ⟨sp, 0, none⟩)) := fr_cell_of_heap HP3.out.head rfl
  clear hw3
  go_wp2_with fail
  refine (flow_tidy HP3.out HN.out (fun m hm e => by rw [upd_other _ e]; exact HR.out.full m hm)).mono ?_
  rintro e w4 ⟨rfl, hR4, hF4⟩
  have HR4 := Lib.hid hR4
  have HF4 := Lib.hid (HF3.out.trans (hF4.mono (S' := Part ρ pre) (fun _ hk => spinPart_part hk)) (fun _ _ h => h))
  clear hR4 hF4 c0
  go_wp2_with fail
  go_ret
  refine ⟨rfl, ?_, HF4.out⟩
  have h := HR4.out
  rw [rows_upd HR.out.spin.once HN.out] at h
  have e : rowOf (upd its n.id (dropIt (its n.id) x.id)) n = { rowOf its n with its := dropIt (rowOf its n).its x.id } := by
    simp [rowOf, upd_same]
  rw [e, withR_set] at h
  exact h
end
end Go.Proofs.Ytohkchilogmneaa
