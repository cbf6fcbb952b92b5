/-
  flow.Ring: Len, Deficit, Given, Pick: the walks.
-/
import Derived.Test.YtohkchilogmneaaFlow2
namespace Go.Proofs.Ytohkchilogmneaa
open Go.RowKit

/-- The row of a number. -/
def atF (id : Int) (rows : List FRow) : Option FRow := rows.find? (fun r => r.id == id)
def lenF (id : Int) (rows : List FRow) : Int := match atF id rows with
  | some r => r.its.length
  | none => 0
def dfF (id : Int) (rows : List FRow) : Int := match atF id rows with
  | some r => r.df
  | none => 0
theorem atF_none {id : Int} {rows : List FRow} (h : ∀ r ∈ rows, r.id ≠ id) : atF id rows = none := by
  unfold atF
  rw [List.find?_eq_none]
  intro r hr
  simpa using h r hr
theorem atF_some {id : Int} : ∀ {rows : List FRow} {k : Nat} {r : FRow}, rows[k]? = some r → r.id = id → (rows.map FRow.id).Nodup → atF id rows = some r
  | [], k, r, h, _, _ => by simp at h
  | x :: l, 0, r, h, hi, _ => by
    simp at h
    subst h
    simp [atF, hi]
  | x :: l, k + 1, r, h, hi, hn => by
    rw [List.map_cons, List.nodup_cons] at hn
    have h' : l[k]? = some r := by simpa using h
    have hx : x.id ≠ id := fun e => hn.1 (by rw [e, ← hi]; exact List.mem_map_of_mem (List.mem_of_getElem? h'))
    have ih := atF_some h' hi hn.2
    unfold atF at ih ⊢
    rw [List.find?_cons_of_neg (by simpa using hx)]
    exact ih
section
variable {pre : List Int} {ρ : Roles} {f sp : Nat} {q : Int} {gv : Bool} {v : Value} {ns : List Nd} {qb : Int → Nat} {its : Int → List It} {rows : List FRow}
theorem rows_ids : (ns.map (rowOf its)).map FRow.id = ns.map Nd.id := by
  rw [List.map_map]
  rfl
theorem RAt.cases {w : World} (h : RAt pre ρ w f sp q gv v ns qb its) (id : Int) :
    ((∀ n ∈ ns, n.id ≠ id) ∧ atF id (ns.map (rowOf its)) = none) ∨ ∃ (k : Nat) (n : Nd), ns[k]? = some n ∧ n.id = id ∧ atF id (ns.map (rowOf its)) = some (rowOf its n) := by
  rcases place_cases id ns with ⟨_, h1⟩ | ⟨k, n, _, hn, hi⟩
  · refine .inl ⟨h1, atF_none (fun r hr => ?_)⟩
    obtain ⟨n, hn, rfl⟩ := List.mem_map.1 hr
    exact h1 n hn
  · refine .inr ⟨k, n, hn, hi, atF_some (k := k) (by rw [List.getElem?_map, hn]; rfl) hi ?_⟩
    rw [rows_ids]
    exact h.spin.once
set_option maxRecDepth 100000 in
set_option maxHeartbeats 1000000 in
/-- THE WALK: Len. -/
theorem flowLen_any (id : Int) (w : World) (hR : RingAt pre ρ w f q gv rows) : Calls Try.prog 17 #[.pointer (some ⟨f, 0, none⟩), .int .i64 id] w fun e w' => e = .returned (.int .i64 (lenF id rows)) ∧ Below w.heap.size w w' := by
  obtain ⟨sp, v, ns, qb, its, hr, rfl⟩ := hR
  unfold lenF
  rcases hr.cases id with ⟨h1, h2⟩ | ⟨k, n, hn, hi, h2⟩
  · rw [h2]
    have HR := Lib.hid hr
    have H1 := Lib.hid h1
    clear hr h1 h2
    go_enter Try.func17, Try.ntmps17
    go_wp2_with fail
    refine (flowQueue_none id _ HR.out H1.out).mono ?_
    rintro e w1 ⟨rfl, hb⟩
    have HB := Lib.hid hb
    clear hb
    go_wp2_with fail
    refine (fifoLen_nil _).mono ?_
    rintro e w2 ⟨rfl, rfl⟩
    go_wp2_with fail
    go_ret
    exact ⟨rfl, HB.out⟩
  · rw [h2]
    have HR := Lib.hid hr
    have HN := Lib.hid hn
    have HI := Lib.hid hi
    clear hr hn hi h2
    go_enter Try.func17, Try.ntmps17
    go_wp2_with fail
    refine (flowQueue_some id k n _ HR.out HN.out HI.out).mono ?_
    rintro e w1 ⟨rfl, hb⟩
    have HB := Lib.hid hb
    clear hb
    go_wp2_with fail
    refine (fifoLen_any _ ((HR.out.que n (List.mem_of_getElem? HN.out)).below HB.out)).mono ?_
    rintro e w2 ⟨rfl, rfl⟩
    go_wp2_with fail
    go_ret
    exact ⟨rfl, HB.out⟩
set_option maxRecDepth 100000 in
set_option maxHeartbeats 1000000 in
/-- THE WALK: Deficit. -/
theorem flowDeficit_any (id : Int) (w : World) (hR : RingAt pre ρ w f q gv rows) : Calls Try.prog 20 #[.pointer (some ⟨f, 0, none⟩), .int .i64 id] w fun e w' => e = .returned (.int .i64 (dfF id rows)) ∧ Below w.heap.size w w' := by
  obtain ⟨sp, v, ns, qb, its, hr, rfl⟩ := hR
  unfold dfF
  rcases hr.cases id with ⟨h1, h2⟩ | ⟨k, n, hn, hi, h2⟩
  · rw [h2]
    have HR := Lib.hid hr
    have H1 := Lib.hid h1
    clear hr h1 h2
    go_enter Try.func20, Try.ntmps20
    go_wp2_with fail
    refine (flowQueue_none id _ HR.out H1.out).mono ?_
    rintro e w1 ⟨rfl, hb⟩
    have HB := Lib.hid hb
    clear hb
    go_wp2_with fail
    go_ret
    exact ⟨rfl, HB.out⟩
  · rw [h2]
    have HR := Lib.hid hr
    have HN := Lib.hid hn
    have HI := Lib.hid hi
    clear hr hn hi h2
    go_enter Try.func20, Try.ntmps20
    go_wp2_with fail
    refine (flowQueue_some id k n _ HR.out HN.out HI.out).mono ?_
    rintro e w1 ⟨rfl, hb⟩
    have HB := Lib.hid hb
    have c2 : w1.cell? ⟨n.blk, 2, none⟩ = some (.int .i64 n.df) := cell_below hb (fr_cell_of_heap (HR.out.spin.node k n HN.out).2 rfl)
    clear hb
    go_wp2_with fail
    go_ret
    exact ⟨rfl, HB.out⟩
set_option maxRecDepth 100000 in
set_option maxHeartbeats 1000000 in
/-- THE WALK: Given. -/
theorem flowGiven_any (w : World) (hR : RingAt pre ρ w f q gv rows) : Calls Try.prog 21 #[.pointer (some ⟨f, 0, none⟩)] w fun e w' => e = .returned (.bool gv) ∧ Below w.heap.size w w' := by
  obtain ⟨sp, v, ns, qb, its, hr, rfl⟩ := hR
  have HR := Lib.hid hr
  have c0 := hr.c0
  have c2 := hr.spin.c2
  clear hr
  go_enter Try.func21, Try.ntmps21
  go_wp2_with fail
  refine (flowOk_any _ HR.out.c0).mono ?_
  rintro e w1 ⟨rfl, rfl⟩
  go_wp2_with fail
  go_ret
  exact ⟨rfl, Below.refl _ _⟩
end
theorem results_mid {P : Program} {fn : Func} {a : Act} {slot i k : Nat} {t t' : TypeId} {g : Nat} {cs : Array Value} {fr : Nat × Nat} {d : TypeDesc} {u v : Value} {w : World} (hf : fn.results = #[.tmp i, .cell slot t, .tmp k]) (hs : a.tmps.getD slot undef = .pointer (some ⟨g, 0, none⟩)) (hi0 : a.tmps.getD i undef = u) (hk : a.tmps.getD k undef = v)
    (hg : w.heap[g]? = some (.cells cs t' fr)) (hu : P.underlying t = some d) (hd : (match d with | .struct _ | .array _ _ => true | _ => false) = true) (hi : (P.info? t).map (·.size) = some cs.size) : (results fn a.tmps).run P w = .ok (.tuple #[u, .agg cs, v]) w := by
  have h := run_loadVar_row (P := P) w g t' t cs fr d hg hu hd hi
  have hs' : a.tmps[slot]?.getD undef = .pointer (some ⟨g, 0, none⟩) := by simpa using hs
  have hk' : a.tmps[k]?.getD undef = v := by simpa using hk
  have hi' : a.tmps[i]?.getD undef = u := by simpa using hi0
  simp [results, hf, asAddr, hs', hk', hi', h]
def RPickPost (pre : List Int) (ρ : Roles) (w : World) (f : Nat) (q : Int) (gv : Bool) (rows : List FRow) (e : Ending) (w' : World) : Prop :=
  ∃ row rest ρ', e = .returned (.tuple #[.int .i64 row.id, itV (row.its.headD ⟨0, 0⟩), .bool true]) ∧ PicksR q gv rows (row :: rest) ∧ Later ρ ρ' w ∧ NewRoles ρ' pre w.heap.size ∧ RingAt pre ρ' w' f q true (row :: rest) ∧ Fp (Part ρ pre) w w'
section
variable {pre : List Int} {ρ : Roles} {f sp : Nat} {q : Int} {gv : Bool} {v : Value} {ns : List Nd} {qb : Int → Nat} {its : Int → List It} {rows : List FRow}
set_option maxRecDepth 100000 in
set_option maxHeartbeats 1000000 in
theorem flowPick_nil (w : World) (hR : RingAt pre ρ w f q gv []) : Calls Try.prog 15 #[.pointer (some ⟨f, 0, none⟩)] w fun e w' => e = .returned (.tuple #[.int .i64 0, .agg #[.int .i64 0, .int .i64 0], .bool false]) ∧ Below w.heap.size w w' := by
  obtain ⟨sp, v, ns, qb, its, hr, he⟩ := hR
  obtain rfl : ns = [] := by simpa using he
  have HR := Lib.hid hr
  have hfw := fp_lt_of_heap hr.head
  have c0 := hr.c0
  clear hr he
  go_enter Try.func15, Try.ntmps15
  go_wp2_with fail
  refine (flowOk_any (sp := sp) _ (cell_below box_below HR.out.c0)).mono ?_
  rintro e w1 ⟨rfl, rfl⟩
  go_wp2_with fail
  refine (spinPick_nil _ (HR.out.spin.below box_below)).mono ?_
  rintro e w2 ⟨rfl, hb⟩
  have HB := Lib.hid (box_below2 hb)
  have hh2 := (hb.block w.heap.size (by simp)).trans fr_alloc_at
  have HH2 := Lib.hid hh2
  clear hb c0 hh2
  have item_z := item_sz ⟨0, 0⟩
  have HZ := Lib.hid item_z
  clear item_z
  go_wp2_with (refine wpList_store_row rfl 37 _ _ rfl w.heap.size #[.int .i64 0, .int .i64 0] rfl rfl 37 _ (fr_alloc_old HH2.out) HZ.out rfl (item_one ⟨0, 0⟩) ?_)
  refine bodyPost_ret (v := .tuple #[.int .i64 0, .agg #[.int .i64 0, .int .i64 0], .bool false]) (results_mid Try.results15 rfl rfl rfl (setRow_heap _ w.heap.size _ _ _ _ (fr_alloc_old HH2.out)) Try.underlying37 rfl HZ.out) rfl ⟨rfl, ?_⟩
  exact ((Fp.of_below (S := fun k => k = w.heap.size) HB.out).alloc _).setRow (fun _ => rfl) |>.below (Nat.le_refl _) (fun k hk e => by omega)
theorem flow_picked {w w1 w2 : World} {ρ0 ρ2 : Roles} {n : Nd} {r : List Nd} {x : It} {v2 : Value} {a2 : Unit} (hr : RAt pre ρ0 w f sp q gv v ns qb its) (hb : Below w.heap.size w w1)
    (hp : Picks q (flowPk its) gv ns () (n :: r) a2 x) (hok : NdsOk true (n :: r)) (hl : Later ρ0 ρ2 w1) (hS : SpinAt pre ρ2 w2 sp q true v2 (n :: r)) (hI : ∀ m ∈ ns, QueAt (pre ++ [5, m.id]) ρ2 w2 (qb m.id) (its m.id)) (hF : Fp (RingPart ρ0 pre) w1 w2) :
    RAt pre ρ2 w2 f sp q true v2 (n :: r) qb its ∧ PicksR q gv (ns.map (rowOf its)) ((n :: r).map (rowOf its)) ∧ x = (its n.id).headD ⟨0, 0⟩ ∧ Fp (Part ρ0 pre) w w2 := by
  obtain ⟨h1, h2, h3⟩ := picks_rows hp
  have hP := h3 (fun id src => ∃ m ∈ ns, m.id = id ∧ src = m.src) (fun m hm => ⟨m, hm, rfl, rfl⟩)
  have hfw := fp_lt_of_heap hr.head
  have hz := hb.size
  refine ⟨⟨?_, ?_, hS, fun m hm => ?_, fun m hm => ?_, fun m hm => ?_, hr.q1, hr.q2, hok, fun m hm => ?_⟩, h1, h2 n r rfl, ?_⟩
  · refine hF.heap ((hb.block f hfw).trans hr.head) (fun h => ?_)
    have h1 := hr.rf
    rcases h with h | h
    · rcases h with h | h | ⟨_, h⟩ <;> rw [h1] at h <;> simp at h
    · obtain ⟨_, h⟩ := h
      rw [h1] at h
      simp at h
  · exact (hl f (by omega)).trans hr.rf
  · obtain ⟨m', hm', he, hs⟩ := hP m hm
    rw [hs, ← he]
    exact hr.src m' hm'
  · obtain ⟨m', hm', he, hs⟩ := hP m hm
    rw [← he]
    exact hI m' hm'
  · obtain ⟨m', hm', he, hs⟩ := hP m hm
    rw [← he]
    exact hr.full m' hm'
  · obtain ⟨m', hm', he, hs⟩ := hP m hm
    rw [← he]
    exact hr.idok m' hm'
  · refine (Fp.of_below (S := Part ρ0 pre) hb).trans (hF.mono (S' := Part ρ0 pre) (fun k hk => ?_)) (fun _ _ h => h)
    rcases hk with h | h
    · exact spinPart_part h
    · exact inPart_part h
set_option maxRecDepth 100000 in
set_option maxHeartbeats 1000000 in
/-- THE WALK: Pick. -/
theorem flowPick_cons (hpre : pre ≠ []) (w : World) (hR : RingAt pre ρ w f q gv rows) (hne : rows ≠ []) : Calls Try.prog 15 #[.pointer (some ⟨f, 0, none⟩)] w (RPickPost pre ρ w f q gv rows) := by
  obtain ⟨sp, v, ns, qb, its, hr0, rfl⟩ := hR
  obtain ⟨n0, r0, rfl⟩ : ∃ n r, ns = n :: r := by
    cases ns with
    | nil => exact absurd rfl hne
    | cons n r => exact ⟨n, r, rfl⟩
  have HR := Lib.hid (hr0.later (fence_later ρ w))
  have hfw := fp_lt_of_heap hr0.head
  have c0 := hr0.c0
  clear hr0 hne
  go_enter Try.func15, Try.ntmps15
  go_wp2_with fail
  refine (flowOk_any (sp := sp) _ (cell_below box_below HR.out.c0)).mono ?_
  rintro e w1 ⟨rfl, rfl⟩
  go_wp2_with fail
  have hin : ∀ m ∈ n0 :: r0, QueAt (pre ++ [5, m.id]) (fence ρ w) (w.alloc (.cells #[.int .i64 0, .int .i64 0] 37)) (qb m.id) (its m.id) := fun m hm => (HR.out.que m hm).below box_below
  refine (spinPick_any (flow_src (pre := pre) (qb := qb) (ns := n0 :: r0) HR.out.full) HR.out.q1 HR.out.q2 () n0 r0 _ (HR.out.spin.below box_below) hin HR.out.good (fun m hm => ⟨⟨m, hm, rfl⟩, HR.out.src m hm⟩)).mono ?_
  rintro e w2 ⟨n, r, a2, x, v2, ρ2, rfl, hp, hok, hl, hn, hS, hI, hF⟩
  obtain ⟨k1, k2, k3, k4⟩ := flow_picked HR.out box_below hp hok hl hS hI hF
  have hh2 : w2.heap[w.heap.size]? = some (.cells #[.int .i64 0, .int .i64 0] 37 (0, 0)) := hF.heap fr_alloc_at (fun h => by
    have h1 : fence ρ w w.heap.size = [] := by simp [fence]
    rcases h with h | h
    · rcases h with h | h | ⟨_, h⟩ <;> rw [h1] at h <;> simp at h
    · obtain ⟨_, h⟩ := h
      rw [h1] at h
      simp at h)
  have HH2 := Lib.hid hh2
  have K1 := Lib.hid k1
  have K2 := Lib.hid k2
  have K3 := Lib.hid k3
  have K4 := Lib.hid k4
  have HL := Lib.hid hl
  have HN := Lib.hid hn
  clear hp hok hl hn hS hI hF hin k1 k2 k3 k4 hh2 c0
  unfold itV
  go_upto_region 6 with fail
  obtain ⟨w3, hw3⟩ : ∃ w3 : World, w3 = w2.alloc (.cells #[.int .i64 x.id, .int .i64 x.cost] 37) := ⟨_, rfl⟩
  obtain ⟨xb, hxb⟩ : ∃ xb : Nat, xb = w2.heap.size := ⟨_, rfl⟩
  rw [← hw3, ← hxb]
  have HB3 := Lib.hid (show Below w2.heap.size w2 w3 by rw [hw3]; exact box_below)
  have hx3 : w3.heap[xb]? = some (.cells #[.int .i64 x.id, .int .i64 x.cost] 37 (0, 0)) := by rw [hw3, hxb]; exact fr_alloc_at
  have hr3 := (HB3.out.block _ (fp_lt_of_heap HH2.out)).trans HH2.out
  have HR3 := Lib.hid hr3
  clear hw3 hxb
  have n0' : w3.cell? ⟨n.blk, 0, none⟩ = some (.int .i64 n.id) := cell_below HB3.out (fr_cell_of_heap (K1.out.spin.node 0 n rfl).2 rfl)
  have x0 : w3.cell? ⟨xb, 0, none⟩ = some (.int .i64 x.id) := fr_cell_of_heap hx3 rfl
  have x1 : w3.cell? ⟨xb, 1, none⟩ = some (.int .i64 x.cost) := fr_cell_of_heap hx3 rfl
  have z0 : w3.cell? ⟨w.heap.size, 0, none⟩ = some (.int .i64 0) := fr_cell_of_heap hr3 rfl
  have z1 : w3.cell? ⟨w.heap.size, 1, none⟩ = some (.int .i64 0) := fr_cell_of_heap hr3 rfl
  have g0 : w3.frozen? ⟨w.heap.size, 0, none⟩ = false := fr_free_of_heap hr3
  have g1 : w3.frozen? ⟨w.heap.size, 1, none⟩ = false := fr_free_of_heap hr3
  clear hx3 hr3
  go_region
  clear n0' x0 x1 z0 z1 g0 g1
  go_wp2_with fail
  obtain ⟨w4, hw4⟩ : ∃ w4 : World, w4 = ((w3.setCell ⟨w.heap.size, 0, none⟩ (.int .i64 x.id)).setCell ⟨w.heap.size, 1, none⟩ (.int .i64 x.cost)).drew := ⟨_, rfl⟩
  have hh4 : w4.heap[w.heap.size]? = some (.cells #[.int .i64 x.id, .int .i64 x.cost] 37 (0, 0)) := by rw [hw4]; exact fr_setCell_at (fr_setCell_at HR3.out)
  have HF4 := Lib.hid (show Fp (fun k => k = w.heap.size) w3 w4 by
    rw [hw4]
    exact (((Fp.refl (fun k => k = w.heap.size) w3).setCell (p := ⟨w.heap.size, 0, none⟩) (fun _ => rfl) _).setCell (p := ⟨w.heap.size, 1, none⟩) (fun _ => rfl) _).drew)
  rw [← hw4]
  clear hw4
  refine bodyPost_ret (v := .tuple #[.int .i64 n.id, .agg #[.int .i64 x.id, .int .i64 x.cost], .bool true]) (results_mid Try.results15 rfl rfl rfl hh4 Try.underlying37 rfl (item_sz x)) rfl ?_
  have hcr : ρ2 w.heap.size = [] := by rw [HL.out w.heap.size (by simp)]; simp [fence]
  have hF4 : Fp (fun k => k = w.heap.size) w2 w4 := (Fp.of_below HB3.out).trans HF4.out (fun _ _ h => h)
  refine ⟨rowOf its n, r.map (rowOf its), ρ2, by rw [K3.out]; rfl, K2.out, fun k hk => (HL.out k (by simp; omega)).trans (fence_later ρ w k hk), fun k hk => ?_, ⟨sp, v2, n :: r, qb, its, K1.out.frame hF4 (fun k _ hp e => ?_), rfl⟩, ?_⟩
  · rcases Nat.eq_or_lt_of_le hk with h | h
    · exact .inl (h ▸ hcr)
    · exact HN.out k (by simp; omega)
  · subst e
    obtain ⟨s, hs⟩ := hp
    rw [hcr] at hs
    exact hpre (List.append_eq_nil_iff.1 hs.symm).1
  · exact ((K4.out.mono (fun k hk => fence_part hpre hk)).trans hF4 (fun k hk e => by omega))
end
end Go.Proofs.Ytohkchilogmneaa
