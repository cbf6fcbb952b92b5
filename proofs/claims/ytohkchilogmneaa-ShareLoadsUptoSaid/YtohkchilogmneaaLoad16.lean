/-
  share.Share.load: a row that is loaded: the walk.
-/
import Derived.Test.YtohkchilogmneaaShareAll
import Derived.Test.YtohkchilogmneaaLoad15b
import Derived.Lib.QuietBelow
import Derived.BigQuiet
namespace Go.Proofs.Ytohkchilogmneaa
open Go.RowKit Go.Sort

/-- flow.Load, whatever roles there are. -/
theorem flowLoad_free {pre : List Int} {ρ : Roles} (hpre : pre ≠ []) (q : Int) (gv : Bool) (v : Value) (l : List (FRow × Value)) (w : World) (hl : RowsAt w v l) (hok : ∀ p ∈ l, I64 p.1.id ∧ ∀ y ∈ p.1.its, I64 y.id) (hf : totR (l.map Prod.fst) < 1000000) (hlen : l.length < 1000000) :
    Calls Try.prog 25 #[.int .i64 q, v, .bool gv] w (LoadPost pre ρ w q gv (l.map Prod.fst)) := by
  refine (flowLoad_any (ρ := fun _ => []) hpre q gv v l w hl (fun k _ ⟨s, hs⟩ => hpre (List.append_eq_nil_iff.1 hs.symm).1) hok hf hlen).mono ?_
  rintro e w' ⟨hb, ⟨ho, f, ρ', rfl, hl, hn, hR, hf⟩ | ⟨ho, rfl⟩⟩
  · refine ⟨hb, .inl ⟨ho, f, fun k => if k < w.heap.size then ρ k else ρ' k, rfl, fun k hk => by simp [hk], fun k hk => ?_, hR.rerole (fun k hk => ?_), hf⟩⟩
    · unfold Part
      simp only [if_neg (Nat.not_lt.2 hk)]
      exact hn k hk
    · rcases Nat.lt_or_ge k w.heap.size with h | h
      · exact absurd (hl k h) hk
      · simp [Nat.not_lt.2 h]
  · exact ⟨hb, .inr ⟨ho, rfl⟩⟩
/-- A row that may stand behind others. -/
def okTIn (q : Int) (rows : List TRow) (x : TRow) : Prop := findT x.id rows = none ∧ ¬ argBad x.id x.wt ∧ 0 ≤ x.df ∧ x.df ≤ 1088 ∧ x.rows ≠ [] ∧ okL q x.gv x.rows
def okTAll (q : Int) (rows : List TRow) : Prop := ∀ (k : Nat) x, rows[k]? = some x → okTIn q (rows.take k) x
/-- Rows that may be loaded. -/
def okTL (q : Int) (gv : Bool) (rows : List TRow) : Prop := 1 ≤ q ∧ q ≤ 64 ∧ ¬ (gv = true ∧ rows = []) ∧ okTAll q rows
def LoadTRowPost (pre : List Int) (ρ : Roles) (w : World) (f : Nat) (q : Int) (rows : List TRow) (x : TRow) (e : Ending) (w' : World) : Prop :=
  Fp (Part ρ pre) w w' ∧ ((okTIn q rows x ∧ e = .returned (.bool true) ∧ ∃ ρ', Later ρ ρ' w ∧ NewRoles ρ' pre w.heap.size ∧ ShareAt pre ρ' w' f q false (rows ++ [x])) ∨ (¬ okTIn q rows x ∧ e = .returned (.bool false)))
section
variable {pre : List Int} {ρ : Roles} {f sp : Nat} {q : Int} {gv : Bool} {v : Value} {ns : List Nd} {fb : Int → Nat} {a : Int → Bool × List FRow}
/-- A tenant joined, with a deficit of its own. -/
theorem share_joined_df {w w' : World} {id wt d : Int} {s : Bool × List FRow} {qn : Nat} {ρ' : Roles} {v' : Value} (h : ShAt pre ρ w f sp q false v ns fb a) (hnew : ∀ m ∈ ns, m.id ≠ id) (hQ : RingAt (pre ++ [5, id]) ρ w qn q s.1 s.2) (hl : s.2 ≠ []) (hid : 0 ≤ id ∧ I64 id) (hw1 : 1 ≤ wt) (hw : wt ≤ 16) (hd0 : 0 ≤ d) (hd1 : d ≤ 1088)
    (hF : Fp (SpinPart ρ pre) w w') (hL : Later ρ ρ' w) (hS : SpinAt pre ρ' w' sp q false v' (ns ++ [⟨id, wt, 0, w.heap.size, srcT qn⟩])) :
    ShareAt pre ρ' (w'.setCell ⟨w.heap.size, 2, none⟩ (.int .i64 d)) f q false (ns.map (trowOf a) ++ [⟨id, wt, d, s.1, s.2⟩]) := by
  have h' := h.later hL
  have hF' : Fp (SpinPart ρ' pre) w w' := hF.mono_on (fun k hk hs => by
    unfold SpinPart at hs ⊢
    rw [hL k hk]
    exact hs)
  have hP : SPre pre ρ' w' f sp q false v' (ns ++ [⟨id, wt, 0, w.heap.size, srcT qn⟩]) (upd fb id qn) (upd a id s) := by
    refine ⟨hF'.heap h'.pre'.head (fun hs => ?_), h'.pre'.rf, hS, fun m hm => ?_, fun m hm => ?_, h.pre'.q1, h.pre'.q2, ndsOk_snoc h.pre'.good ⟨hw1, hw, Int.le_refl _, Int.le_refl _⟩, fun m hm => ?_⟩
    · have h1 := h'.pre'.rf
      rcases hs with h2 | h2 | ⟨_, h2⟩ <;> rw [h1] at h2 <;> simp at h2
    · rcases List.mem_append.1 hm with hm | hm
      · rw [upd_other _ (hnew m hm)]
        exact h.pre'.src m hm
      · rw [List.mem_singleton] at hm
        subst hm
        rw [upd_same]
    · rcases List.mem_append.1 hm with hm | hm
      · rw [upd_other _ (hnew m hm), upd_other _ (hnew m hm)]
        exact (h'.pre'.ring m hm).frame hF' (fun k _ hp hs => spin_not_in hs (part5_in hp))
      · rw [List.mem_singleton] at hm
        subst hm
        rw [upd_same, upd_same]
        exact (hQ.later hL).frame hF' (fun k _ hp hs => spin_not_in hs (part5_in hp))
    · rcases List.mem_append.1 hm with hm | hm
      · exact h.pre'.idok m hm
      · rw [List.mem_singleton] at hm
        subst hm
        exact hid
  have hn : (ns ++ [(⟨id, wt, 0, w.heap.size, srcT qn⟩ : Nd)])[ns.length]? = some (⟨id, wt, 0, w.heap.size, srcT qn⟩ : Nd) := by simp
  have e : (ns ++ [(⟨id, wt, 0, w.heap.size, srcT qn⟩ : Nd)]).set ns.length { (⟨id, wt, 0, w.heap.size, srcT qn⟩ : Nd) with df := d } = ns ++ [⟨id, wt, d, w.heap.size, srcT qn⟩] := by simp
  have hg : NdsOk false ((ns ++ [(⟨id, wt, 0, w.heap.size, srcT qn⟩ : Nd)]).set ns.length { (⟨id, wt, 0, w.heap.size, srcT qn⟩ : Nd) with df := d }) := by
    rw [e]
    refine ndsOk_false.2 (fun m hm => ?_)
    rcases List.mem_append.1 hm with hm | hm
    · exact ndsOk_false.1 h.pre'.good m hm
    · rw [List.mem_singleton] at hm
      subst hm
      exact ⟨hw1, hw, hd0, hd1⟩
  have hP2 := hP.df_turn hn d hg
  refine ⟨sp, v', _, upd fb id qn, upd a id s, ⟨hP2, fun m hm => ?_⟩, ?_⟩
  · rw [e] at hm
    rcases List.mem_append.1 hm with hm | hm
    · rw [upd_other _ (hnew m hm)]
      exact h.full m hm
    · rw [List.mem_singleton] at hm
      subst hm
      rw [upd_same]
      exact hl
  · rw [e, List.map_append]
    congr 1
    · exact List.map_congr_left (fun m hm => by
        unfold trowOf
        rw [upd_other _ (hnew m hm)])
    · simp [trowOf, upd_same]
theorem findT_nodes {id : Int} (h : findT id (ns.map (trowOf a)) = none) : ∀ m ∈ ns, m.id ≠ id := fun m hm e => by
  unfold findT at h
  have := List.findIdx?_eq_none_iff.1 h (trowOf a m) (List.mem_map_of_mem hm)
  simp [trowOf] at this
  exact this e
theorem findT_free {id : Int} (h : ∀ m ∈ ns, m.id ≠ id) : findT id (ns.map (trowOf a)) = none := by
  unfold findT
  refine List.findIdx?_eq_none_iff.2 (fun x hx => ?_)
  obtain ⟨m, hm, rfl⟩ := List.mem_map.1 hx
  simpa [trowOf] using h m hm
theorem node7 {ρ' : Roles} {w' : World} {v' : Value} {nd : Nd} (h : SpinAt pre ρ' w' sp q false v' (ns ++ [nd])) : w'.cell? ⟨nd.blk, 2, none⟩ = some (.int .i64 nd.df) ∧ w'.frozen? ⟨nd.blk, 2, none⟩ = false :=
  have h1 := (h.node ns.length nd (by simp)).2
  ⟨fr_cell_of_heap h1 rfl, fr_free_of_heap h1⟩
def rowT (x : TRow) (vr : Value) : Obj := .cells #[.int .i64 x.id, .int .i64 x.wt, .int .i64 x.df, vr, .bool x.gv] 143 (0, 0)
theorem rowT_cells {w : World} {b : Nat} {x : TRow} {vr : Value} (h : w.heap[b]? = some (rowT x vr)) : w.cell? ⟨b, 0, none⟩ = some (.int .i64 x.id) ∧ w.cell? ⟨b, 1, none⟩ = some (.int .i64 x.wt) ∧ w.cell? ⟨b, 2, none⟩ = some (.int .i64 x.df) ∧ w.cell? ⟨b, 3, none⟩ = some vr ∧ w.cell? ⟨b, 4, none⟩ = some (.bool x.gv) :=
  ⟨fr_cell_of_heap h rfl, fr_cell_of_heap h rfl, fr_cell_of_heap h rfl, fr_cell_of_heap h rfl, fr_cell_of_heap h rfl⟩
set_option maxRecDepth 100000 in
set_option maxHeartbeats 8000000 in
theorem loadT_norow (x : TRow) (vr : Value) (li : List (FRow × Value)) (w : World) (h : ShAt pre ρ w f sp q false v ns fb a) (hv : RowsAt w vr li) (hm : li.map Prod.fst = x.rows) (hok : ∀ p ∈ li, I64 p.1.id ∧ ∀ y ∈ p.1.its, I64 y.id) (hf : totR x.rows < 1000000) (hl : li.length < 1000000) (hno : ¬ okL q x.gv x.rows) :
    Calls Try.prog 81 #[.pointer (some ⟨f, 0, none⟩), .agg #[.int .i64 x.id, .int .i64 x.wt, .int .i64 x.df, vr, .bool x.gv]] w fun e w' => e = .returned (.bool false) ∧ Below w.heap.size w w' := by
  obtain ⟨ra, rc, hvr, -⟩ := hv.form
  subst hvr
  have HH := Lib.hid h
  have HS := Lib.hid h.pre'
  have HV := Lib.hid hv
  have HM := Lib.hid hm
  have HOK := Lib.hid hok
  have HF := Lib.hid (show totR (li.map Prod.fst) < 1000000 by rw [hm]; exact hf)
  have HL := Lib.hid hl
  have c0 := h.pre'.c0
  have hfw := fp_lt_of_heap h.pre'.head
  have HNO := Lib.hid (show ¬ okL q x.gv (li.map Prod.fst) by rw [hm]; exact hno)
  clear h hv hm hok hf hl hno
  go_enter Try.func81, Try.ntmps81
  go_upto_region 1 with fail
  obtain ⟨w1, hw1⟩ : ∃ w1 : World, w1 = w.alloc (.cells #[.int .i64 x.id, .int .i64 x.wt, .int .i64 x.df, .slice ra li.length rc, .bool x.gv] 143) := ⟨_, rfl⟩
  obtain ⟨bx, hbx⟩ : ∃ bx : Nat, bx = w.heap.size := ⟨_, rfl⟩
  rw [← hw1, ← hbx]
  have HB1 := Lib.hid (show Below w.heap.size w w1 by rw [hw1]; exact box_below)
  have HX1 := Lib.hid (show w1.heap[bx]? = some (rowT x (.slice ra li.length rc)) by rw [hw1, hbx]; exact fr_alloc_at)
  have HBX := Lib.hid hbx
  have c0 : w1.cell? ⟨f, 0, none⟩ = some (.pointer (some ⟨sp, 0, none⟩)) := cell_below HB1.out c0
  have s0 := (HS.out.below HB1.out).spin.c0
  obtain ⟨x0, x1, x2, x3, x4⟩ := rowT_cells HX1.out
  have h0 : Below w1.heap.size w1 w1.drew := ⟨rfl, rfl, rfl, Nat.le_refl _, fun _ _ => rfl⟩
  clear hw1 hbx
  go_region_held3 (fun w' => w'.cell? ⟨f, 0, none⟩ = some (.pointer (some ⟨sp, 0, none⟩)) ∧ w'.cell? ⟨sp, 0, none⟩ = some (.int .i64 q) ∧ w'.cell? ⟨bx, 3, none⟩ = some (.slice ra li.length rc) ∧ w'.cell? ⟨bx, 4, none⟩ = some (.bool x.gv))
    (first | go_keep | exact ⟨cell_below hb5 c0, cell_below hb5 s0, cell_below hb5 x3, cell_below hb5 x4⟩)
    (first
      | (go_at_call 25; refine (flowLoad_free (pre := [0]) (ρ := fun _ => []) (by simp) q x.gv _ li _ ((HV.out.below HB1.out).below h0) HOK.out HF.out HL.out).mono ?_; rintro e w5 ⟨hb5', ⟨ho, -⟩ | ⟨-, rfl⟩⟩; exact absurd ho HNO.out; (have hb5 := below_chain2 h0 hb5'); clear hb5'))
  have HB5 := Lib.hid (HB1.out.trans (hb5.mono HB1.out.size))
  have HX5 := Lib.hid ((hb5.block bx (fp_lt_of_heap HX1.out)).trans HX1.out)
  clear hb5 h0 c0 s0 x0 x1 x2 x3 x4
  go_upto_region 2 with fail
  have c0 := cell_regrown (HS.out.below HB5.out).c0
  obtain ⟨x0, x1, x2, x3, x4⟩ := rowT_cells HX5.out
  have x0 := cell_regrown x0
  have x1 := cell_regrown x1
  have x2 := cell_regrown x2
  have x3 := cell_regrown x3
  refine wp_region_quiet_below (by kernel_rfl) (by kernel_rfl) ?_
  repeat (go_big_quiet_step (fail))
  refine wpQuiet_nil ?_
  rintro _ ⟨⟨dq, osq⟩, rfl⟩
  clear c0 x0 x1 x2 x3 x4
  go_wp2_with fail
  go_ret
  exact ⟨rfl, below_of_regrown HB5.out HB5.out.size⟩
set_option maxRecDepth 100000 in
set_option maxHeartbeats 8000000 in
theorem loadT_bad (x : TRow) (vr : Value) (li : List (FRow × Value)) (w : World) (h : ShAt pre ρ w f sp q false v ns fb a) (hv : RowsAt w vr li) (hm : li.map Prod.fst = x.rows) (hok : ∀ p ∈ li, I64 p.1.id ∧ ∀ y ∈ p.1.its, I64 y.id) (hf : totR x.rows < 1000000) (hl : li.length < 1000000) (ho : okL q x.gv x.rows) (hno : ¬ okTIn q (ns.map (trowOf a)) x) :
    Calls Try.prog 81 #[.pointer (some ⟨f, 0, none⟩), .agg #[.int .i64 x.id, .int .i64 x.wt, .int .i64 x.df, vr, .bool x.gv]] w fun e w' => e = .returned (.bool false) ∧ Below w.heap.size w w' := by
  obtain ⟨ra, rc, hvr, -⟩ := hv.form
  subst hvr
  have HH := Lib.hid h
  have HS := Lib.hid h.pre'
  have HV := Lib.hid hv
  have HM := Lib.hid hm
  have HOK := Lib.hid hok
  have HF := Lib.hid (show totR (li.map Prod.fst) < 1000000 by rw [hm]; exact hf)
  have HL := Lib.hid hl
  have c0 := h.pre'.c0
  have hfw := fp_lt_of_heap h.pre'.head
  have HOL := Lib.hid (show okL q x.gv (li.map Prod.fst) by rw [hm]; exact ho)
  have HNO := Lib.hid hno
  have HOO := Lib.hid ho
  have hz : li.length = x.rows.length := by rw [← hm, List.length_map]
  have HZ := Lib.hid hz
  clear h hv hm hok hf hl hno ho hz
  go_enter Try.func81, Try.ntmps81
  go_upto_region 1 with fail
  obtain ⟨w1, hw1⟩ : ∃ w1 : World, w1 = w.alloc (.cells #[.int .i64 x.id, .int .i64 x.wt, .int .i64 x.df, .slice ra li.length rc, .bool x.gv] 143) := ⟨_, rfl⟩
  obtain ⟨bx, hbx⟩ : ∃ bx : Nat, bx = w.heap.size := ⟨_, rfl⟩
  rw [← hw1, ← hbx]
  have HB1 := Lib.hid (show Below w.heap.size w w1 by rw [hw1]; exact box_below)
  have HX1 := Lib.hid (show w1.heap[bx]? = some (rowT x (.slice ra li.length rc)) by rw [hw1, hbx]; exact fr_alloc_at)
  have HBX := Lib.hid hbx
  have c0 : w1.cell? ⟨f, 0, none⟩ = some (.pointer (some ⟨sp, 0, none⟩)) := cell_below HB1.out c0
  have s0 := (HS.out.below HB1.out).spin.c0
  obtain ⟨x0, x1, x2, x3, x4⟩ := rowT_cells HX1.out
  have h0 : Below w1.heap.size w1 w1.drew := ⟨rfl, rfl, rfl, Nat.le_refl _, fun _ _ => rfl⟩
  clear hw1 hbx
  go_region_held3 (fun w' => w'.cell? ⟨f, 0, none⟩ = some (.pointer (some ⟨sp, 0, none⟩)) ∧ w'.cell? ⟨sp, 0, none⟩ = some (.int .i64 q) ∧ w'.cell? ⟨bx, 3, none⟩ = some (.slice ra li.length rc) ∧ w'.cell? ⟨bx, 4, none⟩ = some (.bool x.gv))
    (first | go_keep | exact ⟨cell_below hb5 c0, cell_below hb5 s0, cell_below hb5 x3, cell_below hb5 x4⟩)
    (first
      | (go_at_call 25; refine (flowLoad_free (pre := [0]) (ρ := fun _ => []) (by simp) q x.gv _ li _ ((HV.out.below HB1.out).below h0) HOK.out HF.out HL.out).mono ?_; rintro e w5 ⟨hb5', ⟨-, f5, ρ5, rfl, -, -, -, -⟩ | ⟨ho, -⟩⟩; rotate_left 1; exact absurd HOL.out ho; (have hb5 := below_chain2 h0 hb5'); clear hb5'))
  have HB5 := Lib.hid (HB1.out.trans (hb5.mono HB1.out.size))
  have HX5 := Lib.hid ((hb5.block bx (fp_lt_of_heap HX1.out)).trans HX1.out)
  clear hb5 h0 c0 s0 x0 x1 x2 x3 x4
  by_cases hz : x.rows = []
  · have hze : ((li.length : Int) == 0) = true := by rw [HZ.out, hz]; rfl
    clear hz
    go_upto_region 2 with fail
    have c0 := cell_regrown (HS.out.below HB5.out).c0
    obtain ⟨x0, x1, x2, x3, x4⟩ := rowT_cells HX5.out
    have x0 := cell_regrown x0
    have x1 := cell_regrown x1
    have x2 := cell_regrown x2
    have x3 := cell_regrown x3
    refine wp_region_quiet_below (by kernel_rfl) (by kernel_rfl) ?_
    repeat (go_big_quiet_step (fail))
    refine wpQuiet_nil ?_
    rintro _ ⟨⟨dq, osq⟩, rfl⟩
    clear c0 x0 x1 x2 x3 x4
    go_wp2_with fail
    go_ret
    exact ⟨rfl, below_of_regrown HB5.out HB5.out.size⟩
  · have hze : ((li.length : Int) == 0) = false := by
      rw [HZ.out, beq_eq_false_iff_ne]
      have := List.length_pos_iff.2 hz
      omega
    have HNE := Lib.hid hz
    clear hz
    by_cases hbad : argBad x.id x.wt
    · have HRIGHT := Lib.hid (fun (d : Nat) (os : Array Obj) => shareRight_no x.id x.wt (grow (redrawn w5 d) os) hbad)
      clear hbad
      go_upto_region 2 with fail
      have c0 := cell_regrown (HS.out.below HB5.out).c0
      obtain ⟨x0, x1, x2, x3, x4⟩ := rowT_cells HX5.out
      have x0 := cell_regrown x0
      have x1 := cell_regrown x1
      have x2 := cell_regrown x2
      have x3 := cell_regrown x3
      refine wp_region_quiet_below (by kernel_rfl) (by kernel_rfl) ?_
      repeat (go_big_quiet_step (exact Calls.regrown_of (HRIGHT.out _ _)))
      refine wpQuiet_nil ?_
      rintro _ ⟨⟨dq, osq⟩, rfl⟩
      clear c0 x0 x1 x2 x3 x4
      go_wp2_with fail
      go_ret
      exact ⟨rfl, below_of_regrown HB5.out HB5.out.size⟩
    · have HGOOD := Lib.hid hbad
      clear hbad
      have HRIGHT := Lib.hid (fun (d : Nat) (os : Array Obj) => shareRight_ok x.id x.wt (grow (redrawn w5 d) os) HGOOD.out)
      rcases place_cases x.id ns with ⟨-, hfree⟩ | ⟨k, n, hpl, hn, hni⟩
      · have HFD := Lib.hid (findT_free (a := a) hfree)
        have HFIND := Lib.hid (fun (d : Nat) (os : Array Obj) => spinFind_none x.id (grow (redrawn w5 d) os) ((HS.out.below HB5.out).below (below_regrown w5 d os)).spin hfree)
        clear hfree
        by_cases hd0 : x.df < 0
        · have hd : decide (x.df < 0) = true := decide_eq_true hd0
          go_upto_region 2 with fail
          have c0 := cell_regrown (HS.out.below HB5.out).c0
          obtain ⟨x0, x1, x2, x3, x4⟩ := rowT_cells HX5.out
          have x0 := cell_regrown x0
          have x1 := cell_regrown x1
          have x2 := cell_regrown x2
          have x3 := cell_regrown x3
          refine wp_region_quiet_below (by kernel_rfl) (by kernel_rfl) ?_
          repeat (go_big_quiet_step (first | exact Calls.regrown_of (HRIGHT.out _ _) | exact Calls.regrown_of (HFIND.out _ _)))
          refine wpQuiet_nil ?_
          rintro _ ⟨⟨dq, osq⟩, rfl⟩
          clear c0 x0 x1 x2 x3 x4
          go_wp2_with fail
          go_ret
          exact ⟨rfl, below_of_regrown HB5.out HB5.out.size⟩
        · have hd : decide (x.df < 0) = false := decide_eq_false hd0
          by_cases hd1 : 1088 < x.df
          · have hd2 : decide (1088 < x.df) = true := decide_eq_true hd1
            have hd3 : 0 ≤ x.df := Int.not_lt.1 hd0
            go_upto_region 2 with fail
            have c0 := cell_regrown (HS.out.below HB5.out).c0
            obtain ⟨x0, x1, x2, x3, x4⟩ := rowT_cells HX5.out
            have x0 := cell_regrown x0
            have x1 := cell_regrown x1
            have x2 := cell_regrown x2
            have x3 := cell_regrown x3
            refine wp_region_quiet_below (by kernel_rfl) (by kernel_rfl) ?_
            repeat (go_big_quiet_step (first | exact Calls.regrown_of (HRIGHT.out _ _) | exact Calls.regrown_of (HFIND.out _ _)))
            refine wpQuiet_nil ?_
            rintro _ ⟨⟨dq, osq⟩, rfl⟩
            clear c0 x0 x1 x2 x3 x4
            go_wp2_with fail
            go_ret
            exact ⟨rfl, below_of_regrown HB5.out HB5.out.size⟩
          · exact absurd ⟨HFD.out, HGOOD.out, Int.not_lt.1 hd0, Int.not_lt.1 hd1, HNE.out, HOO.out⟩ HNO.out
      · have HFIND := Lib.hid (fun (d : Nat) (os : Array Obj) => spinFind_some x.id k n (grow (redrawn w5 d) os) ((HS.out.below HB5.out).below (below_regrown w5 d os)).spin hn hpl)
        clear hpl hn hni
        go_upto_region 2 with fail
        have c0 := cell_regrown (HS.out.below HB5.out).c0
        obtain ⟨x0, x1, x2, x3, x4⟩ := rowT_cells HX5.out
        have x0 := cell_regrown x0
        have x1 := cell_regrown x1
        have x2 := cell_regrown x2
        have x3 := cell_regrown x3
        refine wp_region_quiet_below (by kernel_rfl) (by kernel_rfl) ?_
        repeat (go_big_quiet_step (first | exact Calls.regrown_of (HRIGHT.out _ _) | exact Calls.regrown_of (HFIND.out _ _)))
        refine wpQuiet_nil ?_
        rintro _ ⟨⟨dq, osq⟩, rfl⟩
        clear c0 x0 x1 x2 x3 x4
        go_wp2_with fail
        go_ret
        exact ⟨rfl, below_of_regrown HB5.out HB5.out.size⟩
set_option maxRecDepth 100000 in
set_option maxHeartbeats 8000000 in
theorem loadT_good (x : TRow) (vr : Value) (li : List (FRow × Value)) (w : World) (h : ShAt pre ρ w f sp q false v ns fb a) (hv : RowsAt w vr li) (hm : li.map Prod.fst = x.rows) (hok : ∀ p ∈ li, I64 p.1.id ∧ ∀ y ∈ p.1.its, I64 y.id) (hf : totR x.rows < 1000000) (hl : li.length < 1000000) (hns : ns.length < 1000000) (hx : I64 x.id) (hin : okTIn q (ns.map (trowOf a)) x) :
    Calls Try.prog 81 #[.pointer (some ⟨f, 0, none⟩), .agg #[.int .i64 x.id, .int .i64 x.wt, .int .i64 x.df, vr, .bool x.gv]] w (LoadTRowPost pre ρ w f q (ns.map (trowOf a)) x) := by
  obtain ⟨ra, rc, hvr, -⟩ := hv.form
  subst hvr
  have HH := Lib.hid h
  have HS := Lib.hid h.pre'
  have HV := Lib.hid hv
  have HM := Lib.hid hm
  have HOK := Lib.hid hok
  have HF := Lib.hid (show totR (li.map Prod.fst) < 1000000 by rw [hm]; exact hf)
  have HL := Lib.hid hl
  have c0 := h.pre'.c0
  have hfw := fp_lt_of_heap h.pre'.head
  have HOL := Lib.hid (show okL q x.gv (li.map Prod.fst) by rw [hm]; exact hin.2.2.2.2.2)
  have HIN := Lib.hid hin
  have HNS := Lib.hid hns
  have HXI := Lib.hid hx
  have HNEW := Lib.hid (findT_nodes hin.1)
  have HHF := Lib.hid (h.later (fence_later ρ w))
  have hze : ((li.length : Int) == 0) = false := by
    rw [← List.length_map (f := Prod.fst), hm, beq_eq_false_iff_ne]
    have := List.length_pos_iff.2 hin.2.2.2.2.1
    omega
  have hd : decide (x.df < 0) = false := decide_eq_false (Int.not_lt.2 hin.2.2.1)
  have hd2 : decide (1088 < x.df) = false := decide_eq_false (Int.not_lt.2 hin.2.2.2.1)
  have hd3 : 0 ≤ x.df := hin.2.2.1
  have hd4 : x.df ≤ 1088 := hin.2.2.2.1
  clear h hv hm hok hf hl hns hx hin
  go_enter Try.func81, Try.ntmps81
  go_upto_region 1 with fail
  obtain ⟨w1, hw1⟩ : ∃ w1 : World, w1 = w.alloc (.cells #[.int .i64 x.id, .int .i64 x.wt, .int .i64 x.df, .slice ra li.length rc, .bool x.gv] 143) := ⟨_, rfl⟩
  obtain ⟨bx, hbx⟩ : ∃ bx : Nat, bx = w.heap.size := ⟨_, rfl⟩
  rw [← hw1, ← hbx]
  have HB1 := Lib.hid (show Below w.heap.size w w1 by rw [hw1]; exact box_below)
  have HX1 := Lib.hid (show w1.heap[bx]? = some (rowT x (.slice ra li.length rc)) by rw [hw1, hbx]; exact fr_alloc_at)
  have HBX := Lib.hid hbx
  have c0 : w1.cell? ⟨f, 0, none⟩ = some (.pointer (some ⟨sp, 0, none⟩)) := cell_below HB1.out c0
  have s0 := (HS.out.below HB1.out).spin.c0
  obtain ⟨x0, x1, x2, x3, x4⟩ := rowT_cells HX1.out
  have h0 : Below w1.heap.size w1 w1.drew := ⟨rfl, rfl, rfl, Nat.le_refl _, fun _ _ => rfl⟩
  clear hw1 hbx
  go_region_held3 (fun w' => w'.cell? ⟨f, 0, none⟩ = some (.pointer (some ⟨sp, 0, none⟩)) ∧ w'.cell? ⟨sp, 0, none⟩ = some (.int .i64 q) ∧ w'.cell? ⟨bx, 3, none⟩ = some (.slice ra li.length rc) ∧ w'.cell? ⟨bx, 4, none⟩ = some (.bool x.gv))
    (first | go_keep | exact ⟨cell_below hb5 c0, cell_below hb5 s0, cell_below hb5 x3, cell_below hb5 x4⟩)
    (first
      | (go_at_call 25; refine (flowLoad_free (pre := pre ++ [5, x.id]) (ρ := fence ρ w) (by simp) q x.gv _ li _ ((HV.out.below HB1.out).below h0) HOK.out HF.out HL.out).mono ?_; rintro e w5 ⟨hb5', ⟨-, f5, ρ5, rfl, hl5, hn5, hR5, -⟩ | ⟨ho, -⟩⟩; rotate_left 1; exact absurd HOL.out ho; (have HL5 := Lib.hid hl5); (have HN5 := Lib.hid hn5); (have HR5 := Lib.hid hR5); clear hl5 hn5 hR5; (have hb5 := below_chain2 h0 hb5'); clear hb5'))
  have HB5 := Lib.hid (HB1.out.trans (hb5.mono HB1.out.size))
  have HX5 := Lib.hid ((hb5.block bx (fp_lt_of_heap HX1.out)).trans HX1.out)
  clear hb5 h0 c0 s0 x0 x1 x2 x3 x4
  have HRIGHT := Lib.hid (fun (d : Nat) (os : Array Obj) => shareRight_ok x.id x.wt (grow (redrawn w5 d) os) HIN.out.2.1)
  have HFIND := Lib.hid (fun (d : Nat) (os : Array Obj) => spinFind_none x.id (grow (redrawn w5 d) os) ((HS.out.below HB5.out).below (below_regrown w5 d os)).spin HNEW.out)
  go_upto_region 2 with fail
  have c0 := cell_regrown (HS.out.below HB5.out).c0
  obtain ⟨x0, x1, x2, x3, x4⟩ := rowT_cells HX5.out
  have x0 := cell_regrown x0
  have x1 := cell_regrown x1
  have x2 := cell_regrown x2
  have x3 := cell_regrown x3
  refine wp_region_quiet_below (by kernel_rfl) (by kernel_rfl) ?_
  repeat (go_big_quiet_step (first | exact Calls.regrown_of (HRIGHT.out _ _) | exact Calls.regrown_of (HFIND.out _ _)))
  refine wpQuiet_nil ?_
  rintro _ ⟨⟨dq, osq⟩, rfl⟩
  clear c0 x0 x1 x2 x3 x4
  obtain ⟨w6, hw6⟩ : ∃ w6 : World, w6 = grow (redrawn w5 dq) osq := ⟨_, rfl⟩
  have HB56 := Lib.hid (show Below w5.heap.size w5 w6 by rw [hw6]; exact below_regrown w5 dq osq)
  rw [show (grow (redrawn w5 (Regrown.mk dq osq).d) (Regrown.mk dq osq).os) = w6 from hw6.symm]
  have HB6 := Lib.hid (HB5.out.trans (HB56.out.mono HB5.out.size))
  have HX6 := Lib.hid ((HB56.out.block bx (fp_lt_of_heap HX5.out)).trans HX5.out)
  have HR6 := Lib.hid (show RingAt (pre ++ [5, x.id]) ρ5 w6 f5 q x.gv x.rows by have h := HR5.out; rw [HM.out] at h; exact h.below HB56.out)
  clear hw6
  have HL6 := Lib.hid (show Later (fence ρ w) ρ5 w from fun k hk => HL5.out k (Nat.lt_of_lt_of_le hk HB1.out.size))
  have HLAT := Lib.hid (later_trans (fence_later ρ w) HL6.out (Nat.le_refl _))
  have HH6 := Lib.hid (show ShAt pre ρ5 w6 f sp q false v ns fb a from ((HHF.out.later HL6.out).below HB6.out))
  have e0 := HH6.out.pre'.c0
  obtain ⟨x0, x1, x2, x3, x4⟩ := rowT_cells HX6.out
  have HHD := Lib.hid (HH6.out.below (w' := w6.drew) ⟨rfl, rfl, rfl, Nat.le_refl _, fun _ _ => rfl⟩)
  have HX6D := Lib.hid (show w6.drew.heap[bx]? = some (rowT x (.slice ra li.length rc)) from HX6.out)
  have HFSP := Lib.hid (show ¬ SpinPart ρ5 pre f from fun hs => by
    have h1 := HH6.out.pre'.rf
    rcases hs with h2 | h2 | ⟨_, h2⟩ <;> rw [h1] at h2 <;> simp at h2)
  have HBR := Lib.hid (show ρ5 bx = [] by
    rw [HL5.out bx (fp_lt_of_heap HX1.out), HBX.out]
    simp [fence])
  have HBSP := Lib.hid (show ¬ SpinPart ρ5 pre bx from fun hs => by
    have h1 := HBR.out
    rcases hs with h2 | h2 | ⟨_, h2⟩ <;> rw [h1] at h2 <;> simp at h2)
  have hzd : w6.drew.heap.size = w6.heap.size := rfl
  obtain ⟨nb, hnb⟩ : ∃ nb : Nat, nb = w6.drew.heap.size := ⟨_, rfl⟩
  have HNB := Lib.hid hnb
  have hnf : nb ≠ f := by have := fp_lt_of_heap HH6.out.pre'.head; omega
  have hnx : nb ≠ bx := by have := fp_lt_of_heap HX6.out; omega
  clear hnb
  go_upto_region 4 with fail
  clear x3 x4
  go_region_held3 (fun w' => w'.cell? ⟨f, 0, none⟩ = some (.pointer (some ⟨sp, 0, none⟩)) ∧ w'.cell? ⟨bx, 0, none⟩ = some (.int .i64 x.id) ∧ w'.cell? ⟨bx, 1, none⟩ = some (.int .i64 x.wt) ∧ w'.cell? ⟨bx, 2, none⟩ = some (.int .i64 x.df))
    (first | go_keep | exact HJ.out)
    (first
      | (go_at_call 50; refine (spinJoin_any x.id x.wt 136 (.agg #[.pointer (some ⟨f5, 0, none⟩)]) _ HHD.out.pre'.spin HNEW.out HNS.out).mono ?_; rintro e w7 ⟨rfl, hF7, hz7, v', hv', hS7⟩; rw [← HNB.out]; (have HF7 := Lib.hid hF7); (have HV7 := Lib.hid hv'); (have HS7 := Lib.hid hS7); (have HJ := Lib.hid (show w7.cell? ⟨f, 0, none⟩ = some (.pointer (some ⟨sp, 0, none⟩)) ∧ w7.cell? ⟨bx, 0, none⟩ = some (.int .i64 x.id) ∧ w7.cell? ⟨bx, 1, none⟩ = some (.int .i64 x.wt) ∧ w7.cell? ⟨bx, 2, none⟩ = some (.int .i64 x.df) from ⟨fr_cell_of_heap (hF7.heap HHD.out.pre'.head HFSP.out) rfl, (rowT_cells (hF7.heap HX6D.out HBSP.out)).1, (rowT_cells (hF7.heap HX6D.out HBSP.out)).2.1, (rowT_cells (hF7.heap HX6D.out HBSP.out)).2.2.1⟩)); (have hn7 := node7 (hS7 (fun k => if k < w6.heap.size then ρ5 k else if k = w6.heap.size then pre ++ [4, x.id] else if v'.ownBlock = some k then pre ++ [3] else []) (fun k hk => by rw [hzd] at hk; simp [hk]) (by simp [hzd]) (fun k hk hk2 => by rw [hzd] at hk2; have h1 := (hv' k hk).1; rw [hzd] at h1; simp only [if_neg (Nat.not_lt.2 hk2), if_neg h1, hk, if_true]))); (have HN7 := Lib.hid hn7); (have n2 : w7.cell? ⟨nb, 2, none⟩ = some (.int .i64 0) := by rw [HNB.out]; exact hn7.1); (have f2 : w7.frozen? ⟨nb, 2, none⟩ = false := by rw [HNB.out]; exact hn7.2); clear hF7 hv' hS7 hn7))
  clear e0 x0 x1 x2
  go_wp2_with fail
  go_ret
  obtain ⟨ρ3, hρ3⟩ : ∃ ρ3 : Roles, ρ3 = fun k => if k < w6.heap.size then ρ5 k else if k = w6.heap.size then pre ++ [4, x.id] else if v'.ownBlock = some k then pre ++ [3] else [] := ⟨_, rfl⟩
  have hl3 : Later ρ5 ρ3 w6 := fun k hk => by rw [hρ3]; simp [hk]
  obtain ⟨b0, b1, b2⟩ := notBad HIN.out.2.1
  have hres := share_joined_df (s := (x.gv, x.rows)) (d := x.df) HHD.out HNEW.out (HR6.out.below (w' := w6.drew) ⟨rfl, rfl, rfl, Nat.le_refl _, fun _ _ => rfl⟩) HIN.out.2.2.2.2.1 ⟨Int.not_lt.1 b0, HXI.out⟩ (Int.not_lt.1 b1) (Int.not_lt.1 b2) hd3 hd4 HF7.out hl3 (HS7.out ρ3 hl3 (by rw [hρ3]; simp [hzd]) (fun k hk hk2 => by
    rw [hzd] at hk2
    rw [hρ3]
    have h1 := (HV7.out k hk).1
    rw [hzd] at h1
    simp only [if_neg (Nat.not_lt.2 hk2), if_neg h1, hk, if_true]))
  rw [← HNB.out] at hres
  have hz6 := HB6.out.size
  have hF6 : Fp (Part ρ pre) w w6.drew := (Fp.of_below HB6.out).then_below (w2 := w6.drew) ⟨rfl, rfl, rfl, Nat.le_refl _, fun _ _ => rfl⟩
  refine ⟨(hF6.trans HF7.out (fun k hk hs => later_part HLAT.out hk (spinPart_part hs))).setCell (p := ⟨nb, 2, none⟩) (fun hk => by have h := HNB.out; have hk' : nb < w.heap.size := hk; omega) _, .inl ⟨HIN.out, rfl, ρ3, later_trans HLAT.out hl3 hz6, fun k hk => ?_, hres⟩⟩
  rcases Nat.lt_or_ge k w6.heap.size with h6 | h6
  · have e := hl3 k h6
    have h3 : ρ5 k = [] ∨ Part ρ5 pre k := by
      rcases Nat.lt_or_ge k w1.heap.size with h1 | h1
      · left
        rw [HL5.out k h1]
        simp [fence, Nat.not_lt.2 hk]
      · rcases HN5.out k h1 with h3 | h3
        · exact .inl h3
        · exact .inr (part_sub h3)
    rcases h3 with h3 | ⟨s, h3⟩
    · exact .inl (e.trans h3)
    · exact .inr ⟨s, e.trans h3⟩
  · rw [hρ3]
    unfold Part
    simp only [if_neg (Nat.not_lt.2 h6)]
    split
    · exact .inr ⟨_, rfl⟩
    · split
      · exact .inr ⟨_, rfl⟩
      · exact .inl rfl
/-- THE LAW: load of a row, whatever becomes of it. -/
theorem shareLoadRow_any (x : TRow) (vr : Value) (li : List (FRow × Value)) (rows : List TRow) (w : World) (h : ShareAt pre ρ w f q false rows) (hv : RowsAt w vr li) (hm : li.map Prod.fst = x.rows) (hok : ∀ p ∈ li, I64 p.1.id ∧ ∀ y ∈ p.1.its, I64 y.id) (hx : I64 x.id) (hf : totR x.rows < 1000000) (hl : li.length < 1000000) (hns : rows.length < 1000000) :
    Calls Try.prog 81 #[.pointer (some ⟨f, 0, none⟩), .agg #[.int .i64 x.id, .int .i64 x.wt, .int .i64 x.df, vr, .bool x.gv]] w (LoadTRowPost pre ρ w f q rows x) := by
  obtain ⟨sp, v, ns, fb, a, h, rfl⟩ := h
  by_cases hin : okTIn q (ns.map (trowOf a)) x
  · exact loadT_good x vr li w h hv hm hok hf hl (by rwa [List.length_map] at hns) hx hin
  · have hbad : Calls Try.prog 81 #[.pointer (some ⟨f, 0, none⟩), .agg #[.int .i64 x.id, .int .i64 x.wt, .int .i64 x.df, vr, .bool x.gv]] w (fun e w' => e = .returned (.bool false) ∧ Below w.heap.size w w') := by
      by_cases ho : okL q x.gv x.rows
      · exact loadT_bad x vr li w h hv hm hok hf hl ho hin
      · exact loadT_norow x vr li w h hv hm hok hf hl ho
    refine hbad.mono ?_
    rintro e w' ⟨rfl, hb⟩
    exact ⟨Fp.of_below hb, .inr ⟨hin, rfl⟩⟩
end
end Go.Proofs.Ytohkchilogmneaa
