/-
  A configuration that came in, opened.
  An invocation that came in.
  StateEntries: its row's closed facts, one by one.
-/
import Derived.Test.YtjmlimogmmikoaaGreatDoorSe05
import Derived.Test.YtjmlimogmmikoaaGreatDoorSe03
import Derived.Test.YtjmlimogmmikoaaGreatDoorSe10
import Derived.Test.YtjmlimogmmikoaaGreatDoorSe08
import Derived.Test.YtjmlimogmmikoaaGreatDoorSe02
namespace Go.Proofs.YtjmlimogmmikoaaGreatDoor
open Go.ChangeShapes Go.WideShapes Go.ChangeAt Go.RowKit Go.Deep
theorem cfg_cells : Tryz.prog.cellsOf 25 = 19 := by kernel_rfl
theorem ten_cells : Tryz.prog.cellsOf 70 = 3 := by kernel_rfl
theorem int_cells : Tryz.prog.cellsOf 3 = 1 := by kernel_rfl
theorem ten_bytes : Tryz.prog.bytesOf 70 = 32 := by kernel_rfl
theorem int_bytes : Tryz.prog.bytesOf 3 = 8 := by kernel_rfl
theorem cfg_fields : ∃ fs, Tryz.prog.underlying 25 = some (.struct fs) ∧ oneCellFields Tryz.prog fs = true ∧ fs.size = 19 ∧
    fs.toList.map (·.type) = [22, 23, 3, 3, 3, 3, 3, 3, 3, 3, 3, 3, 3, 3, 3, 3, 3, 3, 3] :=
  ⟨_, Tryz.underlying25, by kernel_rfl, by kernel_rfl, by kernel_rfl⟩
theorem ten_fields : ∃ fs, Tryz.prog.underlying 70 = some (.struct fs) ∧ oneCellFields Tryz.prog fs = true ∧ fs.size = 3 ∧ fs.toList.map (·.type) = [9, 3, 3] :=
  ⟨_, Tryz.underlying70, by kernel_rfl, by kernel_rfl, by kernel_rfl⟩
theorem addr_add (b o j : Nat) : (⟨b, o, none⟩ : Addr).add j = ⟨b, o + j, none⟩ := by unfold Addr.add; split <;> simp_all
theorem field_at {fs : Array Field} {l : List TypeId} (h : fs.toList.map (·.type) = l) {j : Nat} {t : TypeId} (ht : l[j]? = some t) : ∃ f, fs[j]? = some f ∧ f.type = t := by
  rw [← h, List.getElem?_map] at ht
  cases hj : fs.toList[j]? with
  | none => rw [hj] at ht; cases ht
  | some f =>
    rw [hj] at ht
    exact ⟨f, by simpa using hj, by simpa using ht⟩
section
variable {H : Type} {enc : TypeId × Value → H} {W : World} {base : Nat} {sp : Nat → Bool} {hd : Bool}
theorem field_int {n : Nat} {u : Value} {y : DataW H × List MemPlace} (h : FieldAt enc Tryz.prog W base sp hd n 3 u y) : ∃ k : Int, u = .int .i64 k := by
  obtain ⟨k, e, _, _⟩ := DataW.trod_int Tryz.underlying3 h
  exact ⟨k, by simpa using e⟩
theorem field_string {n : Nat} {u : Value} {y : DataW H × List MemPlace} (h : FieldAt enc Tryz.prog W base sp hd n 9 u y) : ∃ s : ByteArray, u = .string s ∧ y.1 = .lit (.string s.data.toList) := by
  obtain ⟨s, e, rfl, _⟩ := DataW.trod_string Tryz.underlying9 h
  exact ⟨s, by simpa using e, rfl⟩
set_option maxRecDepth 100000 in
theorem open_tens {n : Nat} {u : Value} {y : DataW H × List MemPlace} (h : FieldAt enc Tryz.prog W base sp hd n 22 u y) (hz : ∀ x ∈ y.1.weights Tryz.prog 22, x ≤ 140737488351232) : ∃ ts, TensAt W u ts := by
  obtain ⟨fs, hu, hone, hsz, hty⟩ := ten_fields
  obtain ⟨a, len, cap, D, rfl, hx, hcap, hi⟩ := open_rows Tryz.underlying22 hu hone (ten_cells.trans hsz.symm) (by omega) h
  obtain ⟨f0, hf0, ht0⟩ := field_at hty (j := 0) rfl
  obtain ⟨f1, hf1, ht1⟩ := field_at hty (j := 1) rfl
  obtain ⟨f2, hf2, ht2⟩ := field_at hty (j := 2) rfl
  have key : ∀ i, i < len → ∃ (t : Ten) (b off : Nat), a = some ⟨b, off, none⟩ ∧ W.cell? ⟨b, off + i * 3, none⟩ = some (.string t.name) ∧ W.cell? ⟨b, off + i * 3 + 1, none⟩ = some (.int .i64 t.weight) ∧ W.cell? ⟨b, off + i * 3 + 2, none⟩ = some (.int .i64 t.quota) ∧ t.name.size ≤ 140737488351232 := by
    intro i hil
    obtain ⟨b, off, ys, m, ha, hD, hl, hf⟩ := hi i hil
    obtain ⟨u0, y0, c0, hy0, h0⟩ := hf 0 f0 hf0
    obtain ⟨u1, y1, c1, hy1, h1⟩ := hf 1 f1 hf1
    obtain ⟨u2, y2, c2, hy2, h2⟩ := hf 2 f2 hf2
    rw [ht0] at h0; rw [ht1] at h1; rw [ht2] at h2
    obtain ⟨s, rfl, hs⟩ := field_string h0
    obtain ⟨k1, rfl⟩ := field_int h1
    obtain ⟨k2, rfl⟩ := field_int h2
    rw [hsz] at c0 c1 c2
    refine ⟨⟨s, k1, k2⟩, b, off, ha, c0, by simpa [Nat.add_assoc] using c1, by simpa [Nat.add_assoc] using c2, ?_⟩
    rcases hx with hx | ⟨sp, hx⟩
    · omega
    · refine hz s.size ?_
      rw [hx]
      refine weights_slice_mem Tryz.underlying22 (d := D i) (List.mem_map.2 ⟨i, List.mem_range.2 hil, rfl⟩) ?_
      rw [hD]
      refine weights_struct_mem hu (j := 0) hf0 (d := y0.1) (by simp [hy0]) ?_
      rw [ht0, hs]
      have := weights_string (H := H) (P := Tryz.prog) 9 s.data.toList
      simpa using this
  let t : Nat → Ten := fun i => if h : i < len then (key i h).choose else ⟨⟨#[]⟩, 0, 0⟩
  refine ⟨(List.range len).map t, a, cap, by simp, ?_, fun i t0 h0 => ?_⟩
  · rcases hx with hx | ⟨sp, hx⟩
    · simp [hx]
    · have h1 := hz _ (by rw [hx]; exact weights_slice_len Tryz.underlying22)
      rw [ten_bytes] at h1
      simp at h1 ⊢
      omega
  · have hil : i < len := by
      have := (List.getElem?_eq_some_iff.1 h0).1
      simpa using this
    have e0 : t0 = (key i hil).choose := by
      rw [List.getElem?_map, List.getElem?_range hil] at h0
      simp only [Option.map_some, Option.some.injEq] at h0
      rw [← h0]
      simp only [t]
      rw [dif_pos hil]
    obtain ⟨b, off, ha, c0, c1, c2, hs⟩ := (key i hil).choose_spec
    rw [← e0] at c0 c1 c2 hs
    exact ⟨hs, b, off, ha, c0, c1, c2⟩
set_option maxRecDepth 100000 in
theorem open_ints {n : Nat} {u : Value} {y : DataW H × List MemPlace} (h : FieldAt enc Tryz.prog W base sp hd n 23 u y) (hz : ∀ x ∈ y.1.weights Tryz.prog 23, x ≤ 140737488351232) : ∃ ls, IntsAt W u ls := by
  rcases open_slice Tryz.underlying23 h with ⟨h1, h2⟩ | ⟨a, len, cap, m, n, D, Pl, hcs, hb, hl, hm, hmm, hx, hi⟩
  · have : u = .slice none 0 0 := by simpa using h1
    subst this
    exact ⟨[], none, 0, rfl, by simp, fun i n hn => by simp at hn⟩
  · have : u = .slice (some a) len cap := by simpa using hcs
    subst this
    have hlm : len ≤ m := by rw [hmm]; split <;> omega
    have key : ∀ i, i < len → ∃ k : Int, W.cell? (a.add i) = some (.int .i64 k) := by
      intro i hil
      obtain ⟨cs', hc, ht'⟩ := hi i (by omega)
      rw [int_cells] at hc
      obtain ⟨_, hcl, hat⟩ := World.cells?_some hc
      obtain ⟨k, rfl, _, _⟩ := DataW.trod_int Tryz.underlying3 ht'
      have := hat 0 (by omega)
      rw [Go.Deep.add_add] at this
      exact ⟨k, by simpa using this⟩
    have hsp : 0 < len → a.spot = none := fun h0 => by
      obtain ⟨k, hk⟩ := key 0 h0
      exact cell_spot (by simpa [Addr.add] using hk)
    let t : Nat → Int := fun i => if h : i < len then (key i h).choose else 0
    refine ⟨(List.range len).map t, some a, cap, by simp, ?_, fun i t0 h0 => ?_⟩
    · have h1 := hz _ (by rw [hx]; exact weights_slice_len Tryz.underlying23)
      rw [int_bytes] at h1
      simp at h1 ⊢
      omega
    · have hil : i < len := by
        have := (List.getElem?_eq_some_iff.1 h0).1
        simpa using this
      have e0 : t0 = (key i hil).choose := by
        rw [List.getElem?_map, List.getElem?_range hil] at h0
        simp only [Option.map_some, Option.some.injEq] at h0
        rw [← h0]
        simp only [t]
        rw [dif_pos hil]
      have c0 := (key i hil).choose_spec
      rw [← e0] at c0
      obtain ⟨b, off, spot⟩ := a
      have hs := hsp (by omega)
      simp at hs
      subst hs
      rw [addr_add] at c0
      exact ⟨b, off, rfl, c0⟩
set_option maxRecDepth 100000 in
theorem open_config {b0 : Nat} {v : Value} {d : DataW H} {p : List MemPlace} (hv : Value.okWide Tryz.prog W .any b0 25 v) (h : DataW.Trod enc Tryz.prog W base sp hd 25 v d p)
    (hz : ∀ x ∈ d.weights Tryz.prog 25, x ≤ 140737488351232) : ∃ cs tv lv c, v = .agg cs ∧ CfgCells cs tv lv c ∧ CfgAt W tv lv c := by
  obtain ⟨fs, hu, hone, hsz, hty⟩ := cfg_fields
  obtain ⟨cs, ys, n, rfl, rfl, rfl, hcs, hys, hf⟩ := open_struct hu hone (cfg_cells.trans hsz.symm) hv h
  have wt : ∀ (j : Nat) (f : Field) (y : DataW H × List MemPlace), fs[j]? = some f → ys[j]? = some y → ∀ x ∈ y.1.weights Tryz.prog f.type, x ≤ 140737488351232 := fun j f y hj hy x hx =>
    hz x (weights_struct_mem hu hj (d := y.1) (by simp [hy]) hx)
  have int : ∀ j, 2 ≤ j → j < 19 → ∃ k : Int, cs[j]? = some (.int .i64 k) := by
    intro j h2 h19
    have ht : [22, 23, 3, 3, 3, 3, 3, 3, 3, 3, 3, 3, 3, 3, 3, 3, 3, 3, 3][j]? = some 3 := by
      have hj : j = 2 ∨ j = 3 ∨ j = 4 ∨ j = 5 ∨ j = 6 ∨ j = 7 ∨ j = 8 ∨ j = 9 ∨ j = 10 ∨ j = 11 ∨ j = 12 ∨ j = 13 ∨ j = 14 ∨ j = 15 ∨ j = 16 ∨ j = 17 ∨ j = 18 := by omega
      rcases hj with rfl | rfl | rfl | rfl | rfl | rfl | rfl | rfl | rfl | rfl | rfl | rfl | rfl | rfl | rfl | rfl | rfl <;> rfl
    obtain ⟨f, hfj, htj⟩ := field_at hty ht
    obtain ⟨u, y, hcj, hyj, hr⟩ := hf j f hfj
    rw [htj] at hr
    obtain ⟨k, rfl⟩ := field_int hr
    exact ⟨k, hcj⟩
  obtain ⟨f0, hf0, ht0⟩ := field_at hty (j := 0) rfl
  obtain ⟨f1, hf1, ht1⟩ := field_at hty (j := 1) rfl
  obtain ⟨tv, y0, c0, hy0, r0⟩ := hf 0 f0 hf0
  obtain ⟨lv, y1, c1, hy1, r1⟩ := hf 1 f1 hf1
  have w0 := wt 0 f0 y0 hf0 hy0
  have w1 := wt 1 f1 y1 hf1 hy1
  rw [ht0] at r0 w0
  rw [ht1] at r1 w1
  obtain ⟨ts, hts⟩ := open_tens r0 w0
  obtain ⟨ls, hls⟩ := open_ints r1 w1
  obtain ⟨k2, e2⟩ := int 2 (by omega) (by omega)
  obtain ⟨k3, e3⟩ := int 3 (by omega) (by omega)
  obtain ⟨k4, e4⟩ := int 4 (by omega) (by omega)
  obtain ⟨k5, e5⟩ := int 5 (by omega) (by omega)
  obtain ⟨k6, e6⟩ := int 6 (by omega) (by omega)
  obtain ⟨k7, e7⟩ := int 7 (by omega) (by omega)
  obtain ⟨k8, e8⟩ := int 8 (by omega) (by omega)
  obtain ⟨k9, e9⟩ := int 9 (by omega) (by omega)
  obtain ⟨k10, e10⟩ := int 10 (by omega) (by omega)
  obtain ⟨k11, e11⟩ := int 11 (by omega) (by omega)
  obtain ⟨k12, e12⟩ := int 12 (by omega) (by omega)
  obtain ⟨k13, e13⟩ := int 13 (by omega) (by omega)
  obtain ⟨k14, e14⟩ := int 14 (by omega) (by omega)
  obtain ⟨k15, e15⟩ := int 15 (by omega) (by omega)
  obtain ⟨k16, e16⟩ := int 16 (by omega) (by omega)
  obtain ⟨k17, e17⟩ := int 17 (by omega) (by omega)
  obtain ⟨k18, e18⟩ := int 18 (by omega) (by omega)
  exact ⟨cs, tv, lv, ⟨ts, ls, k2, k3, k4, k5, k6, k7, k8, k9, k10, k11, k12, k13, k14, k15, k16, k17, k18⟩, rfl, ⟨hcs.trans hsz, c0, c1, e2, e3, e4, e5, e6, e7, e8, e9, e10, e11, e12, e13, e14, e15, e16, e17, e18⟩, hts, hls⟩
end
end Go.Proofs.YtjmlimogmmikoaaGreatDoor
namespace Go.Proofs.YtjmlimogmmikoaaGreatDoor
open Go.WideShapes Go.RowKit
theorem iv_cellsN : Tryz.prog.cellsOf 49 = 5 := by kernel_rfl
theorem iv_fieldsN : ∃ fs, Tryz.prog.underlying 49 = some (.struct fs) ∧ fs.toList.map (fun f => (f.type, f.offset)) = [(3, 0), (3, 1), (9, 2), (3, 3), (3, 4)] := ⟨_, Tryz.underlying49, by kernel_rfl⟩
section
variable {H : Type} {enc : TypeId × Value → H} {W : World} {base : Nat} {sp : Nat → Bool} {hd : Bool}
set_option maxRecDepth 100000 in
theorem odec_iv {n : Nat} {cs : List Value} {y : DataW H × List MemPlace} (h : DataW.trod enc Tryz.prog W base sp hd n 49 cs = some y) : ∃ x : Ivn, cs = (ivC x).toList := by
  obtain ⟨fs, hu, hfs⟩ := iv_fieldsN
  obtain ⟨ys, m, _, hy, hlen, hyl, hf⟩ := DataW.trod_struct hu h
  have hsz : fs.size = 5 := by have := congrArg List.length hfs; simpa using this
  rw [iv_cellsN] at hlen
  have hys (j : Nat) (hj : j < 5) : ys[j]? = some (ys[j]'(by omega)) := List.getElem?_eq_getElem (by omega)
  obtain ⟨u0, u1, u2, u3, u4, rfl⟩ : ∃ u0 u1 u2 u3 u4, cs = [u0, u1, u2, u3, u4] := by
    match cs, hlen with
    | [u0, u1, u2, u3, u4], _ => exact ⟨_, _, _, _, _, rfl⟩
  have key (j : Nat) (t : TypeId) (o : Nat) (ht : ([(3, 0), (3, 1), (9, 2), (3, 3), (3, 4)] : List (TypeId × Nat))[j]? = some (t, o)) (h1 : Tryz.prog.cellsOf t = 1) : DataW.trod enc Tryz.prog W base sp hd m t (([u0, u1, u2, u3, u4].drop o).take 1) = ys[j]? := by
    obtain ⟨f, hj, rfl, rfl⟩ := ofield_of hfs ht
    have := hf j f hj
    rw [h1] at this
    exact this
  obtain ⟨k0, e0⟩ := odec_int (key 0 _ _ rfl oo_int) (hys 0 (by omega))
  obtain ⟨k1, e1⟩ := odec_int (key 1 _ _ rfl oo_int) (hys 1 (by omega))
  obtain ⟨k2, e2⟩ := odec_string (key 2 _ _ rfl oo_str) (hys 2 (by omega))
  obtain ⟨k3, e3⟩ := odec_int (key 3 _ _ rfl oo_int) (hys 3 (by omega))
  obtain ⟨k4, e4⟩ := odec_int (key 4 _ _ rfl oo_int) (hys 4 (by omega))
  simp only [List.drop_succ_cons, List.drop_zero, List.take_succ_cons, List.take_zero, List.cons.injEq, and_true] at e0 e1 e2 e3 e4
  subst e0 e1 e2 e3 e4
  exact ⟨⟨k0, k1, k2, k3, k4⟩, rfl⟩
set_option maxRecDepth 100000 in
theorem open_iv {r : Reach} {b0 : Nat} {v : Value} {d : DataW H} {p : List MemPlace} (hv : Value.okWide Tryz.prog W r b0 49 v) (h : DataW.Trod enc Tryz.prog W base sp hd 49 v d p) : ∃ x : Ivn, v = .agg (ivC x) := by
  obtain ⟨fs, hu, hfs⟩ := iv_fieldsN
  obtain ⟨cs, rfl, hsz⟩ := okWide_struct hu hv
  obtain ⟨fuel, hf⟩ := h
  obtain ⟨x, hx⟩ := odec_iv hf
  refine ⟨x, ?_⟩
  have : cs.toList = (ivC x).toList := hx
  rw [show cs = ivC x from Array.toList_inj.1 this]
end
end Go.Proofs.YtjmlimogmmikoaaGreatDoor
namespace Go.Proofs.YtjmlimogmmikoaaGreatDoor.stateEntries
open Go.RowKit Go.Proofs.YtjmlimogmmikoaaGreatDoor
theorem jf0 : (Rows.stateEntriesRow.wf (OpenSpec.ofChange (OpenSpec.ofChange Rows.stateEntriesSpec).bare)) = true := by kernel_rfl
theorem jf1 : (laidOutB Tryz.pinned.checked.prog) = true := by kernel_rfl
theorem jf2 : (mapsRowed Tryz.pinned.checked.prog) = true := by kernel_rfl
theorem jf3 : (Tryz.f5.params.all (Tryz.pinned.checked.prog.readableRec ·)) = true := by kernel_rfl
theorem jf4 : (namedTie Tryz.pinned.checked.prog Rows.stateEntriesRow.named (OpenSpec.ofChange Rows.stateEntriesSpec).bare.vars) = true := by kernel_rfl
theorem jf5 : ((Rows.stateEntriesRow.stops == [])) = true := by kernel_rfl
theorem jf6 : ((Tryz.pinned.checked.prog.stops == [])) = true := by kernel_rfl
theorem jf7 : ((Rows.stateEntriesRow.knobs == [])) = true := by kernel_rfl
theorem jf8 : ((Tryz.pinned.checked.prog.stopKnobs == [])) = true := by kernel_rfl
theorem jf9 : ((Rows.stateEntriesRow.inPlace == Tryz.pinned.checked.prog.inPlace 5)) = true := by kernel_rfl
theorem jf10 : ((Rows.stateEntriesRow.unfollowed == Tryz.pinned.checked.prog.unfollowed 5)) = true := by kernel_rfl
theorem jf11 : ((Rows.stateEntriesRow.recurses == Tryz.pinned.checked.prog.recurses 5)) = true := by kernel_rfl
theorem jf12 : ((Rows.stateEntriesRow.named == Tryz.pinned.checked.prog.varsNamed 5)) = true := by kernel_rfl
theorem jf13 : ((Rows.stateEntriesRow.maps == (Tryz.f5.params.toList ++ (OpenSpec.ofChange Rows.stateEntriesSpec).bare.plain.varTypes Tryz.pinned.checked.prog).any (Tryz.pinned.checked.prog.mapsRec ·))) = true := by kernel_rfl
theorem jf14 : ((Rows.stateEntriesRow.ifaces == (Tryz.f5.params.toList ++ (OpenSpec.ofChange Rows.stateEntriesSpec).bare.plain.varTypes Tryz.pinned.checked.prog).any (Tryz.pinned.checked.prog.ifacesRec ·))) = true := by kernel_rfl
theorem jf15 : ((Rows.stateEntriesRow.mapsOut == Tryz.pinned.checked.prog.mapsAmong Tryz.f5.resultTypes.toList)) = true := by kernel_rfl
theorem jf16 : ((Rows.stateEntriesRow.loops == (Tryz.f5.params.toList ++ (OpenSpec.ofChange Rows.stateEntriesSpec).bare.plain.varTypes Tryz.pinned.checked.prog).any (Tryz.pinned.checked.prog.loopsFrom ·))) = true := by kernel_rfl
theorem jf17 : ((Rows.stateEntriesRow.wideKeys == (Tryz.f5.params.toList ++ (OpenSpec.ofChange Rows.stateEntriesSpec).bare.plain.varTypes Tryz.pinned.checked.prog ++ Tryz.f5.resultTypes.toList).any (Tryz.pinned.checked.prog.wideKeysFrom ·))) = true := by kernel_rfl
theorem jf18 : ((OpenSpec.ofChange Rows.stateEntriesSpec).bare.vars.all (Tryz.pinned.checked.prog.varReadable ·)) = true := by kernel_rfl
theorem jf19 : (Tryz.f5.resultTypes.all (fun t => Tryz.pinned.checked.prog.readableRec t && decide (t < Tryz.pinned.checked.prog.types.size))) = true := by kernel_rfl
theorem jf20 : ((Rows.stateEntriesRow.ifacesOut == Tryz.f5.resultTypes.toList.any (Tryz.pinned.checked.prog.ifacesRec ·))) = true := by kernel_rfl
theorem jf21 : ((Rows.stateEntriesRow.loopsOut == Tryz.f5.resultTypes.toList.any (Tryz.pinned.checked.prog.loopsFrom ·))) = true := by kernel_rfl
theorem jf22 : ((Rows.stateEntriesRow.plainKeys == Tryz.pinned.checked.prog.plainKeys)) = true := by kernel_rfl
theorem jf23 : (Rows.stateEntriesRow.shortTexts.isNone) = true := by kernel_rfl
theorem jf24 : (Tryz.pinned.checked.prog.stopsHeard) = true := by kernel_rfl
theorem jf25 : (Tryz.pinned.checked.prog.mayEnter) = true := by kernel_rfl
theorem jf26 : ((Rows.stateEntriesRow.lifted == Tryz.pinned.checked.prog.liftsFinal)) = true := by kernel_rfl
theorem jf27 : ((Tryz.pinned.checked.prog.make == some Rows.stateEntriesRow.make)) = true := by kernel_rfl
theorem jf28 : ((Rows.stateEntriesRow.kinds == (if Rows.stateEntriesRow.domain.isEmpty then [] else Tryz.f5.params.toList.map fun t => match Tryz.pinned.checked.prog.underlying t with | some (.int k) => some k | _ => none))) = true := by kernel_rfl
theorem jf29 : ((Rows.stateEntriesRow.pinned == Rows.stateEntriesRow.pinnedBy)) = true := by kernel_rfl
theorem jf30 : ((Rows.stateEntriesRow.veiled == (Tryz.f5.params.toList ++ (OpenSpec.ofChange Rows.stateEntriesSpec).bare.plain.varTypes Tryz.pinned.checked.prog ++ Tryz.f5.resultTypes.toList).any (Tryz.pinned.checked.prog.veiledRec ·))) = true := by kernel_rfl
theorem jf31 : (Rows.stateEntriesRow.veiledFits Tryz.pinned.checked.prog Tryz.f5.params.toList (Tryz.f5.params.toList ++ (OpenSpec.ofChange Rows.stateEntriesSpec).bare.plain.varTypes Tryz.pinned.checked.prog ++ Tryz.f5.resultTypes.toList)) = true := by kernel_rfl
theorem jfand {a b : Bool} (h1 : a = true) (h2 : b = true) : (a && b) = true := by rw [h1, h2]; rfl
set_option maxRecDepth 100000 in
theorem facts : joinedFacts Tryz.pinned.checked.prog 5 Tryz.f5 (OpenSpec.ofChange Rows.stateEntriesSpec).bare Rows.stateEntriesRow = true := by
  unfold joinedFacts
  exact jfand (jfand (jfand (jfand (jfand (jfand (jfand (jfand (jfand (jfand (jfand (jfand (jfand (jfand (jfand (jfand (jfand (jfand (jfand (jfand (jfand (jfand (jfand (jfand (jfand (jfand (jfand (jfand (jfand (jfand (jfand (jf0) jf1) jf2) jf3) jf4) jf5) jf6) jf7) jf8) jf9) jf10) jf11) jf12) jf13) jf14) jf15) jf16) jf17) jf18) jf19) jf20) jf21) jf22) jf23) jf24) jf25) jf26) jf27) jf28) jf29) jf30) jf31
end Go.Proofs.YtjmlimogmmikoaaGreatDoor.stateEntries
