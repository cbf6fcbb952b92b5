/-
  An evaluator for closed runs: the operations (11: structs, arrays and rows that are built).
-/
import Derived.Test.YtjfcjpbolokfcaaGreatDoorEv14
namespace Go.Proofs.YtjfcjpbolokfcaaGreatDoor.Ev
open Go

section
variable {ρ : Nat → Nm} {nx : Nat}
theorem AR.set {a b : Array Value} (h : AR ρ nx a b) (i : Nat) {x y : Value} (hxy : VR ρ nx x y) : AR ρ nx (a.setIfInBounds i x) (b.setIfInBounds i y) := by
  refine ⟨by simp [h.1], fun j u v hu hv => ?_⟩
  rw [Array.getElem?_setIfInBounds] at hu hv
  by_cases e : i = j
  · rw [if_pos e] at hu hv
    split at hu
    · split at hv
      · obtain rfl := Option.some.inj hu
        obtain rfl := Option.some.inj hv
        exact hxy
      · cases hv
    · cases hu
  · rw [if_neg e] at hu hv
    exact h.2 j u v hu hv
/-- Parts of one number, and of one value. -/
inductive PR (ρ : Nat → Nm) (nx : Nat) : List (Nat × Value) → List (Nat × Value) → Prop
  | nil : PR ρ nx [] []
  | cons (i : Nat) (v u : Value) (l m : List (Nat × Value)) (h : VR ρ nx v u) (hr : PR ρ nx l m) : PR ρ nx ((i, v) :: l) ((i, u) :: m)
theorem foldl_set (off : Nat) : ∀ (l m : List Value) (k : Nat) (a b : Array Value), l.length = m.length → (∀ (i : Nat) x y, l[i]? = some x → m[i]? = some y → VR ρ nx x y) → AR ρ nx a b →
    AR ρ nx ((l.zipIdx k).foldl (fun cs (p : Value × Nat) => cs.setIfInBounds (off + p.2) p.1) a) ((m.zipIdx k).foldl (fun cs (p : Value × Nat) => cs.setIfInBounds (off + p.2) p.1) b)
  | [], [], _, _, _, _, _, h => h
  | [], _ :: _, _, _, _, h, _, _ => by simp at h
  | _ :: _, [], _, _, _, h, _, _ => by simp at h
  | x :: l, y :: m, k, a, b, h1, h2, h => by
    simp only [List.zipIdx_cons, List.foldl_cons]
    exact foldl_set off l m (k + 1) _ _ (by simpa using h1) (fun i u v hu hv => h2 (i + 1) u v (by simpa using hu) (by simpa using hv)) (h.set _ (h2 0 x y rfl rfl))
theorem zip_list (off : Nat) (v cells : Array Value) : v.zipIdx.foldl (fun cs (c, j) => cs.setIfInBounds (off + j) c) cells = (v.toList.zipIdx).foldl (fun cs (p : Value × Nat) => cs.setIfInBounds (off + p.2) p.1) cells := by
  rw [← Array.foldl_toList, Array.toList_zipIdx]
theorem fill_sim {place : Nat → Option (Nat × Nat)} : ∀ {l m : List (Nat × Value)} {a b r : Array Value}, PR ρ nx l m → AR ρ nx a b → Instr.fill place a l = some r → ∃ r', Instr.fill place b m = some r' ∧ AR ρ nx r r'
  | [], [], a, b, r, _, h, hr => by
    obtain rfl := Option.some.inj (show some a = some r from hr)
    exact ⟨b, rfl, h⟩
  | _, _, a, b, r, .cons i v u l m hv hp, h, hr => by
    unfold Instr.fill at hr ⊢
    cases hpl : place i with
    | none =>
      rw [hpl] at hr
      cases hr
    | some os =>
      rw [hpl] at hr
      obtain ⟨off, size⟩ := os
      have hc := hv.cells
      simp only at hr ⊢
      rw [zip_list] at hr ⊢
      rw [← hc.1, ← h.1]
      split at hr
      · cases hr
      · rename_i hn
        rw [if_neg hn]
        exact fill_sim hp (foldl_set off _ _ 0 _ _ (by simpa using hc.1) (fun j x y hx hy => hc.2 j x y (by simpa using hx) (by simpa using hy)) h) hr
end
/-- Parts' values. -/
noncomputable def evParts (f : T Value) (xs : List (Nat × Operand)) : Option (List (Nat × Value)) := match xs with
  | [] => some []
  | x :: xs => match evO f x.2 with
    | some v => match evParts f xs with
      | some vs => some ((x.1, v) :: vs)
      | none => none
    | none => none
theorem evParts_sound {ρ : Nat → Nm} {nx : Nat} {f : T Value} {a : Act} (hf : FR ρ nx f a) : ∀ {xs : List (Nat × Operand)} {vs : List (Nat × Value)}, evParts f xs = some vs → PR ρ nx vs (xs.map fun (i, x) => (i, a.eval x))
  | [], vs, h => by
    obtain rfl := Option.some.inj (show some [] = some vs from h)
    exact .nil
  | (i, x) :: xs, vs, h => by
    unfold evParts at h
    split at h
    · rename_i v hv
      split at h
      · rename_i us hus
        obtain rfl := Option.some.inj h
        exact .cons i v (a.eval x) us _ (evO_sound hf hv) (evParts_sound hf hus)
      · cases h
    · cases h
section
variable {P : Program} {o : Oper} {f : T Value} {s s' : St} {v : Value}
theorem build_run {t : TypeId} {ps : Array (Nat × Operand)} (ho : o.op = .build t ps) (ev : Operand → Value) : execOp ev o = (do pure (.value (← Instr.build t (ps.map fun (i, x) => (i, ev x))))) := by unfold execOp; rw [ho]
theorem build_ok {t : TypeId} {ps : Array (Nat × Operand)} {fs : Array Field} {inf : TypeInfo} {z : Value} {places : Array (Nat × Nat)} {vs : List (Nat × Value)} {cells : Array Value} (ho : o.op = .build t ps) (hu : P.underlying t = some (.struct fs)) (hi : P.info? t = some inf) (hz : inf.zero = some z) (hfz : flat z = true) (hp : runPure P (fs.mapM fun fd => do pure (fd.offset, ← sizeOf fd.type)) = some places) (hv : evParts f ps.toList = some vs) (hfill : Instr.fill (places[·]?) z.cells vs = some cells) : QOk P o f s (.agg cells) := by
  refine qOk_of (sem := fun ev => Instr.build t (ps.map fun (i, x) => (i, ev x))) (fun ev => build_run ho ev) (fun ρ w a hr hf => ?_)
  have hps := evParts_sound hf hv
  obtain ⟨cells', h1, h2⟩ := fill_sim hps (flat_vr (ρ := ρ) (nx := s.nx) hfz).cells hfill
  refine ⟨.agg cells', ?_, .agg _ _ h2.1 h2.2⟩
  have h1' : Instr.fill (places[·]?) z.cells (ps.map fun (i, x) => (i, a.eval x)).toList = some cells' := by
    rw [Array.toList_map]
    exact h1
  simp only [Instr.build, Sem.run_bind, run_zero hi hz, run_und hu, Result.andThen_ok, runPure_run _ _ hp w, h1', Sem.run_pure]
theorem buildArr_ok {t e : TypeId} {n : Nat} {ps : Array (Nat × Operand)} {inf ie : TypeInfo} {z : Value} {vs : List (Nat × Value)} {cells : Array Value} (ho : o.op = .build t ps) (hu : P.underlying t = some (.array n e)) (hi : P.info? t = some inf) (hz : inf.zero = some z) (hfz : flat z = true) (hie : P.info? e = some ie) (hv : evParts f ps.toList = some vs) (hfill : Instr.fill (fun i => some (i * ie.size, ie.size)) z.cells vs = some cells) : QOk P o f s (.agg cells) := by
  refine qOk_of (sem := fun ev => Instr.build t (ps.map fun (i, x) => (i, ev x))) (fun ev => build_run ho ev) (fun ρ w a hr hf => ?_)
  have hps := evParts_sound hf hv
  obtain ⟨cells', h1, h2⟩ := fill_sim hps (flat_vr (ρ := ρ) (nx := s.nx) hfz).cells hfill
  refine ⟨.agg cells', ?_, .agg _ _ h2.1 h2.2⟩
  have h1' : Instr.fill (fun i => some (i * ie.size, ie.size)) z.cells (ps.map fun (i, x) => (i, a.eval x)).toList = some cells' := by
    rw [Array.toList_map]
    exact h1
  simp only [Instr.build, Sem.run_bind, run_zero hi hz, run_und hu, Result.andThen_ok, run_siz hie, h1', Sem.run_pure]
theorem sl_new {ρ : Nat → Nm} {nx b l : Nat} : VR (upd ρ nx ⟨b, 0, 0⟩) (nx + 1) (.slice (some ⟨nx, 0, none⟩) l l) (.slice (some ⟨b, 0, none⟩) l l) := sl_at (ρ := ρ) (nx := nx) (l := l) (c := l) (b := b) (s := 0) (e := 0)
theorem buildSlice_ok {t e : TypeId} {n : Nat} {ps : Array (Nat × Operand)} {ie : TypeInfo} {z : Value} {vs : List (Nat × Value)} {cells : Array Value} (ho : o.op = .buildSlice t n ps) (hu : P.underlying t = some (.slice e)) (hie : P.info? e = some ie) (hz : ie.zero = some z) (hn : n * ie.size ≤ 2 ^ 24) (h0 : n * ie.size ≠ 0) (hv : evParts f ps.toList = some vs) (hfill : Instr.fill (fun i => some (i * ie.size, ie.size)) ((Array.range (n * ie.size)).map (z.cells[· % z.cells.size]!)) vs = some cells)
    (hrow : ∀ (i : Nat) x, ((Array.range (n * ie.size)).map (z.cells[· % z.cells.size]!))[i]? = some x → flat x = true) :
    ValOk P o f s (.slice (some ⟨s.nx, 0, none⟩) n n) (s.new (.cells (ofL cells.toList) cells.size e ie.size 0)) := by
  refine valOk_of (sem := fun ev => Instr.buildSlice t n (ps.map fun (i, x) => (i, ev x))) (fun ev => by unfold execOp; rw [ho]) (fun ρ w a hr hf => ?_)
  have hps := evParts_sound hf hv
  have har : AR ρ s.nx ((Array.range (n * ie.size)).map (z.cells[· % z.cells.size]!)) ((Array.range (n * ie.size)).map (z.cells[· % z.cells.size]!)) := ⟨rfl, fun i x y hx hy => by
    obtain rfl := Option.some.inj (hx.symm.trans hy)
    exact flat_vr (hrow i x hx)⟩
  obtain ⟨cells', h1, h2⟩ := fill_sim hps har hfill
  refine ⟨_, _, .slice (some ⟨w.heap.size, 0, none⟩) n n, ?_, (newRow_sim hr h2 e ie.size).less get_updH, sl_new⟩
  have h1' : Instr.fill (fun i => some (i * ie.size, ie.size)) ((Array.range (n * ie.size)).map (z.cells[· % z.cells.size]!)) (ps.map fun (i, x) => (i, a.eval x)).toList = some cells' := by
    rw [Array.toList_map]
    exact h1
  have hgt : ¬ n * ie.size > 2 ^ 24 := by omega
  simp only [Instr.buildSlice, Sem.run_bind, run_und hu, Result.andThen_ok, run_siz hie, if_neg hgt, if_neg h0, run_zero hie hz, h1', Sem.run_pure]
  rfl
theorem buildSlice0_ok {t e : TypeId} {ps : Array (Nat × Operand)} {ie : TypeInfo} (ho : o.op = .buildSlice t 0 ps) (hu : P.underlying t = some (.slice e)) (hie : P.info? e = some ie) (hps : ps.toList = []) : ValOk P o f s (.slice (some ⟨s.nx, 0, none⟩) 0 0) (s.new (.cells .leaf 0 e ie.size 0)) := by
  refine valOk_of (sem := fun ev => Instr.buildSlice t 0 (ps.map fun (i, x) => (i, ev x))) (fun ev => by unfold execOp; rw [ho]) (fun ρ w a hr hf => ?_)
  refine ⟨_, _, .slice (some ⟨w.heap.size, 0, none⟩) 0 0, ?_, (newRow_sim hr (vs := #[]) (us := #[]) ⟨rfl, fun i x y hx => by simp at hx⟩ e ie.size).less get_updH, sl_new⟩
  have hm : (ps.map fun (i, x) => (i, a.eval x)).toList = [] := by rw [Array.toList_map, hps]; rfl
  have hgt : ¬ 0 > 2 ^ 24 := Nat.not_lt_zero _
  have hr0 : ∀ g : Nat → Value, (Array.range 0).map g = #[] := fun g => by simp
  simp only [Instr.buildSlice, Sem.run_bind, run_und hu, Result.andThen_ok, run_siz hie, Nat.zero_mul, hm, if_neg hgt, if_true, Sem.run_pure, hr0]
  rfl
theorem makeMap_run {t : TypeId} (ho : o.op = .makeMap t none) (ev : Operand → Value) : execOp ev o = (do pure (.value (← Instr.makeMap t none))) := by unfold execOp; rw [ho]; rfl
theorem makeMap_ok {t : TypeId} (ho : o.op = .makeMap t none) : ValOk P o f s (.map (some s.nx)) (s.new (.map [] 0)) := by
  refine valOk_of (sem := fun _ => Instr.makeMap t none) (fun ev => makeMap_run ho ev) (fun ρ w a hr _ => ?_)
  have st := hr.new (.map #[] 0) (.map [] 0) ⟨#[], rfl, .nil⟩
  refine ⟨_, _, .map (some w.heap.size), rfl, st.less get_updH, ?_⟩
  have h := VR.map (ρ := upd ρ s.nx ⟨w.heap.size, 0, 0⟩) s.nx (Nat.lt_succ_self s.nx)
  rw [upd_at] at h
  exact h
end
end Go.Proofs.YtjfcjpbolokfcaaGreatDoor.Ev
