/-
  An evaluator for closed runs: the operations (3: new blocks, places, parts).
-/
import Derived.Test.YtjfcjpbolokfcaaGreatDoorEv6
namespace Go.Proofs.YtjfcjpbolokfcaaGreatDoor.Ev
open Go

theorem writeF_get : ∀ (vs : List Value) (t : T Value) (o i : Nat) (v : Value), (writeF vs t o).get i = some v → (o ≤ i ∧ vs[i - o]? = some v) ∨ ((i < o ∨ o + vs.length ≤ i) ∧ t.get i = some v)
  | [], t, o, i, v, h => by
    refine .inr ⟨?_, h⟩
    simp only [List.length_nil]
    omega
  | x :: vs, t, o, i, v, h => by
    rcases writeF_get vs (t.set x o) (o + 1) i v h with ⟨h1, h2⟩ | ⟨h1, h2⟩
    · refine .inl ⟨by omega, ?_⟩
      rw [show i - o = (i - (o + 1)) + 1 by omega]
      simpa using h2
    · rcases set_get h2 with ⟨rfl, rfl⟩ | ⟨hne, h2⟩
      · exact .inl ⟨Nat.le_refl _, by simp⟩
      · refine .inr ⟨?_, h2⟩
        simp only [List.length_cons]
        omega
noncomputable def ofL (vs : List Value) : T Value := writeF vs .leaf 0
theorem ofL_get {vs : List Value} {i : Nat} {v : Value} (h : (ofL vs).get i = some v) : vs[i]? = some v := by
  rcases writeF_get vs .leaf 0 i v h with ⟨_, h2⟩ | ⟨_, h2⟩
  · simpa using h2
  · cases h2
theorem newRow_sim {ρ : Nat → Nm} {nx : Nat} {H : Nat → Option AO} {w : World} (h : HR ρ nx H w) {vs us : Array Value} (hv : AR ρ nx vs us) (e : TypeId) (sz : Nat) :
    Step ρ nx H w (upd ρ nx ⟨w.heap.size, 0, 0⟩) (nx + 1) (updH H nx (some (.cells (ofL vs.toList) vs.size e sz 0))) { w with heap := w.heap.push (.cells us e) } := by
  refine h.new _ _ ⟨us, (0, 0), rfl, ?_, fun i v hi hg => ?_, fun j _ _ => by simp⟩
  · have := hv.1
    simp
    omega
  · have hg2 := ofL_get hg
    obtain ⟨u, hu, hr⟩ := hv.at (i := i) (x := v) (by simpa using hg2)
    exact ⟨u, by simpa using hu, hr.mono (upd_ext _ _ _)⟩
theorem ptr_new (ρ : Nat → Nm) (nx b : Nat) : VR (upd ρ nx ⟨b, 0, 0⟩) (nx + 1) (.pointer (some ⟨nx, 0, none⟩)) (.pointer (some ⟨b, 0, none⟩)) := by
  have h := VR.ptr (ρ := upd ρ nx ⟨b, 0, 0⟩) nx 0 (Nat.lt_succ_self nx)
  rw [upd_at] at h
  exact h
/-- A state with a new block. -/
noncomputable def St.new (s : St) (a : AO) : St := ⟨s.h.set a s.nx, s.nx + 1⟩
section
variable {P : Program} {o : Oper} {f : T Value} {s s' : St} {v : Value}
theorem run_newVar (P : Program) (t : TypeId) (v : Value) (w : World) : (newVar t v).run P w = .ok ⟨w.heap.size, 0, none⟩ { w with heap := w.heap.push (.cells v.cells t) } := rfl
theorem alloc_ok {ty : TypeId} {i : TypeInfo} {z : Value} (ho : o.op = .alloc ty) (hi : P.info? ty = some i) (hz : i.zero = some z) (hf : flat z = true) : ValOk P o f s (.pointer (some ⟨s.nx, 0, none⟩)) (s.new (.cells (ofL z.cells.toList) z.cells.size ty 0 0)) := by
  refine valOk_of (sem := fun _ => Instr.alloc ty true (.tuple #[])) (fun ev => by unfold execOp; rw [ho]) (fun ρ w a hr _ => ?_)
  refine ⟨_, _, _, ?_, (newRow_sim hr ((flat_vr hf).cells) ty 0).less get_updH, ptr_new _ _ _⟩
  simp only [Instr.alloc, Sem.run_bind, run_zero hi hz, Result.andThen_ok, run_newVar, Sem.run_pure]
theorem box_ok {ty : TypeId} {x : Operand} (ho : o.op = .box ty x) (hx : evO f x = some v) : ValOk P o f s (.pointer (some ⟨s.nx, 0, none⟩)) (s.new (.cells (ofL v.cells.toList) v.cells.size ty 0 0)) := by
  refine valOk_of (sem := fun ev => Instr.box ty (ev x)) (fun ev => by unfold execOp; rw [ho]) (fun ρ w a hr hf => ?_)
  refine ⟨_, _, _, ?_, (newRow_sim hr ((evO_sound hf hx).cells) ty 0).less get_updH, ptr_new _ _ _⟩
  simp only [Instr.box, Sem.run_bind, run_newVar, Result.andThen_ok, Sem.run_pure]
theorem fieldAddr_ok {ty : TypeId} {x : Operand} {i n k : Nat} {fs : Array Field} {fd : Field} {inf : TypeInfo} (ho : o.op = .fieldAddr ty x i) (hu : P.underlying ty = some (.struct fs)) (hfd : fs[i]? = some fd) (hi : P.info? fd.type = some inf) (hz : inf.size ≠ 0) (hx : evO f x = some (.pointer (some ⟨n, k, none⟩))) :
    QOk P o f s (.pointer (some ⟨n, k + fd.offset, none⟩)) := by
  refine qOk_of (sem := fun ev => Instr.fieldAt ty (ev x) i) (fun ev => by unfold execOp; rw [ho]) (fun ρ w a hr hf => ?_)
  have hp := evO_sound hf hx
  obtain ⟨u, hu2⟩ : ∃ u, a.eval x = u := ⟨_, rfl⟩
  rw [hu2] at hp
  cases hp
  rename_i hn
  refine ⟨_, ?_, .ptr n (k + fd.offset) hn⟩
  rw [hu2]
  simp only [Instr.fieldAt, Sem.run_bind, run_und hu, Result.andThen_ok, hfd, Instr.sureAddr, Sem.run_pure, fieldPlace, run_siz hi]
  rw [if_neg hz]
  simp only [Sem.run_pure, Result.andThen_ok, at_add]
theorem asIntOf_run (P : Program) (k : IntKind) (i : Int) (w : World) : (asIntOf (.int k i)).run P w = .ok (k, i) w := rfl
theorem indexSl_ok {ty e : TypeId} {x y : Operand} {n k l c : Nat} {kk : IntKind} {i : Int} {inf : TypeInfo} (ho : o.op = .indexAddr ty x y) (hu : P.underlying ty = some (.slice e)) (hi : P.info? e = some inf) (hx : evO f x = some (.slice (some ⟨n, k, none⟩) l c)) (hy : evO f y = some (.int kk i)) (h0 : 0 ≤ i) (hl : i < l) :
    QOk P o f s (.pointer (some ⟨n, k + i.toNat * inf.size, none⟩)) := by
  refine qOk_of (sem := fun ev => Instr.indexAt ty (ev x) (ev y)) (fun ev => by unfold execOp; rw [ho]) (fun ρ w a hr hf => ?_)
  have hp := evO_sound hf hx
  have hq := evO_sound hf hy
  obtain ⟨u, hu2⟩ : ∃ u, a.eval x = u := ⟨_, rfl⟩
  obtain ⟨z, hz2⟩ : ∃ z, a.eval y = z := ⟨_, rfl⟩
  rw [hu2] at hp
  rw [hz2] at hq
  cases hp
  cases hq
  rename_i hn
  refine ⟨_, ?_, .ptr n (k + i.toNat * inf.size) hn⟩
  rw [hu2, hz2]
  simp only [Instr.indexAt, Sem.run_bind, asIntOf_run, run_und hu, Result.andThen_ok, Sem.run_pure]
  rw [if_pos ⟨h0, hl⟩]
  simp only [Sem.run_bind, run_siz hi, Sem.run_pure, Result.andThen_ok, at_add]
theorem indexArr_ok {ty e : TypeId} {x y : Operand} {n k l : Nat} {kk : IntKind} {i : Int} {inf : TypeInfo} (ho : o.op = .indexAddr ty x y) (hu : P.underlying ty = some (.array l e)) (hi : P.info? e = some inf) (hx : evO f x = some (.pointer (some ⟨n, k, none⟩))) (hy : evO f y = some (.int kk i)) (h0 : 0 ≤ i) (hl : i < l) :
    QOk P o f s (.pointer (some ⟨n, k + i.toNat * inf.size, none⟩)) := by
  refine qOk_of (sem := fun ev => Instr.indexAt ty (ev x) (ev y)) (fun ev => by unfold execOp; rw [ho]) (fun ρ w a hr hf => ?_)
  have hp := evO_sound hf hx
  have hq := evO_sound hf hy
  obtain ⟨u, hu2⟩ : ∃ u, a.eval x = u := ⟨_, rfl⟩
  obtain ⟨z, hz2⟩ : ∃ z, a.eval y = z := ⟨_, rfl⟩
  rw [hu2] at hp
  rw [hz2] at hq
  cases hp
  cases hq
  rename_i hn
  refine ⟨_, ?_, .ptr n (k + i.toNat * inf.size) hn⟩
  rw [hu2, hz2]
  simp only [Instr.indexAt, Instr.sureAddr, Sem.run_bind, asIntOf_run, run_und hu, Result.andThen_ok, Sem.run_pure]
  rw [if_pos ⟨h0, hl⟩]
  simp only [Sem.run_bind, run_siz hi, Sem.run_pure, Result.andThen_ok, at_add]
/-- A part of an aggregate. -/
noncomputable def partA (P : Program) (t : TypeId) (cs : Array Value) (off : Nat) : Option Value :=
  match P.underlying t, P.info? t with
  | some d, some i => match isAggD d with
    | true => some (.agg (cs.extract off (off + i.size)))
    | false => cs[off]?
  | _, _ => none
theorem AR.extract {ρ : Nat → Nm} {nx : Nat} {a b : Array Value} (h : AR ρ nx a b) (i j : Nat) : AR ρ nx (a.extract i j) (b.extract i j) := by
  refine ⟨by simp [h.1], fun k x y hx hy => ?_⟩
  rw [Array.getElem?_extract] at hx hy
  split at hx
  · split at hy
    · exact h.2 _ x y hx hy
    · cases hy
  · cases hx
theorem partA_sim {t : TypeId} {cs us : Array Value} {off : Nat} {ρ : Nat → Nm} {nx : Nat} (h : partA P t cs off = some v) (hc : AR ρ nx cs us) (w : World) : ∃ u, (part t us off).run P w = .ok u w ∧ VR ρ nx v u := by
  unfold partA at h
  split at h
  · rename_i d i hd hi
    split at h
    · rename_i hag
      obtain rfl := Option.some.inj h
      have he := hc.extract off (off + i.size)
      refine ⟨_, ?_, .agg _ _ he.1 he.2⟩
      simp only [part, Sem.run_bind, run_isAgg' hd, hag, Result.andThen_ok, if_true, run_siz hi, Sem.run_pure]
    · rename_i hag
      obtain ⟨u, hu, hr⟩ := hc.at h
      refine ⟨u, ?_, hr⟩
      simp only [part, Sem.run_bind, run_isAgg' hd, hag, Result.andThen_ok, Bool.false_eq_true, if_false, hu, Sem.run_pure]
  · cases h
theorem field_ok {ty : TypeId} {x : Operand} {i : Nat} {fs : Array Field} {fd : Field} {cs : Array Value} (ho : o.op = .field ty x i) (hu : P.underlying ty = some (.struct fs)) (hfd : fs[i]? = some fd) (hx : evO f x = some (.agg cs)) (hp : partA P fd.type cs fd.offset = some v) : QOk P o f s v := by
  refine qOk_of (sem := fun ev => Instr.field ty (ev x) i) (fun ev => by unfold execOp; rw [ho]) (fun ρ w a hr hf => ?_)
  have hq := evO_sound hf hx
  obtain ⟨u, hu2⟩ : ∃ u, a.eval x = u := ⟨_, rfl⟩
  rw [hu2] at hq
  cases hq with
  | agg _ us h1 h2 =>
    obtain ⟨z, hz, hr2⟩ := partA_sim hp ⟨h1, h2⟩ w
    refine ⟨z, ?_, hr2⟩
    rw [hu2]
    simp only [Instr.field, Sem.run_bind, run_und hu, Result.andThen_ok, hfd, asAgg, Sem.run_pure, hz]
theorem index_ok {ty e : TypeId} {x y : Operand} {l : Nat} {kk : IntKind} {i : Int} {inf : TypeInfo} {cs : Array Value} (ho : o.op = .index ty x y) (hu : P.underlying ty = some (.array l e)) (hi : P.info? e = some inf) (hx : evO f x = some (.agg cs)) (hy : evO f y = some (.int kk i)) (h0 : 0 ≤ i) (hl : i < l) (hp : partA P e cs (i.toNat * inf.size) = some v) : QOk P o f s v := by
  refine qOk_of (sem := fun ev => Instr.index ty (ev x) (ev y)) (fun ev => by unfold execOp; rw [ho]) (fun ρ w a hr hf => ?_)
  have hq := evO_sound hf hx
  have hq2 := evO_sound hf hy
  obtain ⟨u, hu2⟩ : ∃ u, a.eval x = u := ⟨_, rfl⟩
  obtain ⟨z, hz2⟩ : ∃ z, a.eval y = z := ⟨_, rfl⟩
  rw [hu2] at hq
  rw [hz2] at hq2
  cases hq2
  cases hq with
  | agg _ us h1 h2 =>
    obtain ⟨z, hz, hr2⟩ := partA_sim hp ⟨h1, h2⟩ w
    refine ⟨z, ?_, hr2⟩
    rw [hu2, hz2]
    simp only [Instr.index, Sem.run_bind, asIntOf_run, run_und hu, Result.andThen_ok]
    rw [if_pos ⟨h0, hl⟩]
    simp only [Sem.run_bind, run_siz hi, Result.andThen_ok, hz]
end
end Go.Proofs.YtjfcjpbolokfcaaGreatDoor.Ev
