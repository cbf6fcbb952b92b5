/-
  An evaluator for closed runs: the operations (8: len, slices of slices).
-/
import Derived.Test.YtjfcjpbolokfcaaGreatDoorEv11
namespace Go.Proofs.YtjfcjpbolokfcaaGreatDoor.Ev
open Go

theorem map1 {α β : Type} (g : α → β) (x : α) : (#[x] : Array α).map g = #[g x] := by simp
theorem map2 {α β : Type} (g : α → β) (x y : α) : (#[x, y] : Array α).map g = #[g x, g y] := by simp
section
variable {P : Program} {o : Oper} {f : T Value} {s s' : St} {v : Value}
theorem builtin_run {c : Call} {b : Builtin} (ho : o.op = .call c) (hc : c.callee = .builtin b) (ev : Operand → Value) : execOp ev o = builtin b c.argTypes o.type (c.args.map fun | .const _ => true | _ => false) (c.args.map ev) := by
  have hres : resolve ev c o.type = pure { target := .builtin b c.argTypes o.type (c.args.map fun | .const _ => true | _ => false), args := c.args.map ev } := by
    unfold resolve
    rw [hc]
    rfl
  rw [call_run ev ho, hres]
  rfl
theorem lenSl_ok {c : Call} {x : Operand} {t e : TypeId} {b : Option Addr} {l cp : Nat} (ho : o.op = .call c) (hc : c.callee = .builtin .len) (ha : c.args = #[x]) (ht : c.argTypes[0]? = some t) (hu : P.underlying t = some (.slice e)) (hx : evO f x = some (.slice b l cp)) : QOk P o f s (.int .i64 l) := by
  refine qOk_of (sem := fun ev => Builtin.len_ c.argTypes o.type #[ev x]) (fun ev => ?_) (fun ρ w a hr hf => ?_)
  · rw [builtin_run ho hc ev, ha, map1 ev]
    rfl
  · have hp := evO_sound hf hx
    obtain ⟨u, hu2⟩ : ∃ u, a.eval x = u := ⟨_, rfl⟩
    rw [hu2] at hp
    have e0 : (#[u] : Array Value)[0]? = some u := rfl
    refine ⟨.int .i64 l, ?_, .int _ _⟩
    cases hp <;> simp only [hu2, Builtin.len_, ht, e0, Sem.run_bind, run_und hu, Result.andThen_ok] <;> rfl
theorem MR.length {ρ : Nat → Nm} {nx : Nat} {l m : List MapEntry} (h : MR ρ nx l m) : l.length = m.length := by
  induction h with
  | nil => rfl
  | cons _ _ _ _ _ _ _ _ _ ih => simp [ih]
theorem run_getObj (P : Program) (r : Nat) {w : World} {o : Obj} (h : w.heap[r]? = some o) (hc : ∀ c e fr, o ≠ .cells c e fr) : (getObj r).run P w = .ok o w := by
  show Sem.run P (.getObj r .pure) w = _
  unfold Sem.run
  rw [h]
  cases o <;> first | rfl | exact absurd rfl (hc _ _ _)
theorem lenMap_ok {c : Call} {x : Operand} {t k e : TypeId} {n clock : Nat} {es : List MapEntry} (ho : o.op = .call c) (hc : c.callee = .builtin .len) (ha : c.args = #[x]) (ht : c.argTypes[0]? = some t) (hu : P.underlying t = some (.map k e)) (hx : evO f x = some (.map (some n))) (hn : s.h.get n = some (.map es clock)) : QOk P o f s (.int .i64 es.length) := by
  refine qOk_of (sem := fun ev => Builtin.len_ c.argTypes o.type #[ev x]) (fun ev => ?_) (fun ρ w a hr hf => ?_)
  · rw [builtin_run ho hc ev, ha, map1 ev]
    rfl
  · have hp := evO_sound hf hx
    obtain ⟨u, hu2⟩ : ∃ u, a.eval x = u := ⟨_, rfl⟩
    rw [hu2] at hp
    have e0 : (#[u] : Array Value)[0]? = some u := rfl
    refine ⟨.int .i64 es.length, ?_, .int _ _⟩
    cases hp
    obtain ⟨_, es', h1, h2⟩ := hr.obj n _ hn
    simp only [hu2, Builtin.len_, ht, e0, Sem.run_bind, run_und hu, Result.andThen_ok, run_getObj P _ h1 (fun _ _ _ h => by cases h)]
    rw [h2.length]
    rfl
/-- An index of a slice, where there is one. -/
noncomputable def idxA (f : T Value) (x : Option Operand) (d : Nat) : Option Nat := match x with
  | none => some d
  | some x => match evO f x with
    | some (.int _ i) => match i with
      | .ofNat n => some n
      | .negSucc _ => none
    | _ => none
theorem bound_run (P : Program) {f : T Value} {ρ : Nat → Nm} {nx : Nat} {a : Act} (hf : FR ρ nx f a) {x : Operand} {d i y : Nat} (h : idxA f (some x) d = some i) (hy : i ≤ y) (code : BoundsCode) (w : World) : (Instr.sliceBound (a.eval x) y code).run P w = .ok i w := by
  unfold idxA at h
  simp only at h
  split at h
  · rename_i k n hx
    split at h
    · obtain rfl := Option.some.inj h
      have hp := evO_sound hf hx
      obtain ⟨u, hu2⟩ : ∃ u, a.eval x = u := ⟨_, rfl⟩
      rw [hu2] at hp ⊢
      cases hp
      simp only [Instr.sliceBound, Sem.run_bind, asIntOf_run, Result.andThen_ok]
      rw [if_pos ⟨Int.natCast_nonneg _, Int.ofNat_le.2 hy⟩]
      rfl
    · cases h
  · cases h
theorem bounds_run (P : Program) {f : T Value} {ρ : Nat → Nm} {nx : Nat} {a : Act} (hf : FR ρ nx f a) {lo hi mx : Option Operand} {b : Bool} {len cap l h m : Nat} (hl : idxA f lo 0 = some l) (hh : idxA f hi len = some h) (hm : idxA f mx cap = some m) (h1 : l ≤ h) (h2 : h ≤ m) (h3 : m ≤ cap) (h4 : mx.isSome = true → hi.isSome = true) (w : World) : (Instr.sliceBounds b len cap (lo.map a.eval) (hi.map a.eval) (mx.map a.eval)).run P w = .ok (l, h, m) w := by
  unfold Instr.sliceBounds
  cases mx with
  | none =>
    obtain rfl := Option.some.inj (show some cap = some m from hm)
    cases hi with
    | none =>
      obtain rfl := Option.some.inj (show some len = some h from hh)
      simp only [Option.map_none, Sem.run_bind, Sem.run_pure, Result.andThen_ok]
      cases lo with
      | none =>
        obtain rfl := Option.some.inj (show some 0 = some l from hl)
        rfl
      | some x =>
        simp only [Option.map_some, Sem.run_bind, bound_run P hf hl h1, Result.andThen_ok]
        rfl
    | some y =>
      simp only [Option.map_none, Option.map_some, Sem.run_bind, Sem.run_pure, Result.andThen_ok, bound_run P hf hh h2]
      cases lo with
      | none =>
        obtain rfl := Option.some.inj (show some 0 = some l from hl)
        rfl
      | some x =>
        simp only [Option.map_some, Sem.run_bind, bound_run P hf hl h1, Result.andThen_ok]
        rfl
  | some z =>
    cases hi with
    | none => cases h4 rfl
    | some y =>
      simp only [Option.map_some, Sem.run_bind, Result.andThen_ok, bound_run P hf hm h3, bound_run P hf hh h2]
      cases lo with
      | none =>
        obtain rfl := Option.some.inj (show some 0 = some l from hl)
        rfl
      | some x =>
        simp only [Option.map_some, Sem.run_bind, bound_run P hf hl h1, Result.andThen_ok]
        rfl
/-- A slice of a slice. -/
noncomputable def cutA (n k size l h cp : Nat) : Value := match Nat.beq l cp with
  | true => .slice (some ⟨n, k + l * size, some (k + 1)⟩) 0 0
  | false => .slice (some ⟨n, k + l * size, none⟩) (h - l) (cp - l)
noncomputable def cutFx (n k size l h m : Nat) : Value := match Nat.beq l m with
  | true => .slice (some ⟨n, k, some 0⟩) 0 0
  | false => .slice (some ⟨n, k + l * size, some 0⟩) (h - l) (m - l)
theorem slice_run {t : TypeId} {x : Operand} {lo hi mx : Option Operand} (ho : o.op = .slice t x lo hi mx) (ev : Operand → Value) : execOp ev o = (do pure (.value (← Instr.sliceAt t (ev x) (lo.map ev) (hi.map ev) (mx.map ev)))) := by unfold execOp; rw [ho]
theorem sliceAt_run {t e : TypeId} {inf : TypeInfo} {a : Option Addr} {len cap l h m : Nat} {lo hi mx : Option Value} (hu : P.underlying t = some (.slice e)) (hi2 : P.info? e = some inf) {w : World} (hb : (Instr.sliceBounds true len cap lo hi mx).run P w = .ok (l, h, m) w) :
    (Instr.sliceAt t (.slice a len cap) lo hi mx).run P w = .ok (.slice (if m = l then a else a.map (·.add (l * inf.size))) (h - l) (m - l)) w := by
  simp only [Instr.sliceAt, Instr.slice, Sem.run_bind, run_und hu, Result.andThen_ok, hb, run_siz hi2, Sem.run_pure]
theorem sliceSl_ok {t e : TypeId} {inf : TypeInfo} {x : Operand} {lo hi : Option Operand} {n k len cp l h : Nat} (ho : o.op = .slice t x lo hi none) (hu : P.underlying t = some (.slice e)) (hi2 : P.info? e = some inf) (hx : evO f x = some (.slice (some ⟨n, k, none⟩) len cp)) (hl : idxA f lo 0 = some l) (hh : idxA f hi len = some h) (h1 : l ≤ h) (h2 : h ≤ cp) :
    QOk P o f s (cutA n k inf.size l h cp) := by
  refine qOk_of (sem := fun ev => Instr.sliceAt t (ev x) (lo.map ev) (hi.map ev) none) (fun ev => slice_run ho ev) (fun ρ w a hr hf => ?_)
  have hp := evO_sound hf hx
  obtain ⟨u, hu2⟩ : ∃ u, a.eval x = u := ⟨_, rfl⟩
  rw [hu2] at hp
  cases hp
  rename_i hn
  have hb := bounds_run P hf (mx := none) (b := true) (len := len) (cap := cp + (ρ n).e) (m := cp + (ρ n).e) hl hh rfl h1 (by omega) (Nat.le_refl _) (fun h => by cases h) w
  refine ⟨_, by simp only [hu2]; exact sliceAt_run hu hi2 hb, ?_⟩
  unfold cutA
  rcases hq : Nat.beq l cp with _ | _
  · have hne : l ≠ cp := Nat.ne_of_beq_eq_false hq
    rw [if_neg (by omega)]
    simp only [Option.map_some, at_add]
    have := VR.sl (ρ := ρ) n (k + l * inf.size) (h - l) (cp - l) hn
    rw [show cp - l + (ρ n).e = cp + (ρ n).e - l by omega] at this
    exact this
  · obtain rfl := Nat.eq_of_beq_eq_true hq
    obtain rfl : l = h := by omega
    simp only [Option.map_some, at_add]
    have := VR.tl (ρ := ρ) n (k + l * inf.size) k hn
    rw [show l + (ρ n).e - l = (ρ n).e by omega, Nat.sub_self]
    by_cases he : (ρ n).e = 0
    · rw [if_pos he] at this
      rw [if_pos (by omega)]
      exact this
    · rw [if_neg he] at this
      rw [if_neg (by omega)]
      exact this
theorem sliceMax_ok {t e : TypeId} {inf : TypeInfo} {x y : Operand} {lo hi : Option Operand} {n k len cp l h m : Nat} (ho : o.op = .slice t x lo hi (some y)) (hu : P.underlying t = some (.slice e)) (hi2 : P.info? e = some inf) (hx : evO f x = some (.slice (some ⟨n, k, none⟩) len cp) ∨ evO f x = some (.slice (some ⟨n, k, some 0⟩) len cp)) (hl : idxA f lo 0 = some l) (hh : idxA f hi len = some h) (hm : idxA f (some y) cp = some m) (h1 : l ≤ h) (h2 : h ≤ m) (h3 : m ≤ cp) (h4 : hi.isSome = true) :
    QOk P o f s (cutFx n k inf.size l h m) := by
  refine qOk_of (sem := fun ev => Instr.sliceAt t (ev x) (lo.map ev) (hi.map ev) (some (ev y))) (fun ev => slice_run ho ev) (fun ρ w a hr hf => ?_)
  obtain ⟨c', hn, hx2, hc⟩ : ∃ c', n < s.nx ∧ a.eval x = .slice (some ((ρ n).at k)) len c' ∧ cp ≤ c' := by
    obtain ⟨u, hu2⟩ : ∃ u, a.eval x = u := ⟨_, rfl⟩
    rcases hx with hx | hx
    · have hp := evO_sound hf hx
      rw [hu2] at hp
      cases hp
      rename_i hn
      exact ⟨_, hn, hu2, Nat.le_add_right _ _⟩
    · have hp := evO_sound hf hx
      rw [hu2] at hp
      cases hp
      rename_i hn
      exact ⟨_, hn, hu2, Nat.le_refl _⟩
  have hb := bounds_run P hf (mx := some y) (b := true) (len := len) (cap := c') hl hh (m := m) hm h1 h2 (by omega) (fun _ => h4) w
  refine ⟨_, by simp only [hx2]; exact sliceAt_run hu hi2 hb, ?_⟩
  unfold cutFx
  rcases hq : Nat.beq l m with _ | _
  · have hne : l ≠ m := Nat.ne_of_beq_eq_false hq
    rw [if_neg (by omega)]
    simp only [Option.map_some, at_add]
    exact VR.fx n (k + l * inf.size) (h - l) (m - l) hn
  · obtain rfl := Nat.eq_of_beq_eq_true hq
    obtain rfl : l = h := by omega
    rw [if_pos rfl, Nat.sub_self]
    exact VR.fx n k 0 0 hn
theorem sliceFx_ok {t e : TypeId} {inf : TypeInfo} {x : Operand} {lo hi : Option Operand} {n k len cp l h : Nat} (ho : o.op = .slice t x lo hi none) (hu : P.underlying t = some (.slice e)) (hi2 : P.info? e = some inf) (hx : evO f x = some (.slice (some ⟨n, k, some 0⟩) len cp)) (hl : idxA f lo 0 = some l) (hh : idxA f hi len = some h) (h1 : l ≤ h) (h2 : h ≤ cp) :
    QOk P o f s (cutFx n k inf.size l h cp) := by
  refine qOk_of (sem := fun ev => Instr.sliceAt t (ev x) (lo.map ev) (hi.map ev) none) (fun ev => slice_run ho ev) (fun ρ w a hr hf => ?_)
  have hp := evO_sound hf hx
  obtain ⟨u, hu2⟩ : ∃ u, a.eval x = u := ⟨_, rfl⟩
  rw [hu2] at hp
  cases hp
  rename_i hn
  have hb := bounds_run P hf (mx := none) (b := true) (len := len) (cap := cp) (m := cp) hl hh rfl h1 h2 (Nat.le_refl _) (fun h => by cases h) w
  refine ⟨_, by simp only [hu2]; exact sliceAt_run hu hi2 hb, ?_⟩
  unfold cutFx
  rcases hq : Nat.beq l cp with _ | _
  · have hne : l ≠ cp := Nat.ne_of_beq_eq_false hq
    rw [if_neg (by omega)]
    simp only [Option.map_some, at_add]
    exact VR.fx n (k + l * inf.size) (h - l) (cp - l) hn
  · obtain rfl := Nat.eq_of_beq_eq_true hq
    obtain rfl : l = h := by omega
    rw [if_pos rfl, Nat.sub_self]
    exact VR.fx n k 0 0 hn
end
end Go.Proofs.YtjfcjpbolokfcaaGreatDoor.Ev
