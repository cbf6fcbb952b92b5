/-
  An evaluator for closed runs: the operations (12: maps asked and turned).
-/
import Derived.Test.YtjfcjpbolokfcaaGreatDoorEv15
namespace Go.Proofs.YtjfcjpbolokfcaaGreatDoor.Ev
open Go

theorem arr_empty {α : Type} (a : Array α) : a.isEmpty = a.toList.isEmpty := by
  cases a with
  | mk l => cases l <;> rfl
/-- What a look answers. -/
noncomputable def lookR (ok : Bool) (z : Value) (r : Option (Nat × Value)) : Value := match ok, r with
  | true, some (_, v) => .tuple #[v, .bool true]
  | true, none => .tuple #[z, .bool false]
  | false, some (_, v) => v
  | false, none => z
theorem pair_vr {ρ : Nat → Nm} {nx : Nat} {a b c d : Value} (h1 : VR ρ nx a c) (h2 : VR ρ nx b d) : VR ρ nx (.tuple #[a, b]) (.tuple #[c, d]) := .tuple _ _ rfl (fun i x y hx hy => by
  match i with
  | 0 =>
    simp at hx hy
    subst hx hy
    exact h1
  | 1 =>
    simp at hx hy
    subst hx hy
    exact h2
  | i + 2 => simp at hx)
section
variable {P : Program} {o : Oper} {f : T Value} {s s' : St} {v : Value}
theorem look_run {xt k e : TypeId} {ie : TypeInfo} {z : Value} {r' : Option (Nat × Value)} {b c : Nat} {kv : Value} {ok : Bool} {es' : Array MapEntry} {w : World} (hu : P.underlying xt = some (.map k e)) (hes : w.heap[b]? = some (.map es' c)) (hck : (Instr.checkKey es'.isEmpty 10000 k kv).run P w = .ok () w) (hfk : (Instr.findKey k kv es'.toList).run P w = .ok r' w) (hi : P.info? e = some ie) (hz : ie.zero = some z) : (Instr.lookup xt (.map (some b)) kv ok).run P w = .ok (lookR ok z r') w := by
  simp only [Instr.lookup, Sem.run_bind, run_und hu, Result.andThen_ok, run_getObj P _ hes (fun _ _ _ h => by cases h), Sem.run_pure, hck, hfk]
  cases r' with
  | none =>
    simp only [Sem.run_bind, run_zero hi hz, Result.andThen_ok, Sem.run_pure]
    cases ok <;> rfl
  | some p => cases ok <;> rfl
theorem lookNil_run {xt k e : TypeId} {ie : TypeInfo} {z : Value} {kv : Value} {ok : Bool} {w : World} (hu : P.underlying xt = some (.map k e)) (hck : (Instr.checkKey true 10000 k kv).run P w = .ok () w) (hfk : (Instr.findKey k kv []).run P w = .ok none w) (hi : P.info? e = some ie) (hz : ie.zero = some z) : (Instr.lookup xt (.map none) kv ok).run P w = .ok (lookR ok z none) w := by
  have he : (#[] : Array MapEntry).isEmpty = true := rfl
  simp only [Instr.lookup, Sem.run_bind, run_und hu, Result.andThen_ok, Sem.run_pure, he, hck, hfk, run_zero hi hz]
  cases ok <;> rfl
theorem lookup_ok {xt k e : TypeId} {kd : TypeDesc} {ie : TypeInfo} {z kv : Value} {r : Option (Nat × Value)} {x ix : Operand} {ok : Bool} {n clock : Nat} {es : List MapEntry} (ho : o.op = .lookup xt x ix ok) (hu : P.underlying xt = some (.map k e)) (hkd : P.underlying k = some kd) (hi : P.info? e = some ie) (hz : ie.zero = some z) (hfz : flat z = true) (hx : evO f x = some (.map (some n))) (hn : s.h.get n = some (.map es clock)) (hix : evO f ix = some kv) (hfl : flat kv = true) (hck : runPure P (Instr.checkKey es.isEmpty 10000 k kv) = some ()) (hfk : runPure P (Instr.findKey k kv es) = some r) : QOk P o f s (lookR ok z r) := by
  refine qOk_of (sem := fun ev => Instr.lookup xt (ev x) (ev ix) ok) (fun ev => by unfold execOp; rw [ho]) (fun ρ w a hr hf => ?_)
  have hkv := flat_eq hfl (evO_sound hf hix)
  have hp := evO_sound hf hx
  obtain ⟨u, hu2⟩ : ∃ u, a.eval x = u := ⟨_, rfl⟩
  rw [hu2] at hp
  cases hp
  obtain ⟨_, es', h1, h2⟩ := hr.obj n _ hn
  obtain ⟨r', h3, h4⟩ := findKey_sim hkd h2 hfk
  have hemp : es'.isEmpty = es.isEmpty := by rw [arr_empty, h2.empty]
  refine ⟨lookR ok z r', ?_, ?_⟩
  · simp only [hu2, hkv]
    exact look_run hu h1 (by rw [hemp]; exact runPure_run _ _ hck w) (h3 w) hi hz
  · cases r with
    | none =>
      obtain rfl := h4
      cases ok
      · exact flat_vr hfz
      · exact pair_vr (flat_vr hfz) (.bool _)
    | some p =>
      obtain ⟨i, v⟩ := p
      obtain ⟨u, rfl, hv⟩ := h4
      cases ok
      · exact hv
      · exact pair_vr hv (.bool _)
theorem lookupNil_ok {xt k e : TypeId} {ie : TypeInfo} {z kv : Value} {x ix : Operand} {ok : Bool} (ho : o.op = .lookup xt x ix ok) (hu : P.underlying xt = some (.map k e)) (hi : P.info? e = some ie) (hz : ie.zero = some z) (hfz : flat z = true) (hx : evO f x = some (.map none)) (hix : evO f ix = some kv) (hfl : flat kv = true) (hck : runPure P (Instr.checkKey true 10000 k kv) = some ()) (hfk : runPure P (Instr.findKey k kv []) = some none) : QOk P o f s (lookR ok z none) := by
  refine qOk_of (sem := fun ev => Instr.lookup xt (ev x) (ev ix) ok) (fun ev => by unfold execOp; rw [ho]) (fun ρ w a hr hf => ?_)
  have hkv := flat_eq hfl (evO_sound hf hix)
  have hp := evO_sound hf hx
  obtain ⟨u, hu2⟩ : ∃ u, a.eval x = u := ⟨_, rfl⟩
  rw [hu2] at hp
  cases hp
  refine ⟨lookR ok z none, ?_, ?_⟩
  · simp only [hu2, hkv]
    exact lookNil_run hu (runPure_run _ _ hck w) (runPure_run _ _ hfk w) hi hz
  · cases ok
    · exact flat_vr hfz
    · exact pair_vr (flat_vr hfz) (.bool _)
end
/-- An entry's value, and its key, turned. -/
def setE (k v : Value) : List MapEntry → Nat → List MapEntry
  | [], _ => []
  | e :: es, 0 => ⟨k, v, e.born⟩ :: es
  | e :: es, i + 1 => e :: setE k v es i
section
variable {ρ : Nat → Nm} {nx : Nat}
theorem setE_modify (k v : Value) : ∀ (l : List MapEntry) (i : Nat), setE k v l i = l.modify i fun e => { e with key := k, val := v }
  | [], 0 => rfl
  | [], _ + 1 => rfl
  | e :: es, 0 => rfl
  | e :: es, i + 1 => by
    rw [List.modify_succ_cons, ← setE_modify k v es i]
    rfl
theorem MR.setE {l m : List MapEntry} (h : MR ρ nx l m) {k v u : Value} (hk : flat k = true) (hv : VR ρ nx v u) : ∀ i, MR ρ nx (setE k v l i) (setE k u m i) := by
  induction h with
  | nil => exact fun i => .nil
  | cons kk x y b l m hkk hxy hr ih =>
    intro i
    cases i with
    | zero => exact .cons k v u b l m hk hv hr
    | succ i => exact .cons kk x y b _ _ hkk hxy (ih i)
theorem MR.push {l m : List MapEntry} (h : MR ρ nx l m) {k v u : Value} (c : Nat) (hk : flat k = true) (hv : VR ρ nx v u) : MR ρ nx (l ++ [⟨k, v, c⟩]) (m ++ [⟨k, u, c⟩]) := by
  induction h with
  | nil => exact .cons k v u c [] [] hk hv .nil
  | cons kk x y b l m hkk hxy _ ih => exact .cons kk x y b _ _ hkk hxy ih
theorem MR.erase {l m : List MapEntry} (h : MR ρ nx l m) : ∀ i, MR ρ nx (l.eraseIdx i) (m.eraseIdx i) := by
  induction h with
  | nil => exact fun i => .nil
  | cons kk x y b l m hkk hxy hr ih =>
    intro i
    cases i with
    | zero => exact hr
    | succ i => exact .cons kk x y b _ _ hkk hxy (ih i)
theorem MR.at {l m : List MapEntry} (h : MR ρ nx l m) : ∀ (i : Nat) e, l[i]? = some e → ∃ e', m[i]? = some e' ∧ e'.key = e.key ∧ e'.born = e.born ∧ VR ρ nx e.val e'.val := by
  induction h with
  | nil => exact fun i e h => by simp at h
  | cons kk x y b l m hkk hxy hr ih =>
    intro i e he
    cases i with
    | zero =>
      simp at he
      subst he
      exact ⟨⟨kk, y, b⟩, by simp, rfl, rfl, hxy⟩
    | succ i => exact ih i e (by simpa using he)
end
end Go.Proofs.YtjfcjpbolokfcaaGreatDoor.Ev
