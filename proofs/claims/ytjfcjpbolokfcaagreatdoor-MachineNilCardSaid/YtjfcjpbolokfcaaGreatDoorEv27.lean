/-
  An evaluator for closed runs: the interpreter is right (4: entries of maps that are turned in place; operations that turn something).
-/
import Derived.Test.YtjfcjpbolokfcaaGreatDoorEv26
namespace Go.Proofs.YtjfcjpbolokfcaaGreatDoor.Ev
open Go

theorem setB_modify (v : Value) : ∀ (l : List MapEntry) (i : Nat), setB v l i = l.modify i fun e => { e with val := v }
  | [], i => by cases i <;> rfl
  | e :: l, 0 => rfl
  | e :: l, i + 1 => by
    show e :: setB v l i = _
    rw [setB_modify v l i]
    rfl
theorem MR.setB {ρ : Nat → Nm} {nx : Nat} {l m : List MapEntry} (h : MR ρ nx l m) {v u : Value} (hv : VR ρ nx v u) : ∀ i, MR ρ nx (setB v l i) (setB u m i) := by
  induction h with
  | nil => exact fun i => .nil
  | cons k x y b l m hk hx hr ih =>
    intro i
    cases i with
    | zero => exact .cons k v u b l m hk hv hr
    | succ i => exact .cons k x y b _ _ hk hx (ih i)
theorem findBorn_run {ρ : Nat → Nm} {nx b : Nat} : ∀ {l m : List MapEntry} (i j : Nat), MR ρ nx l m → findBorn b l i = some j → ∃ q, j = i + q ∧ m.findIdx? (fun e => (e.born : Int) == (b : Int)) = some q := by
  intro l m i j h
  induction h generalizing i with
  | nil => intro h; cases h
  | cons k x y c l m hk hx hr ih =>
    intro h
    unfold findBorn at h
    split at h
    · rename_i he
      refine ⟨0, (Option.some.inj h).symm, ?_⟩
      have : c = b := Nat.eq_of_beq_eq_true he
      subst this
      simp [List.findIdx?_cons]
    · rename_i he
      obtain ⟨q, h1, h2⟩ := ih (i + 1) h
      refine ⟨q + 1, by omega, ?_⟩
      have hne : ((c : Int) == (b : Int)) = false := by
        have : c ≠ b := fun e => by
          rw [e, show Nat.beq b b = true from Nat.beq_refl b] at he
          cases he
        exact decide_eq_false (fun e => this (Int.ofNat.inj e))
      rw [List.findIdx?_cons, hne, h2]
      rfl
theorem band_eq {a b : Bool} (h : band a b = true) : a = true ∧ b = true := by
  cases a
  · cases h
  · exact ⟨rfl, h⟩
theorem intEq_eq {a b : Int} (h : intEq a b = true) : a = b := by
  unfold intEq at h
  split at h
  · rw [Nat.eq_of_beq_eq_true h]
  · rw [Nat.eq_of_beq_eq_true h]
  · cases h
theorem boolEq_eq {a b : Bool} (h : boolEq a b = true) : a = b := by cases a <;> cases b <;> first | rfl | cases h
theorem optEq_eq {a b : Option Nat} (h : optEq a b = true) : a = b := by
  cases a <;> cases b
  · rfl
  · cases h
  · cases h
  · exact congrArg some (Nat.eq_of_beq_eq_true h)
theorem addrEq_eq {a b : Option Addr} (h : addrEq a b = true) : a = b := by
  cases a <;> cases b
  · rfl
  · cases h
  · cases h
  · rename_i a b
    obtain ⟨h1, h2⟩ := band_eq h
    obtain ⟨h2, h3⟩ := band_eq h2
    obtain ⟨x, y, z⟩ := a
    obtain ⟨x', y', z'⟩ := b
    have e1 : x = x' := Nat.eq_of_beq_eq_true h1
    have e2 : y = y' := Nat.eq_of_beq_eq_true h2
    have e3 : z = z' := optEq_eq h3
    rw [e1, e2, e3]
theorem listEq_eq {α : Type} {e : α → α → Bool} (he : ∀ x y, e x y = true → x = y) : ∀ (a b : List α), listEq e a b = true → a = b
  | [], b, h => (List.isEmpty_iff.1 h).symm
  | x :: a, [], h => by cases h
  | x :: a, y :: b, h => by
    obtain ⟨h1, h2⟩ := band_eq (show band (e x y) (listEq e a b) = true from h)
    rw [he x y h1, listEq_eq he a b h2]
theorem arrEq {a b : Array Value} {n : Nat} (ih : ∀ x y, veqN n x y = true → x = y) (h : listEq (veqN n) a.toList b.toList = true) : a = b := Array.ext' (listEq_eq ih _ _ h)
theorem veqN_eq : ∀ (n : Nat) (x y : Value), veqN n x y = true → x = y
  | 0, _, _, h => by cases h
  | n + 1, x, y, h => by
    have ih := veqN_eq n
    change veqS (veqN n) x y = true at h
    unfold veqS at h
    split at h
    · rw [boolEq_eq h]
    · obtain ⟨h1, h2⟩ := band_eq h
      rw [sameKind_eq h1, intEq_eq h2]
    · rename_i a b
      have h1 := listEq_eq (fun x y h => UInt8.toNat_inj.1 (Nat.eq_of_beq_eq_true h)) _ _ h
      obtain ⟨a⟩ := a
      obtain ⟨b⟩ := b
      rw [show a = b from Array.ext' h1]
    · rw [addrEq_eq h]
    · obtain ⟨h1, h2⟩ := band_eq h
      obtain ⟨h2, h3⟩ := band_eq h2
      rw [addrEq_eq h1, Nat.eq_of_beq_eq_true h2, Nat.eq_of_beq_eq_true h3]
    · rw [optEq_eq h]
    · rfl
    · rfl
    · obtain ⟨h1, h2⟩ := band_eq h
      rw [Nat.eq_of_beq_eq_true h1, ih _ _ h2]
    · rw [arrEq ih h]
    · rw [arrEq ih h]
    · cases h
theorem veq_eq {x y : Value} (h : veq x y = true) : x = y := veqN_eq 8 x y h
section
variable {P : Program} {o : Oper} {f : T Value} {s s' : St} {v : Value} {k : K}
theorem mapEntryNew_ok {t : TypeId} {m ky : Operand} {kt et : TypeId} {kd : TypeDesc} {n clock : Nat} {es : List MapEntry} {kv z : Value} {ie : TypeInfo} (ho : o.op = .mapEntry t m ky) (T : MapT P f s t m ky kt et kd n clock es kv none) (hi : P.info? et = some ie) (hz : ie.zero = some z) (hfz : flat z = true) (hck : runPure P (Instr.checkKey false 10000 kt kv) = some ()) :
    ValOk P o f s (.tuple #[z, .int .i64 clock]) ⟨s.h.set (.map (es ++ [⟨kv, z, clock⟩]) (clock + 1)) n, s.nx⟩ := by
  refine valOk_of (sem := fun ev => Instr.mapEntry t (ev m) (ev ky)) (fun ev => by unfold execOp; rw [ho]) (fun ρ w a hr hf => ?_)
  obtain ⟨hm, hk, es', r', h1, h2, h3, h4, h5⟩ := T.sim hr hf
  obtain rfl := h5
  obtain ⟨w', hw, st⟩ := hr.setMap (us := es'.push ⟨kv, z, clock⟩) (c' := clock + 1) (es' := es ++ [⟨kv, z, clock⟩]) T.here (by rw [Array.toList_push]; exact h2.push clock T.flat (flat_vr hfz)) P
  refine ⟨ρ, w', .tuple #[z, .int .i64 clock], ?_, st.less get_updH, pair_vr (flat_vr hfz) (.int _ _)⟩
  simp only [hm, hk, Instr.mapEntry, Sem.run_bind, run_und T.und, Result.andThen_ok, run_getObj P _ h1 (fun _ _ _ h => by cases h), runPure_run _ _ hck w, h4 w, run_zero hi hz, hw, Sem.run_pure]
  rfl
theorem mapEntryOld_ok {t : TypeId} {m ky : Operand} {kt et : TypeId} {kd : TypeDesc} {n clock i : Nat} {es : List MapEntry} {kv v0 : Value} {e0 : MapEntry} (ho : o.op = .mapEntry t m ky) (T : MapT P f s t m ky kt et kd n clock es kv (some (i, v0))) (hck : runPure P (Instr.checkKey false 10000 kt kv) = some ()) (hi : es[i]? = some e0) (hb : Instr.sameBits 10000 e0.key kv = true) (hv0 : e0.val = v0) :
    ValOk P o f s (.tuple #[v0, .int .i64 e0.born]) ⟨s.h.set (.map (setE kv v0 es i) clock) n, s.nx⟩ := by
  refine valOk_of (sem := fun ev => Instr.mapEntry t (ev m) (ev ky)) (fun ev => by unfold execOp; rw [ho]) (fun ρ w a hr hf => ?_)
  obtain ⟨hm, hk, es', r', h1, h2, h3, h4, h5⟩ := T.sim hr hf
  obtain ⟨u, rfl, hvu⟩ := h5
  obtain ⟨e', he, hke, hbo, hve⟩ := h2.at i e0 hi
  have hu : e'.val = u := by rw [hv0] at hve; exact hve.det hvu
  have he2 : es'[i]? = some e' := by simpa using he
  have hmod : es'.modify i (fun e => { e with key := kv }) = es'.modify i fun e => { e with key := kv, val := u } := by
    apply Array.ext'
    rw [Array.toList_modify, Array.toList_modify]
    apply List.ext_getElem?
    intro j
    rw [List.getElem?_modify, List.getElem?_modify]
    by_cases hj : i = j
    · subst hj
      rw [he]
      simp [← hu]
    · simp [hj]
  obtain ⟨w', hw, st⟩ := hr.setMap (us := es'.modify i fun e => { e with key := kv, val := u }) (c' := clock) (es' := setE kv v0 es i) T.here (by rw [Array.toList_modify, ← setE_modify]; exact h2.setE T.flat hvu i) P
  refine ⟨ρ, w', .tuple #[u, .int .i64 e0.born], ?_, st.less get_updH, pair_vr hvu (.int _ _)⟩
  have hstay : (Instr.keyThatStays (((es'[i]?).map (·.key)).getD kv) kv).run P w = .ok kv w := by
    rw [he2]
    show (Instr.keyThatStays e'.key kv).run P w = _
    rw [hke]
    unfold Instr.keyThatStays
    rw [if_pos hb]
    rfl
  have hborn : ((es'[i]?).map (fun x => (x.born : Int))).getD 0 = (e0.born : Int) := by rw [he2]; exact congrArg (fun n : Nat => (n : Int)) hbo
  simp only [hm, hk, Instr.mapEntry, Sem.run_bind, run_und T.und, Result.andThen_ok, run_getObj P _ h1 (fun _ _ _ h => by cases h), runPure_run _ _ hck w, h4 w, hstay, hmod, hw, Sem.run_pure, hborn]
  rfl
theorem entryStore_ok {t : TypeId} {m st x : Operand} {n clock b i : Nat} {kk : IntKind} {es : List MapEntry} (ho : o.op = .entryStore t m st x) (hm : evO f m = some (.map (some n))) (hs : evO f st = some (.int kk (.ofNat b))) (hx : evO f x = some v) (hn : s.h.get n = some (.map es clock)) (hi : findBorn b es 0 = some i) :
    SkipOk P o f s ⟨s.h.set (.map (setB v es i) clock) n, s.nx⟩ := by
  refine skipOk_of (sem := fun ev => Instr.entryStore t (ev m) (ev st) (ev x)) (fun ev => by unfold execOp; rw [ho]) (fun ρ w a hr hf => ?_)
  have hp := evO_sound hf hm
  have hq := evO_sound hf hs
  have hv := evO_sound hf hx
  obtain ⟨u, hu2⟩ : ∃ u, a.eval m = u := ⟨_, rfl⟩
  obtain ⟨g, hg2⟩ : ∃ u, a.eval st = u := ⟨_, rfl⟩
  rw [hu2] at hp
  rw [hg2] at hq
  cases hp
  cases hq
  obtain ⟨_, es', h1, h2⟩ := hr.obj n _ hn
  obtain ⟨q, rfl, h3⟩ := findBorn_run 0 i h2 hi
  rw [Nat.zero_add] at *
  obtain ⟨w', hw, stp⟩ := hr.setMap (us := es'.modify q fun e => { e with val := a.eval x }) (c' := clock) (es' := setB v es q) hn (by rw [Array.toList_modify, ← setB_modify]; exact h2.setB hv q) P
  refine ⟨ρ, w', ?_, stp.less get_updH⟩
  have h3' : es'.findIdx? (fun e => (e.born : Int) == (b : Int)) = some q := by cases es'; simpa using h3
  have ai : ∀ (i : IntKind) (n : Int) (w : World), (asInt (.int i n)).run P w = .ok n w := fun _ _ _ => rfl
  simp only [hu2, hg2, Instr.entryStore, Sem.run_bind, Result.andThen_ok, run_getObj P _ h1 (fun _ _ _ h => by cases h), ai, Int.ofNat_eq_natCast, h3', hw]
end
end Go.Proofs.YtjfcjpbolokfcaaGreatDoor.Ev
