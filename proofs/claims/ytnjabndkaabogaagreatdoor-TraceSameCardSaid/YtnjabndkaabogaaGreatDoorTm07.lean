/-
  An evaluator for closed runs: the interpreter is right (2: operations that turn nothing).
  An evaluator for closed runs: the interpreter is right (3: operations that turn something, calls).
  An evaluator for closed runs: the interpreter is right (4: entries of maps that are turned in place; operations that turn something).
  An evaluator for closed runs: the interpreter is right (5: every operation).
  An evaluator for closed runs: the interpreter is right (6: guards, regions in their order, results).
-/
import Derived.Test.YtnjabndkaabogaaGreatDoorTm06
import Derived.IntWalk
import Derived.Laws.Strings
import Derived.CallsIn
import Derived.RangeFuncLeaves
namespace Go.Proofs.YtnjabndkaabogaaGreatDoor.Ev
open Go
def Does (P : Program) (o : Oper) (ev : Operand → Value) (w : World) (X : Value → World → Prop) : Prop :=
  match (execOp ev o).run P w with
  | .ok (.value u) w' => X u w'
  | .ok .skip w' => X undef w'
  | .ok (.enter g args) w' => Calls P g args w' (fun e w'' => match e with
    | .returned u => X u w''
    | _ => False)
  | .ok (.round l g tmps assign body) w' => RoundIn Fence.wide 0 P l g tmps assign body w' (fun e w'' => match e with
    | .returned u => X u w''
    | _ => False)
  | _ => False
def OpOk (P : Program) (o : Oper) (f : T Value) (s : St) (v : Value) (s' : St) : Prop :=
  ∀ (ρ : Nat → Nm) (w : World) (a : Act), SR ρ s w → FR ρ s.nx f a → Does P o a.eval w (fun u w' => ∃ ρ', SStep ρ s w ρ' s' w' ∧ VR ρ' s'.nx v u)
def QI (P : Program) (o : Oper) (f : T Value) (s : St) (k : K) (r : R) : Prop := ∃ v, r = k v s ∧ QOk P o f s v
def VI (P : Program) (o : Oper) (f : T Value) (s : St) (k : K) (r : R) : Prop := ∃ v s', r = k v s' ∧ OpOk P o f s v s'
section
variable {P : Program} {o : Oper} {f : T Value} {s s' : St} {v : Value} {k : K}
theorem ValOk.op (h : ValOk P o f s v s') : OpOk P o f s v s' := fun ρ w a hr hf => by
  obtain ⟨ρ', w', u, h1, h2, h3⟩ := h ρ w a hr hf
  unfold Does
  rw [h1]
  exact ⟨ρ', h2, h3⟩
theorem undef_vr {ρ : Nat → Nm} {nx : Nat} : VR ρ nx undef undef := flat_vr (by rfl)
theorem SkipOk.op (h : SkipOk P o f s s') : OpOk P o f s undef s' := fun ρ w a hr hf => by
  obtain ⟨ρ', w', h1, h2⟩ := h ρ w a hr hf
  unfold Does
  rw [h1]
  exact ⟨ρ', h2, undef_vr⟩
theorem W.mono {G H : R → Prop} {r : R} (h : W G r) (hg : ∀ r, G r → H r) : W H r := fun ho => hg r (h ho)
theorem W.qv {r : R} (h : W (QI P o f s k) r) : W (VI P o f s k) r := h.mono fun _ ⟨v, h1, h2⟩ => ⟨v, s, h1, h2.val.op⟩
theorem q_end (h : QOk P o f s v) : W (QI P o f s k) (k v s) := fun _ => ⟨v, rfl, h⟩
theorem v_end (h : ValOk P o f s v s') : W (VI P o f s k) (k v s') := fun _ => ⟨v, s', rfl, h.op⟩
theorem s_end (h : SkipOk P o f s s') : W (VI P o f s k) (k undef s') := fun _ => ⟨undef, s', rfl, h.op⟩
theorem slowOp_q : W (QI P o f s k) (slowOp P o f s k) := onO_w fun _ hv => canonV_w (q_end (flatOp_ok hv))
theorem xMove_q {x : Operand} (ho : o.op = .move x ∨ o.op = .assign x) : W (QI P o f s k) (xMove x f s k) := onO_w fun _ hv => q_end (move_ok ho (ev_eq hv))
theorem xPick_q {c x y : Operand} (ho : o.op = .pick c x y) : W (QI P o f s k) (xPick c x y f s k) := onO_w fun _ hc => onBool_w fun b hb => by
  subst hb
  refine bool_w (fun hb => ?_) (fun hb => ?_)
  · subst hb
    exact onO_w fun _ hv => q_end (pick_ok ho (ev_eq hc) (ev_eq hv))
  · subst hb
    exact onO_w fun _ hv => q_end (pick_ok ho (ev_eq hc) (ev_eq hv))
theorem xLoad_q {ty : TypeId} {x : Operand} (ho : o.op = .load ty x) : W (QI P o f s k) (xLoad P ty x f s k) :=
  onO_w fun v hv => onPtr_w fun n q hp => onCells_w fun t m e sz fz hn => onO_w fun d hd => by
    subst hp
    refine bool_w (fun ha => ?_) (fun ha => ?_)
    · exact ble_w fun hb => onO_w fun v hg => q_end (load_ok ho hd ha (ev_eq hv) hn hb hg)
    · exact onO_w fun i hi => ble_w fun hb => onO_w fun vs hg => q_end (loadAgg_ok ho hd ha hi (ev_eq hv) hn hb hg)
theorem xNil_q {x : Operand} (ho : o.op = .nilCheck x) : W (QI P o f s k) (xNil x f s k) := onO_w fun v hv => onPtr_w fun n q hp => by
  subst hp
  exact q_end (nilCheck_ok ho (ev_eq hv))
theorem xExtract_q {x : Operand} {i : Nat} (ho : o.op = .extract x i) : W (QI P o f s k) (xExtract x i f s k) := onO_w fun v hv => onTup_w fun a ha => onO_w fun u hu => by
  subst ha
  rw [nth_get] at hu
  exact q_end (extract_ok ho (ev_eq hv) (by simpa using hu))
theorem xIface_q {t : TypeId} {x : Operand} (ho : o.op = .makeInterface t x) : W (QI P o f s k) (xIface P t x f s k) := onO_w fun _ hv => onO_w fun d hd => not_w fun hi => q_end (makeInterface_ok ho hd (by cases d <;> first | rfl | cases hi) (ev_eq hv))
theorem xFunc_q {g : Fn} {xs ys : Array Operand} (ho : o.op = .makeFunc g xs ys) : W (QI P o f s k) (xFunc g xs ys f s k) := onO_w fun _ h1 => onO_w fun _ h2 => not_w fun hy => q_end (makeFunc_ok ho hy (evs_eq h1) (evs_eq h2))
theorem structOf_eq {t : TypeId} {fs : Array Field} (h : structOf P t = some fs) : P.underlying t = some (.struct fs) := by
  unfold structOf at h
  split at h
  · rename_i hu
    rw [hu, Option.some.inj h]
  · cases h
theorem sliceOf_eq {t e : TypeId} (h : sliceOf P t = some e) : P.underlying t = some (.slice e) := by
  unfold sliceOf at h
  split at h
  · rename_i hu
    rw [hu, Option.some.inj h]
  · cases h
theorem arrOf_eq {t : TypeId} {p : Nat × TypeId} (h : arrOf P t = some p) : P.underlying t = some (.array p.1 p.2) := by
  unfold arrOf at h
  split at h
  · rename_i hu
    rw [hu, ← Option.some.inj h]
  · cases h
theorem mapOf_eq {t : TypeId} {p : TypeId × TypeId} (h : mapOf P t = some p) : P.underlying t = some (.map p.1 p.2) := by
  unfold mapOf at h
  split at h
  · rename_i hu
    rw [hu, ← Option.some.inj h]
  · cases h
theorem fieldOf_eq {t : TypeId} {i : Nat} {fd : Field} (h : fieldOf P t i = some fd) : ∃ fs, P.underlying t = some (.struct fs) ∧ fs[i]? = some fd := by
  unfold fieldOf at h
  split at h
  · rename_i fs hs
    exact ⟨fs, structOf_eq hs, h⟩
  · cases h
theorem xField_q {ty : TypeId} {x : Operand} {i : Nat} (ho : o.op = .fieldAddr ty x i) : W (QI P o f s k) (xField P ty x i f s k) := onO_w fun v hv => onPtr_w fun n q hp => onO_w fun fd hfd => onO_w fun inf hi => ne_w fun hz => forceN_w (by
  subst hp
  obtain ⟨fs, h1, h2⟩ := fieldOf_eq hfd
  exact q_end (fieldAddr_ok ho h1 h2 hi hz (ev_eq hv)))
theorem spotN_zero {q : Option Nat} (h : spotN q ≤ 0) : q = none ∨ q = some 0 := by
  cases q with
  | none => exact .inl rfl
  | some q => exact .inr (congrArg some (Nat.le_zero.1 h))
theorem xIndexAddr_q {ty : TypeId} {x y : Operand} (ho : o.op = .indexAddr ty x y) : W (QI P o f s k) (xIndexAddr P ty x y f s k) :=
  onO_w fun v hv => onO_w fun iv hiv => onInt_w fun kk z hz => onNat_w fun i hi => onO_w fun d hd => by
    subst hz hi
    have h0 : (0 : Int) ≤ Int.ofNat i := Int.natCast_nonneg i
    have key : ∀ n q (sz : Nat) (V : Nat → Value), (V = fun m => .pointer (some ⟨n, m, none⟩)) → QOk P o f s (.pointer (some ⟨n, q + (Int.ofNat i).toNat * sz, none⟩)) → W (QI P o f s k) (forceN (Nat.add q (Nat.mul i sz)) fun m => k (V m) s) := fun n q sz V hV h => by
      subst hV
      exact forceN_w (q_end h)
    split
    · refine onO_w fun inf hi => onSl_w fun a l c ha => ble_w fun hl => onPlace_w fun n q spot hs => ble_w fun hq => ?_
      subst ha hs
      have hl' : Int.ofNat i < l := Int.ofNat_lt.2 hl
      rcases spotN_zero hq with rfl | rfl
      · exact key n q inf.size _ rfl (indexSl_ok ho hd hi (ev_eq hv) (ev_eq hiv) h0 hl')
      · exact key n q inf.size _ rfl (indexFx_ok ho hd hi (ev_eq hv) (ev_eq hiv) h0 hl')
    · refine onO_w fun inf hi => ble_w fun hl => onPtr_w fun n q hp => ?_
      subst hp
      exact key n q inf.size _ rfl (indexArr_ok ho hd hi (ev_eq hv) (ev_eq hiv) h0 (Int.ofNat_lt.2 hl))
    · exact W.fail 43
theorem takeL_eq {α : Type} : ∀ (l : List α) (n : Nat), takeL l n = l.take n
  | [], n => by simp [takeL]
  | x :: l, 0 => rfl
  | x :: l, n + 1 => by
    show x :: takeL l n = _
    rw [takeL_eq l n]
    rfl
theorem dropL_eq {α : Type} : ∀ (l : List α) (n : Nat), dropL l n = l.drop n
  | [], n => by simp [dropL]
  | x :: l, 0 => rfl
  | x :: l, n + 1 => by
    show dropL l n = _
    rw [dropL_eq l n]
    rfl
theorem cut_str (b : ByteArray) (l h : Nat) : (⟨⟨takeL (dropL b.data.toList l) (h - l)⟩⟩ : ByteArray) = b.extract l h := by
  apply ByteArray.ext
  rw [ByteArray.data_extract]
  apply Array.ext'
  rw [takeL_eq, dropL_eq, Array.toList_extract]
theorem sliceStr_ok {t : TypeId} {x : Operand} {lo hi : Option Operand} {b : ByteArray} {l h : Nat} (ho : o.op = .slice t x lo hi none) (hu : P.underlying t = some .string) (hx : evO f x = some (.string b)) (hl : idxA f lo 0 = some l) (hh : idxA f hi b.size = some h) (h1 : l ≤ h) (h2 : h ≤ b.size) : QOk P o f s (.string (b.extract l h)) := by
  refine qOk_of (sem := fun ev => Instr.sliceAt t (ev x) (lo.map ev) (hi.map ev) none) (fun ev => slice_run ho ev) (fun ρ w a hr hf => ?_)
  have hp := evO_sound hf hx
  obtain ⟨u, hu2⟩ : ∃ u, a.eval x = u := ⟨_, rfl⟩
  rw [hu2] at hp
  cases hp
  have hb := bounds_run P hf (mx := none) (b := false) (len := b.size) (cap := b.size) (m := b.size) hl hh rfl h1 h2 (Nat.le_refl _) (fun h => by cases h) w
  refine ⟨.string (b.extract l h), ?_, .string _⟩
  have hb2 : (Instr.sliceBounds false b.size b.size (lo.map a.eval) (hi.map a.eval) none).run P w = .ok (l, h, b.size) w := hb
  simp only [hu2, Instr.sliceAt, Instr.slice, Sem.run_bind, run_und hu, Result.andThen_ok, Option.isSome_none, Bool.false_eq_true, if_false, hb2, Sem.run_pure]
theorem xSlice_q {ty : TypeId} {x : Operand} {lo hi mx : Option Operand} (ho : o.op = .slice ty x lo hi mx) : W (QI P o f s k) (xSlice P o ty x lo hi mx f s k) := onO_w fun v hv => by
  cases v with
  | string b =>
    refine onO_w fun d hd => ?_
    split
    · refine idx_w fun l hl => idx_w fun h hh => ble_w fun h1 => ble_w fun h2 => canonL_w ?_
      show W _ (k (.string ⟨⟨takeL (dropL b.data.toList l) (h - l)⟩⟩) s)
      rw [cut_str]
      exact q_end (sliceStr_ok ho hd (ev_eq hv) hl hh h1 h2)
    · exact W.fail 45
  | pointer a =>
    refine onPtr_w fun n q hp => onO_w fun ne hne => onO_w fun inf hinf => idx_w fun l hl => idx_w fun h hh => idx_w fun m hm => ble_w fun h1 => ble_w fun h2 => ble_w fun h3 => onB_w fun h4 => forceV_w (q_end ?_)
    rw [hp] at hv
    refine sliceArr_ok ho (arrOf_eq hne) hinf (ev_eq hv) hl hh hm h1 h2 h3 (fun hs => ?_)
    rw [hs] at h4
    exact h4
  | slice a len cp =>
    refine onO_w fun e he => onO_w fun inf hinf => onPlace_w fun n q spot hs => idx_w fun l hl => idx_w fun h hh => ble_w fun h1 => opt_w (fun hm => ?_) (fun y hm => ?_)
    · subst hs hm
      refine ble_w fun h2 => opt_w (fun hq => ?_) (fun j hq => beq_w fun hj => ?_)
      · subst hq
        exact forceV_w (q_end (sliceSl_ok ho (sliceOf_eq he) hinf (ev_eq hv) hl hh h1 h2))
      · subst hq hj
        exact forceV_w (q_end (sliceFx_ok ho (sliceOf_eq he) hinf (ev_eq hv) hl hh h1 h2))
    · subst hs hm
      refine onB_w fun h4 => idx_w fun m hm => ble_w fun h2 => ble_w fun h3 => beq_w fun hq => forceV_w (q_end ?_)
      rcases spotN_zero (Nat.le_of_eq hq) with rfl | rfl
      · exact sliceMax_ok ho (sliceOf_eq he) hinf (.inl (ev_eq hv)) hl hh hm h1 h2 h3 h4
      · exact sliceMax_ok ho (sliceOf_eq he) hinf (.inr (ev_eq hv)) hl hh hm h1 h2 h3 h4
  | _ => exact W.fail 45
theorem spot_w {q : Option Nat} (h : Nat.ble (spotN q) 0 = true) : q = none ∨ q = some 0 := spotN_zero (Nat.le_of_ble_eq_true h)
theorem xSliceData_q {c : Call} {x : Operand} (ho : o.op = .call c) (hc : c.callee = .builtin .unsafeSliceData) (ha : c.args = #[x]) : W (QI P o f s k) (xSliceData P o x f s k) := onO_w fun v hv => by
  split
  · rename_i n q l c'
    cases c' with
    | zero => exact W.fail 189
    | succ c' => exact q_end (sliceData_ok ho hc ha (ev_eq hv))
  · exact slowOp_q
theorem xFieldV_q {ty : TypeId} {x : Operand} {i : Nat} (ho : o.op = .field ty x i) : W (QI P o f s k) (xFieldV P ty x i f s k) := onO_w fun fd hfd => onO_w fun v hv => onAgg_w fun cs hc => onO_w fun u hu => by
  subst hc
  obtain ⟨fs, h1, h2⟩ := fieldOf_eq hfd
  exact q_end (field_ok ho h1 h2 (ev_eq hv) hu)
theorem xIndexV_q {ty : TypeId} {x y : Operand} (ho : o.op = .index ty x y) : W (QI P o f s k) (xIndexV P o ty x y f s k) := opt_w (fun _ => slowOp_q) fun p hp => onO_w fun inf hi => onO_w fun iv hiv => onInt_w fun kk z hz => onNat_w fun i hn => ble_w fun hl => onO_w fun v hv => onAgg_w fun cs hc => onO_w fun u hu => by
  subst hc hz hn
  exact q_end (index_ok ho (arrOf_eq hp) hi (ev_eq hv) (ev_eq hiv) (Int.natCast_nonneg i) (Int.ofNat_lt.2 hl) hu)
theorem xBuild_q {ty : TypeId} {ps : Array (Nat × Operand)} (ho : o.op = .build ty ps) : W (QI P o f s k) (xBuild P ty ps f s k) := onO_w fun i hi => onO_w fun z hz => onB_w fun hfz => onO_w fun vs hvs => onO_w fun d hd => by
  split
  · refine onO_w fun pl hpl => onO_w fun cells hc => q_end ?_
    rename_i fs
    unfold placesOf structOf at hpl
    rw [hd] at hpl
    exact build_ok ho hd hi hz hfz hpl (evp_eq hvs) hc
  · exact onO_w fun ie hie => onO_w fun cells hc => q_end (buildArr_ok ho hd hi hz hfz hie (evp_eq hvs) hc)
  · exact W.fail 63
theorem nodup_inj : ∀ (es : List MapEntry), (es.map (·.key)).Nodup → ∀ a b, a ∈ es → b ∈ es → a.key = b.key → a = b
  | [], _, a, b, ha, _, _ => by cases ha
  | e :: es, h, a, b, ha, hb, he => by
    rw [List.map_cons, List.nodup_cons] at h
    rcases List.mem_cons.1 ha with ea | ha2 <;> rcases List.mem_cons.1 hb with eb | hb2
    · exact ea.trans eb.symm
    · exact absurd (show e.key ∈ es.map (·.key) from List.mem_map.2 ⟨b, hb2, by rw [← he, ea]⟩) h.1
    · exact absurd (show e.key ∈ es.map (·.key) from List.mem_map.2 ⟨a, ha2, by rw [he, eb]⟩) h.1
    · exact nodup_inj es h.2 a b ha2 hb2 he
theorem int_eq {a b : Int} (h : intEq a b = true) : a = b := by
  unfold intEq at h
  split at h
  · rw [Nat.eq_of_beq_eq_true h]
  · rw [Nat.eq_of_beq_eq_true h]
  · cases h
theorem int_refl (a : Int) : intEq a a = true := by
  cases a
  · exact Nat.beq_refl _
  · exact Nat.beq_refl _
theorem kindRefl (k : IntKind) : sameKind k k = true := by cases k <;> rfl
theorem kindEq {a b : IntKind} (h : sameKind a b = true) : a = b := by
  cases a <;> cases b <;> first | rfl | cases h
theorem bandT {a b : Bool} (h : band a b = true) : a = true ∧ b = true := by
  cases a
  · cases h
  · exact ⟨rfl, h⟩
theorem keyIs_is {u : Value} {kk : IntKind} {z : Int} : keyIs u kk z = true ↔ u = .int kk z := by
  constructor
  · intro h
    unfold keyIs at h
    split at h
    · obtain ⟨h1, h2⟩ := bandT h
      rw [kindEq h1, int_eq h2]
    · cases h
  · intro h
    subst h
    show band (sameKind kk kk) (intEq z z) = true
    rw [kindRefl, int_refl]
    rfl
theorem allK_is {kk : IntKind} : ∀ {es : List MapEntry}, allK kk es = true → ∀ e ∈ es, ∃ z, e.key = .int kk z
  | [], _, e, he => by cases he
  | x :: es, h, e, he => by
    obtain ⟨h1, h2⟩ := bandT (show band (keyOf x.key kk) (allK kk es) = true from h)
    rcases List.mem_cons.1 he with rfl | he
    · unfold keyOf at h1
      split at h1
      · rename_i hk
        rw [hk, kindEq h1]
        exact ⟨_, rfl⟩
      · cases h1
    · exact allK_is h2 e he
theorem findP_is {kk : IntKind} {z : Int} : ∀ (es : List MapEntry), (findP kk z es = none ∧ ∀ e ∈ es, e.key ≠ .int kk z) ∨ ∃ e ∈ es, e.key = .int kk z ∧ findP kk z es = some (0, e.val)
  | [] => .inl ⟨rfl, fun e he => by cases he⟩
  | x :: es => by
    rcases hb : keyIs x.key kk z with _ | _
    · have e1 : findP kk z (x :: es) = findP kk z es := by
        show Bool.rec (motive := fun _ => Option (Nat × Value)) (findP kk z es) (some (0, x.val)) (keyIs x.key kk z) = _
        rw [hb]
      have hx : x.key ≠ .int kk z := fun h => by
        rw [keyIs_is.2 h] at hb
        cases hb
      rw [e1]
      rcases findP_is es with ⟨h1, h2⟩ | ⟨e, h1, h2, h3⟩
      · refine .inl ⟨h1, fun e he => ?_⟩
        rcases List.mem_cons.1 he with rfl | he
        · exact hx
        · exact h2 e he
      · exact .inr ⟨e, List.mem_cons_of_mem _ h1, h2, h3⟩
    · refine .inr ⟨x, List.mem_cons_self, keyIs_is.1 hb, ?_⟩
      show Bool.rec (motive := fun _ => Option (Nat × Value)) (findP kk z es) (some (0, x.val)) (keyIs x.key kk z) = _
      rw [hb]
theorem findNow_int {j kk : IntKind} {z : Int} : ∀ (l : List MapEntry) (i : Nat), (∀ e ∈ l, ∃ y, e.key = .int kk y) → ∃ r, Instr.findNow (.int j) (.int kk z) l i = some r ∧ ((r = none ∧ ∀ e ∈ l, e.key ≠ .int kk z) ∨ ∃ q e, r = some (q, e.val) ∧ e ∈ l ∧ e.key = .int kk z)
  | [], i, _ => ⟨none, rfl, .inl ⟨rfl, fun e he => by cases he⟩⟩
  | x :: l, i, h => by
    obtain ⟨y, hy⟩ := h x List.mem_cons_self
    have hs : Instr.sameNow (.int j) (.int kk z) x.key = some (z == y) := by
      rw [hy]
      show (if kk = kk then some (z == y) else none) = _
      rw [if_pos rfl]
    by_cases hzy : z = y
    · subst hzy
      refine ⟨some (i, x.val), ?_, .inr ⟨i, x, rfl, List.mem_cons_self, hy⟩⟩
      unfold Instr.findNow
      rw [hs, beq_self_eq_true]
    · obtain ⟨r, h1, h2⟩ := findNow_int l (i + 1) (fun e he => h e (List.mem_cons_of_mem _ he))
      have hb : (z == y) = false := beq_eq_false_iff_ne.2 hzy
      refine ⟨r, ?_, ?_⟩
      · unfold Instr.findNow
        rw [hs, hb]
        exact h1
      · rcases h2 with ⟨h3, h4⟩ | ⟨q, e, h3, h4, h5⟩
        · refine .inl ⟨h3, fun e he => ?_⟩
          rcases List.mem_cons.1 he with rfl | he
          · rw [hy]
            exact fun e => hzy (by injection e with _ e; exact e.symm)
          · exact h4 e he
        · exact .inr ⟨q, e, h3, List.mem_cons_of_mem _ h4, h5⟩
theorem checkIntN {kt : TypeId} {j kk : IntKind} {z : Int} (h : P.underlying kt = some (.int j)) (b : Bool) (w : World) (n : Nat) : (Instr.checkKey b (n + 1) kt (.int kk z)).run P w = .ok () w := by
  simp only [Instr.checkKey, Sem.run_bind, run_und h, Result.andThen_ok]
  rfl
theorem checkInt {kt : TypeId} {j kk : IntKind} {z : Int} (h : P.underlying kt = some (.int j)) (b : Bool) (w : World) : (Instr.checkKey b 10000 kt (.int kk z)).run P w = .ok () w := checkIntN h b w 9999
theorem findInt {kt : TypeId} {j kk : IntKind} {z : Int} {l : List MapEntry} {r : Option (Nat × Value)} (h : P.underlying kt = some (.int j)) (hr : Instr.findNow (.int j) (.int kk z) l 0 = some r) (w : World) : (Instr.findKey kt (.int kk z) l).run P w = .ok r w := by
  simp only [Instr.findKey, Sem.run_bind, run_und h, Result.andThen_ok, hr, Sem.run_pure]
theorem lookupP_ok {xt kt e : TypeId} {j kk : IntKind} {zz : Int} {ie : TypeInfo} {z : Value} {x ix : Operand} {ok : Bool} {n : Nat} {es : List MapEntry} (ho : o.op = .lookup xt x ix ok) (hu : P.underlying xt = some (.map kt e)) (hkd : P.underlying kt = some (.int j)) (hi : P.info? e = some ie) (hz : ie.zero = some z) (hfz : flat z = true) (hx : evO f x = some (.map (some n))) (hn : s.h.get n = some (.pmap es)) (hix : evO f ix = some (.int kk zz)) (hall : allK kk es = true) : QOk P o f s (lookR ok z (findP kk zz es)) := by
  refine qOk_of (sem := fun ev => Instr.lookup xt (ev x) (ev ix) ok) (fun ev => by unfold execOp; rw [ho]) (fun ρ w a hr hf => ?_)
  have hkv := flat_eq (v := .int kk zz) (by rfl) (evO_sound hf hix)
  have hp := evO_sound hf hx
  obtain ⟨u, hu2⟩ : ∃ u, a.eval x = u := ⟨_, rfl⟩
  rw [hu2] at hp
  cases hp
  obtain ⟨_, es', c, h1, kk0, h2, _, h4, h5⟩ := hr.obj n _ hn
  have hint : ∀ u ∈ es'.toList, ∃ y, u.key = .int kk y := fun u hu => by
    obtain ⟨e, g1, g2, _⟩ := h4 u hu
    obtain ⟨y, g3⟩ := allK_is hall e g1
    exact ⟨y, by rw [← g2]; exact g3⟩
  obtain ⟨r', h6, h7⟩ := findNow_int (j := j) (z := zz) es'.toList 0 hint
  refine ⟨lookR ok z r', ?_, ?_⟩
  · simp only [hu2, hkv]
    exact look_run hu h1 (checkInt hkd _ w) (findInt hkd h6 w) hi hz
  · rcases h7 with ⟨rfl, h8⟩ | ⟨q, u, rfl, h8, h9⟩
    · rcases findP_is (kk := kk) (z := zz) es with ⟨g1, _⟩ | ⟨e, g1, g2, _⟩
      · rw [g1]
        cases ok
        · exact flat_vr hfz
        · exact pair_vr (flat_vr hfz) (.bool _)
      · obtain ⟨u, g3, g4⟩ := h5 e g1
        exact absurd (g4.trans g2) (h8 u g3)
    · obtain ⟨e, g1, g2, g3⟩ := h4 u h8
      rcases findP_is (kk := kk) (z := zz) es with ⟨_, g5⟩ | ⟨e2, g5, g6, g7⟩
      · exact absurd (g2.trans h9) (g5 e g1)
      · obtain rfl := nodup_inj es h2 e e2 g1 g5 ((g2.trans h9).trans g6.symm)
        rw [g7]
        cases ok
        · exact g3
        · exact pair_vr g3 (.bool _)
theorem xLookup_q {ty : TypeId} {x ix : Operand} {ok : Bool} (ho : o.op = .lookup ty x ix ok) : W (QI P o f s k) (xLookup P ty x ix ok f s k) :=
  onO_w fun ke hke => onO_w fun ie hi => onO_w fun z hz => onB_w fun hfz => onO_w fun v hv => onO_w fun kv hkv => onB_w fun hfl => onMap_w fun m hm => by
    subst hm
    refine opt_w (fun hm => ?_) (fun n hm => ?_)
    · subst hm
      refine onO_w fun _ hck => onO_w fun r hfk => opt_w (fun hr => ?_) (fun _ _ => W.fail 74)
      subst hr
      exact q_end (lookupNil_ok ho (mapOf_eq hke) hi hz hfz (ev_eq hv) (ev_eq hkv) hfl hck hfk)
    · subst hm
      refine onEntsP_w (fun es c hn => onO_w fun kd hkd => onO_w fun _ hck => onO_w fun r hfk => q_end (lookup_ok ho (mapOf_eq hke) hkd hi hz hfz (ev_eq hv) hn (ev_eq hkv) hfl hck hfk)) (fun es hn => onO_w fun kd hkd => ?_)
      split
      · exact onB_w fun hall => q_end (lookupP_ok ho (mapOf_eq hke) hkd hi hz hfz (ev_eq hv) hn (ev_eq hkv) hall)
      · exact W.fail 75
theorem xEntry_q {it : Operand} (ho : o.op = .entry it) : W (QI P o f s k) (xEntry it f s k) := onO_w fun v hv => onPtr_w fun n q hq => beq_w fun h0 => onO_w fun a ha => by
  subst hq h0
  split
  · refine onEnts_w fun es clock hh => ?_
    split
    · refine beq_w fun hb => beq_w fun hc => ?_
      subst hb hc
      exact q_end (entry_ok ho (ev_eq hv) ha hh)
    · exact W.fail 137
  · exact W.fail 137
theorem xAssert_q {x : Operand} {xt t : TypeId} {ok : Bool} (ho : o.op = .typeAssert x xt t ok) : W (QI P o f s k) (xAssert P x t ok f s k) := onO_w fun v hv => onIface_w fun t' u hu => beq_w fun he => onO_w fun d hd => not_w fun hi => by
  subst hu he
  have h := assert_ok ho hd hi (ev_eq hv) (s := s)
  cases ok
  · exact q_end h
  · exact q_end h
theorem xUn_q {op : UnOp} {t : TypeId} {x : Operand} (ho : o.op = .unOp op t x) : W (QI P o f s k) (xUn P o op x f s k) := onO_w fun v hv => by
  split
  · rename_i b
    refine mkBool_w (q_end (qOk_of (sem := fun ev => Op.unary .not (ev x)) (fun ev => by unfold execOp; rw [ho]) fun ρ w a hr hf => ?_))
    have h := evO_sound hf (ev_eq hv)
    obtain ⟨u, hu⟩ : ∃ u, a.eval x = u := ⟨_, rfl⟩
    rw [hu] at h
    cases h
    refine ⟨.bool (!b), by rw [hu]; rfl, ?_⟩
    cases b
    · exact .bool true
    · exact .bool false
  · exact slowOp_q
theorem xLen_q {c : Call} {t : TypeId} {x : Operand} (ho : o.op = .call c) (hc : c.callee = .builtin .len) (ha : c.args = #[x]) (ht : c.argTypes[0]? = some t) : W (QI P o f s k) (xLen P o t x f s k) := onO_w fun d hd => onO_w fun v hv => by
  split
  · exact mkInt_w (q_end (lenSl_ok ho hc ha ht hd (ev_eq hv)))
  · exact onEnts_w fun es cl hn => mkInt_w (q_end (lenMap_ok ho hc ha ht hd (ev_eq hv) hn))
  · exact slowOp_q
theorem max_in {i : IntKind} {n : Nat} (h : n ≤ maxOf i) : i.wrap n = n := by
  cases i
  · exact IntWalk.i8_in _ ⟨by omega, by have : n ≤ 127 := h; omega⟩
  · exact IntWalk.i16_in _ ⟨by omega, by have : n ≤ 32767 := h; omega⟩
  · exact IntWalk.i32_in _ ⟨by omega, by have : n ≤ 2147483647 := h; omega⟩
  · exact IntWalk.i64_in _ ⟨by omega, by have : n ≤ 9223372036854775807 := h; omega⟩
  · exact IntWalk.u8_in _ ⟨by omega, by have : n ≤ 255 := h; omega⟩
  · exact IntWalk.u16_in _ ⟨by omega, by have : n ≤ 65535 := h; omega⟩
  · exact IntWalk.u32_in _ ⟨by omega, by have : n ≤ 4294967295 := h; omega⟩
  · exact IntWalk.u64_in _ ⟨by omega, by have : n ≤ 18446744073709551615 := h; omega⟩
theorem sameKind_eq {a b : IntKind} (h : sameKind a b = true) : a = b := by
  cases a <;> cases b <;> first | rfl | cases h
theorem bin_int {op : BinOp} {t q : TypeId} {x y : Operand} {i j : IntKind} {a b : Nat} {z : Value} (ho : o.op = .binOp op t x y q) (hx : evO f x = some (.int i (.ofNat a))) (hy : evO f y = some (.int j (.ofNat b)))
    (hz : flat z = true) (h : ∀ w, (binOp op t (.int i (.ofNat a)) (.int j (.ofNat b))).run P w = .ok z w) : QOk P o f s z := by
  refine qOk_of (sem := fun ev => do eqGuard op t x y (ev x) (ev y); binOp op t (ev x) (ev y)) (fun ev => by unfold execOp; rw [ho]) fun ρ w c hr hf => ?_
  have h1 := evO_sound hf hx
  have h2 := evO_sound hf hy
  obtain ⟨u1, hu1⟩ : ∃ u, c.eval x = u := ⟨_, rfl⟩
  obtain ⟨u2, hu2⟩ : ∃ u, c.eval y = u := ⟨_, rfl⟩
  rw [hu1] at h1
  rw [hu2] at h2
  cases h1
  cases h2
  refine ⟨z, ?_, flat_vr hz⟩
  have hg : ∀ w, (eqGuard op t x y (.int i (.ofNat a)) (.int j (.ofNat b))).run P w = .ok () w := fun w => by
    unfold eqGuard
    cases op <;> rfl
  simp only [hu1, hu2, Sem.run_bind, hg, Result.andThen_ok, h]
theorem wrap_uns {i : IntKind} (h : uns i = true) (n : Nat) : i.wrap (n : Int) = ((n % Nat.succ (maxOf i) : Nat) : Int) := by
  cases i <;> first | (cases h; done) | (simp [IntKind.wrap, IntKind.bits, IntKind.signed, maxOf])
theorem wrapN_w {G : Ev.R → Prop} {i : IntKind} {n : Nat} {slow : Ev.R} {c : Value → Ev.R} (hs : W G slow) (h : ∀ z : Nat, i.wrap (n : Int) = (z : Int) → W G (c (.int i (.ofNat z)))) : W G (wrapN i n slow c) :=
  bool_w (fun _ => bool_w (fun _ => hs) (fun hu => mkInt_w (h _ (wrap_uns hu n)))) (fun hle => mkInt_w (h n (max_in (Nat.le_of_ble_eq_true hle))))
theorem bv_nat {i : IntKind} {a : Nat} (h : a ≤ maxOf i) : (BitVec.ofInt i.bits (Int.ofNat a)).toNat = a := by
  have hlt : a < 2 ^ i.bits := by
    cases i
    · have : a ≤ 127 := h
      show a < 2 ^ 8
      omega
    · have : a ≤ 32767 := h
      show a < 2 ^ 16
      omega
    · have : a ≤ 2147483647 := h
      show a < 2 ^ 32
      omega
    · have : a ≤ 9223372036854775807 := h
      show a < 2 ^ 64
      omega
    · have : a ≤ 255 := h
      show a < 2 ^ 8
      omega
    · have : a ≤ 65535 := h
      show a < 2 ^ 16
      omega
    · have : a ≤ 4294967295 := h
      show a < 2 ^ 32
      omega
    · have : a ≤ 18446744073709551615 := h
      show a < 2 ^ 64
      omega
  rw [BitVec.toNat_ofInt]
  have e : Int.ofNat a % ((2 ^ i.bits : Nat) : Int) = ((a % 2 ^ i.bits : Nat) : Int) := rfl
  rw [e, Int.toNat_natCast]
  exact Nat.mod_eq_of_lt hlt
theorem bits_of (i : IntKind) : bitsOf i = i.bits := by cases i <;> rfl
theorem xConv_q {a b : TypeId} {x : Operand} (ho : o.op = .convert a b x) : W (QI P o f s k) (xConv P o a b x f s k) := onO_w fun v hv => by
  split
  · refine onO_w fun da hda => onO_w fun db hdb => onCells_w fun t m e sz fz hn => ?_
    split
    · exact onO_w fun j hj => ne_w fun hz => ble_w fun hk => q_end (toUnsafe_ok ho hda hdb hj hz (ev_eq hv) hn hk)
    · refine onO_w fun j hj => beq_w fun hz => onB_w fun hl => ?_
      subst hz
      exact q_end (fromUnsafe_ok ho hda hdb hj (ev_eq hv) hn hl)
    · exact W.fail 184
  · refine onO_w fun da hda => onO_w fun db hdb => ?_
    split
    · refine onO_w fun dt hdt => ?_
      split
      · exact onB_w fun hsp => onCells_w fun t m e sz fz hn => ble_w fun hk => onO_w fun vs hvs => onO_w fun bs hbs => canonB_w (q_end (bytesStr_ok ho hda hdb hdt (ev_eq hv) (spot_w hsp) hn hk hvs hbs))
      · exact W.fail 186
    · exact W.fail 186
  · refine onO_w fun da hda => onO_w fun db hdb => ?_
    split
    · rename_i j i
      refine wrapN_w slowOp_q fun z hz => q_end ?_
      refine qOk_of (sem := fun ev => convert a b (ev x)) (conv_run ho) (fun ρ w c hr hf => ?_)
      have hp := evO_sound hf (ev_eq hv)
      obtain ⟨u, hu2⟩ : ∃ u, c.eval x = u := ⟨_, rfl⟩
      rw [hu2] at hp
      cases hp
      refine ⟨.int i z, ?_, .int _ _⟩
      rw [hu2]
      simp only [convert, Sem.run_bind, run_und hda, run_und hdb, Result.andThen_ok, Conv.intToInt, Sem.run_pure]
      exact congrArg (fun z => Result.ok (Value.int i z) w) hz
    · exact slowOp_q
  · exact slowOp_q
theorem natOp_q {op : BinOp} {t q : TypeId} {x y : Operand} {i : IntKind} {a b : Nat} {slow : R} (ho : o.op = .binOp op t x y q) (hx : evO f x = some (.int i (.ofNat a))) (hy : evO f y = some (.int i (.ofNat b))) (hs : W (QI P o f s k) slow) : W (QI P o f s k) (natOp op i a b slow fun v => k v s) := by
  have key : ∀ z : Value, flat z = true → (∀ w, (binOp op t (.int i (.ofNat a)) (.int i (.ofNat b))).run P w = .ok z w) → W (QI P o f s k) (k z s) := fun z h1 h2 => q_end (bin_int ho hx hy h1 h2)
  have cmp : ∀ c : Bool, (∀ w, (binOp op t (.int i (.ofNat a)) (.int i (.ofNat b))).run P w = .ok (.bool c) w) → W (QI P o f s k) (mkBool c fun v => k v s) := fun c h => mkBool_w (key _ (by cases c <;> rfl) h)
  have ar : ∀ n : Nat, (∀ w, (binOp op t (.int i (.ofNat a)) (.int i (.ofNat b))).run P w = .ok (.int i n) w) → W (QI P o f s k) (mkInt i n fun v => k v s) := fun n h => mkInt_w (key _ (by rfl) h)
  have dec : ∀ (p : Prop) [Decidable p] (c : Bool), (p ↔ c = true) → decide p = c := fun p _ c h => by
    cases c
    · exact decide_eq_false (fun hp => Bool.noConfusion (h.1 hp))
    · exact decide_eq_true (h.2 rfl)
  have wr : ∀ n : Nat, (∀ w, (binOp op t (.int i (.ofNat a)) (.int i (.ofNat b))).run P w = .ok (.int i (i.wrap n)) w) → W (QI P o f s k) (wrapN i n slow fun v => k v s) := fun n h => wrapN_w hs fun z hz => key _ (by rfl) fun w => by rw [h w, hz]; rfl
  have bt : ∀ g : Nat → Nat → Nat, (a ≤ maxOf i → b ≤ maxOf i → ∀ w, (binOp op t (.int i (.ofNat a)) (.int i (.ofNat b))).run P w = .ok (.int i (i.wrap (g a b : Nat))) w) → W (QI P o f s k) (bitsN g i a b slow fun v => k v s) := fun g h => bool_w (fun _ => hs) fun h1 => bool_w (fun _ => hs) fun h2 => wr _ (h (Nat.le_of_ble_eq_true h1) (Nat.le_of_ble_eq_true h2))
  unfold natOp natF
  split
  · refine wr _ fun w => ?_
    simp only [binOp, ne_eq, not_true_eq_false, if_false, Op.intArith, Sem.run_pure]
    rfl
  · refine bool_w (fun _ => hs) fun h1 => bool_w (fun _ => hs) fun h => ar _ fun w => ?_
    have hm := max_in (Nat.le_of_ble_eq_true h)
    have h1 := Nat.le_of_ble_eq_true h1
    simp only [binOp, ne_eq, not_true_eq_false, if_false, Op.intArith, Sem.run_pure]
    have : (Int.ofNat a - Int.ofNat b) = ((Nat.sub a b : Nat) : Int) := (Int.ofNat_sub h1).symm
    rw [this, hm]
  · refine wr _ fun w => ?_
    simp only [binOp, ne_eq, not_true_eq_false, if_false, Op.intArith, Sem.run_pure]
    rfl
  · refine bool_w (fun _ => hs) fun h1 => wr _ fun w => ?_
    have h1 := Nat.le_of_ble_eq_true h1
    have h0 : Int.ofNat b ≠ 0 := fun e => by
      have : (b : Int) = 0 := e
      omega
    simp only [binOp, ne_eq, not_true_eq_false, if_false, Op.intDiv, if_neg h0, Sem.run_pure]
    rfl
  · refine bool_w (fun _ => hs) fun h1 => ar _ fun w => ?_
    have h1 := Nat.le_of_ble_eq_true h1
    have h0 : Int.ofNat b ≠ 0 := fun e => by
      have : (b : Int) = 0 := e
      omega
    simp only [binOp, ne_eq, not_true_eq_false, if_false, Op.intDiv, if_neg h0, Sem.run_pure]
    rfl
  · refine bt _ fun h1 h2 w => ?_
    simp only [binOp, ne_eq, not_true_eq_false, if_false, Op.intBits, Sem.run_pure, BitVec.toNat_and, bv_nat h1, bv_nat h2]
    rfl
  · refine bt _ fun h1 h2 w => ?_
    simp only [binOp, ne_eq, not_true_eq_false, if_false, Op.intBits, Sem.run_pure, BitVec.toNat_or, bv_nat h1, bv_nat h2]
    rfl
  · refine bt _ fun h1 h2 w => ?_
    simp only [binOp, ne_eq, not_true_eq_false, if_false, Op.intBits, Sem.run_pure, BitVec.toNat_xor, bv_nat h1, bv_nat h2]
    rfl
  · refine cmp _ fun w => ?_
    simp only [binOp, ne_eq, not_true_eq_false, if_false, Op.intCmp, Sem.run_pure]
    rw [dec (Int.ofNat a < Int.ofNat b) (Nat.ble (Nat.succ a) b) ⟨fun h => Nat.ble_eq_true_of_le (Int.ofNat_lt.1 h), fun h => Int.ofNat_lt.2 (Nat.le_of_ble_eq_true h)⟩]
  · refine cmp _ fun w => ?_
    simp only [binOp, ne_eq, not_true_eq_false, if_false, Op.intCmp, Sem.run_pure]
    rw [dec (Int.ofNat a ≤ Int.ofNat b) (Nat.ble a b) ⟨fun h => Nat.ble_eq_true_of_le (Int.ofNat_le.1 h), fun h => Int.ofNat_le.2 (Nat.le_of_ble_eq_true h)⟩]
  · refine cmp _ fun w => ?_
    simp only [binOp, ne_eq, not_true_eq_false, if_false, Op.intCmp, Sem.run_pure]
    rw [dec (Int.ofNat a > Int.ofNat b) (Nat.ble (Nat.succ b) a) ⟨fun h => Nat.ble_eq_true_of_le (Int.ofNat_lt.1 h), fun h => Int.ofNat_lt.2 (Nat.le_of_ble_eq_true h)⟩]
  · refine cmp _ fun w => ?_
    simp only [binOp, ne_eq, not_true_eq_false, if_false, Op.intCmp, Sem.run_pure]
    rw [dec (Int.ofNat a ≥ Int.ofNat b) (Nat.ble b a) ⟨fun h => Nat.ble_eq_true_of_le (Int.ofNat_le.1 h), fun h => Int.ofNat_le.2 (Nat.le_of_ble_eq_true h)⟩]
  · refine cmp _ fun w => ?_
    simp only [binOp, ne_eq, not_true_eq_false, if_false, Op.intCmp, Sem.run_pure]
    have : (Int.ofNat a == Int.ofNat b) = Nat.beq a b := dec (Int.ofNat a = Int.ofNat b) (Nat.beq a b) ⟨fun h => by rw [Int.ofNat.inj h]; exact Nat.beq_refl b, fun h => by rw [Nat.eq_of_beq_eq_true h]⟩
    rw [this]
  · refine cmp _ fun w => ?_
    simp only [binOp, ne_eq, not_true_eq_false, if_false, Op.intCmp, Sem.run_pure]
    have : (Int.ofNat a == Int.ofNat b) = Nat.beq a b := dec (Int.ofNat a = Int.ofNat b) (Nat.beq a b) ⟨fun h => by rw [Int.ofNat.inj h]; exact Nat.beq_refl b, fun h => by rw [Nat.eq_of_beq_eq_true h]⟩
    show Result.ok (Value.bool !(Int.ofNat a == Int.ofNat b)) w = _
    rw [this]
    cases Nat.beq a b <;> rfl
  · exact hs
theorem shOp_q {op : BinOp} {t q : TypeId} {x y : Operand} {u z : Value} {slow : R} (ho : o.op = .binOp op t x y q) (hx : evO f x = some u) (hy : evO f y = some z) (hs : W (QI P o f s k) slow) : W (QI P o f s k) (shOp op u z slow fun v => k v s) := by
  unfold shOp
  split
  · rename_i i a j b
    have h0 : ¬ (Int.ofNat b < 0) := by
      have : (0 : Int) ≤ Int.ofNat b := Int.natCast_nonneg b
      omega
    have hm : b ≤ i.bits → min (Int.ofNat b).toNat i.bits = b := fun hb => Nat.min_eq_left hb
    unfold shF
    split
    · refine bool_w (fun _ => hs) fun hb => wrapN_w hs fun r hr => q_end (bin_int ho hx hy (by rfl) fun w => ?_)
      have hb := Nat.le_of_ble_eq_true hb
      rw [bits_of] at hb
      show (Op.shift .shl i (.ofNat a) j (.ofNat b)).run P w = _
      have e : Int.ofNat a * 2 ^ b = ((Nat.shiftLeft a b : Nat) : Int) := by
        show (a : Int) * 2 ^ b = ((a <<< b : Nat) : Int)
        rw [Nat.shiftLeft_eq]
        push_cast
        rfl
      simp only [Op.shift, if_neg h0, hm hb, e, hr, Sem.run_pure]
      rfl
    · refine bool_w (fun _ => hs) fun hb => mkInt_w (q_end (bin_int ho hx hy (by rfl) fun w => ?_))
      have hb := Nat.le_of_ble_eq_true hb
      rw [bits_of] at hb
      show (Op.shift .shr i (.ofNat a) j (.ofNat b)).run P w = _
      have e : (Int.ofNat a).fdiv (2 ^ b) = Int.ofNat (Nat.shiftRight a b) := by
        show (a : Int).fdiv (2 ^ b) = ((a >>> b : Nat) : Int)
        rw [Nat.shiftRight_eq_div_pow, Int.fdiv_eq_ediv_of_nonneg _ (by exact_mod_cast Nat.zero_le (2 ^ b))]
        push_cast
        rfl
      simp only [Op.shift, if_neg h0, hm hb, e, Sem.run_pure]
    · exact hs
  · exact hs
theorem cmpOp_q {op : BinOp} {t q : TypeId} {x y : Operand} {neg : Bool} (ho : o.op = .binOp op t x y q) (hn : isCmp op = some neg) : W (QI P o f s k) (cmpOp P o t x y neg f s k) := onO_w fun d hd => onO_w fun u hu => onO_w fun z hz => opt_w (fun _ => slowOp_q) fun r hr => by
  have hop : (neg = false ∧ op = .eql) ∨ (neg = true ∧ op = .neq) := by
    cases op <;> cases hn
    · exact .inl ⟨rfl, rfl⟩
    · exact .inr ⟨rfl, rfl⟩
  rcases hop with ⟨rfl, rfl⟩ | ⟨rfl, rfl⟩
  · exact mkBool_w (q_end (nilEql_ok ho hd (ev_eq hu) (ev_eq hz) hr))
  · have := nilNeq_ok ho hd (ev_eq hu) (ev_eq hz) hr (s := s)
    refine mkBool_w (q_end ?_)
    cases r
    · exact this
    · exact this
theorem listEq_refl {α : Type} {e : α → α → Bool} (he : ∀ x, e x x = true) : ∀ a : List α, listEq e a a = true
  | [] => rfl
  | x :: a => by
    show band (e x x) (listEq e a a) = true
    rw [he, listEq_refl he a]
    rfl
theorem listEq_is {α : Type} {e : α → α → Bool} (he : ∀ x y, e x y = true → x = y) : ∀ (a b : List α), listEq e a b = true → a = b
  | [], b, h => (List.isEmpty_iff.1 h).symm
  | x :: a, [], h => by cases h
  | x :: a, y :: b, h => by
    have h' : band (e x y) (listEq e a b) = true := h
    have h1 : e x y = true := by
      rcases hq : e x y with _ | _
      · rw [hq] at h'
        cases h'
      · rfl
    rw [h1] at h'
    rw [he x y h1, listEq_is he a b h']
theorem byteEq_beq (a b : ByteArray) : (a.toList == b.toList) = byteEq a b := by
  rw [ByteArray.toList_eq, ByteArray.toList_eq]
  rcases h : byteEq a b with _ | _
  · refine beq_eq_false_iff_ne.2 fun e => ?_
    rw [byteEq, e, listEq_refl (e := fun x y => Nat.beq (UInt8.toNat x) (UInt8.toNat y)) (fun x => Nat.beq_refl _)] at h
    cases h
  · have h1 := listEq_is (fun x y h => UInt8.toNat_inj.1 (Nat.eq_of_beq_eq_true h)) _ _ h
    rw [h1]
    exact beq_self_eq_true _
theorem bin_str {op : BinOp} {t q : TypeId} {x y : Operand} {a b : ByteArray} {z : Value} (ho : o.op = .binOp op t x y q) (hx : evO f x = some (.string a)) (hy : evO f y = some (.string b)) (hz : flat z = true) (h : ∀ w, (binOp op t (.string a) (.string b)).run P w = .ok z w) : QOk P o f s z := by
  refine qOk_of (sem := fun ev => do eqGuard op t x y (ev x) (ev y); binOp op t (ev x) (ev y)) (fun ev => by unfold execOp; rw [ho]) fun ρ w c hr hf => ?_
  have h1 := evO_sound hf hx
  have h2 := evO_sound hf hy
  obtain ⟨u1, hu1⟩ : ∃ u, c.eval x = u := ⟨_, rfl⟩
  obtain ⟨u2, hu2⟩ : ∃ u, c.eval y = u := ⟨_, rfl⟩
  rw [hu1] at h1
  rw [hu2] at h2
  cases h1
  cases h2
  refine ⟨z, ?_, flat_vr hz⟩
  have hg : ∀ w, (eqGuard op t x y (.string a) (.string b)).run P w = .ok () w := fun w => by
    unfold eqGuard
    cases op <;> rfl
  simp only [hu1, hu2, Sem.run_bind, hg, Result.andThen_ok, h]
theorem strOp_q {op : BinOp} {t q : TypeId} {x y : Operand} {u z : Value} {slow : R} (ho : o.op = .binOp op t x y q) (hx : evO f x = some u) (hy : evO f y = some z) (hs : W (QI P o f s k) slow) : W (QI P o f s k) (strOp op u z slow fun v => k v s) := by
  unfold strOp
  split
  · rename_i a b
    refine bool_w (fun _ => hs) fun h => canonL_w ?_
    have hle := Nat.le_of_ble_eq_true h
    have e : (⟨⟨app a.data.toList b.data.toList⟩⟩ : ByteArray) = a ++ b := by
      rw [app_eq]
      apply ByteArray.ext
      simp
    rw [e]
    refine q_end (bin_str ho hx hy (by rfl) fun w => ?_)
    have hn : ¬ (((a.size + b.size : Nat) : Int) > IntKind.i64.max) := by
      have : IntKind.i64.max = 9223372036854775807 := rfl
      rw [this]
      have : a.size + b.size ≤ 9223372036854775807 := hle
      omega
    show (Op.stringOp .add a b).run P w = _
    simp only [Op.stringOp, if_neg hn, Sem.run_pure]
  · rename_i a b
    refine mkBool_w (q_end (bin_str ho hx hy (by rfl) fun w => ?_))
    rw [binOp_string_eql, byteEq_beq]
    rfl
  · rename_i a b
    refine mkBool_w (q_end (bin_str ho hx hy (by rfl) fun w => ?_))
    rw [binOp_string_neq, byteEq_beq]
    cases byteEq a b <;> rfl
  · exact hs
theorem xBin_q {op : BinOp} {t q : TypeId} {x y : Operand} (ho : o.op = .binOp op t x y q) : W (QI P o f s k) (xBin P o op t x y f s k) := onO_w fun u hu => onO_w fun z hz => by
  have slow := shOp_q ho (ev_eq hu) (ev_eq hz) (strOp_q ho (ev_eq hu) (ev_eq hz) (show W (QI P o f s k) (Option.rec (motive := fun _ => R) (slowOp P o f s k) (fun neg => cmpOp P o t x y neg f s k) (isCmp op)) from opt_w (fun _ => slowOp_q) fun neg hn => cmpOp_q ho hn))
  unfold intOp
  split
  · refine bool_w (fun _ => slow) fun hk => ?_
    obtain rfl := sameKind_eq hk
    exact natOp_q ho (ev_eq hu) (ev_eq hz) slow
  · exact slow
end
end Go.Proofs.YtnjabndkaabogaaGreatDoor.Ev
namespace Go.Proofs.YtnjabndkaabogaaGreatDoor.Ev
open Go
def Gives (ρ : Nat → Nm) (s : St) (w : World) (v : Value) (s' : St) (e : Ending) (w' : World) : Prop := match e with
  | .returned u => ∃ ρ', SStep ρ s w ρ' s' w' ∧ VR ρ' s'.nx v u
  | _ => False
structure ClOk (P : Program) (cl : Cl) : Prop where
  calls : ∀ g vs s v s', cl false g vs s = .ok v s' → ∀ (ρ : Nat → Nm) (w : World) (us : Array Value), SR ρ s w → AR ρ s.nx vs.toArray us → Calls P g us w (Gives ρ s w v s')
  yields : ∀ l vs s v s', cl true l vs s = .ok v s' → ∀ (ρ : Nat → Nm) (w : World) (us : Array Value), SR ρ s w → AR ρ s.nx vs.toArray us → ∃ g tmps asg bd, (Instr.yield (ρ l).b us).run P w = .ok (.round (ρ l).b g tmps asg bd) w ∧ RoundIn Fence.wide 0 P (ρ l).b g tmps asg bd w (Gives ρ s w v s')
theorem callYield_ok {P : Program} {o : Oper} {f : T Value} {s : St} {c : Call} {x : Operand} {l : Nat} {a0 b0 : Array Value} {vs : List Value} (ho : o.op = .call c) (hc : c.callee = .value x) (hx : evO f x = some (.func (.yield l) a0 b0)) (ha : evAll f c.args.toList = some vs) (ρ : Nat → Nm) (w : World) (a : Act) (hf : FR ρ s.nx f a) :
    ∃ us, (execOp a.eval o).run P w = (Instr.yield (ρ l).b us).run P w ∧ AR ρ s.nx vs.toArray us := by
  have hq := evO_sound hf hx
  have har := evAll_ar hf ha
  obtain ⟨u, hu⟩ : ∃ u, a.eval x = u := ⟨_, rfl⟩
  rw [hu] at hq
  cases hq with
  | func _ _ _ _ _ hy => cases hy
  | yieldF =>
    refine ⟨c.args.map a.eval, ?_, har⟩
    rw [call_run a.eval ho]
    have hres : resolve a.eval c o.type = pure { target := .fn (.yield (ρ l).b) #[], args := #[] ++ c.args.map a.eval } := by
      unfold resolve
      rw [hc]
      simp only [hu]
      rfl
    rw [hres, Array.empty_append]
    rfl
theorem srcA_len {s : St} {size l : Nat} {x : Value} {vs : List Value} (h : srcA s size x = some (l, vs)) : vs.length = l * size := by
  unfold srcA at h
  split at h
  · simp only [Option.some.injEq, Prod.mk.injEq] at h
    obtain ⟨rfl, rfl⟩ := h
    simp
  · simp only [Option.some.injEq, Prod.mk.injEq] at h
    obtain ⟨rfl, rfl⟩ := h
    simp
  · split at h
    · split at h
      · split at h
        · rename_i hv
          simp only [Option.some.injEq, Prod.mk.injEq] at h
          obtain ⟨rfl, rfl⟩ := h
          exact (readF_get _ _ _ _ hv).1
        · cases h
      · cases h
    · cases h
  · split at h
    · rename_i hs
      simp only [Option.some.injEq, Prod.mk.injEq] at h
      obtain ⟨rfl, rfl⟩ := h
      have := Nat.eq_of_beq_eq_true hs
      subst this
      simp
    · cases h
  · cases h
section
variable {P : Program} {o : Oper} {f : T Value} {s s' : St} {v : Value} {k : K}
theorem makeSlice_ok {t e : TypeId} {x y : Operand} {i j : IntKind} {l c : Nat} {ie : TypeInfo} {z : Value} (ho : o.op = .makeSlice t x y) (hu : P.underlying t = some (.slice e)) (hie : P.info? e = some ie) (hz : ie.zero = some z) (hx : evO f x = some (.int i (.ofNat l))) (hy : evO f y = some (.int j (.ofNat c)))
    (h1 : l ≤ c) (h2 : ie.bytes * c ≤ 1048576) (h3 : c ≤ 1048576) (hfl : (rowOf z (c * ie.size)).toList.all flat = true) (h0 : c * ie.size ≠ 0) :
    ValOk P o f s (.slice (some ⟨s.nx, 0, none⟩) l c) (s.new (.cells (ofL (rowOf z (c * ie.size)).toList) (rowOf z (c * ie.size)).size e ie.size 0)) := by
  refine valOk_of (sem := fun ev => Instr.makeSlice t (ev x) (ev y)) (fun ev => by unfold execOp; rw [ho]) (fun ρ w a hr hf => ?_)
  have hp := evO_sound hf hx
  have hq := evO_sound hf hy
  obtain ⟨u, hu2⟩ : ∃ u, a.eval x = u := ⟨_, rfl⟩
  obtain ⟨g, hg2⟩ : ∃ u, a.eval y = u := ⟨_, rfl⟩
  rw [hu2] at hp
  rw [hg2] at hq
  cases hp
  cases hq
  have har : AR ρ s.nx (rowOf z (c * ie.size)) (rowOf z (c * ie.size)) := ⟨rfl, fun i x y hx hy => by
    obtain rfl := Option.some.inj (hx.symm.trans hy)
    exact flat_vr (List.all_eq_true.1 hfl x (Array.mem_toList_iff.2 (Array.mem_of_getElem? hx)))⟩
  have hsl := sl_at (ρ := ρ) (nx := s.nx) (l := l) (c := c) (b := w.heap.size) (s := 0) (e := 0)
  refine ⟨_, _, .slice (some ⟨w.heap.size, 0, none⟩) l c, ?_, (newRow_sim hr har e ie.size).less get_updH, hsl⟩
  have wl : IntKind.i64.wrap (l : Int) = (l : Int) := IntWalk.i64_in _ ⟨by omega, by omega⟩
  have wc : IntKind.i64.wrap (c : Int) = (c : Int) := IntWalk.i64_in _ ⟨by omega, by omega⟩
  have hb : ¬ ((ie.bytes : Int) * (c : Int) > 2 ^ 48) := by
    rw [← Int.natCast_mul]
    omega
  have hc0 : ¬ ((c : Int) < 0) := by omega
  have hl0 : ¬ ((l : Int) < 0) := by omega
  have hlc : ¬ ((l : Int) > (c : Int)) := by omega
  have ai : ∀ (i : IntKind) (n : Int) (w : World), (asInt (.int i n)).run P w = .ok n w := fun _ _ _ => rfl
  simp only [hu2, hg2, Instr.makeSlice, Int.ofNat_eq_natCast, Sem.run_bind, run_und hu, Result.andThen_ok, ai, run_inf hie, wl, wc, decide_eq_false hc0, decide_eq_false hb, decide_eq_false hl0, decide_eq_false hlc, Bool.or_self, Bool.false_eq_true, if_false, askRoom_run, run_siz hie, Int.toNat_natCast, if_neg h0, run_zero hie hz, Sem.run_pure]
  rfl
end
end Go.Proofs.YtnjabndkaabogaaGreatDoor.Ev
namespace Go.Proofs.YtnjabndkaabogaaGreatDoor.Ev
open Go
theorem setB_modify (v : Value) : ∀ (l : List MapEntry) (i : Nat), setB v l i = l.modify i fun e => { e with val := v }
  | [], i => by cases i <;> rfl
  | e :: l, 0 => rfl
  | e :: l, i + 1 => by
    show e :: setB v l i = _
    rw [setB_modify v l i]
    rfl
theorem MR.setB {ρ : Nat → Nm} {nx : Nat} {l m : List MapEntry} (h : MR ρ nx l m) {v u : Value} (hv : VR ρ nx v u) : ∀ i, MR ρ nx (setB v l i) (setB u m i) := by
  induction h with
  | nil => exact fun i => .nil
  | cons k x y b l m hk hx hr ih =>
    intro i
    cases i with
    | zero => exact .cons k v u b l m hk hv hr
    | succ i => exact .cons k x y b _ _ hk hx (ih i)
theorem findBorn_run {ρ : Nat → Nm} {nx b : Nat} : ∀ {l m : List MapEntry} (i j : Nat), MR ρ nx l m → findBorn b l i = some j → ∃ q, j = i + q ∧ m.findIdx? (fun e => (e.born : Int) == (b : Int)) = some q := by
  intro l m i j h
  induction h generalizing i with
  | nil => intro h; cases h
  | cons k x y c l m hk hx hr ih =>
    intro h
    unfold findBorn at h
    split at h
    · rename_i he
      refine ⟨0, (Option.some.inj h).symm, ?_⟩
      have : c = b := Nat.eq_of_beq_eq_true he
      subst this
      simp [List.findIdx?_cons]
    · rename_i he
      obtain ⟨q, h1, h2⟩ := ih (i + 1) h
      refine ⟨q + 1, by omega, ?_⟩
      have hne : ((c : Int) == (b : Int)) = false := by
        have : c ≠ b := fun e => by
          rw [e, show Nat.beq b b = true from Nat.beq_refl b] at he
          cases he
        exact decide_eq_false (fun e => this (Int.ofNat.inj e))
      rw [List.findIdx?_cons, hne, h2]
      rfl
theorem band_eq {a b : Bool} (h : band a b = true) : a = true ∧ b = true := by
  cases a
  · cases h
  · exact ⟨rfl, h⟩
theorem intEq_eq {a b : Int} (h : intEq a b = true) : a = b := by
  unfold intEq at h
  split at h
  · rw [Nat.eq_of_beq_eq_true h]
  · rw [Nat.eq_of_beq_eq_true h]
  · cases h
theorem boolEq_eq {a b : Bool} (h : boolEq a b = true) : a = b := by cases a <;> cases b <;> first | rfl | cases h
theorem optEq_eq {a b : Option Nat} (h : optEq a b = true) : a = b := by
  cases a <;> cases b
  · rfl
  · cases h
  · cases h
  · exact congrArg some (Nat.eq_of_beq_eq_true h)
theorem addrEq_eq {a b : Option Addr} (h : addrEq a b = true) : a = b := by
  cases a <;> cases b
  · rfl
  · cases h
  · cases h
  · rename_i a b
    obtain ⟨h1, h2⟩ := band_eq h
    obtain ⟨h2, h3⟩ := band_eq h2
    obtain ⟨x, y, z⟩ := a
    obtain ⟨x', y', z'⟩ := b
    have e1 : x = x' := Nat.eq_of_beq_eq_true h1
    have e2 : y = y' := Nat.eq_of_beq_eq_true h2
    have e3 : z = z' := optEq_eq h3
    rw [e1, e2, e3]
theorem listEq_eq {α : Type} {e : α → α → Bool} (he : ∀ x y, e x y = true → x = y) : ∀ (a b : List α), listEq e a b = true → a = b
  | [], b, h => (List.isEmpty_iff.1 h).symm
  | x :: a, [], h => by cases h
  | x :: a, y :: b, h => by
    obtain ⟨h1, h2⟩ := band_eq (show band (e x y) (listEq e a b) = true from h)
    rw [he x y h1, listEq_eq he a b h2]
theorem arrEq {a b : Array Value} {n : Nat} (ih : ∀ x y, veqN n x y = true → x = y) (h : listEq (veqN n) a.toList b.toList = true) : a = b := Array.ext' (listEq_eq ih _ _ h)
theorem veqN_eq : ∀ (n : Nat) (x y : Value), veqN n x y = true → x = y
  | 0, _, _, h => by cases h
  | n + 1, x, y, h => by
    have ih := veqN_eq n
    change veqS (veqN n) x y = true at h
    unfold veqS at h
    split at h
    · rw [boolEq_eq h]
    · obtain ⟨h1, h2⟩ := band_eq h
      rw [sameKind_eq h1, intEq_eq h2]
    · rename_i a b
      have h1 := listEq_eq (fun x y h => UInt8.toNat_inj.1 (Nat.eq_of_beq_eq_true h)) _ _ h
      obtain ⟨a⟩ := a
      obtain ⟨b⟩ := b
      rw [show a = b from Array.ext' h1]
    · rw [addrEq_eq h]
    · obtain ⟨h1, h2⟩ := band_eq h
      obtain ⟨h2, h3⟩ := band_eq h2
      rw [addrEq_eq h1, Nat.eq_of_beq_eq_true h2, Nat.eq_of_beq_eq_true h3]
    · rw [optEq_eq h]
    · obtain ⟨h1, h2⟩ := band_eq h
      obtain ⟨h2, h3⟩ := band_eq h2
      rw [Nat.eq_of_beq_eq_true h1, arrEq ih h2, arrEq ih h3]
    · rfl
    · rfl
    · obtain ⟨h1, h2⟩ := band_eq h
      rw [Nat.eq_of_beq_eq_true h1, ih _ _ h2]
    · rw [arrEq ih h]
    · rw [arrEq ih h]
    · cases h
theorem veq_eq {x y : Value} (h : veq x y = true) : x = y := veqN_eq 8 x y h
section
variable {P : Program} {o : Oper} {f : T Value} {s s' : St} {v : Value} {k : K}
theorem mapEntryNew_ok {t : TypeId} {m ky : Operand} {kt et : TypeId} {kd : TypeDesc} {n clock : Nat} {es : List MapEntry} {kv z : Value} {ie : TypeInfo} (ho : o.op = .mapEntry t m ky) (T : MapT P f s t m ky kt et kd n clock es kv none) (hi : P.info? et = some ie) (hz : ie.zero = some z) (hfz : flat z = true) (hck : runPure P (Instr.checkKey false 10000 kt kv) = some ()) :
    ValOk P o f s (.tuple #[z, .int .i64 clock]) ⟨s.h.set (.map (es ++ [⟨kv, z, clock⟩]) (clock + 1)) n, s.nx⟩ := by
  refine valOk_of (sem := fun ev => Instr.mapEntry t (ev m) (ev ky)) (fun ev => by unfold execOp; rw [ho]) (fun ρ w a hr hf => ?_)
  obtain ⟨hm, hk, es', r', h1, h2, h3, h4, h5⟩ := T.sim hr hf
  obtain rfl := h5
  obtain ⟨w', hw, st⟩ := hr.setMap (us := es'.push ⟨kv, z, clock⟩) (c' := clock + 1) (es' := es ++ [⟨kv, z, clock⟩]) T.here (by rw [Array.toList_push]; exact h2.push clock T.flat (flat_vr hfz)) P
  refine ⟨ρ, w', .tuple #[z, .int .i64 clock], ?_, st.less get_updH, pair_vr (flat_vr hfz) (.int _ _)⟩
  simp only [hm, hk, Instr.mapEntry, Sem.run_bind, run_und T.und, Result.andThen_ok, run_getObj P _ h1 (fun _ _ _ h => by cases h), runPure_run _ _ hck w, h4 w, run_zero hi hz, hw, Sem.run_pure]
  rfl
theorem mapEntryOld_ok {t : TypeId} {m ky : Operand} {kt et : TypeId} {kd : TypeDesc} {n clock i : Nat} {es : List MapEntry} {kv v0 : Value} {e0 : MapEntry} (ho : o.op = .mapEntry t m ky) (T : MapT P f s t m ky kt et kd n clock es kv (some (i, v0))) (hck : runPure P (Instr.checkKey false 10000 kt kv) = some ()) (hi : es[i]? = some e0) (hb : Instr.sameBits 10000 e0.key kv = true) (hv0 : e0.val = v0) :
    ValOk P o f s (.tuple #[v0, .int .i64 e0.born]) ⟨s.h.set (.map (setE kv v0 es i) clock) n, s.nx⟩ := by
  refine valOk_of (sem := fun ev => Instr.mapEntry t (ev m) (ev ky)) (fun ev => by unfold execOp; rw [ho]) (fun ρ w a hr hf => ?_)
  obtain ⟨hm, hk, es', r', h1, h2, h3, h4, h5⟩ := T.sim hr hf
  obtain ⟨u, rfl, hvu⟩ := h5
  obtain ⟨e', he, hke, hbo, hve⟩ := h2.at i e0 hi
  have hu : e'.val = u := by rw [hv0] at hve; exact hve.det hvu
  have he2 : es'[i]? = some e' := by simpa using he
  have hmod : es'.modify i (fun e => { e with key := kv }) = es'.modify i fun e => { e with key := kv, val := u } := by
    apply Array.ext'
    rw [Array.toList_modify, Array.toList_modify]
    apply List.ext_getElem?
    intro j
    rw [List.getElem?_modify, List.getElem?_modify]
    by_cases hj : i = j
    · subst hj
      rw [he]
      simp [← hu]
    · simp [hj]
  obtain ⟨w', hw, st⟩ := hr.setMap (us := es'.modify i fun e => { e with key := kv, val := u }) (c' := clock) (es' := setE kv v0 es i) T.here (by rw [Array.toList_modify, ← setE_modify]; exact h2.setE T.flat hvu i) P
  refine ⟨ρ, w', .tuple #[u, .int .i64 e0.born], ?_, st.less get_updH, pair_vr hvu (.int _ _)⟩
  have hstay : (Instr.keyThatStays (((es'[i]?).map (·.key)).getD kv) kv).run P w = .ok kv w := by
    rw [he2]
    show (Instr.keyThatStays e'.key kv).run P w = _
    rw [hke]
    unfold Instr.keyThatStays
    rw [if_pos hb]
    rfl
  have hborn : ((es'[i]?).map (fun x => (x.born : Int))).getD 0 = (e0.born : Int) := by rw [he2]; exact congrArg (fun n : Nat => (n : Int)) hbo
  simp only [hm, hk, Instr.mapEntry, Sem.run_bind, run_und T.und, Result.andThen_ok, run_getObj P _ h1 (fun _ _ _ h => by cases h), runPure_run _ _ hck w, h4 w, hstay, hmod, hw, Sem.run_pure, hborn]
  rfl
theorem entryStore_ok {t : TypeId} {m st x : Operand} {n clock b i : Nat} {kk : IntKind} {es : List MapEntry} (ho : o.op = .entryStore t m st x) (hm : evO f m = some (.map (some n))) (hs : evO f st = some (.int kk (.ofNat b))) (hx : evO f x = some v) (hn : s.h.get n = some (.map es clock)) (hi : findBorn b es 0 = some i) :
    SkipOk P o f s ⟨s.h.set (.map (setB v es i) clock) n, s.nx⟩ := by
  refine skipOk_of (sem := fun ev => Instr.entryStore t (ev m) (ev st) (ev x)) (fun ev => by unfold execOp; rw [ho]) (fun ρ w a hr hf => ?_)
  have hp := evO_sound hf hm
  have hq := evO_sound hf hs
  have hv := evO_sound hf hx
  obtain ⟨u, hu2⟩ : ∃ u, a.eval m = u := ⟨_, rfl⟩
  obtain ⟨g, hg2⟩ : ∃ u, a.eval st = u := ⟨_, rfl⟩
  rw [hu2] at hp
  rw [hg2] at hq
  cases hp
  cases hq
  obtain ⟨_, es', h1, h2⟩ := hr.obj n _ hn
  obtain ⟨q, rfl, h3⟩ := findBorn_run 0 i h2 hi
  rw [Nat.zero_add] at *
  obtain ⟨w', hw, stp⟩ := hr.setMap (us := es'.modify q fun e => { e with val := a.eval x }) (c' := clock) (es' := setB v es q) hn (by rw [Array.toList_modify, ← setB_modify]; exact h2.setB hv q) P
  refine ⟨ρ, w', ?_, stp.less get_updH⟩
  have h3' : es'.findIdx? (fun e => (e.born : Int) == (b : Int)) = some q := by cases es'; simpa using h3
  have ai : ∀ (i : IntKind) (n : Int) (w : World), (asInt (.int i n)).run P w = .ok n w := fun _ _ _ => rfl
  simp only [hu2, hg2, Instr.entryStore, Sem.run_bind, Result.andThen_ok, run_getObj P _ h1 (fun _ _ _ h => by cases h), ai, Int.ofNat_eq_natCast, h3', hw]
end
end Go.Proofs.YtnjabndkaabogaaGreatDoor.Ev
namespace Go.Proofs.YtnjabndkaabogaaGreatDoor.Ev
open Go
section
variable {P : Program} {cl : Cl} {o : Oper} {f : T Value} {s s' : St} {v : Value} {k : K}
theorem xAlloc_v {t : TypeId} (ho : o.op = .alloc t) : W (VI P o f s k) (xAlloc P t s k) := onO_w fun _ hi => onO_w fun _ hz => onB_w fun hf => newS_w (v_end (alloc_ok ho hi hz hf))
theorem xBox_v {t : TypeId} {x : Operand} (ho : o.op = .box t x) : W (VI P o f s k) (xBox t x f s k) := onO_w fun _ hv => newS_w (v_end (box_ok ho (ev_eq hv)))
theorem xStore_v {t : TypeId} {x y : Operand} (ho : o.op = .store t x y) : W (VI P o f s k) (xStore P t x y f s k) :=
  onO_w fun p hp => onPtr_w fun n q hq => onCells_w fun tr m e sz fz hn => onO_w fun v hv => onO_w fun i hi => beq_w fun hsz => onB_w fun h1 => ble_w fun hz => ble_w fun hk => setS_w (by
    subst hq
    rw [allOne_eq] at h1
    exact s_end (store_ok ho hi (ev_eq hp) (ev_eq hv) hsz h1 hn hz hk))
theorem xBuildSlice_v {t : TypeId} {n : Nat} {ps : Array (Nat × Operand)} (ho : o.op = .buildSlice t n ps) : W (VI P o f s k) (xBuildSlice P t n ps f s k) := onO_w fun e he => onO_w fun ie hie => by
  refine bool_w (fun _ => ?_) (fun hn => ?_)
  · refine onO_w fun z hz => ble_w fun h1 => onB_w fun hfl => ne_w fun h0 => onO_w fun vs hvs => onO_w fun cells hc => newS_w (v_end ?_)
    exact buildSlice_ok ho (sliceOf_eq he) hie hz h1 h0 (evp_eq hvs) hc (fun i x hx => List.all_eq_true.1 hfl x (Array.mem_toList_iff.2 (Array.mem_of_getElem? hx)))
  · obtain rfl := Nat.eq_of_beq_eq_true hn
    exact onB_w fun hp => newS_w (v_end (buildSlice0_ok ho (sliceOf_eq he) hie (List.isEmpty_iff.1 hp)))
theorem xMakeMap_v {t : TypeId} {r : Option Operand} (ho : o.op = .makeMap t r) : W (VI P o f s k) (xMakeMap r s k) := by
  cases r with
  | none =>
    show W _ (newS s (.map [] 0) fun n s => k (.map (some n)) s)
    exact newS_w (v_end (makeMap_ok ho))
  | some r => exact W.fail 70
theorem xMakeSlice_v {t : TypeId} {x y : Operand} (ho : o.op = .makeSlice t x y) : W (VI P o f s k) (xMakeSlice P t x y f s k) :=
  onO_w fun e he => onO_w fun ie hie => onO_w fun z hz => onO_w fun v hv => onO_w fun u hu => onInt_w fun i a ha => onInt_w fun j b hb => onNat_w fun l hl => onNat_w fun c hc => forceN_w (forceN_w (ble_w fun h1 => ble_w fun h2 => ble_w fun h3 => onB_w fun hfl => ne_w fun h0 => newS_w (by
    subst ha hb hl hc
    exact v_end (makeSlice_ok ho (sliceOf_eq he) hie hz (ev_eq hv) (ev_eq hu) h1 h2 h3 hfl h0))))
theorem xUpdate_v {t : TypeId} {m ky x : Operand} (ho : o.op = .mapUpdate t m ky x ∨ o.op = .insert t m ky x) : W (VI P o f s k) (xUpdate P t m ky x f s k) :=
  onO_w fun ke hke => onO_w fun kd hkd => onO_w fun mv hmv => onO_w fun kv hkv => onB_w fun hfl => onO_w fun v hv => onMap_w fun n hm => onO_w fun n hn => onEnts_w fun es clock hh => onO_w fun _ hck => onO_w fun r hfk => by
    subst hm hn
    refine opt_w (fun hr => ?_) (fun r hr => ?_)
    · subst hr
      exact setS_w (s_end (updateNew_ok ho ⟨mapOf_eq hke, hkd, ev_eq hmv, hh, ev_eq hkv, hfl, hfk⟩ hck (ev_eq hv)))
    · subst hr
      exact onO_w fun e0 he0 => onB_w fun hb => setS_w (s_end (updateOld_ok ho ⟨mapOf_eq hke, hkd, ev_eq hmv, hh, ev_eq hkv, hfl, hfk⟩ hck (ev_eq hv) he0 hb))
theorem xMapEntry_v {t : TypeId} {m ky : Operand} (ho : o.op = .mapEntry t m ky) : W (VI P o f s k) (xMapEntry P t m ky f s k) :=
  onO_w fun ke hke => onO_w fun kd hkd => onO_w fun ie hie => onO_w fun z hz => onB_w fun hfz => onO_w fun mv hmv => onO_w fun kv hkv => onB_w fun hfl => onMap_w fun n hm => onO_w fun n hn => onEnts_w fun es clock hh => onO_w fun _ hck => onO_w fun r hfk => by
    subst hm hn
    refine opt_w (fun hr => ?_) (fun r hr => ?_)
    · subst hr
      exact setS_w (v_end (mapEntryNew_ok ho ⟨mapOf_eq hke, hkd, ev_eq hmv, hh, ev_eq hkv, hfl, hfk⟩ hie hz hfz hck))
    · subst hr
      exact onO_w fun e0 he0 => onB_w fun hb => onB_w fun hq => setS_w (v_end (mapEntryOld_ok ho ⟨mapOf_eq hke, hkd, ev_eq hmv, hh, ev_eq hkv, hfl, hfk⟩ hck he0 hb (veq_eq hq)))
theorem xEntryStore_v {t : TypeId} {m st x : Operand} (ho : o.op = .entryStore t m st x) : W (VI P o f s k) (xEntryStore m st x f s k) :=
  onO_w fun mv hmv => onO_w fun bv hbv => onO_w fun v hv => onMap_w fun n hm => onO_w fun n hn => onInt_w fun i z hz => onNat_w fun b hb => onEnts_w fun es clock hh => onO_w fun q hq => by
    subst hm hn hz hb
    exact setS_w (s_end (entryStore_ok ho (ev_eq hmv) (ev_eq hbv) (ev_eq hv) hh hq))
theorem xRange_v {t : TypeId} {x : Operand} (ho : o.op = .range t x) : W (VI P o f s k) (xRange P t x f s k) := onO_w fun v hv => onO_w fun d hd => by
  split
  · exact newS_w (v_end (rangeStr_ok ho hd (ev_eq hv)))
  · exact onEnts_w fun es clock hn => newS_w (v_end (rangeMap_ok ho hd (ev_eq hv) hn))
  · exact W.fail 86
theorem xNext_v {it : Operand} {str : Bool} (ho : o.op = .next it str) : W (VI P o f s k) (xNext it str f s k) := onO_w fun v hv => onPtr_w fun n q hq => beq_w fun h0 => onO_w fun a ha => by
  subst hq h0
  split
  · rename_i b pos
    have h := nextStr_ok (P := P) ho (ev_eq hv) ha
    rcases hnp : nextS b pos with ⟨u, p⟩
    rw [hnp] at h
    exact forceN_w (setS_w (v_end h))
  · refine onEnts_w fun es clock hh => ?_
    split
    · exact (q_end (nextOver_ok ho (ev_eq hv) ha hh)).qv
    · exact ble_w fun hb => setS_w (v_end (nextOne_ok ho (ev_eq hv) ha hh hb))
    · refine beq_w fun hb => ble_w fun hb2 => ?_
      subst hb
      exact (q_end (nextDone_ok ho (ev_eq hv) ha hh hb2)).qv
    · exact W.fail 91
  · exact W.fail 92
theorem arr1 {α : Type} {a : Array α} {x : α} (h : a.toList = [x]) : a = #[x] := Array.ext' h
theorem arr2 {α : Type} {a : Array α} {x y : α} (h : a.toList = [x, y]) : a = #[x, y] := Array.ext' h
theorem arr_hd {α : Type} {a : Array α} {x : α} {l : List α} (h : a.toList = x :: l) : a[0]? = some x := by
  rw [← Array.getElem?_toList, h]
  rfl
theorem arr_nx {α : Type} {a : Array α} {x y : α} {l : List α} (h : a.toList = x :: y :: l) : a[1]? = some y := by
  rw [← Array.getElem?_toList, h]
  rfl
theorem xAppend_v {c : Call} {t0 t1 : TypeId} {x y : Operand} (ho : o.op = .call c) (hc : c.callee = .builtin .append) (ha : c.args = #[x, y]) (h0 : c.argTypes[0]? = some t0) (h1 : c.argTypes[1]? = some t1) : W (VI P o f s k) (xAppend P t0 t1 x y f s k) :=
  onO_w fun elem he => onO_w fun d1 hd1 => not_w fun hni => onO_w fun inf hi => onO_w fun z hz => beq_w fun hzs => ble_w fun hby => onO_w fun v hv => onO_w fun u hu => onO_w fun r hr => onSl_w fun b l cp hb => forceN_w (by
    obtain ⟨q, vs⟩ := r
    subst hb
    have A : AppT P o c x y elem inf z d1 t0 t1 := ⟨ho, hc, ha, h0, h1, sliceOf_eq he, hd1, hni, hi, hz, hzs, hby⟩
    have hlen := srcA_len hr
    have hx := ev_eq hv
    have hy := ev_eq hu
    refine bool_w (fun hq => ?_) (fun hq => ?_)
    · have hq : 0 < q := Nat.pos_of_ne_zero fun e => by
        subst e
        cases hq
      refine onB_w fun hall => ?_
      rw [allOne_eq] at hall
      refine opt_w (fun hb => ?_) (fun a hb => ?_)
      · subst hb
        refine beq_w fun h1 => beq_w fun h2 => ble_w fun h3 => newS_w ?_
        subst h1 h2
        exact v_end (appendNil_ok A hx hy hr hq h3)
      · subst hb
        obtain ⟨n, p, spot⟩ := a
        refine onCells_w fun t m e sz fz hn => opt_w (fun hs => ?_) (fun sp hs => ?_)
        · subst hs
          refine bool_w (fun _ => ?_) (fun hin => ?_)
          · refine beq_w fun h1 => beq_w fun h2 => ble_w fun h3 => ble_w fun h4 => ble_w fun h5 => beq_w fun h6 => ne_w fun h7 => onO_w fun nt hnt => forceN_w (newS_w ?_)
            subst h1 h2
            refine v_end (appendGrow_ok A h7 (.inl hx) hy hr hn hall h3 h4 h5 h6 (fun i w hi hg => growT_get hnt i w ?_ hg))
            rw [hlen]
            show i < l * inf.size + q * inf.size
            rw [← Nat.add_mul]
            exact hi
          · refine ble_w fun h1 => ble_w fun h2 => forceN_w (setS_w (v_end ?_))
            exact appendIn_ok A hx hy hr hn hall (Nat.le_of_ble_eq_true hin) h1 h2
        · subst hs
          refine bool_w (fun _ => W.fail 108) (fun h0 => ?_)
          obtain rfl := Nat.eq_of_beq_eq_true h0
          refine ble_w fun h1 => ble_w fun h2 => ble_w fun h3 => onO_w fun nt hnt => forceN_w (newS_w (v_end ?_))
          refine appendFx_ok A hx hy hr (.inl hn) h1 h2 h3 (fun i w hi hg => growT_get hnt i w ?_ hg)
          rw [hlen]
          show i < l * inf.size + q * inf.size
          rw [← Nat.add_mul]
          exact hi
    · refine onB_w fun hem => ble_w fun hl => ?_
      obtain rfl := Nat.eq_of_beq_eq_true hq
      obtain rfl : vs = [] := List.isEmpty_iff.1 hem
      exact (q_end (appendZero_ok A hx hy hr hl)).qv)
theorem xDelete_v {c : Call} {t : TypeId} {m ky : Operand} (ho : o.op = .call c) (hc : c.callee = .builtin .delete) (ha : c.args = #[m, ky]) (h0 : c.argTypes[0]? = some t) : W (VI P o f s k) (xDelete P t m ky f s k) :=
  onO_w fun ke hke => onO_w fun kd hkd => onO_w fun mv hmv => onO_w fun kv hkv => onB_w fun hfl => onMap_w fun n hm => onO_w fun n hn => onEnts_w fun es clock hh => onO_w fun _ hck => onO_w fun r hfk => setS_w (by
    subst hm hn
    exact v_end (delete_ok ho hc ha h0 ⟨mapOf_eq hke, hkd, ev_eq hmv, hh, ev_eq hkv, hfl, hfk⟩ hck))
theorem xClear_v {c : Call} {t : TypeId} {x : Operand} (ho : o.op = .call c) (hc : c.callee = .builtin .clear) (ha : c.args = #[x]) (h0 : c.argTypes[0]? = some t) : W (VI P o f s k) (xClear P t x f s k) :=
  onO_w fun e he => onO_w fun inf hi => onO_w fun z hz => onO_w fun v hv => onSl_w fun a l cp hb => by
    subst hb
    cases l with
    | zero => exact W.fail 119
    | succ l =>
      refine onPlace_w fun n q spot hs => onB_w fun hsp => onCells_w fun tr m e2 sz fz hn => onB_w fun h1 => onB_w fun h2 => ble_w fun h3 => ble_w fun h4 => setS_w ?_
      subst hs
      cases spot with
      | none => exact v_end (clear_ok ho hc ha h0 (sliceOf_eq he) hi hz (ev_eq hv) hn h1 h2 h3 h4)
      | some j => cases hsp
theorem mx_max (a b : Nat) : mx a b = max a b := by
  unfold mx
  rcases h : Nat.ble a b with _ | _
  · have : ¬ a ≤ b := fun hle => by rw [Nat.ble_eq_true_of_le hle] at h; cases h
    simp only
    omega
  · have := Nat.le_of_ble_eq_true h
    simp only
    omega
theorem ptrOf_eq {t e : TypeId} (h : ptrOf P t = some e) : P.underlying t = some (.pointer e) := by
  unfold ptrOf at h
  split at h
  · rename_i hu
    rw [hu, Option.some.inj h]
  · cases h
theorem xUStr_v {c : Call} {t : TypeId} {x y : Operand} (ho : o.op = .call c) (hc : c.callee = .builtin .unsafeString) (ha : c.args = #[x, y]) (ht : c.argTypes[0]? = some t) : W (VI P o f s k) (xUStr P t x y f s k) := onO_w fun el hel => onO_w fun v hv => onO_w fun u hu => by
  split
  · rename_i p l
    cases l with
    | zero => exact (q_end (unsafeStr0_ok ho hc ha ht (ev_eq hv) (ev_eq hu))).qv
    | succ l =>
      refine onPtr_w fun n q hp => onCells_w fun tr m e sz fz hn => beq_w fun h1 => beq_w fun h2 => ble_w fun h3 => ble_w fun h4 => onO_w fun vs hvs => onO_w fun bs hbs => forceN_w (canonB_w (setS_w ?_))
      rw [hp] at hv
      subst h1
      rw [mx_max]
      exact v_end (unsafeStr_ok ho hc ha ht (ptrOf_eq hel) h2 (ev_eq hv) (ev_eq hu) hn (Nat.succ_ne_zero l) h3 h4 hvs hbs)
  · exact W.fail 193
theorem xCopy_v {c : Call} {t : TypeId} {x y : Operand} (ho : o.op = .call c) (hc : c.callee = .builtin .copy) (ha : c.args = #[x, y]) (ht : c.argTypes[0]? = some t) : W (VI P o f s k) (xCopy P o t x y f s k) := onO_w fun elem he => onO_w fun inf hi => onO_w fun v hv => by
  split
  · refine onB_w fun hsp => onO_w fun u hu => onO_w fun r hr => ble_w fun h1 => onB_w fun h2 => onCells_w fun tr m e sz fz hn => ble_w fun h3 => ble_w fun h4 => forceN_w (setS_w (v_end ?_))
    rw [allOne_eq] at h2
    obtain ⟨q, vs⟩ := r
    exact copy_ok ho hc ha ht (sliceOf_eq he) hi (ev_eq hv) (spot_w hsp) (ev_eq hu) hr h1 hn h2 h3 h4
  · exact slowOp_q.qv
theorem arr0 {α : Type} {a : Array α} (h : a.toList = []) : a = #[] := Array.ext' h
theorem xExtF_v {c : Call} {x : Operand} {g : FuncId} (ho : o.op = .call c) (hc : c.callee = .value x) (hx : evO f x = some (.func (.func g) #[] #[])) : W (VI P o f s k) (xExtF P c g f s k) := onO_w fun _ hvs => onO_w fun _ hg => canonV_w (q_end (extFlat_ok ho hc hx (evs_eq hvs) hg)).qv
theorem xExt_v {c : Call} {x : Operand} {g : FuncId} {fs cs : Array Value} (ho : o.op = .call c) (hc : c.callee = .value x) (hx : evO f x = some (.func (.func g) fs cs)) : W (VI P o f s k) (xExt P c g fs cs f s k) := by
  unfold xExt
  split
  · rename_i h1 h2
    rw [arr0 h1, arr0 h2] at hx
    split
    · rename_i y h3
      split
      · rename_i fn hg
        exact onO_w fun v hv => (q_end (noEscape_ok ho hc (arr1 h3) hx hg (ev_eq hv))).qv
      · split
        · rename_i fn hg
          split
          · rename_i t ht
            refine onO_w fun elem he => onO_w fun v hv => ?_
            split
            · exact ble_w fun hl => forceN_w (newS_w (v_end (makeNZ_ok ho hc (arr1 h3) hx hg (arr1 ht) (sliceOf_eq he) hl (ev_eq hv))))
            · exact W.fail 188
          · exact W.fail 188
        · exact xExtF_v ho hc hx
    · exact xExtF_v ho hc hx
  · exact W.fail 187
theorem enter_v {g : FuncId} {vs : List Value} (hcl : ClOk P cl) (h : enterOk P g = true → CallOk P o f s g vs.toArray) : W (VI P o f s k) (enter P cl g vs s k) := onB_w fun hg => by
  intro hok
  unfold onCR at hok ⊢
  rcases hc : cl false g vs s with n | ⟨v, s'⟩
  · rw [hc] at hok
    exact hok.elim
  · refine ⟨v, s', rfl, fun ρ w a hr hf => ?_⟩
    obtain ⟨us, h1, h2⟩ := h hg ρ w a hr hf
    unfold Does
    rw [h1]
    refine Calls.mono (hcl.calls g vs s v s' hc ρ w us hr h2) fun e w' he => ?_
    cases e with
    | returned u => exact he
    | panicked ch => exact he
    | outgrown => exact he
theorem yield_v {l : Nat} {vs : List Value} (hcl : ClOk P cl) (h : ∀ (ρ : Nat → Nm) (w : World) (a : Act), FR ρ s.nx f a → ∃ us, (execOp a.eval o).run P w = (Instr.yield (ρ l).b us).run P w ∧ AR ρ s.nx vs.toArray us) : W (VI P o f s k) (onCR (cl true l vs s) k) := by
  intro hok
  unfold onCR at hok ⊢
  rcases hc : cl true l vs s with n | ⟨v, s'⟩
  · rw [hc] at hok
    exact hok.elim
  · refine ⟨v, s', rfl, fun ρ w a hr hf => ?_⟩
    obtain ⟨us, h1, h2⟩ := h ρ w a hf
    obtain ⟨g, tmps, asg, bd, h3, h4⟩ := hcl.yields l vs s v s' hc ρ w us hr h2
    unfold Does
    rw [h1, h3]
    refine RoundIn.mono h4 fun e w' he => ?_
    cases e with
    | returned u => exact he
    | panicked ch => exact he
    | outgrown => exact he
theorem xCall_v (hcl : ClOk P cl) {c : Call} (ho : o.op = .call c) : W (VI P o f s k) (xCall P cl o c f s k) := by
  unfold xCall
  rcases hc : c.callee with x | ⟨x, m⟩ | b
  · refine onO_w fun v hv => onFun_w (fun g fs cs hg => bool_w (fun _ => by subst hg; exact xExt_v ho hc (ev_eq hv)) fun _ => onO_w fun vs hvs => ?_) (fun l a0 b0 hl => onO_w fun vs hvs => ?_)
    · subst hg
      refine enter_v hcl fun hen => ?_
      rw [app_eq, app_eq]
      have := callFn_ok ho hc (ev_eq hv) (evs_eq hvs) hen (s := s)
      have e : (fs.toList ++ (vs ++ cs.toList)).toArray = fs ++ vs.toArray ++ cs := by
        apply Array.ext'
        simp
      rw [e]
      exact this
    · subst hl
      exact yield_v hcl (fun ρ w a hf => callYield_ok ho hc (ev_eq hv) (evs_eq hvs) ρ w a hf)
  · refine onO_w fun v hv => onIface_w fun t u hu => onO_w fun g hg => onO_w fun vs hvs => ?_
    subst hu
    refine enter_v hcl fun hen => ?_
    have := invoke_ok ho hc (ev_eq hv) (evs_eq hvs) hg hen (s := s)
    have e : (u :: vs).toArray = #[u] ++ vs.toArray := by
      apply Array.ext'
      simp
    rw [e]
    exact this
  · simp only
    split
    · rename_i h1 h2
      exact (xLen_q ho hc (arr1 h1) (arr_hd h2)).qv
    · rename_i h1 h2
      exact xAppend_v ho hc (arr2 h1) (arr_hd h2) (arr_nx h2)
    · rename_i h1 h2
      exact xDelete_v ho hc (arr2 h1) (arr_hd h2)
    · rename_i h1 h2
      exact xClear_v ho hc (arr1 h1) (arr_hd h2)
    · exact slowOp_q.qv
    · exact slowOp_q.qv
    · rename_i h1
      exact (xSliceData_q ho hc (arr1 h1)).qv
    · rename_i h1 h2
      exact xUStr_v ho hc (arr2 h1) (arr_hd h2)
    · rename_i h1 h2
      exact xCopy_v ho hc (arr2 h1) (arr_hd h2)
    · exact slowOp_q.qv
    · exact W.fail 126
theorem xOp_v (hcl : ClOk P cl) : W (VI P o f s k) (xOp P cl o f s k) := by
  unfold xOp xOpF xOpT
  cases ho : o.op with
  | move x => exact (xMove_q (.inl ho)).qv
  | assign x => exact (xMove_q (.inr ho)).qv
  | pick c x y => exact (xPick_q ho).qv
  | alloc t => exact xAlloc_v ho
  | box t x => exact xBox_v ho
  | build t ps => exact (xBuild_q ho).qv
  | buildSlice t n ps => exact xBuildSlice_v ho
  | insert t m ky x => exact xUpdate_v (.inr ho)
  | load t x => exact (xLoad_q ho).qv
  | store t x y => exact xStore_v ho
  | ready _ => exact W.fail 130
  | waits _ => exact W.fail 131
  | nilCheck x => exact (xNil_q ho).qv
  | binOp op t x y q => exact (xBin_q ho).qv
  | unOp op t x => exact (xUn_q ho).qv
  | convert a b x => exact (xConv_q ho).qv
  | sliceToArrayPointer _ _ => exact W.fail 132
  | makeInterface t x => exact (xIface_q ho).qv
  | makeFunc g xs ys => exact (xFunc_q ho).qv
  | makeMap t r => exact xMakeMap_v ho
  | makeChan _ _ => exact W.fail 133
  | makeSlice t x y => exact xMakeSlice_v ho
  | slice t x lo hi mx => exact (xSlice_q ho).qv
  | fieldAddr t x i => exact (xField_q ho).qv
  | field t x i => exact (xFieldV_q ho).qv
  | indexAddr t x y => exact (xIndexAddr_q ho).qv
  | index t x y => exact (xIndexV_q ho).qv
  | lookup t x ix ok => exact (xLookup_q ho).qv
  | mapUpdate t m ky x => exact xUpdate_v (.inl ho)
  | mapEntry t m ky => exact xMapEntry_v ho
  | entryStore t m st x => exact xEntryStore_v ho
  | range t x => exact xRange_v ho
  | next it str => exact xNext_v ho
  | entry it => exact (xEntry_q ho).qv
  | typeAssert x xt t ok => exact (xAssert_q ho).qv
  | extract x i => exact (xExtract_q ho).qv
  | call c => exact xCall_v hcl ho
  | go _ => exact W.fail 138
  | defer _ => exact W.fail 139
  | panic _ => exact W.fail 140
  | send _ _ => exact W.fail 141
  | recv _ _ _ => exact W.fail 142
  | select _ _ => exact W.fail 143
theorem xOp_q (hq : quiet o = true) : W (QI P o f s k) (xOp P cl o f s k) := by
  unfold xOp xOpF xOpT
  unfold quiet at hq
  cases ho : o.op with
  | move x => exact xMove_q (.inl ho)
  | pick c x y => exact xPick_q ho
  | build t ps => exact xBuild_q ho
  | load t x => exact xLoad_q ho
  | nilCheck x => exact xNil_q ho
  | binOp op t x y q => exact xBin_q ho
  | unOp op t x => exact xUn_q ho
  | convert a b x => exact xConv_q ho
  | makeInterface t x => exact xIface_q ho
  | makeFunc g xs ys => exact xFunc_q ho
  | slice t x lo hi mx => exact xSlice_q ho
  | fieldAddr t x i => exact xField_q ho
  | field t x i => exact xFieldV_q ho
  | indexAddr t x y => exact xIndexAddr_q ho
  | index t x y => exact xIndexV_q ho
  | lookup t x ix ok => exact xLookup_q ho
  | typeAssert x xt t ok => exact xAssert_q ho
  | extract x i => exact xExtract_q ho
  | call c =>
    rw [ho] at hq
    simp only at hq
    show W _ (xCall P cl o c f s k)
    unfold xCall
    rcases hc : c.callee with x | ⟨x, m⟩ | b
    · rw [hc] at hq
      cases hq
    · rw [hc] at hq
      cases hq
    · rw [hc] at hq
      simp only at hq ⊢
      split
      · rename_i h1 h2
        exact xLen_q ho hc (arr1 h1) (arr_hd h2)
      · cases hq
      · cases hq
      · cases hq
      · exact slowOp_q
      · exact slowOp_q
      · rename_i h1
        exact xSliceData_q ho hc (arr1 h1)
      · cases hq
      · cases hq
      · exact slowOp_q
      · exact W.fail 126
  | _ =>
    rw [ho] at hq
    cases hq
end
end Go.Proofs.YtnjabndkaabogaaGreatDoor.Ev
namespace Go.Proofs.YtnjabndkaabogaaGreatDoor.Ev
open Go
def fz (ro : Option Nat) : Fence := { Fence.wide with round := ro }
theorem Does.mono {P : Program} {o : Oper} {ev : Operand → Value} {w : World} {X Y : Value → World → Prop} (h : Does P o ev w X) (hy : ∀ u w', X u w' → Y u w') : Does P o ev w Y := by
  unfold Does at h ⊢
  split at h
  · exact hy _ _ h
  · exact hy _ _ h
  · refine Calls.mono h fun e w' he => ?_
    cases e with
    | returned u => exact hy _ _ he
    | panicked ch => exact he
    | outgrown => exact he
  · refine RoundIn.mono h fun e w' he => ?_
    cases e with
    | returned u => exact hy _ _ he
    | panicked ch => exact he
    | outgrown => exact he
  · exact h.elim
theorem Does.plain {P : Program} {o : Oper} {ev : Operand → Value} {w : World} {X : Value → World → Prop} (h : Does P o ev w X) : ∀ c, o.op ≠ .defer c := fun c hc => by
  unfold Does at h
  have e : execOp ev o = (do pure (.defer (← resolve ev c o.type))) := by unfold execOp; rw [hc]
  rw [e, Sem.run_bind] at h
  rcases hr : (resolve ev c o.type).run P w with ⟨d, w'⟩ | ⟨x, w'⟩
  · rw [hr] at h
    exact h.elim
  · rw [hr] at h
    exact h.elim
theorem Does.wp {P : Program} {o : Oper} {a : Act} {w : World} {X : Value → World → Prop} {next : Act → World → Prop} {Q : Exit → Act → World → Prop} (ro : Option Nat) (h : Does P o a.eval w X) (hn : ∀ u w', X u w' → next (a.put o.dst u) w') : o.wpIn (fz ro) 0 P a w next Q := by
  refine ⟨fun _ _ => trivial, ?_⟩
  rw [show (fz ro).round = ro from rfl, Oper.semAt_eq ro a.eval o h.plain]
  unfold Does at h
  have hd : (fz ro).depth.isSome = true → 1 ≤ 0 := fun h => by cases h
  split at h
  · rename_i u w' hr
    rw [hr]
    exact hn _ _ h
  · rename_i w' hr
    rw [hr]
    exact hn _ _ h
  · rename_i g args w' hr
    rw [hr]
    refine ⟨hd, ?_⟩
    have h2 : CallsIn (fz ro) (0 - 1) P g args w' _ := callsIn_wide.2 h
    refine CallsIn.mono h2 fun e w' he => ?_
    cases e with
    | returned u => exact hn _ _ he
    | panicked ch => exact he.elim
    | outgrown => exact he.elim
  · rename_i l g tmps asg bd w' hr
    rw [hr]
    refine ⟨hd, ?_⟩
    have h2 : RoundIn (fz ro) (0 - 1) P l g tmps asg bd w' _ := h
    refine RoundIn.mono h2 fun e w' he => ?_
    cases e with
    | returned u => exact hn _ _ he
    | panicked ch => exact he.elim
    | outgrown => exact he.elim
  · exact h.elim
structure Fits (ρ : Nat → Nm) (N : Nat) (ds : List Deferred) (nx : Nat) (f : T Value) (a : Act) : Prop where
  fr : FR ρ nx f a
  size : a.tmps.size = N
  defers : a.defers = ds
theorem put_defers0 (a : Act) (d : Option Tmp) (u : Value) : (a.put d u).defers = a.defers := by cases d <;> rfl
theorem Fits.put {ρ ρ' : Nat → Nm} {N nx nx' : Nat} {ds : List Deferred} {f : T Value} {a : Act} (h : Fits ρ N ds nx f a) (hx : Ext ρ nx ρ' nx') (d : Option Tmp) {v u : Value} (hv : VR ρ' nx' v u) : Fits ρ' N ds nx' (put N d v f) (a.put d u) :=
  ⟨put_sound (h.fr.mono hx) h.size d hv, by rw [put_size]; exact h.size, by rw [put_defers0]; exact h.defers⟩
def EndR (N : Nat) (ds : List Deferred) (ρ : Nat → Nm) (s : St) (w : World) (r : R) (e : Exit) (a : Act) (w' : World) : Prop := match r, e with
  | .normal f s', .normal => ∃ ρ', SStep ρ s w ρ' s' w' ∧ Fits ρ' N ds s'.nx f a
  | _, _ => False
section
variable {P : Program} {cl : Cl} {N : Nat} {ro : Option Nat} {ds : List Deferred}
theorem guardR_or {ops : Array Oper} {o : Oper} {f : T Value} {yes no : R} {ρ : Nat → Nm} {nx : Nat} {a : Act} (hf : FR ρ nx f a) (h : (guardR ops o f yes no).ok) :
    (Region.wanted o (yielded ops a.tmps) = true ∧ guardR ops o f yes no = yes) ∨ (Region.wanted o (yielded ops a.tmps) = false ∧ guardR ops o f yes no = no) := by
  unfold guardR at h ⊢
  rcases hg : o.guard with _ | ⟨g, want⟩
  · refine .inl ⟨?_, rfl⟩
    unfold Region.wanted
    rw [hg]
  · rw [hg] at h
    have hw : Region.wanted o (yielded ops a.tmps) = (yielded ops a.tmps g == some want) := by
      unfold Region.wanted
      rw [hg]
    rw [hw]
    simp only at h ⊢
    rcases ho : ops[g]? with _ | og
    · rw [ho] at h
      exact h.elim
    · rw [ho] at h
      rcases hd : og.dst with _ | d
      · simp only [onO, hd] at h
        exact h.elim
      · simp only [onO, hd] at h ⊢
        rcases ha : acc (path d) f with _ | v
        · rw [ha] at h
          exact h.elim
        · rw [ha] at h
          obtain ⟨u, h1, h2⟩ := hf d v (acc_get ha)
          have hb : ∀ b, u = .bool b → yielded ops a.tmps g = some b := fun b hu => by
            unfold yielded
            simp only [ho, hd, Option.bind_some, h1, hu]
          have ht : ∀ x, u = .tuple x → yielded ops a.tmps g = none := fun x hu => by
            unfold yielded
            simp only [ho, hd, Option.bind_some, h1, hu]
          cases h2 with
          | bool b =>
            rw [hb b rfl]
            cases b <;> cases want
            · exact .inl ⟨rfl, rfl⟩
            · exact .inr ⟨rfl, rfl⟩
            · exact .inr ⟨rfl, rfl⟩
            · exact .inl ⟨rfl, rfl⟩
          | tuple x y =>
            rw [ht y rfl]
            exact .inr ⟨rfl, rfl⟩
          | _ => exact h.elim
theorem xOps_ok (hcl : ClOk P cl) {ops : Array Oper} {ρ0 : Nat → Nm} {s0 : St} {w0 : World} : ∀ (os : List Oper) (k n : Nat), os = ops.toList.drop k → os.length = n → ∀ (f : T Value) (s : St) (ρ : Nat → Nm) (w : World) (a : Act), SStep ρ0 s0 w0 ρ s w → Fits ρ N ds s.nx f a → (xOps P cl N ops os f s).ok →
    wpOpsIn (fz ro) 0 P ops (EndR N ds ρ0 s0 w0 (xOps P cl N ops os f s)) (List.range' k n) a w
  | [], k, n, _, hn, f, s, ρ, w, a, st, hf, _ => by
    subst hn
    exact ⟨ρ, st, hf⟩
  | o :: os, k, n, hd, hn, f, s, ρ, w, a, st, hf, hok => by
    subst hn
    have hk : ops[k]? = some o := by
      have : (ops.toList.drop k)[0]? = some o := by rw [← hd]; rfl
      simpa using this
    have hd2 : os = ops.toList.drop (k + 1) := by
      have : (ops.toList.drop k).drop 1 = os := by rw [← hd]; rfl
      rw [List.drop_drop] at this
      exact this.symm
    change (guardR ops o f (xOp P cl o f s (fun v s => xOps P cl N ops os (put N o.dst v f) s)) (xOps P cl N ops os (put N o.dst undef f) s)).ok at hok
    show wpOpsIn (fz ro) 0 P ops (EndR N ds ρ0 s0 w0 (guardR ops o f (xOp P cl o f s (fun v s => xOps P cl N ops os (put N o.dst v f) s)) (xOps P cl N ops os (put N o.dst undef f) s))) (k :: List.range' (k + 1) os.length) a w
    unfold wpOpsIn
    rw [hk]
    simp only
    rcases guardR_or hf.fr hok with ⟨h1, h2⟩ | ⟨h1, h2⟩
    · rw [h2] at hok ⊢
      rw [if_pos h1]
      obtain ⟨v, s', h3, h4⟩ := xOp_v hcl hok
      rw [h3] at hok ⊢
      refine ((h4 ρ w a st.hr hf.fr).wp ro fun u w' ⟨ρ', h5, h6⟩ => ?_)
      exact xOps_ok hcl os (k + 1) os.length hd2 rfl _ s' ρ' w' _ (st.trans h5) (hf.put h5.ext o.dst h6) hok
    · rw [h2] at hok ⊢
      rw [if_neg (by rw [h1]; decide)]
      exact ⟨fun _ _ => trivial, xOps_ok hcl os (k + 1) os.length hd2 rfl _ s ρ w _ st (hf.put (Ext.refl _ _) o.dst undef_vr) hok⟩
noncomputable def resS (a : Act) : ResultVar → Sem Value
  | .tmp t => pure (a.tmps.getD t undef)
  | .cell c t => do loadVar t (← asAddr (a.tmps.getD c undef))
theorem resV_ok {f : T Value} {s : St} {r : ResultVar} {v : Value} (h : resV P f s r = some v) {ρ : Nat → Nm} {w : World} {a : Act} (hr : SR ρ s w) (hf : FR ρ s.nx f a) :
    ∃ u, (resS a r).run P w = .ok u w ∧ VR ρ s.nx v u := by
  cases r with
  | tmp t =>
    obtain ⟨u, h1, h2⟩ := hf t v (acc_get h)
    refine ⟨u, ?_, h2⟩
    have : a.tmps.getD t undef = u := by rw [Array.getD_eq_getD_getElem?, h1]; rfl
    show (pure (a.tmps.getD t undef) : Sem Value).run P w = _
    rw [this]
    rfl
  | cell c ty =>
    unfold resV at h
    simp only at h
    rcases hc : acc (path c) f with _ | p
    · rw [hc] at h
      cases h
    · rw [hc] at h
      simp only at h
      obtain ⟨u, h1, h2⟩ := hf c p (acc_get hc)
      have hg : a.tmps.getD c undef = u := by rw [Array.getD_eq_getD_getElem?, h1]; rfl
      split at h
      · rename_i n k d hu
        split at h
        · rename_i t m e sz fz hn
          cases h2
          split at h
          · rename_i hag
            split at h
            · rename_i hb
              obtain ⟨b, hb, hvb⟩ := hr.cell hn (Nat.le_of_ble_eq_true hb) h
              refine ⟨b, ?_, hvb⟩
              show (do loadVar ty (← asAddr (a.tmps.getD c undef)) : Sem Value).run P w = _
              simp only [hg, asAddr, loadVar, Sem.run_bind, Sem.run_pure, Result.andThen_ok, run_isAgg' hu, hag, Bool.false_eq_true, if_false]
              show Sem.run P (.load _ _ .pure) w = _
              unfold Sem.run
              rw [hb]
              rfl
            · cases h
          · rename_i hag
            split at h
            · rename_i i hi
              split at h
              · rename_i hb
                split at h
                · rename_i vs hvs
                  obtain rfl := Option.some.inj h
                  obtain ⟨us, h1, h2, h3⟩ := readF_sound hr hn i.size k vs (Nat.le_of_ble_eq_true hb) hvs
                  refine ⟨.agg us.toArray, ?_, .agg _ _ h3.1 h3.2⟩
                  show (do loadVar ty (← asAddr (a.tmps.getD c undef)) : Sem Value).run P w = _
                  simp only [hg, asAddr, loadVar, Sem.run_bind, Sem.run_pure, Result.andThen_ok, run_isAgg' hu, hag, if_true, run_siz hi]
                  rw [← h1, run_loadCells_list w _ us h2]
                  rfl
                · cases h
              · cases h
            · cases h
        · cases h
      · cases h
theorem resVs_ok {f : T Value} {s : St} {ρ : Nat → Nm} {w : World} {a : Act} (hr : SR ρ s w) (hf : FR ρ s.nx f a) : ∀ (rs : List ResultVar) (vs : List Value), resVs P f s rs = some vs →
    ∃ us : List Value, (rs.mapM (resS a)).run P w = .ok us w ∧ AR ρ s.nx vs.toArray us.toArray
  | [], vs, h => by
    obtain rfl := Option.some.inj (show some [] = some vs from h)
    exact ⟨[], rfl, rfl, fun i x y hx => by simp at hx⟩
  | r :: rs, vs, h => by
    change Option.rec (motive := fun _ => Option (List Value)) none (fun v => Option.rec (motive := fun _ => Option (List Value)) none (fun vs => some (v :: vs)) (resVs P f s rs)) (resV P f s r) = some vs at h
    rcases h1 : resV P f s r with _ | v
    · rw [h1] at h
      cases h
    · rw [h1] at h
      rcases h2 : resVs P f s rs with _ | vs'
      · rw [h2] at h
        cases h
      · rw [h2] at h
        obtain rfl := Option.some.inj (show some (v :: vs') = some vs from h)
        obtain ⟨u, h3, h4⟩ := resV_ok h1 hr hf
        obtain ⟨us, h5, h6⟩ := resVs_ok hr hf rs vs' h2
        refine ⟨u :: us, ?_, ?_⟩
        · rw [List.mapM_cons]
          simp only [Sem.run_bind, h3, h5, Result.andThen_ok, Sem.run_pure]
        · have := (AR.one h4).append h6
          simpa using this
theorem xRes_ok {fn : Func} {f : T Value} {s s' : St} {v : Value} (h : xRes P fn f s = .ok v s') {ρ : Nat → Nm} {w : World} {a : Act} (hr : SR ρ s w) (hf : FR ρ s.nx f a) : s' = s ∧ ∃ u, (results fn a.tmps).run P w = .ok u w ∧ VR ρ s.nx v u := by
  unfold xRes onOC at h
  rcases h1 : resVs P f s fn.results.toList with _ | vs
  · rw [h1] at h
    cases h
  · rw [h1] at h
    simp only [CR.ok.injEq] at h
    obtain ⟨rfl, rfl⟩ := h
    refine ⟨rfl, ?_⟩
    obtain ⟨us, h2, h3⟩ := resVs_ok hr hf _ _ h1
    have hrun : ∀ u, (if h : us.toArray.size = 1 then us.toArray[0] else .tuple us.toArray) = u → (results fn a.tmps).run P w = .ok u w := fun u hu => by
      have he : results fn a.tmps = (do
          let vs ← fn.results.mapM (resS a)
          pure (if h : vs.size = 1 then vs[0] else .tuple vs)) := by
        unfold results
        congr 1
      rw [he, Array.mapM_eq_mapM_toList]
      simp only [Sem.run_bind, Sem.run_map, h2, Result.andThen_ok, Sem.run_pure]
      rw [← hu]
    refine ⟨_, hrun _ rfl, ?_⟩
    unfold single
    split
    · rename_i v
      have hs : us.toArray.size = 1 := h3.1.symm
      rw [dif_pos hs]
      exact h3.2 0 v _ rfl (Array.getElem?_eq_getElem (by omega))
    · rename_i hne
      have hs : us.toArray.size ≠ 1 := fun e => by
        have h4 : vs.length = 1 := by have := h3.1; simp at this e; omega
        match vs, h4, hne with
        | [v], _, hne => exact hne v rfl
      rw [dif_neg hs]
      exact .tuple _ _ h3.1 h3.2
end
end Go.Proofs.YtnjabndkaabogaaGreatDoor.Ev
