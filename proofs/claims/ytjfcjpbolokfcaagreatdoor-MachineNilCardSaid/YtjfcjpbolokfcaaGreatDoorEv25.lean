/-
  An evaluator for closed runs: the interpreter is right (2: operations that turn nothing).
-/
import Derived.Test.YtjfcjpbolokfcaaGreatDoorEv24
import Derived.IntWalk
namespace Go.Proofs.YtjfcjpbolokfcaaGreatDoor.Ev
open Go

/-- What an operation does, calls too. -/
def Does (P : Program) (o : Oper) (ev : Operand → Value) (w : World) (X : Value → World → Prop) : Prop :=
  match (execOp ev o).run P w with
  | .ok (.value u) w' => X u w'
  | .ok .skip w' => X undef w'
  | .ok (.enter g args) w' => Calls P g args w' (fun e w'' => match e with
    | .returned u => X u w''
    | _ => False)
  | _ => False
def OpOk (P : Program) (o : Oper) (f : T Value) (s : St) (v : Value) (s' : St) : Prop :=
  ∀ (ρ : Nat → Nm) (w : World) (a : Act), SR ρ s w → FR ρ s.nx f a → Does P o a.eval w (fun u w' => ∃ ρ', SStep ρ s w ρ' s' w' ∧ VR ρ' s'.nx v u)
def QI (P : Program) (o : Oper) (f : T Value) (s : St) (k : K) (r : R) : Prop := ∃ v, r = k v s ∧ QOk P o f s v
def VI (P : Program) (o : Oper) (f : T Value) (s : St) (k : K) (r : R) : Prop := ∃ v s', r = k v s' ∧ OpOk P o f s v s'
section
variable {P : Program} {o : Oper} {f : T Value} {s s' : St} {v : Value} {k : K}
theorem ValOk.op (h : ValOk P o f s v s') : OpOk P o f s v s' := fun ρ w a hr hf => by
  obtain ⟨ρ', w', u, h1, h2, h3⟩ := h ρ w a hr hf
  unfold Does
  rw [h1]
  exact ⟨ρ', h2, h3⟩
theorem undef_vr {ρ : Nat → Nm} {nx : Nat} : VR ρ nx undef undef := flat_vr (by rfl)
theorem SkipOk.op (h : SkipOk P o f s s') : OpOk P o f s undef s' := fun ρ w a hr hf => by
  obtain ⟨ρ', w', h1, h2⟩ := h ρ w a hr hf
  unfold Does
  rw [h1]
  exact ⟨ρ', h2, undef_vr⟩
theorem W.mono {G H : R → Prop} {r : R} (h : W G r) (hg : ∀ r, G r → H r) : W H r := fun ho => hg r (h ho)
theorem W.qv {r : R} (h : W (QI P o f s k) r) : W (VI P o f s k) r := h.mono fun _ ⟨v, h1, h2⟩ => ⟨v, s, h1, h2.val.op⟩
theorem q_end (h : QOk P o f s v) : W (QI P o f s k) (k v s) := fun _ => ⟨v, rfl, h⟩
theorem v_end (h : ValOk P o f s v s') : W (VI P o f s k) (k v s') := fun _ => ⟨v, s', rfl, h.op⟩
theorem s_end (h : SkipOk P o f s s') : W (VI P o f s k) (k undef s') := fun _ => ⟨undef, s', rfl, h.op⟩
theorem slowOp_q : W (QI P o f s k) (slowOp P o f s k) := onO_w fun _ hv => q_end (flatOp_ok hv)
theorem xMove_q {x : Operand} (ho : o.op = .move x ∨ o.op = .assign x) : W (QI P o f s k) (xMove x f s k) := onO_w fun _ hv => q_end (move_ok ho (ev_eq hv))
theorem xPick_q {c x y : Operand} (ho : o.op = .pick c x y) : W (QI P o f s k) (xPick c x y f s k) := onO_w fun _ hc => onBool_w fun b hb => by
  subst hb
  refine bool_w (fun hb => ?_) (fun hb => ?_)
  · subst hb
    exact onO_w fun _ hv => q_end (pick_ok ho (ev_eq hc) (ev_eq hv))
  · subst hb
    exact onO_w fun _ hv => q_end (pick_ok ho (ev_eq hc) (ev_eq hv))
theorem xLoad_q {ty : TypeId} {x : Operand} (ho : o.op = .load ty x) : W (QI P o f s k) (xLoad P ty x f s k) :=
  onO_w fun v hv => onPtr_w fun n q hp => onCells_w fun t m e sz fz hn => onO_w fun d hd => by
    subst hp
    refine bool_w (fun ha => ?_) (fun ha => ?_)
    · exact ble_w fun hb => onO_w fun v hg => q_end (load_ok ho hd ha (ev_eq hv) hn hb hg)
    · exact onO_w fun i hi => ble_w fun hb => onO_w fun vs hg => q_end (loadAgg_ok ho hd ha hi (ev_eq hv) hn hb hg)
theorem xNil_q {x : Operand} (ho : o.op = .nilCheck x) : W (QI P o f s k) (xNil x f s k) := onO_w fun v hv => onPtr_w fun n q hp => by
  subst hp
  exact q_end (nilCheck_ok ho (ev_eq hv))
theorem xExtract_q {x : Operand} {i : Nat} (ho : o.op = .extract x i) : W (QI P o f s k) (xExtract x i f s k) := onO_w fun v hv => onTup_w fun a ha => onO_w fun u hu => by
  subst ha
  rw [nth_get] at hu
  exact q_end (extract_ok ho (ev_eq hv) (by simpa using hu))
theorem xIface_q {t : TypeId} {x : Operand} (ho : o.op = .makeInterface t x) : W (QI P o f s k) (xIface P t x f s k) := onO_w fun _ hv => onO_w fun d hd => not_w fun hi => q_end (makeInterface_ok ho hd (by cases d <;> first | rfl | cases hi) (ev_eq hv))
theorem xFunc_q {g : Fn} {xs ys : Array Operand} (ho : o.op = .makeFunc g xs ys) : W (QI P o f s k) (xFunc g xs ys f s k) := onO_w fun _ h1 => onO_w fun _ h2 => q_end (makeFunc_ok ho (evs_eq h1) (evs_eq h2))
theorem structOf_eq {t : TypeId} {fs : Array Field} (h : structOf P t = some fs) : P.underlying t = some (.struct fs) := by
  unfold structOf at h
  split at h
  · rename_i hu
    rw [hu, Option.some.inj h]
  · cases h
theorem sliceOf_eq {t e : TypeId} (h : sliceOf P t = some e) : P.underlying t = some (.slice e) := by
  unfold sliceOf at h
  split at h
  · rename_i hu
    rw [hu, Option.some.inj h]
  · cases h
theorem arrOf_eq {t : TypeId} {p : Nat × TypeId} (h : arrOf P t = some p) : P.underlying t = some (.array p.1 p.2) := by
  unfold arrOf at h
  split at h
  · rename_i hu
    rw [hu, ← Option.some.inj h]
  · cases h
theorem mapOf_eq {t : TypeId} {p : TypeId × TypeId} (h : mapOf P t = some p) : P.underlying t = some (.map p.1 p.2) := by
  unfold mapOf at h
  split at h
  · rename_i hu
    rw [hu, ← Option.some.inj h]
  · cases h
theorem fieldOf_eq {t : TypeId} {i : Nat} {fd : Field} (h : fieldOf P t i = some fd) : ∃ fs, P.underlying t = some (.struct fs) ∧ fs[i]? = some fd := by
  unfold fieldOf at h
  split at h
  · rename_i fs hs
    exact ⟨fs, structOf_eq hs, h⟩
  · cases h
theorem xField_q {ty : TypeId} {x : Operand} {i : Nat} (ho : o.op = .fieldAddr ty x i) : W (QI P o f s k) (xField P ty x i f s k) := onO_w fun v hv => onPtr_w fun n q hp => onO_w fun fd hfd => onO_w fun inf hi => ne_w fun hz => forceN_w (by
  subst hp
  obtain ⟨fs, h1, h2⟩ := fieldOf_eq hfd
  exact q_end (fieldAddr_ok ho h1 h2 hi hz (ev_eq hv)))
theorem spotN_zero {q : Option Nat} (h : spotN q ≤ 0) : q = none ∨ q = some 0 := by
  cases q with
  | none => exact .inl rfl
  | some q => exact .inr (congrArg some (Nat.le_zero.1 h))
theorem xIndexAddr_q {ty : TypeId} {x y : Operand} (ho : o.op = .indexAddr ty x y) : W (QI P o f s k) (xIndexAddr P ty x y f s k) :=
  onO_w fun v hv => onO_w fun iv hiv => onInt_w fun kk z hz => onNat_w fun i hi => onO_w fun d hd => by
    subst hz hi
    have h0 : (0 : Int) ≤ Int.ofNat i := Int.natCast_nonneg i
    have key : ∀ n q (sz : Nat) (V : Nat → Value), (V = fun m => .pointer (some ⟨n, m, none⟩)) → QOk P o f s (.pointer (some ⟨n, q + (Int.ofNat i).toNat * sz, none⟩)) → W (QI P o f s k) (forceN (Nat.add q (Nat.mul i sz)) fun m => k (V m) s) := fun n q sz V hV h => by
      subst hV
      exact forceN_w (q_end h)
    split
    · refine onO_w fun inf hi => onSl_w fun a l c ha => ble_w fun hl => onPlace_w fun n q spot hs => ble_w fun hq => ?_
      subst ha hs
      have hl' : Int.ofNat i < l := Int.ofNat_lt.2 hl
      rcases spotN_zero hq with rfl | rfl
      · exact key n q inf.size _ rfl (indexSl_ok ho hd hi (ev_eq hv) (ev_eq hiv) h0 hl')
      · exact key n q inf.size _ rfl (indexFx_ok ho hd hi (ev_eq hv) (ev_eq hiv) h0 hl')
    · refine onO_w fun inf hi => ble_w fun hl => onPtr_w fun n q hp => ?_
      subst hp
      exact key n q inf.size _ rfl (indexArr_ok ho hd hi (ev_eq hv) (ev_eq hiv) h0 (Int.ofNat_lt.2 hl))
    · exact W.fail 43
theorem xSlice_q {ty : TypeId} {x : Operand} {lo hi mx : Option Operand} (ho : o.op = .slice ty x lo hi mx) : W (QI P o f s k) (xSlice P o ty x lo hi mx f s k) := onO_w fun v hv => by
  cases v with
  | string b => exact slowOp_q
  | slice a len cp =>
    refine onO_w fun e he => onO_w fun inf hinf => onPlace_w fun n q spot hs => idx_w fun l hl => idx_w fun h hh => ble_w fun h1 => opt_w (fun hm => ?_) (fun y hm => ?_)
    · subst hs hm
      refine ble_w fun h2 => opt_w (fun hq => ?_) (fun j hq => beq_w fun hj => ?_)
      · subst hq
        exact forceV_w (q_end (sliceSl_ok ho (sliceOf_eq he) hinf (ev_eq hv) hl hh h1 h2))
      · subst hq hj
        exact forceV_w (q_end (sliceFx_ok ho (sliceOf_eq he) hinf (ev_eq hv) hl hh h1 h2))
    · subst hs hm
      refine onB_w fun h4 => idx_w fun m hm => ble_w fun h2 => ble_w fun h3 => beq_w fun hq => forceV_w (q_end ?_)
      rcases spotN_zero (Nat.le_of_eq hq) with rfl | rfl
      · exact sliceMax_ok ho (sliceOf_eq he) hinf (.inl (ev_eq hv)) hl hh hm h1 h2 h3 h4
      · exact sliceMax_ok ho (sliceOf_eq he) hinf (.inr (ev_eq hv)) hl hh hm h1 h2 h3 h4
  | _ => exact W.fail 45
theorem xFieldV_q {ty : TypeId} {x : Operand} {i : Nat} (ho : o.op = .field ty x i) : W (QI P o f s k) (xFieldV P ty x i f s k) := onO_w fun fd hfd => onO_w fun v hv => onAgg_w fun cs hc => onO_w fun u hu => by
  subst hc
  obtain ⟨fs, h1, h2⟩ := fieldOf_eq hfd
  exact q_end (field_ok ho h1 h2 (ev_eq hv) hu)
theorem xIndexV_q {ty : TypeId} {x y : Operand} (ho : o.op = .index ty x y) : W (QI P o f s k) (xIndexV P o ty x y f s k) := opt_w (fun _ => slowOp_q) fun p hp => onO_w fun inf hi => onO_w fun iv hiv => onInt_w fun kk z hz => onNat_w fun i hn => ble_w fun hl => onO_w fun v hv => onAgg_w fun cs hc => onO_w fun u hu => by
  subst hc hz hn
  exact q_end (index_ok ho (arrOf_eq hp) hi (ev_eq hv) (ev_eq hiv) (Int.natCast_nonneg i) (Int.ofNat_lt.2 hl) hu)
theorem xBuild_q {ty : TypeId} {ps : Array (Nat × Operand)} (ho : o.op = .build ty ps) : W (QI P o f s k) (xBuild P ty ps f s k) := onO_w fun i hi => onO_w fun z hz => onB_w fun hfz => onO_w fun vs hvs => onO_w fun d hd => by
  split
  · refine onO_w fun pl hpl => onO_w fun cells hc => q_end ?_
    rename_i fs
    unfold placesOf structOf at hpl
    rw [hd] at hpl
    exact build_ok ho hd hi hz hfz hpl (evp_eq hvs) hc
  · exact onO_w fun ie hie => onO_w fun cells hc => q_end (buildArr_ok ho hd hi hz hfz hie (evp_eq hvs) hc)
  · exact W.fail 63
theorem xLookup_q {ty : TypeId} {x ix : Operand} {ok : Bool} (ho : o.op = .lookup ty x ix ok) : W (QI P o f s k) (xLookup P ty x ix ok f s k) :=
  onO_w fun ke hke => onO_w fun ie hi => onO_w fun z hz => onB_w fun hfz => onO_w fun v hv => onO_w fun kv hkv => onB_w fun hfl => onMap_w fun m hm => by
    subst hm
    refine opt_w (fun hm => ?_) (fun n hm => ?_)
    · subst hm
      refine onO_w fun _ hck => onO_w fun r hfk => opt_w (fun hr => ?_) (fun _ _ => W.fail 74)
      subst hr
      exact q_end (lookupNil_ok ho (mapOf_eq hke) hi hz hfz (ev_eq hv) (ev_eq hkv) hfl hck hfk)
    · subst hm
      exact onEnts_w fun es c hn => onO_w fun kd hkd => onO_w fun _ hck => onO_w fun r hfk => q_end (lookup_ok ho (mapOf_eq hke) hkd hi hz hfz (ev_eq hv) hn (ev_eq hkv) hfl hck hfk)
theorem xAssert_q {x : Operand} {xt t : TypeId} {ok : Bool} (ho : o.op = .typeAssert x xt t ok) : W (QI P o f s k) (xAssert P x t ok f s k) := onO_w fun v hv => onIface_w fun t' u hu => beq_w fun he => onO_w fun d hd => not_w fun hi => by
  subst hu he
  have h := assert_ok ho hd hi (ev_eq hv) (s := s)
  cases ok
  · exact q_end h
  · exact q_end h
theorem xUn_q {op : UnOp} {t : TypeId} {x : Operand} (ho : o.op = .unOp op t x) : W (QI P o f s k) (xUn P o op x f s k) := onO_w fun v hv => by
  split
  · rename_i b
    refine mkBool_w (q_end (qOk_of (sem := fun ev => Op.unary .not (ev x)) (fun ev => by unfold execOp; rw [ho]) fun ρ w a hr hf => ?_))
    have h := evO_sound hf (ev_eq hv)
    obtain ⟨u, hu⟩ : ∃ u, a.eval x = u := ⟨_, rfl⟩
    rw [hu] at h
    cases h
    refine ⟨.bool (!b), by rw [hu]; rfl, ?_⟩
    cases b
    · exact .bool true
    · exact .bool false
  · exact slowOp_q
theorem xLen_q {c : Call} {t : TypeId} {x : Operand} (ho : o.op = .call c) (hc : c.callee = .builtin .len) (ha : c.args = #[x]) (ht : c.argTypes[0]? = some t) : W (QI P o f s k) (xLen P o t x f s k) := onO_w fun d hd => onO_w fun v hv => by
  split
  · exact mkInt_w (q_end (lenSl_ok ho hc ha ht hd (ev_eq hv)))
  · exact onEnts_w fun es cl hn => mkInt_w (q_end (lenMap_ok ho hc ha ht hd (ev_eq hv) hn))
  · exact slowOp_q
/-- Arithmetic of numbers not below zero. -/
theorem max_in {i : IntKind} {n : Nat} (h : n ≤ maxOf i) : i.wrap n = n := by
  cases i
  · exact IntWalk.i8_in _ ⟨by omega, by have : n ≤ 127 := h; omega⟩
  · exact IntWalk.i16_in _ ⟨by omega, by have : n ≤ 32767 := h; omega⟩
  · exact IntWalk.i32_in _ ⟨by omega, by have : n ≤ 2147483647 := h; omega⟩
  · exact IntWalk.i64_in _ ⟨by omega, by have : n ≤ 9223372036854775807 := h; omega⟩
  · exact IntWalk.u8_in _ ⟨by omega, by have : n ≤ 255 := h; omega⟩
  · exact IntWalk.u16_in _ ⟨by omega, by have : n ≤ 65535 := h; omega⟩
  · exact IntWalk.u32_in _ ⟨by omega, by have : n ≤ 4294967295 := h; omega⟩
  · exact IntWalk.u64_in _ ⟨by omega, by have : n ≤ 18446744073709551615 := h; omega⟩
theorem sameKind_eq {a b : IntKind} (h : sameKind a b = true) : a = b := by
  cases a <;> cases b <;> first | rfl | cases h
theorem bin_int {op : BinOp} {t q : TypeId} {x y : Operand} {i : IntKind} {a b : Nat} {z : Value} (ho : o.op = .binOp op t x y q) (hx : evO f x = some (.int i (.ofNat a))) (hy : evO f y = some (.int i (.ofNat b)))
    (hz : flat z = true) (h : ∀ w, (binOp op t (.int i (.ofNat a)) (.int i (.ofNat b))).run P w = .ok z w) : QOk P o f s z := by
  refine qOk_of (sem := fun ev => do eqGuard op t x y (ev x) (ev y); binOp op t (ev x) (ev y)) (fun ev => by unfold execOp; rw [ho]) fun ρ w c hr hf => ?_
  have h1 := evO_sound hf hx
  have h2 := evO_sound hf hy
  obtain ⟨u1, hu1⟩ : ∃ u, c.eval x = u := ⟨_, rfl⟩
  obtain ⟨u2, hu2⟩ : ∃ u, c.eval y = u := ⟨_, rfl⟩
  rw [hu1] at h1
  rw [hu2] at h2
  cases h1
  cases h2
  refine ⟨z, ?_, flat_vr hz⟩
  have hg : ∀ w, (eqGuard op t x y (.int i (.ofNat a)) (.int i (.ofNat b))).run P w = .ok () w := fun w => by
    unfold eqGuard
    cases op <;> rfl
  simp only [hu1, hu2, Sem.run_bind, hg, Result.andThen_ok, h]
theorem natOp_q {op : BinOp} {t q : TypeId} {x y : Operand} {i : IntKind} {a b : Nat} {slow : R} (ho : o.op = .binOp op t x y q) (hx : evO f x = some (.int i (.ofNat a))) (hy : evO f y = some (.int i (.ofNat b))) (hs : W (QI P o f s k) slow) : W (QI P o f s k) (natOp op i a b slow fun v => k v s) := by
  have key : ∀ z : Value, flat z = true → (∀ w, (binOp op t (.int i (.ofNat a)) (.int i (.ofNat b))).run P w = .ok z w) → W (QI P o f s k) (k z s) := fun z h1 h2 => q_end (bin_int ho hx hy h1 h2)
  have cmp : ∀ c : Bool, (∀ w, (binOp op t (.int i (.ofNat a)) (.int i (.ofNat b))).run P w = .ok (.bool c) w) → W (QI P o f s k) (mkBool c fun v => k v s) := fun c h => mkBool_w (key _ (by cases c <;> rfl) h)
  have ar : ∀ n : Nat, (∀ w, (binOp op t (.int i (.ofNat a)) (.int i (.ofNat b))).run P w = .ok (.int i n) w) → W (QI P o f s k) (mkInt i n fun v => k v s) := fun n h => mkInt_w (key _ (by rfl) h)
  have dec : ∀ (p : Prop) [Decidable p] (c : Bool), (p ↔ c = true) → decide p = c := fun p _ c h => by
    cases c
    · exact decide_eq_false (fun hp => Bool.noConfusion (h.1 hp))
    · exact decide_eq_true (h.2 rfl)
  unfold natOp
  split
  · refine bool_w (fun _ => hs) fun h => ar _ fun w => ?_
    have hm := max_in (Nat.le_of_ble_eq_true h)
    simp only [binOp, ne_eq, not_true_eq_false, if_false, Op.intArith, Sem.run_pure]
    exact congrArg (fun z => Result.ok (Value.int i z) w) hm
  · refine bool_w (fun _ => hs) fun h1 => bool_w (fun _ => hs) fun h => ar _ fun w => ?_
    have hm := max_in (Nat.le_of_ble_eq_true h)
    have h1 := Nat.le_of_ble_eq_true h1
    simp only [binOp, ne_eq, not_true_eq_false, if_false, Op.intArith, Sem.run_pure]
    have : (Int.ofNat a - Int.ofNat b) = ((Nat.sub a b : Nat) : Int) := (Int.ofNat_sub h1).symm
    rw [this, hm]
  · refine bool_w (fun _ => hs) fun h => ar _ fun w => ?_
    have hm := max_in (Nat.le_of_ble_eq_true h)
    simp only [binOp, ne_eq, not_true_eq_false, if_false, Op.intArith, Sem.run_pure]
    exact congrArg (fun z => Result.ok (Value.int i z) w) hm
  · refine cmp _ fun w => ?_
    simp only [binOp, ne_eq, not_true_eq_false, if_false, Op.intCmp, Sem.run_pure]
    rw [dec (Int.ofNat a < Int.ofNat b) (Nat.ble (Nat.succ a) b) ⟨fun h => Nat.ble_eq_true_of_le (Int.ofNat_lt.1 h), fun h => Int.ofNat_lt.2 (Nat.le_of_ble_eq_true h)⟩]
  · refine cmp _ fun w => ?_
    simp only [binOp, ne_eq, not_true_eq_false, if_false, Op.intCmp, Sem.run_pure]
    rw [dec (Int.ofNat a ≤ Int.ofNat b) (Nat.ble a b) ⟨fun h => Nat.ble_eq_true_of_le (Int.ofNat_le.1 h), fun h => Int.ofNat_le.2 (Nat.le_of_ble_eq_true h)⟩]
  · refine cmp _ fun w => ?_
    simp only [binOp, ne_eq, not_true_eq_false, if_false, Op.intCmp, Sem.run_pure]
    rw [dec (Int.ofNat a > Int.ofNat b) (Nat.ble (Nat.succ b) a) ⟨fun h => Nat.ble_eq_true_of_le (Int.ofNat_lt.1 h), fun h => Int.ofNat_lt.2 (Nat.le_of_ble_eq_true h)⟩]
  · refine cmp _ fun w => ?_
    simp only [binOp, ne_eq, not_true_eq_false, if_false, Op.intCmp, Sem.run_pure]
    rw [dec (Int.ofNat a ≥ Int.ofNat b) (Nat.ble b a) ⟨fun h => Nat.ble_eq_true_of_le (Int.ofNat_le.1 h), fun h => Int.ofNat_le.2 (Nat.le_of_ble_eq_true h)⟩]
  · refine cmp _ fun w => ?_
    simp only [binOp, ne_eq, not_true_eq_false, if_false, Op.intCmp, Sem.run_pure]
    have : (Int.ofNat a == Int.ofNat b) = Nat.beq a b := dec (Int.ofNat a = Int.ofNat b) (Nat.beq a b) ⟨fun h => by rw [Int.ofNat.inj h]; exact Nat.beq_refl b, fun h => by rw [Nat.eq_of_beq_eq_true h]⟩
    rw [this]
  · refine cmp _ fun w => ?_
    simp only [binOp, ne_eq, not_true_eq_false, if_false, Op.intCmp, Sem.run_pure]
    have : (Int.ofNat a == Int.ofNat b) = Nat.beq a b := dec (Int.ofNat a = Int.ofNat b) (Nat.beq a b) ⟨fun h => by rw [Int.ofNat.inj h]; exact Nat.beq_refl b, fun h => by rw [Nat.eq_of_beq_eq_true h]⟩
    show Result.ok (Value.bool !(Int.ofNat a == Int.ofNat b)) w = _
    rw [this]
    cases Nat.beq a b <;> rfl
  · exact hs
theorem cmpOp_q {op : BinOp} {t q : TypeId} {x y : Operand} {neg : Bool} (ho : o.op = .binOp op t x y q) (hn : isCmp op = some neg) : W (QI P o f s k) (cmpOp P o t x y neg f s k) := onO_w fun d hd => onO_w fun u hu => onO_w fun z hz => opt_w (fun _ => slowOp_q) fun r hr => by
  have hop : (neg = false ∧ op = .eql) ∨ (neg = true ∧ op = .neq) := by
    cases op <;> cases hn
    · exact .inl ⟨rfl, rfl⟩
    · exact .inr ⟨rfl, rfl⟩
  rcases hop with ⟨rfl, rfl⟩ | ⟨rfl, rfl⟩
  · exact mkBool_w (q_end (nilEql_ok ho hd (ev_eq hu) (ev_eq hz) hr))
  · have := nilNeq_ok ho hd (ev_eq hu) (ev_eq hz) hr (s := s)
    refine mkBool_w (q_end ?_)
    cases r
    · exact this
    · exact this
theorem xBin_q {op : BinOp} {t q : TypeId} {x y : Operand} (ho : o.op = .binOp op t x y q) : W (QI P o f s k) (xBin P o op t x y f s k) := onO_w fun u hu => onO_w fun z hz => by
  have slow : W (QI P o f s k) (Option.rec (motive := fun _ => R) (slowOp P o f s k) (fun neg => cmpOp P o t x y neg f s k) (isCmp op)) := opt_w (fun _ => slowOp_q) fun neg hn => cmpOp_q ho hn
  unfold intOp
  split
  · refine bool_w (fun _ => slow) fun hk => ?_
    obtain rfl := sameKind_eq hk
    exact natOp_q ho (ev_eq hu) (ev_eq hz) slow
  · exact slow
end
end Go.Proofs.YtjfcjpbolokfcaaGreatDoor.Ev
