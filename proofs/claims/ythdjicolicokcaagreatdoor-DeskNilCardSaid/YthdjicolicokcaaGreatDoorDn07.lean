/-
  An evaluator for closed runs: code and calls are right.
  An evaluator for closed runs: functions and rounds of loops are right; a closed run that comes to true.
  An evaluator for closed runs: a call that is told by the library's contract: strings.Repeat.
  An evaluator for closed runs: disk.New, told by a run of its own.
  An evaluator for closed runs: service.number of a step, told by its contract; a block that is known whole.
  An evaluator for closed runs: sum.Crc, told by its contract.
  An evaluator for closed runs: the first regions of a body, and what is left of it walked by hand.
  The block of errors.errorType, whole.
-/
import Derived.Test.YthdjicolicokcaaGreatDoorDn06
import Derived.Below
import Derived.Carry
import Derived.Lib.RepeatB
import Derived.Test.YthdjicolicokcaaGreatDoorDn01
import Derived.KernelRfl
namespace Go.Proofs.YthdjicolicokcaaGreatDoor.Ev
open Go
def End (N b0 : Nat) (ρ : Nat → Nm) (s : St) (w : World) (r : R) (e : Exit) (a : Act) (w' : World) : Prop := match r, e with
  | .normal f s', .normal => ∃ ρ' ds, SStep ρ s w ρ' s' w' ∧ Fits ρ' N ds s'.nx f a ∧ Mk b0 ρ' s'.h.get w' ds
  | .ret f s', .ret => ∃ ρ' ds, SStep ρ s w ρ' s' w' ∧ Fits ρ' N ds s'.nx f a ∧ Mk b0 ρ' s'.h.get w' ds
  | .exit i f s', .exit j => i = j ∧ ∃ ρ' ds, SStep ρ s w ρ' s' w' ∧ Fits ρ' N ds s'.nx f a ∧ Mk b0 ρ' s'.h.get w' ds
  | _, _ => False
section
variable {P : Program} {cl : Cl} {N fuel b0 : Nat} {ro : Option Nat} {ρ0 : Nat → Nm} {s0 : St} {w0 : World}
theorem End.back {ρ : Nat → Nm} {s : St} {w : World} {r : R} {e : Exit} {a : Act} {w' : World} (st : SStep ρ0 s0 w0 ρ s w) (h : End N b0 ρ s w r e a w') : End N b0 ρ0 s0 w0 r e a w' := by
  unfold End at h ⊢
  split at h
  · obtain ⟨ρ', ds, h1, h2⟩ := h
    exact ⟨ρ', ds, st.trans h1, h2⟩
  · obtain ⟨ρ', ds, h1, h2⟩ := h
    exact ⟨ρ', ds, st.trans h1, h2⟩
  · obtain ⟨h0, ρ', ds, h1, h2⟩ := h
    exact ⟨h0, ρ', ds, st.trans h1, h2⟩
  · exact h.elim
theorem EndR.whole {ds : List Deferred} {ρ : Nat → Nm} {s : St} {w : World} {r : R} {e : Exit} {a : Act} {w' : World} (hm : Mk b0 ρ s.h.get w ds) (h : EndR N ds ρ s w r e a w') : End N b0 ρ s w r e a w' := by
  unfold EndR at h
  split at h
  · obtain ⟨ρ', h1, h2⟩ := h
    exact ⟨ρ', ds, h1, h2, hm.step h1⟩
  · exact h.elim
def KOk (P : Program) (ro : Option Nat) (N b0 : Nat) (c : Code) (k : T Value → St → R) : Prop :=
  ∀ (f : T Value) (s : St) (ρ : Nat → Nm) (w : World) (a : Act) (ds : List Deferred), SR ρ s w → Fits ρ N ds s.nx f a → Mk b0 ρ s.h.get w ds → b0 ≤ w.heap.size → (k f s).ok → c.wpIn (fz ro) 0 P (End N b0 ρ s w (k f s)) a w
theorem seq_ok {x y : Code} {kx ky : T Value → St → R} (hx : KOk P ro N b0 x kx) (hy : KOk P ro N b0 y ky) : KOk P ro N b0 (.seq x y) (fun f s => R.rec (motive := fun _ => R) (fun n => .fail n) ky (fun f s => .ret f s) (fun i f s => .exit i f s) (kx f s)) := fun f s ρ w a ds hr hf hmk hb0 hok => by
  refine wpIn_seq ?_
  rcases h1 : kx f s with n | ⟨f1, s1⟩ | ⟨f1, s1⟩ | ⟨i, f1, s1⟩
  · simp only [h1] at hok
    exact hok.elim
  · have hok1 : (kx f s).ok := by rw [h1]; trivial
    simp only [h1] at hok ⊢
    refine wpIn_mono (hx f s ρ w a ds hr hf hmk hb0 hok1) fun e a1 w1 he => ?_
    rw [h1] at he
    cases e with
    | normal =>
      obtain ⟨ρ1, ds1, st, hf1, hmk1⟩ := he
      exact wpIn_mono (hy f1 s1 ρ1 w1 a1 ds1 st.hr hf1 hmk1 (Nat.le_trans hb0 st.fr.size) hok) fun e2 a2 w2 he2 => he2.back st
    | _ => exact he.elim
  · have hok1 : (kx f s).ok := by rw [h1]; trivial
    simp only [h1] at hok ⊢
    refine wpIn_mono (hx f s ρ w a ds hr hf hmk hb0 hok1) fun e a1 w1 he => ?_
    rw [h1] at he
    cases e with
    | ret => exact he
    | _ => exact he.elim
  · have hok1 : (kx f s).ok := by rw [h1]; trivial
    simp only [h1] at hok ⊢
    refine wpIn_mono (hx f s ρ w a ds hr hf hmk hb0 hok1) fun e a1 w1 he => ?_
    rw [h1] at he
    cases e with
    | exit j => exact he
    | _ => exact he.elim
theorem cond_ok {c : Operand} {x y : Code} {kx ky : T Value → St → R} (hx : KOk P ro N b0 x kx) (hy : KOk P ro N b0 y ky) : KOk P ro N b0 (.cond c x y) (fun f s => onO 153 (ev c f) (fun v => onBool v (fun b => Bool.rec (motive := fun _ => R) (ky f s) (kx f s) b))) := fun f s ρ w a ds hr hf hmk hb0 hok => by
  rcases hc : ev c f with _ | v
  · simp only [hc] at hok
    exact hok.elim
  · simp only [hc] at hok ⊢
    cases v with
    | bool b =>
      have hv := evO_sound hf.fr (ev_eq hc)
      obtain ⟨u, hu⟩ : ∃ u, a.eval c = u := ⟨_, rfl⟩
      rw [hu] at hv
      cases hv
      cases b
      · exact wpIn_cond hu (hy f s ρ w a ds hr hf hmk hb0 hok)
      · exact wpIn_cond hu (hx f s ρ w a ds hr hf hmk hb0 hok)
    | _ => exact hok.elim
theorem block_ok {id : Nat} {x : Code} {kx : T Value → St → R} (hx : KOk P ro N b0 x kx) : KOk P ro N b0 (.block id x) (fun f s => R.rec (motive := fun _ => R) (fun n => .fail n) (fun f s => .normal f s) (fun f s => .ret f s) (fun i f s => Bool.rec (motive := fun _ => R) (.exit i f s) (.normal f s) (Nat.beq i id)) (kx f s)) := fun f s ρ w a ds hr hf hmk hb0 hok => by
  refine wpIn_block ?_
  rcases h1 : kx f s with n | ⟨f1, s1⟩ | ⟨f1, s1⟩ | ⟨i, f1, s1⟩
  · simp only [h1] at hok
    exact hok.elim
  · have hok1 : (kx f s).ok := by rw [h1]; trivial
    simp only [h1] at hok ⊢
    refine wpIn_mono (hx f s ρ w a ds hr hf hmk hb0 hok1) fun e a1 w1 he => ?_
    rw [h1] at he
    cases e with
    | normal => exact he
    | _ => exact he.elim
  · have hok1 : (kx f s).ok := by rw [h1]; trivial
    simp only [h1] at hok ⊢
    refine wpIn_mono (hx f s ρ w a ds hr hf hmk hb0 hok1) fun e a1 w1 he => ?_
    rw [h1] at he
    cases e with
    | ret => exact he
    | _ => exact he.elim
  · have hok1 : (kx f s).ok := by rw [h1]; trivial
    simp only [h1] at hok ⊢
    refine wpIn_mono (hx f s ρ w a ds hr hf hmk hb0 hok1) fun e a1 w1 he => ?_
    rw [h1] at he
    cases e with
    | exit j =>
      obtain ⟨rfl, he⟩ := he
      show (if i = id then _ else _ : Prop)
      rcases hb : Nat.beq i id with _ | _
      · rw [if_neg (fun e => by rw [e, Nat.beq_refl] at hb; cases hb)]
        exact ⟨rfl, he⟩
      · rw [if_pos (Nat.eq_of_beq_eq_true hb)]
        exact he
    | _ => exact he.elim
noncomputable def rounds (kx : T Value → St → R) (n : Nat) : T Value → St → R := Nat.rec (motive := fun _ => T Value → St → R) (fun _ _ => .fail 154) (fun _ lp f s => R.rec (motive := fun _ => R) (fun n => .fail n) lp (fun f s => .ret f s) (fun i f s => .exit i f s) (kx f s)) n
theorem rounds_ok {x : Code} {kx : T Value → St → R} (hx : KOk P ro N b0 x kx) : ∀ (n : Nat) (f : T Value) (s : St) (ρ : Nat → Nm) (w : World) (a : Act) (ds : List Deferred), SR ρ s w → Fits ρ N ds s.nx f a → Mk b0 ρ s.h.get w ds → b0 ≤ w.heap.size → (rounds kx n f s).ok → ∀ (b : Frame) (k : List Item) (cs : List Frame), b.roundOf = (fz ro).round →
    ∃ e a' w', End N b0 ρ s w (rounds kx n f s) e a' w' ∧ ArrivesIn (Machine.fenced P (fz ro)) P (lone (b.atR a (.code x :: .inLoop x :: k)) cs w) b k cs e a' w'
  | 0, f, s, ρ, w, a, ds, hr, hf, hmk, hb0, hok, b, k, cs, hro => hok.elim
  | n + 1, f, s, ρ, w, a, ds, hr, hf, hmk, hb0, hok, b, k, cs, hro => by
    have hroom : (fz ro).room (cs.length + 1 + 0) := room_wide _
    change (R.rec (motive := fun _ => R) (fun n => .fail n) (rounds kx n) (fun f s => .ret f s) (fun i f s => .exit i f s) (kx f s)).ok at hok
    show ∃ e a' w', End N b0 ρ s w (R.rec (motive := fun _ => R) (fun n => .fail n) (rounds kx n) (fun f s => .ret f s) (fun i f s => .exit i f s) (kx f s)) e a' w' ∧ _
    rcases h1 : kx f s with m | ⟨f1, s1⟩ | ⟨f1, s1⟩ | ⟨i, f1, s1⟩
    · rw [h1] at hok
      exact hok.elim
    · have hok1 : (kx f s).ok := by rw [h1]; trivial
      obtain ⟨e1, a1, w1, he, harr⟩ := hx f s ρ w a ds hr hf hmk hb0 hok1 b (.inLoop x :: k) cs hro trivial hroom
      rw [h1] at hok he
      cases e1 with
      | normal =>
        obtain ⟨ρ1, ds1, st, hf1, hmk1⟩ := he
        obtain ⟨e2, a2, w2, he2, harr2⟩ := rounds_ok hx n f1 s1 ρ1 w1 a1 ds1 st.hr hf1 hmk1 (Nat.le_trans hb0 st.fr.size) hok b k cs hro
        exact ⟨e2, a2, w2, he2.back st, .of_steps (StepsIn.trans harr (.one (fenced_calm (F := fz ro) (n := 0) trivial hroom rfl) stepR_inLoop)) harr2⟩
      | _ => exact he.elim
    · have hok1 : (kx f s).ok := by rw [h1]; trivial
      obtain ⟨e1, a1, w1, he, harr⟩ := hx f s ρ w a ds hr hf hmk hb0 hok1 b (.inLoop x :: k) cs hro trivial hroom
      rw [h1] at he
      cases e1 with
      | ret => exact ⟨.ret, a1, w1, he, .pass (x := .inLoop x) rfl (fun _ _ => .inl (by simp)) harr⟩
      | _ => exact he.elim
    · have hok1 : (kx f s).ok := by rw [h1]; trivial
      obtain ⟨e1, a1, w1, he, harr⟩ := hx f s ρ w a ds hr hf hmk hb0 hok1 b (.inLoop x :: k) cs hro trivial hroom
      rw [h1] at he
      cases e1 with
      | exit j => exact ⟨.exit j, a1, w1, he, .pass (x := .inLoop x) rfl (fun _ _ => .inl (by simp)) harr⟩
      | _ => exact he.elim
theorem loop_ok {x : Code} {kx : T Value → St → R} (hx : KOk P ro N b0 x kx) (n : Nat) : KOk P ro N b0 (.loop x) (rounds kx n) := fun f s ρ w a ds hr hf hmk hb0 hok b k cs hro hb hroom => by
  obtain ⟨e, a', w', h1, h2⟩ := rounds_ok hx n f s ρ w a ds hr hf hmk hb0 hok b k cs hro
  exact ⟨e, a', w', h1, .of_steps (.one (fenced_calm hb hroom rfl) stepR_loop) h2⟩
theorem rangeF_ok (hcl : ClOk P cl) {g : Operand} {ps : Array Tmp} {asg bd : Code} : KOk P none N b0 (.rangeFunc g ps asg bd) (xRangeF P cl N g ps asg bd) := fun f s ρ w a ds hr hf hmk hb0 hok => by
  have key : W (fun r => (Code.rangeFunc g ps asg bd).wpIn (fz none) 0 P (End N b0 ρ s w r) a w) (xRangeF P cl N g ps asg bd f s) := by
    refine onO_w fun v hv => onFun_w (fun G fs cs hg => newS_w (onB_w fun hen => ?_)) (fun _ _ _ _ => W.fail 212)
    subst hg
    intro hok
    unfold onCR at hok ⊢
    rcases hc : cl false G (app fs.toList (.func (.yield s.nx) #[] #[] :: cs.toList)) (s.new (.loop f N ps asg bd)) with n | ⟨u, s2⟩
    · rw [hc] at hok
      exact hok.elim
    · rw [hc] at hok
      refine onLoop_w (G := fun r => (Code.rangeFunc g ps asg bd).wpIn (fz none) 0 P (End N b0 ρ s w r) a w) (fun f2 N2 ps2 as2 bd2 hl _ => ?_) hok
      have hq := evO_sound hf.fr (ev_eq hv)
      obtain ⟨y, hy⟩ : ∃ y, a.eval g = y := ⟨_, rfl⟩
      rw [hy] at hq
      cases hq with
      | func _ _ _ fs' cs' _ z1 z2 hfa hca =>
        have ha0 : (wa w).heap.size = w.heap.size + 1 := by simp [wa]
        refine wpIn_rangeFunc fun fn _ => ?_
        have sta : SStep ρ s w ρ s (wa w) := step_push (Step.refl hr) _
        have hx := upd_ext ρ s.nx ⟨(wa w).heap.size, 0, 0⟩
        have st1 : SStep ρ s w (upd ρ s.nx ⟨(wa w).heap.size, 0, 0⟩) (s.new (.loop f N ps asg bd)) (wl w fn a.tmps ps asg bd) :=
          (sta.trans (sta.hr.new _ (.loop f N ps asg bd) ⟨rfl, fn, a.tmps, w.heap.size, rfl, hf.size, fun t v hv => by
            obtain ⟨u, g1, g2⟩ := hf.fr t v hv
            exact ⟨u, g1, g2.mono hx⟩⟩)).less get_updH
        have hyv : VR (upd ρ s.nx ⟨(wa w).heap.size, 0, 0⟩) (s.nx + 1) (.func (.yield s.nx) #[] #[]) (.func (.yield (wa w).heap.size) #[] #[]) := by
          have := VR.yieldF (ρ := upd ρ s.nx ⟨(wa w).heap.size, 0, 0⟩) (nx := s.nx + 1) s.nx (Nat.lt_succ_self _)
          rw [upd_at] at this
          exact this
        have hmk1 : Mk b0 (upd ρ s.nx ⟨(wa w).heap.size, 0, 0⟩) (s.new (.loop f N ps asg bd)).h.get (wl w fn a.tmps ps asg bd) ({ target := .collected w.heap.size, args := #[] } :: ds) := by
          refine ⟨⟨w.heap.size, rfl, hb0, ?_, fun n o hn he => ?_, fun e he hte => ?_⟩, hmk.step st1⟩
          · show ((wa w).heap.push _)[w.heap.size]? = _
            rw [push_old _ _ (by omega)]
            show (w.heap.push (.deferred (some [])))[w.heap.size]? = _
            rw [Array.getElem?_push, if_pos rfl]
          · rcases updH_get (get_updH n o hn) with ⟨rfl, _⟩ | ⟨_, hn⟩
            · rw [upd_at] at he
              simp only at he
              omega
            · rw [hx.2 n (hr.obj n o hn).1] at he
              have := hr.old hn
              omega
          · have := hmk.lt e he _ hte
            omega
        refine ⟨(wa w).heap.size, _, wl w fn a.tmps ps asg bd, { target := .fn (.func G) cs', args := fs' ++ #[.func (.yield (wa w).heap.size) #[] #[]] }, wl w fn a.tmps ps asg bd, G, fs' ++ #[.func (.yield (wa w).heap.size) #[] #[]] ++ cs', wl w fn a.tmps ps asg bd, enterLoop_run fn a.tmps ps asg bd, ?_, fun _ _ => trivial, ?_, fun h => (by cases h), ?_⟩
        · unfold resolve
          simp only [hy]
          rw [show Array.map a.eval #[Operand.const (Value.func (Fn.yield (wa w).heap.size) #[] #[])] = #[Value.func (Fn.yield (wa w).heap.size) #[] #[]] from by simp [Act.eval]]
          rfl
        · exact callFunc_run hen (fs' ++ #[.func (.yield (wa w).heap.size) #[] #[]] ++ cs') _
        · have har : AR (upd ρ s.nx ⟨(wa w).heap.size, 0, 0⟩) (s.nx + 1) (app fs.toList (.func (.yield s.nx) #[] #[] :: cs.toList)).toArray (fs' ++ #[.func (.yield (wa w).heap.size) #[] #[]] ++ cs') := by
            have h5 := ((AR.mono hx ⟨z1, hfa⟩).append (AR.one hyv)).append (AR.mono hx ⟨z2, hca⟩)
            have e : (app fs.toList (.func (.yield s.nx) #[] #[] :: cs.toList)).toArray = fs ++ #[.func (.yield s.nx) #[] #[]] ++ cs := by
              rw [app_eq]
              apply Array.ext'
              simp
            rw [e]
            exact h5
          have hcall := hcl.calls G _ _ _ _ hc _ _ _ st1.hr har
          have h2 : CallsIn (fz none) (0 - 1) P G _ _ _ := callsIn_wide.2 hcall
          refine CallsIn.mono h2 fun e w3 he => ?_
          cases e with
          | returned u' =>
            obtain ⟨ρ2, st2, _⟩ := he
            obtain ⟨hlx, hs0, r, hr1, hr2, hr3, _⟩ := loop_at st2.hr hl
            have hl2 : ρ2 s.nx = ⟨(wa w).heap.size, 0, 0⟩ := (st2.ext.2 s.nx (Nat.lt_succ_self _)).trans (upd_at _ _ _)
            have hr1' : w3.heap[(wa w).heap.size]? = some (.loop r) := by rw [hl2] at hr1; exact hr1
            refine ⟨none, _, by rw [← hr3]; exact endLoop_run hr1' hr2, ?_⟩
            have std := st2.hr.drop hl (.loop { r with state := .exhausted }) (H' := (s2.h.del s.nx).get) (fun m x hm => del_get hm)
            rw [hl2] at std
            have st3 : SStep _ (s.new (.loop f N ps asg bd)) _ ρ2 ⟨s2.h.del s.nx, s2.nx⟩ _ := st2.trans std
            exact ⟨ρ2, { target := .collected w.heap.size, args := #[] } :: ds, st1.trans st3, ⟨hf.fr.mono (st1.trans st3).ext, hf.size, congrArg (fun l => ({ target := .collected w.heap.size, args := #[] } : Deferred) :: l) hf.defers⟩, hmk1.step st3⟩
          | panicked ch => exact he.elim
          | outgrown => exact he.elim
  exact key hok
theorem band_true {a b : Bool} (h : band a b = true) : a = true ∧ b = true := by
  cases a
  · cases h
  · exact ⟨rfl, h⟩
theorem xCode_ok (hcl : ClOk P cl) (hm : P.follows .mixedOrders = true) {rnd chk : Bool} (hrnd : rnd = false → ro = none) (c : Code) (hch : chk = false → drawsOk P N c = true) : KOk P ro N b0 c (xCode P chk cl N fuel rnd c) := by
  induction c with
  | skip => exact fun f s ρ w a ds hr hf hmk hb0 _ => wpIn_skip ⟨ρ, ds, Step.refl hr, hf, hmk⟩
  | region id ops draw =>
    intro f s ρ w a ds hr hf hmk hb0 hok
    cases draw with
    | false =>
      change (xOps P cl N ops ops.toList f s).ok at hok
      have := xOps_ok hcl (ro := ro) (ds := ds) (ρ0 := ρ) (s0 := s) (w0 := w) ops.toList 0 ops.size (by simp) (by simp) f s ρ w a (Step.refl hr) hf hok
      rw [← List.range_eq_range'] at this
      exact wpIn_mono (wpIn_region this) fun e a w he => EndR.whole hmk he
    | true => exact wpIn_mono (xDraw_ok hcl hm (Step.refl hr) hf hch hok) fun e a w he => EndR.whole hmk he
  | seq x y hx hy => exact seq_ok (hx fun h => (band_true (hch h)).1) (hy fun h => (band_true (hch h)).2)
  | cond c x y hx hy => exact cond_ok (hx fun h => (band_true (hch h)).1) (hy fun h => (band_true (hch h)).2)
  | block id x hx => exact block_ok (hx hch)
  | loop x hx => exact loop_ok (hx hch) fuel
  | rangeFunc c ps x y =>
    cases rnd with
    | false =>
      obtain rfl := hrnd rfl
      exact rangeF_ok hcl
    | true => exact fun f s ρ w a ds hr hf hmk hb0 hok => hok.elim
  | exit id => exact fun f s ρ w a ds hr hf hmk hb0 _ => wpIn_exit ⟨rfl, ρ, ds, Step.refl hr, hf, hmk⟩
  | scope x hx => exact fun f s ρ w a ds hr hf hmk hb0 hok => hok.elim
  | label l => exact fun f s ρ w a ds hr hf hmk hb0 _ => wpIn_label ⟨ρ, ds, Step.refl hr, hf, hmk⟩
  | goto l => exact fun f s ρ w a ds hr hf hmk hb0 hok => hok.elim
  | ret => exact fun f s ρ w a ds hr hf hmk hb0 _ => wpIn_ret ⟨ρ, ds, Step.refl hr, hf, hmk⟩
  | refuse why => exact fun f s ρ w a ds hr hf hmk hb0 hok => hok.elim
end
end Go.Proofs.YthdjicolicokcaaGreatDoor.Ev
namespace Go.Proofs.YthdjicolicokcaaGreatDoor.Ev
open Go Go.RowKit
section
variable {P : Program} {cl : Cl} {N fuel : Nat} {bad : List Nat}
theorem drawsF_at : ∀ (l : List Func) (k : Nat), drawsF P bad l k = true → ∀ (g : Nat) (fn : Func) (c : Code), l[g]? = some fn → fn.body = some c → memN (k + g) bad = false → drawsOk P fn.ntmps c = true
  | [], _, _, g, fn, c, h, _, _ => by simp at h
  | f0 :: l, k, h, g, fn, c, hg, hb, hm => by
    change band _ (forceL (Nat.succ k) (drawsF P bad l)) = true at h
    obtain ⟨h1, h2⟩ := band_true h
    cases g with
    | zero =>
      obtain rfl := Option.some.inj (show some f0 = some fn by simpa using hg)
      rw [show memN k bad = false from hm, hb] at h1
      exact h1
    | succ g =>
      have h3 : drawsF P bad l (k + 1) = true := h2
      exact drawsF_at l (k + 1) h3 g fn c (by simpa using hg) hb (by rw [show k + 1 + g = k + (g + 1) by omega]; exact hm)
def Draws (P : Program) (bad : List Nat) : Prop := ∀ (g : Nat) (fn : Func) (c : Code), P.funcs[g]? = some fn → fn.body = some c → memN g bad = false → drawsOk P fn.ntmps c = true
theorem draws_of (h : drawsAll P bad = true) : Draws P bad := fun g fn c hg hb hm => drawsF_at P.funcs.toList 0 h g fn c (by rw [Array.getElem?_toList]; exact hg) hb (by rw [Nat.zero_add]; exact hm)
theorem leave_ok {fn : Func} {f : T Value} {s s1 s' : St} {v : Value} {ρ ρ1 : Nat → Nm} {w : World} {tmps : Array Value} (hx : xRes P fn f s1 = .ok v s') (hf : FR ρ1 s1.nx f { tmps := tmps, defers := [] }) :
    ∀ (ds : List Deferred) (w1 : World), SStep ρ s w ρ1 s1 w1 → Mk w.heap.size ρ1 s1.h.get w1 ds → LeavesInM Fence.wide 0 P fn tmps (Gives ρ s w v s') ds .returning w1
  | [], w1, st, _ => by
    obtain ⟨e, u, h1, h2⟩ := xRes_ok hx st.hr hf
    subst e
    exact ⟨u, h1, ρ1, st, h2⟩
  | d :: ds, w1, st, ⟨⟨r, h1, h2, h3, h4, h5⟩, h6⟩ =>
    ⟨by simp, .inl ⟨r, _, h1, takeDeferred_run h3, leave_ok hx hf ds _ (st.shut h2 h4) (h6.shut h5)⟩⟩
theorem xBody_ok (hdr : Draws P bad) (hcl : ClOk P cl) (hm : P.follows .mixedOrders = true) : ∀ g vs s v s', xBody P bad cl fuel g vs s = .ok v s' → ∀ (ρ : Nat → Nm) (w : World) (us : Array Value), SR ρ s w → AR ρ s.nx vs.toArray us → Calls P g us w (Gives ρ s w v s') := fun g vs s v s' h ρ w us hr hv => by
  unfold xBody onOC at h
  rcases hfn : nth P.funcs.toList g with _ | fn
  · rw [hfn] at h
    cases h
  · rw [hfn] at h
    have hfn := fn_get hfn
    simp only at h
    rcases hb : fn.body with _ | c
    · rw [hb] at h
      cases h
    · rw [hb] at h
      simp only at h
      rcases hn : Nat.ble vs.length fn.ntmps with _ | _
      · rw [hn] at h
        cases h
      · rw [hn] at h
        simp only at h
        have hle := Nat.le_of_ble_eq_true hn
        have hsz : us.size = vs.length := by simpa using hv.1.symm
        have hf : Fits ρ fn.ntmps [] s.nx (ofL vs) { tmps := us ++ Array.replicate (fn.ntmps - us.size) undef, defers := [] } := by
          refine ⟨fun t x hx => ?_, by simp; omega, rfl⟩
          have h1 := ofL_get hx
          obtain ⟨u, hu, hvu⟩ := hv.at (i := t) (x := x) (by simpa using h1)
          refine ⟨u, ?_, hvu⟩
          show (us ++ Array.replicate (fn.ntmps - us.size) undef)[t]? = some u
          rw [Array.getElem?_append, if_pos (arr_lt hu)]
          exact hu
        refine callsIn_wide.1 (callsIn_of_wp_marks (F := Fence.wide) (n := 0) hfn hb trivial ?_)
        have hcode : (xCode P (memN g bad) cl fn.ntmps fuel false c (ofL vs) s).ok → c.wpIn Fence.wide 0 P _ _ w := fun hok => xCode_ok hcl hm (ro := none) (b0 := w.heap.size) (fuel := fuel) (rnd := false) (fun _ => rfl) c (hdr g fn c hfn hb) (ofL vs) s ρ w _ [] hr hf trivial (Nat.le_refl _) hok
        rcases h1 : xCode P (memN g bad) cl fn.ntmps fuel false c (ofL vs) s with m | ⟨f1, s1⟩ | ⟨f1, s1⟩ | ⟨i, f1, s1⟩
        · rw [h1] at h
          cases h
        · rw [h1] at h
          refine wpIn_mono (hcode (by rw [h1]; trivial)) fun e a1 w1 he => ?_
          rw [h1] at he
          cases e with
          | normal =>
            obtain ⟨ρ1, ds, st, hf1, hmk⟩ := he
            show LeavesInM Fence.wide 0 P fn a1.tmps (Gives ρ s w v s') a1.defers .returning w1
            rw [hf1.defers]
            exact leave_ok h hf1.fr ds w1 st hmk
          | _ => exact he.elim
        · rw [h1] at h
          refine wpIn_mono (hcode (by rw [h1]; trivial)) fun e a1 w1 he => ?_
          rw [h1] at he
          cases e with
          | ret =>
            obtain ⟨ρ1, ds, st, hf1, hmk⟩ := he
            show LeavesInM Fence.wide 0 P fn a1.tmps (Gives ρ s w v s') a1.defers .returning w1
            rw [hf1.defers]
            exact leave_ok h hf1.fr ds w1 st hmk
          | _ => exact he.elim
        · rw [h1] at h
          cases h
theorem onLoopC_ok {s s' : St} {n : Nat} {k : T Value → Nat → Array Tmp → Code → Code → CR} {v : Value} (h : onLoopC s n k = .ok v s') : ∃ f N ps asg bd, s.h.get n = some (.loop f N ps asg bd) ∧ k f N ps asg bd = .ok v s' := by
  unfold onLoopC onOC at h
  rcases ha : s.h.get n with _ | a
  · rw [ha] at h
    cases h
  · rw [ha] at h
    cases a with
    | loop f N ps asg bd => exact ⟨f, N, ps, asg, bd, rfl, h⟩
    | _ => cases h
theorem onNormal_ok {r : R} {k : T Value → St → CR} {v : Value} {s' : St} (h : onNormal r k = .ok v s') : ∃ f s, r = .normal f s ∧ k f s = .ok v s' := by
  cases r with
  | normal f s => exact ⟨f, s, rfl, h⟩
  | _ => cases h
theorem xYield_ok (hcl : ClOk P cl) (hm : P.follows .mixedOrders = true) : ∀ l vs s v s', xYield P cl fuel l vs s = .ok v s' → ∀ (ρ : Nat → Nm) (w : World) (us : Array Value), SR ρ s w → AR ρ s.nx vs.toArray us →
    ∃ g tmps asg bd, (Instr.yield (ρ l).b us).run P w = .ok (.round (ρ l).b g tmps asg bd) w ∧ RoundIn Fence.wide 0 P (ρ l).b g tmps asg bd w (Gives ρ s w v s') := fun l vs s v s' h ρ w us hr hv => by
  unfold xYield at h
  obtain ⟨f, N, ps, asg, bd, hl, h⟩ := onLoopC_ok h
  rcases hn : Nat.beq vs.length ps.size with _ | _
  · rw [hn] at h
    cases h
  · rw [hn] at h
    have hlen := Nat.eq_of_beq_eq_true hn
    obtain ⟨f1, s1, e1, h⟩ := onNormal_ok h
    obtain ⟨f2, N2, ps2, as2, bd2, hl1, h⟩ := onLoopC_ok h
    obtain ⟨f3, s2, e2, h⟩ := onNormal_ok h
    simp only [CR.ok.injEq] at h
    obtain ⟨rfl, rfl⟩ := h
    obtain ⟨hlx, hs0, r, q1, q2, q3, q4, q5, q6, q7, q8⟩ := loop_at hr hl
    have hus : us.size = vs.length := by simpa using hv.1.symm
    subst q4 q5 q6
    refine ⟨r.fn, _, r.assign, r.body, yield_run q1 (by omega), ?_⟩
    obtain ⟨p1, p2⟩ := putAll_ok r.params.toList vs us.toList f r.tmps (by simpa using hus.symm) (fun i x y hx hy => hv.2 i x y (by simpa using hx) (by simpa using hy)) q7 q8
    refine roundIn_of_wpIn (F := Fence.wide) (n := 0) trivial ?_
    have k1 := xCode_ok hcl hm (ro := some (ρ l).b) (N := N) (b0 := 0) (fuel := fuel) (rnd := true) (chk := true) (fun h => by cases h) r.assign (fun h => by cases h) (putAll N r.params.toList vs f) s ρ w _ [] hr ⟨p2, p1, rfl⟩ trivial (Nat.zero_le _) (by rw [e1]; trivial)
    refine wpIn_mono k1 fun e a1 w1 he => ?_
    rw [e1] at he
    cases e with
    | normal =>
      obtain ⟨ρ1, ds1, st1, hf1, hmk1⟩ := he
      have hl2 : ρ1 l = ρ l := st1.ext.2 l hlx
      obtain ⟨_, _, r1, z1, z2, z3, _⟩ := loop_at st1.hr hl1
      have z1' : w1.heap[(ρ l).b]? = some (.loop r1) := by rw [← hl2]; exact z1
      refine ⟨_, beginRound_run z1' z2, ?_⟩
      have std := st1.hr.drop hl1 (.loop { r1 with state := .busy }) (H' := (s1.h.del l).get) (fun m x hm => del_get hm)
      rw [hl2] at std
      have k2 := xCode_ok hcl hm (ro := some (ρ l).b) (N := N) (b0 := 0) (fuel := fuel) (rnd := true) (chk := true) (fun h => by cases h) r.body (fun h => by cases h) f1 ⟨s1.h.del l, s1.nx⟩ ρ1 _ a1 ds1 std.hr ⟨hf1.fr, hf1.size, hf1.defers⟩ (hmk1.step std) (Nat.zero_le _) (by rw [e2]; trivial)
      refine wpIn_mono k2 fun e a2 w3 he => ?_
      rw [e2] at he
      cases e with
      | normal =>
        obtain ⟨ρ2, ds2, st2, hf2, _⟩ := he
        have hb : (ρ1 l).b = (ρ l).b := congrArg Nm.b hl2
        rw [← hb] at st2
        obtain ⟨g1, g2⟩ := round_step st1.hr hl1 z1 z2 z3 st2
        rw [hb] at g1 g2
        exact ⟨_, _, endRound_run g1, ρ2, st1.trans g2, .bool true⟩
      | _ => exact he.elim
    | _ => exact he.elim
theorem xCl_ok (hdr : Draws P bad) {hook : Cl → Cl} (hh : ∀ cl, ClOk P cl → ClOk P (hook cl)) (hm : P.follows .mixedOrders = true) : ∀ n, ClOk P (xCl P bad hook fuel n)
  | 0 => ⟨fun g vs s v s' h => (by cases h), fun g vs s v s' h => (by cases h)⟩
  | n + 1 => hh _ ⟨xBody_ok hdr (xCl_ok hdr hh hm n) hm, xYield_ok (xCl_ok hdr hh hm n) hm⟩
noncomputable def boolV (v : Value) : Bool := match v with
  | .bool b => b
  | _ => false
noncomputable def isTrue (c : CR) : Bool := CR.rec (motive := fun _ => Bool) (fun _ => false) (fun v _ => boolV v) c
noncomputable def start : St := ⟨.leaf, 0⟩
theorem start_sr (ρ : Nat → Nm) (w : World) : SR ρ start w := ⟨fun n o h => (by cases h), fun n m o o' h => (by cases h)⟩
theorem run_true (hcl : ClOk P cl) {g : FuncId} {vs : List Value} (h : isTrue (cl false g vs start) = true) {us : Array Value} {w : World} (hv : AR (fun _ => ⟨0, 0, 0⟩) 0 vs.toArray us) : Calls P g us w (fun e w' => e = .returned (.bool true) ∧ Below w.heap.size w w') := by
  rcases hc : cl false g vs start with n | ⟨v, s'⟩
  · rw [hc] at h
    cases h
  · rw [hc] at h
    refine Calls.mono (hcl.calls g vs start v s' hc _ w us (start_sr _ w) hv) fun e w' he => ?_
    cases e with
    | returned u =>
      obtain ⟨ρ', st, hu⟩ := he
      have hb : v = .bool true := by
        change boolV v = true at h
        unfold boolV at h
        split at h
        · rw [h]
        · cases h
      subst hb
      cases hu
      exact ⟨rfl, st.fr.os, st.fr.tape, st.fr.output, st.fr.size, fun k hk => st.fr.block k hk (fun n o hn => by cases hn)⟩
    | panicked ch => exact he.elim
    | outgrown => exact he.elim
end
end Go.Proofs.YthdjicolicokcaaGreatDoor.Ev
namespace Go.Proofs.YthdjicolicokcaaGreatDoor.Ev
open Go Go.RowKit
noncomputable def repL (l : List UInt8) (n : Nat) : List UInt8 := Nat.rec (motive := fun _ => List UInt8) [] (fun _ ih => app l ih) n
noncomputable def canonC (l : List UInt8) : (List UInt8 → CR) → CR := List.rec (motive := fun _ => (List UInt8 → CR) → CR) (fun k => k []) (fun x _ ih k => forceL (UInt8.toNat x) (fun n => ih (fun l => k (UInt8.ofNat n :: l)))) l
theorem canonC_eq : ∀ (l : List UInt8) (k : List UInt8 → CR), canonC l k = k l
  | [], k => rfl
  | x :: l, k => by
    show forceL (UInt8.toNat x) (fun n => canonC l (fun l => k (UInt8.ofNat n :: l))) = _
    rw [forceL_eq, canonC_eq l, UInt8.ofNat_toNat]
theorem repL_eq (l : List UInt8) : ∀ n, repL l n = Lib.repeatL l n
  | 0 => by
    show ([] : List UInt8) = _
    simp [Lib.repeatL]
  | n + 1 => by
    show app l (repL l n) = _
    rw [app_eq, repL_eq l n]
    simp [Lib.repeatL]
noncomputable def repV (slow : CR) (vs : List Value) (s : St) : CR := match vs with
  | [.string b, .int .i64 (.ofNat n)] => Bool.rec (motive := fun _ => CR) slow (canonC (repL b.data.toList n) (fun l => .ok (.string ⟨⟨l⟩⟩) s)) (band (Nat.ble n 9223372036854775807) (Nat.ble (Nat.mul b.size n) 140737488355328))
  | _ => slow
noncomputable def hookR (g : Nat) (cl : Cl) : Cl := fun y q vs s => Bool.rec (motive := fun _ => CR) (Bool.rec (motive := fun _ => CR) (cl false q vs s) (repV (cl false q vs s) vs s) (Nat.beq q g)) (cl true q vs s) y
def RepC (P : Program) (g : Nat) : Prop := ∀ (s : ByteArray) (c : Nat) (w : World), c ≤ 9223372036854775807 → s.size * c ≤ 140737488355328 →
  Calls P g #[.string s, .int .i64 c] w fun e w' => e = .returned (.string ⟨(Lib.repeatL s.data.toList c).toArray⟩) ∧ Below w.heap.size w w'
section
variable {P : Program} {cl : Cl} {ρ0 : Nat → Nm} {s0 : St} {w0 : World}
theorem step_below {s : St} {ρ : Nat → Nm} {w w' : World} (h : SStep ρ0 s0 w0 ρ s w) (hb : Below w.heap.size w w') : SStep ρ0 s0 w0 ρ s w' := by
  refine ⟨h.ext, ⟨fun n x hn => ?_, h.hr.inj⟩, ⟨hb.os.trans h.fr.os, hb.tape.trans h.fr.tape, hb.output.trans h.fr.output, Nat.le_trans h.fr.size hb.size, fun k hk hn => ?_⟩, h.liv⟩
  · have h1 := h.hr.obj n x hn
    refine ⟨h1.1, ?_⟩
    rw [hb.block _ (h.hr.old hn)]
    exact h1.2
  · rw [hb.block k (Nat.lt_of_lt_of_le hk h.fr.size)]
    exact h.fr.block k hk hn
theorem hookR_ok {g : Nat} (C : RepC P g) (cl : Cl) (hcl : ClOk P cl) : ClOk P (hookR g cl) := by
  refine ⟨fun q vs s v s' h ρ w us hr hv => ?_, fun q vs s v s' h => hcl.yields q vs s v s' h⟩
  change Bool.rec (motive := fun _ => CR) (cl false q vs s) (repV (cl false q vs s) vs s) (Nat.beq q g) = .ok v s' at h
  rcases hb : Nat.beq q g with _ | _
  · rw [hb] at h
    exact hcl.calls q vs s v s' h ρ w us hr hv
  · rw [hb] at h
    obtain rfl := Nat.eq_of_beq_eq_true hb
    change repV (cl false q vs s) vs s = .ok v s' at h
    unfold repV at h
    split at h
    · rename_i b n
      rcases hc : band (Nat.ble n 9223372036854775807) (Nat.ble (Nat.mul b.size n) 140737488355328) with _ | _
      · rw [hc] at h
        exact hcl.calls q _ s v s' h ρ w us hr hv
      · rw [hc] at h
        obtain ⟨c1, c2⟩ := bandT hc
        change canonC (repL b.data.toList n) (fun l => .ok (.string ⟨⟨l⟩⟩) s) = .ok v s' at h
        rw [canonC_eq] at h
        simp only [CR.ok.injEq] at h
        obtain ⟨rfl, rfl⟩ := h
        have hus : us = #[.string b, .int .i64 (.ofNat n)] := by
          have h2 : us.size = 2 := hv.1.symm
          obtain ⟨u0, h0⟩ := arr_get (a := us) (i := 0) (by omega)
          obtain ⟨u1, h1⟩ := arr_get (a := us) (i := 1) (by omega)
          have e0 : u0 = .string b := by
            have := hv.2 0 (.string b) u0 rfl h0
            cases this
            rfl
          have e1 : u1 = .int .i64 (.ofNat n) := by
            have := hv.2 1 (.int .i64 (.ofNat n)) u1 rfl h1
            cases this
            rfl
          subst e0 e1
          apply Array.ext
          · exact h2
          · intro i h3 h4
            match i, h3 with
            | 0, _ => rw [Array.getElem?_eq_getElem (by omega)] at h0; exact Option.some.inj h0
            | 1, _ => rw [Array.getElem?_eq_getElem (by omega)] at h1; exact Option.some.inj h1
            | i + 2, h3 => omega
        subst hus
        refine Calls.mono (C b n w (Nat.le_of_ble_eq_true c1) (Nat.le_of_ble_eq_true c2)) fun e w' ⟨h1, h2⟩ => ?_
        subst h1
        refine ⟨ρ, step_below (Step.refl hr) h2, ?_⟩
        rw [repL_eq]
        exact .string _
    · exact hcl.calls q _ s v s' h ρ w us hr hv
end
end Go.Proofs.YthdjicolicokcaaGreatDoor.Ev
namespace Go.Proofs.YthdjicolicokcaaGreatDoor.Ev
open Go Go.RowKit
noncomputable def zeroS (z : Nat) : Value := .string ⟨⟨Nat.rec (motive := fun _ => List UInt8) [] (fun _ ih => 0 :: ih) z⟩⟩
noncomputable def zerosT (n z : Nat) : T Value := ofL (Nat.rec (motive := fun _ => List Value) [] (fun _ ih => zeroS z :: ih) n)
noncomputable def isNum (vs : List Value) (n : Nat) : Bool := match vs with
  | [.int .i64 (.ofNat m)] => Nat.beq m n
  | _ => false
noncomputable def diskT (k n : Nat) : T Value := ofL [.slice (some ⟨k, 0, none⟩) n n, .slice none 0 0, .int .i64 (.negSucc 0), .bool false]
noncomputable def diskV (n z bt dt : Nat) (s : St) : CR := St.rec (motive := fun _ => CR) (fun h nx => forceL nx (fun k => .ok (.tuple #[.pointer (some ⟨Nat.succ k, 0, none⟩), .int .i64 (.ofNat 0)]) ⟨(h.set (.cells (zerosT n z) n bt 1 0) k).set (.cells (diskT k n) 4 dt 0 0) (Nat.succ k), Nat.succ (Nat.succ k)⟩)) s
noncomputable def hookD (g n z bt dt : Nat) (cl : Cl) : Cl := fun y q vs s => Bool.rec (motive := fun _ => CR) (Bool.rec (motive := fun _ => CR) (cl false q vs s) (Bool.rec (motive := fun _ => CR) (cl false q vs s) (diskV n z bt dt s) (isNum vs n)) (Nat.beq q g)) (cl true q vs s) y
noncomputable def isZ (z : Nat) (t : T Value) (i : Nat) : Bool := match t.get i with
  | some v => veq v (zeroS z)
  | none => false
noncomputable def allTo (p : Nat → Bool) (n : Nat) : Bool := Nat.rec (motive := fun _ => Bool) true (fun i ih => band (p i) ih) n
noncomputable def rowChk (n z bt : Nat) (a : Option AO) : Bool := match a with
  | some (.cells t n' e sz fz) => band (Nat.beq n' n) (band (Nat.beq e bt) (band (Nat.beq sz 1) (band (Nat.beq fz 0) (allTo (isZ z t) n))))
  | _ => false
noncomputable def slotIsV (t : T Value) (i : Nat) (v : Value) : Bool := match t.get i with
  | some u => veq u v
  | none => false
noncomputable def strChk (n m dt : Nat) (a : Option AO) : Bool := match a with
  | some (.cells t n' e sz fz) => band (Nat.beq n' 4) (band (Nat.beq e dt) (band (Nat.beq sz 0) (band (Nat.beq fz 0) (band (slotIsV t 0 (.slice (some ⟨m, 0, none⟩) n n)) (band (slotIsV t 1 (.slice none 0 0)) (band (slotIsV t 2 (.int .i64 (.negSucc 0))) (slotIsV t 3 (.bool false))))))))
  | _ => false
noncomputable def diskChk (n z bt dt d m : Nat) (c : CR) : Bool := match c with
  | .ok v s => band (veq v (.tuple #[.pointer (some ⟨d, 0, none⟩), .int .i64 (.ofNat 0)])) (band (bnot (Nat.beq d m)) (band (rowChk n z bt (s.h.get m)) (strChk n m dt (s.h.get d))))
  | _ => false
theorem allTo_at {p : Nat → Bool} : ∀ {n : Nat}, allTo p n = true → ∀ i, i < n → p i = true
  | 0, _, i, h => absurd h (by omega)
  | n + 1, h, i, hi => by
    obtain ⟨h1, h2⟩ := band_true (show band (p n) (allTo p n) = true from h)
    by_cases e : i = n
    · rw [e]
      exact h1
    · exact allTo_at h2 i (by omega)
theorem isZ_is {z : Nat} {t : T Value} {i : Nat} (h : isZ z t i = true) : t.get i = some (zeroS z) := by
  unfold isZ at h
  split at h
  · rename_i v hv
    rw [hv, veq_eq h]
  · cases h
theorem slotIsV_is {t : T Value} {i : Nat} {v : Value} (h : slotIsV t i v = true) : t.get i = some v := by
  unfold slotIsV at h
  split at h
  · rename_i u hu
    rw [hu, veq_eq h]
  · cases h
theorem rowChk_is {n z bt : Nat} {a : Option AO} (h : rowChk n z bt a = true) : ∃ t, a = some (.cells t n bt 1 0) ∧ ∀ i, i < n → t.get i = some (zeroS z) := by
  unfold rowChk at h
  split at h
  · rename_i t n' e sz fz
    obtain ⟨h1, h⟩ := band_true h
    obtain ⟨h2, h⟩ := band_true h
    obtain ⟨h3, h⟩ := band_true h
    obtain ⟨h4, h⟩ := band_true h
    rw [Nat.eq_of_beq_eq_true h1, Nat.eq_of_beq_eq_true h2, Nat.eq_of_beq_eq_true h3, Nat.eq_of_beq_eq_true h4]
    exact ⟨t, rfl, fun i hi => isZ_is (allTo_at h i hi)⟩
  · cases h
theorem strChk_is {n m dt : Nat} {a : Option AO} (h : strChk n m dt a = true) : ∃ t, a = some (.cells t 4 dt 0 0) ∧ t.get 0 = some (.slice (some ⟨m, 0, none⟩) n n) ∧ t.get 1 = some (.slice none 0 0) ∧ t.get 2 = some (.int .i64 (.negSucc 0)) ∧ t.get 3 = some (.bool false) := by
  unfold strChk at h
  split at h
  · rename_i t n' e sz fz
    obtain ⟨h1, h⟩ := band_true h
    obtain ⟨h2, h⟩ := band_true h
    obtain ⟨h3, h⟩ := band_true h
    obtain ⟨h4, h⟩ := band_true h
    obtain ⟨h5, h⟩ := band_true h
    obtain ⟨h6, h⟩ := band_true h
    obtain ⟨h7, h⟩ := band_true h
    rw [Nat.eq_of_beq_eq_true h1, Nat.eq_of_beq_eq_true h2, Nat.eq_of_beq_eq_true h3, Nat.eq_of_beq_eq_true h4]
    exact ⟨t, rfl, slotIsV_is h5, slotIsV_is h6, slotIsV_is h7, slotIsV_is h⟩
  · cases h
theorem zerosT_get {n z i : Nat} {v : Value} (h : (zerosT n z).get i = some v) : v = zeroS z := by
  have h1 := ofL_get h
  have key : ∀ n (l : List Value), l = Nat.rec (motive := fun _ => List Value) [] (fun _ ih => zeroS z :: ih) n → ∀ (i : Nat) (v : Value), l[i]? = some v → v = zeroS z := by
    intro n
    induction n with
    | zero =>
      rintro l rfl i v h
      change ([] : List Value)[i]? = some v at h
      simp at h
    | succ n ih =>
      rintro l rfl i v h
      cases i with
      | zero => exact (Option.some.inj (show some (zeroS z) = some v from h)).symm
      | succ i => exact ih _ rfl i v h
  exact key n _ rfl i v h1
section
variable {P : Program} {cl0 : Cl}
theorem hookD_ok (h0 : ClOk P cl0) {g n z bt dt d m : Nat} (hc : diskChk n z bt dt d m (cl0 false g [.int .i64 (.ofNat n)] start) = true) (cl : Cl) (hcl : ClOk P cl) : ClOk P (hookD g n z bt dt cl) := by
  refine ⟨fun q vs s v s' h ρ w us hr hv => ?_, fun q vs s v s' h => hcl.yields q vs s v s' h⟩
  change Bool.rec (motive := fun _ => CR) (cl false q vs s) (Bool.rec (motive := fun _ => CR) (cl false q vs s) (diskV n z bt dt s) (isNum vs n)) (Nat.beq q g) = .ok v s' at h
  rcases hb : Nat.beq q g with _ | _
  · rw [hb] at h
    exact hcl.calls q vs s v s' h ρ w us hr hv
  rcases hn : isNum vs n with _ | _
  · rw [hb, hn] at h
    exact hcl.calls q vs s v s' h ρ w us hr hv
  rw [hb, hn] at h
  obtain rfl := Nat.eq_of_beq_eq_true hb
  change diskV n z bt dt s = .ok v s' at h
  have hvs : vs = [.int .i64 (.ofNat n)] := by
    unfold isNum at hn
    split at hn
    · rw [Nat.eq_of_beq_eq_true hn]
    · cases hn
  subst hvs
  obtain ⟨H, k⟩ := s
  change forceL k (fun k => CR.ok (.tuple #[.pointer (some ⟨Nat.succ k, 0, none⟩), .int .i64 (.ofNat 0)]) ⟨(H.set (.cells (zerosT n z) n bt 1 0) k).set (.cells (diskT k n) 4 dt 0 0) (Nat.succ k), Nat.succ (Nat.succ k)⟩) = .ok v s' at h
  rw [forceL_eq] at h
  simp only [CR.ok.injEq] at h
  obtain ⟨rfl, rfl⟩ := h
  unfold diskChk at hc
  split at hc
  rotate_left 1
  · cases hc
  rename_i v0 s0 hrun
  obtain ⟨c1, hc⟩ := band_true hc
  obtain ⟨c2, hc⟩ := band_true hc
  obtain ⟨c3, c4⟩ := band_true hc
  obtain ⟨t1, hm, hz⟩ := rowChk_is c3
  obtain ⟨t0, hd, g0, g1, g2, g3⟩ := strChk_is c4
  have hdm : d ≠ m := fun e => by
    rw [e, Nat.beq_refl] at c2
    cases c2
  obtain rfl := veq_eq c1
  have hus : AR (fun _ => (⟨0, 0, 0⟩ : Nm)) start.nx [Value.int .i64 (.ofNat n)].toArray us := by
    refine ⟨hv.1, fun i x y hx hy => ?_⟩
    have h1 := hv.2 i x y hx hy
    cases i with
    | zero =>
      obtain rfl := Option.some.inj (show some (Value.int .i64 (.ofNat n)) = some x by simpa using hx)
      cases h1
      exact .int _ _
    | succ i => simp at hx
  refine Calls.mono (h0.calls q _ start _ s0 hrun _ w us (start_sr _ w) hus) fun e w' he => ?_
  cases e with
  | panicked _ => exact he.elim
  | outgrown => exact he.elim
  | returned u =>
    obtain ⟨ρ', st, hu⟩ := he
    have fresh : ∀ j o, s0.h.get j = some o → w.heap.size ≤ (ρ' j).b := fun j o hj => by
      rcases st.liv j o hj with h1 | ⟨_, _, h1, _⟩
      · exact h1
      · cases h1
    have hblk : ∀ j, j < w.heap.size → w'.heap[j]? = w.heap[j]? := fun j hj => st.fr.block j hj (fun _ _ h1 => by cases h1)
    have om := (st.hr.obj m _ hm).2
    have od := (st.hr.obj d _ hd).2
    have fm := fresh m _ hm
    have fd := fresh d _ hd
    have hne : (ρ' m).b ≠ (ρ' d).b := fun e => hdm (st.hr.inj m d _ _ hm hd e).symm
    let ρ2 : Nat → Nm := upd (upd ρ k (ρ' m)) (k + 1) (ρ' d)
    have r0 : ρ2 k = ρ' m := by
      show upd (upd ρ k (ρ' m)) (k + 1) (ρ' d) k = _
      unfold upd
      rw [if_neg (by omega), if_pos rfl]
    have r1 : ρ2 (k + 1) = ρ' d := upd_at _ _ _
    have hx : Ext ρ k ρ2 (k + 2) := ⟨by omega, fun j hj => by
      show upd (upd ρ k (ρ' m)) (k + 1) (ρ' d) j = _
      unfold upd
      rw [if_neg (by omega), if_neg (by omega)]⟩
    have old : ∀ j o, H.get j = some o → j < k ∧ (ρ j).b < w.heap.size := fun j o hj => ⟨(hr.obj j o hj).1, hr.old hj⟩
    have get2 : ∀ j o, ((H.set (.cells (zerosT n z) n bt 1 0) k).set (.cells (diskT k n) 4 dt 0 0) (Nat.succ k)).get j = some o → (j = k + 1 ∧ o = .cells (diskT k n) 4 dt 0 0) ∨ (j = k ∧ o = .cells (zerosT n z) n bt 1 0) ∨ H.get j = some o := fun j o hj => by
      rcases set_get hj with ⟨h1, h2⟩ | ⟨_, h2⟩
      · exact .inl ⟨h1, h2⟩
      · rcases set_get h2 with ⟨h3, h4⟩ | ⟨_, h4⟩
        · exact .inr (.inl ⟨h3, h4⟩)
        · exact .inr (.inr h4)
    have blk : ∀ j o, ((H.set (.cells (zerosT n z) n bt 1 0) k).set (.cells (diskT k n) 4 dt 0 0) (Nat.succ k)).get j = some o → (j = k + 1 ∧ (ρ2 j).b = (ρ' d).b) ∨ (j = k ∧ (ρ2 j).b = (ρ' m).b) ∨ (H.get j = some o ∧ (ρ2 j).b = (ρ j).b) := fun j o hj => by
      rcases get2 j o hj with ⟨h1, _⟩ | ⟨h1, _⟩ | h1
      · exact .inl ⟨h1, by rw [h1, r1]⟩
      · exact .inr (.inl ⟨h1, by rw [h1, r0]⟩)
      · exact .inr (.inr ⟨h1, by rw [hx.2 j (old j o h1).1]⟩)
    refine ⟨ρ2, ⟨hx, ⟨fun j o hj => ?_, fun i j o1 o2 hi hj he => ?_⟩, ⟨st.fr.os, st.fr.tape, st.fr.output, st.fr.size, fun j hj _ => hblk j hj⟩, fun j o hj => ?_⟩, ?_⟩
    · rcases get2 j o hj with ⟨h1, h2⟩ | ⟨h1, h2⟩ | h1
      · subst h1 h2
        refine ⟨Nat.lt_succ_self _, ?_⟩
        rw [r1]
        obtain ⟨cs, fr, e0, e1, e2, e3, e4⟩ := od
        refine ⟨cs, fr, e0, e1, e2, fun i x hi hx => ?_, e4⟩
        have hx := ofL_get hx
        match i, hi with
        | 0, _ =>
          obtain rfl := Option.some.inj (show some (Value.slice (some ⟨k, 0, none⟩) n n) = some x by simpa using hx)
          obtain ⟨a, ha, hva⟩ := e3 0 _ (by omega) g0
          refine ⟨a, ha, ?_⟩
          cases hva with
          | sl _ _ _ _ _ =>
            have := VR.sl (ρ := ρ2) (nx := k + 2) k 0 n n (by omega)
            rw [r0] at this
            exact this
        | 1, _ =>
          obtain rfl := Option.some.inj (show some (Value.slice none 0 0) = some x by simpa using hx)
          obtain ⟨a, ha, hva⟩ := e3 1 _ (by omega) g1
          refine ⟨a, ha, ?_⟩
          cases hva
          exact .nilSl
        | 2, _ =>
          obtain rfl := Option.some.inj (show some (Value.int .i64 (.negSucc 0)) = some x by simpa using hx)
          obtain ⟨a, ha, hva⟩ := e3 2 _ (by omega) g2
          refine ⟨a, ha, ?_⟩
          cases hva
          exact .int _ _
        | 3, _ =>
          obtain rfl := Option.some.inj (show some (Value.bool false) = some x by simpa using hx)
          obtain ⟨a, ha, hva⟩ := e3 3 _ (by omega) g3
          refine ⟨a, ha, ?_⟩
          cases hva
          exact .bool _
      · subst h1 h2
        refine ⟨by show j < j + 2; omega, ?_⟩
        rw [r0]
        obtain ⟨cs, fr, e0, e1, e2, e3, e4⟩ := om
        refine ⟨cs, fr, e0, e1, e2, fun i x hi hx => ?_, e4⟩
        rw [zerosT_get hx]
        obtain ⟨a, ha, hva⟩ := e3 i _ hi (hz i hi)
        refine ⟨a, ha, ?_⟩
        unfold zeroS at hva ⊢
        cases hva
        exact .string _
      · have h2 := hr.obj j o h1
        refine ⟨Nat.lt_succ_of_lt (Nat.lt_succ_of_lt h2.1), ?_⟩
        rw [hx.2 j h2.1, hblk _ (hr.old h1)]
        exact h2.2.mono hx
    · rcases blk i o1 hi with ⟨a1, a2⟩ | ⟨a1, a2⟩ | ⟨a1, a2⟩ <;> rcases blk j o2 hj with ⟨b1, b2⟩ | ⟨b1, b2⟩ | ⟨b1, b2⟩ <;> rw [a2, b2] at he
      · omega
      · exact absurd he.symm hne
      · have := (old j o2 b1).2
        omega
      · exact absurd he hne
      · omega
      · have := (old j o2 b1).2
        omega
      · have := (old i o1 a1).2
        omega
      · have := (old i o1 a1).2
        omega
      · exact hr.inj i j o1 o2 a1 b1 he
    · rcases blk j o hj with ⟨a1, a2⟩ | ⟨a1, a2⟩ | ⟨a1, a2⟩
      · exact .inl (by rw [a2]; exact fd)
      · exact .inl (by rw [a2]; exact fm)
      · exact .inr ⟨j, o, a1, a2.symm⟩
    · cases hu with
      | tuple _ a' h1 ha =>
        refine .tuple _ _ h1 fun i x y hx hy => ?_
        match i, hx with
        | 0, hx =>
          obtain rfl := Option.some.inj (show some (Value.pointer (some ⟨Nat.succ k, 0, none⟩)) = some x by simpa using hx)
          have hp := ha 0 _ y rfl hy
          cases hp
          have := VR.ptr (ρ := ρ2) (nx := k + 2) (k + 1) 0 (by omega)
          rw [r1] at this
          exact this
        | 1, hx =>
          obtain rfl := Option.some.inj (show some (Value.int .i64 (.ofNat 0)) = some x by simpa using hx)
          have hp := ha 1 _ y rfl hy
          cases hp
          exact .int _ _
        | i + 2, hx => simp at hx
end
end Go.Proofs.YthdjicolicokcaaGreatDoor.Ev
namespace Go.Proofs.YthdjicolicokcaaGreatDoor.Ev
open Go Go.RowKit
section
variable {P : Program}
noncomputable def stays (G : Nat) (v : Value) (e : TypeId) (a : Option AO) : Bool := match a with
  | some (.const b (.cells cs e' fr)) => match cs.toList with
    | [u] => band (Nat.beq b G) (band (veq u v) (band (Nat.beq e' e) (band (Nat.beq fr.1 0) (Nat.beq fr.2 0))))
    | _ => false
  | _ => false
end
end Go.Proofs.YthdjicolicokcaaGreatDoor.Ev
namespace Go.Proofs.YthdjicolicokcaaGreatDoor.Ev
open Go Go.RowKit
noncomputable def crcBit (y : Nat) : Nat := Nat.xor (Nat.mod (Nat.mul y 2) 4294967296) (Nat.mod (Nat.mul (Nat.div y 2147483648) 79764919) 4294967296)
noncomputable def crcBits (n y : Nat) : Nat := Nat.rec (motive := fun _ => Nat) y (fun _ ih => crcBit ih) n
noncomputable def crcByte (y b : Nat) : Nat := crcBits 8 (Nat.xor y (Nat.mod (Nat.mul b 16777216) 4294967296))
noncomputable def crcL (l : List UInt8) : Nat → Nat := List.rec (motive := fun _ => Nat → Nat) (fun y => y) (fun b _ ih y => ih (crcByte y (UInt8.toNat b))) l
noncomputable def crcBitsF (n : Nat) : Nat → (Nat → CR) → CR := Nat.rec (motive := fun _ => Nat → (Nat → CR) → CR) (fun y k => k y) (fun _ ih y k => forceL (crcBit y) (fun y => ih y k)) n
noncomputable def crcGo (l : List UInt8) : Nat → (Nat → CR) → CR := List.rec (motive := fun _ => Nat → (Nat → CR) → CR) (fun y k => k y) (fun b _ ih y k => forceL (Nat.xor y (Nat.mod (Nat.mul (UInt8.toNat b) 16777216) 4294967296)) (fun y => crcBitsF 8 y (fun y => ih y k))) l
theorem crcBits_bit (y : Nat) : ∀ n, crcBits n (crcBit y) = crcBit (crcBits n y)
  | 0 => rfl
  | n + 1 => congrArg crcBit (crcBits_bit y n)
theorem crcBitsF_eq : ∀ (n y : Nat) (k : Nat → CR), crcBitsF n y k = k (crcBits n y)
  | 0, y, k => rfl
  | n + 1, y, k => by
    show forceL (crcBit y) (fun y => crcBitsF n y k) = _
    rw [forceL_eq, crcBitsF_eq n, crcBits_bit]
    rfl
theorem crcGo_eq : ∀ (l : List UInt8) (y : Nat) (k : Nat → CR), crcGo l y k = k (crcL l y)
  | [], y, k => rfl
  | b :: l, y, k => by
    show forceL (Nat.xor y (Nat.mod (Nat.mul (UInt8.toNat b) 16777216) 4294967296)) (fun y => crcBitsF 8 y (fun y => crcGo l y k)) = _
    rw [forceL_eq, crcBitsF_eq, crcGo_eq l]
    rfl
noncomputable def crcV (slow : CR) (vs : List Value) (s : St) : CR := match vs with
  | [.int .u32 (.ofNat x), .string b] => Bool.rec (motive := fun _ => CR) slow (crcGo b.data.toList x (fun r => .ok (.int .u32 (.ofNat r)) s)) (band (Nat.ble (Nat.succ x) 4294967296) (Nat.ble b.size 1048576))
  | _ => slow
noncomputable def hookC (g : Nat) (cl : Cl) : Cl := fun y q vs s => Bool.rec (motive := fun _ => CR) (Bool.rec (motive := fun _ => CR) (cl false q vs s) (crcV (cl false q vs s) vs s) (Nat.beq q g)) (cl true q vs s) y
def CrcC (P : Program) (g : Nat) : Prop := ∀ (x : Nat) (s : ByteArray) (w : World), x < 4294967296 → s.size ≤ 1048576 →
  Calls P g #[.int .u32 x, .string s] w fun e w' => e = .returned (.int .u32 (crcL s.data.toList x)) ∧ Below w.heap.size w w'
theorem hookC_ok {P : Program} {g : Nat} (C : CrcC P g) (cl : Cl) (hcl : ClOk P cl) : ClOk P (hookC g cl) := by
  refine ⟨fun q vs s v s' h ρ w us hr hv => ?_, fun q vs s v s' h => hcl.yields q vs s v s' h⟩
  change Bool.rec (motive := fun _ => CR) (cl false q vs s) (crcV (cl false q vs s) vs s) (Nat.beq q g) = .ok v s' at h
  rcases hb : Nat.beq q g with _ | _
  · rw [hb] at h
    exact hcl.calls q vs s v s' h ρ w us hr hv
  · rw [hb] at h
    obtain rfl := Nat.eq_of_beq_eq_true hb
    change crcV (cl false q vs s) vs s = .ok v s' at h
    unfold crcV at h
    split at h
    · rename_i x b
      rcases hc : band (Nat.ble (Nat.succ x) 4294967296) (Nat.ble b.size 1048576) with _ | _
      · rw [hc] at h
        exact hcl.calls q _ s v s' h ρ w us hr hv
      · rw [hc] at h
        obtain ⟨c1, c2⟩ := bandT hc
        change crcGo b.data.toList x (fun r => .ok (.int .u32 (.ofNat r)) s) = .ok v s' at h
        rw [crcGo_eq] at h
        simp only [CR.ok.injEq] at h
        obtain ⟨rfl, rfl⟩ := h
        have hus : us = #[.int .u32 (.ofNat x), .string b] := by
          have h2 : us.size = 2 := hv.1.symm
          obtain ⟨u0, h0⟩ := arr_get (a := us) (i := 0) (by omega)
          obtain ⟨u1, h1⟩ := arr_get (a := us) (i := 1) (by omega)
          have e0 : u0 = .int .u32 (.ofNat x) := by
            have := hv.2 0 (.int .u32 (.ofNat x)) u0 rfl h0
            cases this
            rfl
          have e1 : u1 = .string b := by
            have := hv.2 1 (.string b) u1 rfl h1
            cases this
            rfl
          subst e0 e1
          apply Array.ext
          · exact h2
          · intro i h3 h4
            match i, h3 with
            | 0, _ => rw [Array.getElem?_eq_getElem (by omega)] at h0; exact Option.some.inj h0
            | 1, _ => rw [Array.getElem?_eq_getElem (by omega)] at h1; exact Option.some.inj h1
            | i + 2, h3 => omega
        subst hus
        refine Calls.mono (C x b w (Nat.le_of_ble_eq_true c1) (Nat.le_of_ble_eq_true c2)) fun e w' ⟨h1, h2⟩ => ?_
        subst h1
        exact ⟨ρ, step_below (Step.refl hr) h2, .int _ _⟩
    · exact hcl.calls q _ s v s' h ρ w us hr hv
end Go.Proofs.YthdjicolicokcaaGreatDoor.Ev
namespace Go.Proofs.YthdjicolicokcaaGreatDoor.Ev
open Go Go.RowKit
def fstC (c : Code) : Code := match c with
  | .seq x _ => x
  | c => c
def sndC (c : Code) : Code := match c with
  | .seq _ y => y
  | c => c
def regOf (c : Code) : Nat × Array Oper × Bool := match c with
  | .region i ops d => (i, ops, d)
  | _ => (0, #[], false)
def bodyOf (P : Program) (g : Nat) : Code := match P.funcs[g]? with
  | some fn => match fn.body with
    | some c => c
    | none => .skip
  | none => .skip
def regs : Nat → Code → List (Nat × Array Oper × Bool)
  | 0, _ => []
  | k + 1, c => regOf (fstC c) :: regs k (sndC c)
def rest : Nat → Code → Code
  | 0, c => c
  | k + 1, c => rest k (sndC c)
def regsC : List (Nat × Array Oper × Bool) → Code → Code
  | [], t => t
  | r :: rs, t => .seq (.region r.1 r.2.1 r.2.2) (regsC rs t)
section
variable (P : Program) (cl : Cl) (N : Nat)
noncomputable def xReg (r : Nat × Array Oper × Bool) (f : T Value) (s : St) : R := Bool.rec (motive := fun _ => R) (xOps P cl N r.2.1 r.2.1.toList f s) (xDraw P false cl N r.2.1 f s) r.2.2
noncomputable def xRegs (rs : List (Nat × Array Oper × Bool)) : T Value → St → R := List.rec (motive := fun _ => T Value → St → R) (fun f s => .normal f s) (fun r _ ih f s => R.rec (motive := fun _ => R) (fun n => .fail n) ih (fun f s => .ret f s) (fun i f s => .exit i f s) (xReg P cl N r f s)) rs
noncomputable def drawsR (rs : List (Nat × Array Oper × Bool)) : Bool := List.rec (motive := fun _ => Bool) true (fun r _ ih => band (Bool.rec (motive := fun _ => Bool) true (drawOk P N r.2.1) r.2.2) ih) rs
end
noncomputable def slotR (r : R) (i : Nat) : Option Value := R.rec (motive := fun _ => Option Value) (fun _ => none) (fun f _ => f.get i) (fun _ _ => none) (fun _ _ _ => none) r
section
variable {P : Program} {cl : Cl} {N : Nat}
theorem reg_ok (hcl : ClOk P cl) (hm : P.follows .mixedOrders = true) {r : Nat × Array Oper × Bool} {f : T Value} {s : St} {ρ : Nat → Nm} {w : World} {a : Act} {ds : List Deferred} (hd : Bool.rec (motive := fun _ => Bool) true (drawOk P N r.2.1) r.2.2 = true)
    (hr : SR ρ s w) (hf : Fits ρ N ds s.nx f a) (hok : (xReg P cl N r f s).ok) : (Code.region r.1 r.2.1 r.2.2).wpIn (fz none) 0 P (EndR N ds ρ s w (xReg P cl N r f s)) a w := by
  obtain ⟨id, ops, draw⟩ := r
  cases draw with
  | false =>
    change (xOps P cl N ops ops.toList f s).ok at hok
    have := xOps_ok hcl (ro := none) (ds := ds) (ρ0 := ρ) (s0 := s) (w0 := w) ops.toList 0 ops.size (by simp) (by simp) f s ρ w a (Step.refl hr) hf hok
    rw [← List.range_eq_range'] at this
    exact wpIn_region this
  | true => exact xDraw_ok (chk := false) (ops := ops) hcl hm (Step.refl hr) hf (fun _ => hd) hok
theorem regs_ok (hcl : ClOk P cl) (hm : P.follows .mixedOrders = true) {t : Code} {Q : Exit → Act → World → Prop} : ∀ (rs : List (Nat × Array Oper × Bool)) {f : T Value} {s : St} {ρ : Nat → Nm} {w : World} {a : Act} {ds : List Deferred}, drawsR P N rs = true →
    SR ρ s w → Fits ρ N ds s.nx f a → ∀ {f1 : T Value} {s1 : St}, xRegs P cl N rs f s = .normal f1 s1 →
    (∀ ρ1 w1 a1, SStep ρ s w ρ1 s1 w1 → Fits ρ1 N ds s1.nx f1 a1 → t.wpIn (fz none) 0 P Q a1 w1) → (regsC rs t).wpIn (fz none) 0 P Q a w
  | [], f, s, ρ, w, a, ds, _, hr, hf, f1, s1, h, ht => by
    have h : R.normal f s = .normal f1 s1 := h
    injection h with h1 h2
    subst h1 h2
    exact ht ρ w a (Step.refl hr) hf
  | r :: rs, f, s, ρ, w, a, ds, hd, hr, hf, f1, s1, h, ht => by
    obtain ⟨hd1, hd2⟩ := band_true (show band _ (drawsR P N rs) = true from hd)
    refine wpIn_seq ?_
    have h : R.rec (motive := fun _ => R) (fun n => .fail n) (xRegs P cl N rs) (fun f s => .ret f s) (fun i f s => .exit i f s) (xReg P cl N r f s) = .normal f1 s1 := h
    rcases hx : xReg P cl N r f s with n | ⟨f2, s2⟩ | ⟨f2, s2⟩ | ⟨i, f2, s2⟩
    · rw [hx] at h
      cases h
    · rw [hx] at h
      refine wpIn_mono (reg_ok hcl hm hd1 hr hf (by rw [hx]; trivial)) fun e a2 w2 he => ?_
      rw [hx] at he
      cases e with
      | normal =>
        obtain ⟨ρ2, st, hf2⟩ := he
        exact regs_ok hcl hm rs hd2 st.hr hf2 h fun ρ1 w1 a1 st1 hf1 => ht ρ1 w1 a1 (st.trans st1) hf1
      | _ => exact he.elim
    · rw [hx] at h
      cases h
    · rw [hx] at h
      cases h
theorem fits_start {ρ : Nat → Nm} {nx : Nat} {vs : List Value} {us : Array Value} (hv : AR ρ nx vs.toArray us) (hle : vs.length ≤ N) : Fits ρ N [] nx (ofL vs) { tmps := us ++ Array.replicate (N - us.size) undef, defers := [] } := by
  have hsz : us.size = vs.length := by simpa using hv.1.symm
  refine ⟨fun t x hx => ?_, by simp; omega, rfl⟩
  have h1 := ofL_get hx
  obtain ⟨u, hu, hvu⟩ := hv.at (i := t) (x := x) (by simpa using h1)
  refine ⟨u, ?_, hvu⟩
  show (us ++ Array.replicate (N - us.size) undef)[t]? = some u
  rw [Array.getElem?_append, if_pos (arr_lt hu)]
  exact hu
theorem slot_at {r : R} {f1 : T Value} {s1 : St} (hr : r = .normal f1 s1) {i : Nat} {v : Value} (hs : slotR r i = some v) (hfl : flat v = true) {ρ : Nat → Nm} {ds : List Deferred} {nx : Nat} {a : Act} (hf : Fits ρ N ds nx f1 a) : a.tmps[i]? = some v := by
  rw [hr] at hs
  obtain ⟨u, h1, h2⟩ := hf.fr i v hs
  rw [h1, flat_eq hfl h2]
noncomputable def isNormal (r : R) : Bool := R.rec (motive := fun _ => Bool) (fun _ => false) (fun _ _ => true) (fun _ _ => false) (fun _ _ _ => false) r
theorem isNormal_is {r : R} (h : isNormal r = true) : ∃ f s, r = .normal f s := by
  cases r with
  | normal f s => exact ⟨f, s, rfl⟩
  | _ => cases h
end
theorem calls_regs {P : Program} {cl : Cl} (hcl : ClOk P cl) (hm : P.follows .mixedOrders = true) {g : Nat} {fn : Func} {c : Code} {k : Nat} {vs : List Value} {us : Array Value} {w : World} {R : Ending → World → Prop} (hfn : P.funcs[g]? = some fn) (hb : fn.body = some c)
    (hc : regsC (regs k c) (rest k c) = c) (hd : drawsR P fn.ntmps (regs k c) = true) (hle : vs.length ≤ fn.ntmps) (hv : AR (fun _ => ⟨0, 0, 0⟩) 0 vs.toArray us) (hn : isNormal (xRegs P cl fn.ntmps (regs k c) (ofL vs) start) = true)
    (ht : ∀ a w1, Below w.heap.size w w1 → a.tmps.size = fn.ntmps → a.defers = [] → (∀ i v, slotR (xRegs P cl fn.ntmps (regs k c) (ofL vs) start) i = some v → flat v = true → a.tmps[i]? = some v) → (rest k c).wp P (bodyPost P fn R) a w1) : Calls P g us w R := by
  obtain ⟨f1, s1, hx⟩ := isNormal_is hn
  refine callsIn_wide.1 (callsIn_of_wp (F := Fence.wide) (n := 0) hfn hb trivial ?_ rfl)
  have := regs_ok (Q := bodyPost P fn R) hcl hm (t := rest k c) (regs k c) hd (start_sr _ w) (fits_start hv hle) hx fun ρ1 w1 a1 st hf =>
    wpIn_wide.2 (ht a1 w1 ⟨st.fr.os, st.fr.tape, st.fr.output, st.fr.size, fun k hk => st.fr.block k hk (fun n o hn => by cases hn)⟩ hf.size hf.defers fun i v h1 h2 => slot_at hx h1 h2 hf)
  rw [hc] at this
  exact this
end Go.Proofs.YthdjicolicokcaaGreatDoor.Ev
namespace Go.Proofs.YthdjicolicokcaaGreatDoor
open Go Go.RowKit
end Go.Proofs.YthdjicolicokcaaGreatDoor
