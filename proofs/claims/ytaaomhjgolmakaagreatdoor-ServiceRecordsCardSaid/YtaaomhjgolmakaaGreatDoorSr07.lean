/-
  An evaluator for closed runs: code and calls are right.
  An evaluator for closed runs: functions and rounds of loops are right; a closed run that comes to true.
  An evaluator for closed runs: a call that is told by the library's contract: strings.Repeat.
  An evaluator for closed runs: disk.New, told by a run of its own.
  An evaluator for closed runs: service.number of a step, told by its contract; a block that is known whole.
  An evaluator for closed runs: sum.Crc, told by its contract.
  octet.Fixed at eight bytes, octet.Number, service.Record, service.Split: what they hand back.
  The document's record: billetref01.Fixed at eight bytes, billetref38.Record; billetref28.Parts of nine blocks.
  sum.Crc: the walk.
  The block of errors.errorType, whole.
  service.number of an error: the walk of errors.As down a step to its fault.
  strings.Repeat by the shelf's contract, laid at this program.
-/
import Derived.Test.YtaaomhjgolmakaaGreatDoorSr06
import Derived.Below
import Derived.Carry
import Derived.Lib.RepeatB
import Derived.Test.YtaaomhjgolmakaaGreatDoorSr01
import Derived.Deep.LoopGhost
import Derived.Deep.DeepCutAuto
import Derived.IntWalk
import Derived.KernelRfl
import Derived.WalkKit
import Derived.LaidEql
import Derived.Stop.Asserts
import Derived.RowKitTokens
import Derived.Deep.MidRow
import Derived.Shelf.Strings.Repeat
namespace Go.Proofs.YtaaomhjgolmakaaGreatDoor.Ev
open Go
def End (N b0 : Nat) (ρ : Nat → Nm) (s : St) (w : World) (r : R) (e : Exit) (a : Act) (w' : World) : Prop := match r, e with
  | .normal f s', .normal => ∃ ρ' ds, SStep ρ s w ρ' s' w' ∧ Fits ρ' N ds s'.nx f a ∧ Mk b0 ρ' s'.h.get w' ds
  | .ret f s', .ret => ∃ ρ' ds, SStep ρ s w ρ' s' w' ∧ Fits ρ' N ds s'.nx f a ∧ Mk b0 ρ' s'.h.get w' ds
  | .exit i f s', .exit j => i = j ∧ ∃ ρ' ds, SStep ρ s w ρ' s' w' ∧ Fits ρ' N ds s'.nx f a ∧ Mk b0 ρ' s'.h.get w' ds
  | _, _ => False
section
variable {P : Program} {cl : Cl} {N fuel b0 : Nat} {ro : Option Nat} {ρ0 : Nat → Nm} {s0 : St} {w0 : World}
theorem End.back {ρ : Nat → Nm} {s : St} {w : World} {r : R} {e : Exit} {a : Act} {w' : World} (st : SStep ρ0 s0 w0 ρ s w) (h : End N b0 ρ s w r e a w') : End N b0 ρ0 s0 w0 r e a w' := by
  unfold End at h ⊢
  split at h
  · obtain ⟨ρ', ds, h1, h2⟩ := h
    exact ⟨ρ', ds, st.trans h1, h2⟩
  · obtain ⟨ρ', ds, h1, h2⟩ := h
    exact ⟨ρ', ds, st.trans h1, h2⟩
  · obtain ⟨h0, ρ', ds, h1, h2⟩ := h
    exact ⟨h0, ρ', ds, st.trans h1, h2⟩
  · exact h.elim
theorem EndR.whole {ds : List Deferred} {ρ : Nat → Nm} {s : St} {w : World} {r : R} {e : Exit} {a : Act} {w' : World} (hm : Mk b0 ρ s.h.get w ds) (h : EndR N ds ρ s w r e a w') : End N b0 ρ s w r e a w' := by
  unfold EndR at h
  split at h
  · obtain ⟨ρ', h1, h2⟩ := h
    exact ⟨ρ', ds, h1, h2, hm.step h1⟩
  · exact h.elim
def KOk (P : Program) (ro : Option Nat) (N b0 : Nat) (c : Code) (k : T Value → St → R) : Prop :=
  ∀ (f : T Value) (s : St) (ρ : Nat → Nm) (w : World) (a : Act) (ds : List Deferred), SR ρ s w → Fits ρ N ds s.nx f a → Mk b0 ρ s.h.get w ds → b0 ≤ w.heap.size → (k f s).ok → c.wpIn (fz ro) 0 P (End N b0 ρ s w (k f s)) a w
theorem seq_ok {x y : Code} {kx ky : T Value → St → R} (hx : KOk P ro N b0 x kx) (hy : KOk P ro N b0 y ky) : KOk P ro N b0 (.seq x y) (fun f s => R.rec (motive := fun _ => R) (fun n => .fail n) ky (fun f s => .ret f s) (fun i f s => .exit i f s) (kx f s)) := fun f s ρ w a ds hr hf hmk hb0 hok => by
  refine wpIn_seq ?_
  rcases h1 : kx f s with n | ⟨f1, s1⟩ | ⟨f1, s1⟩ | ⟨i, f1, s1⟩
  · simp only [h1] at hok
    exact hok.elim
  · have hok1 : (kx f s).ok := by rw [h1]; trivial
    simp only [h1] at hok ⊢
    refine wpIn_mono (hx f s ρ w a ds hr hf hmk hb0 hok1) fun e a1 w1 he => ?_
    rw [h1] at he
    cases e with
    | normal =>
      obtain ⟨ρ1, ds1, st, hf1, hmk1⟩ := he
      exact wpIn_mono (hy f1 s1 ρ1 w1 a1 ds1 st.hr hf1 hmk1 (Nat.le_trans hb0 st.fr.size) hok) fun e2 a2 w2 he2 => he2.back st
    | _ => exact he.elim
  · have hok1 : (kx f s).ok := by rw [h1]; trivial
    simp only [h1] at hok ⊢
    refine wpIn_mono (hx f s ρ w a ds hr hf hmk hb0 hok1) fun e a1 w1 he => ?_
    rw [h1] at he
    cases e with
    | ret => exact he
    | _ => exact he.elim
  · have hok1 : (kx f s).ok := by rw [h1]; trivial
    simp only [h1] at hok ⊢
    refine wpIn_mono (hx f s ρ w a ds hr hf hmk hb0 hok1) fun e a1 w1 he => ?_
    rw [h1] at he
    cases e with
    | exit j => exact he
    | _ => exact he.elim
theorem cond_ok {c : Operand} {x y : Code} {kx ky : T Value → St → R} (hx : KOk P ro N b0 x kx) (hy : KOk P ro N b0 y ky) : KOk P ro N b0 (.cond c x y) (fun f s => onO 153 (ev c f) (fun v => onBool v (fun b => Bool.rec (motive := fun _ => R) (ky f s) (kx f s) b))) := fun f s ρ w a ds hr hf hmk hb0 hok => by
  rcases hc : ev c f with _ | v
  · simp only [hc] at hok
    exact hok.elim
  · simp only [hc] at hok ⊢
    cases v with
    | bool b =>
      have hv := evO_sound hf.fr (ev_eq hc)
      obtain ⟨u, hu⟩ : ∃ u, a.eval c = u := ⟨_, rfl⟩
      rw [hu] at hv
      cases hv
      cases b
      · exact wpIn_cond hu (hy f s ρ w a ds hr hf hmk hb0 hok)
      · exact wpIn_cond hu (hx f s ρ w a ds hr hf hmk hb0 hok)
    | _ => exact hok.elim
theorem block_ok {id : Nat} {x : Code} {kx : T Value → St → R} (hx : KOk P ro N b0 x kx) : KOk P ro N b0 (.block id x) (fun f s => R.rec (motive := fun _ => R) (fun n => .fail n) (fun f s => .normal f s) (fun f s => .ret f s) (fun i f s => Bool.rec (motive := fun _ => R) (.exit i f s) (.normal f s) (Nat.beq i id)) (kx f s)) := fun f s ρ w a ds hr hf hmk hb0 hok => by
  refine wpIn_block ?_
  rcases h1 : kx f s with n | ⟨f1, s1⟩ | ⟨f1, s1⟩ | ⟨i, f1, s1⟩
  · simp only [h1] at hok
    exact hok.elim
  · have hok1 : (kx f s).ok := by rw [h1]; trivial
    simp only [h1] at hok ⊢
    refine wpIn_mono (hx f s ρ w a ds hr hf hmk hb0 hok1) fun e a1 w1 he => ?_
    rw [h1] at he
    cases e with
    | normal => exact he
    | _ => exact he.elim
  · have hok1 : (kx f s).ok := by rw [h1]; trivial
    simp only [h1] at hok ⊢
    refine wpIn_mono (hx f s ρ w a ds hr hf hmk hb0 hok1) fun e a1 w1 he => ?_
    rw [h1] at he
    cases e with
    | ret => exact he
    | _ => exact he.elim
  · have hok1 : (kx f s).ok := by rw [h1]; trivial
    simp only [h1] at hok ⊢
    refine wpIn_mono (hx f s ρ w a ds hr hf hmk hb0 hok1) fun e a1 w1 he => ?_
    rw [h1] at he
    cases e with
    | exit j =>
      obtain ⟨rfl, he⟩ := he
      show (if i = id then _ else _ : Prop)
      rcases hb : Nat.beq i id with _ | _
      · rw [if_neg (fun e => by rw [e, Nat.beq_refl] at hb; cases hb)]
        exact ⟨rfl, he⟩
      · rw [if_pos (Nat.eq_of_beq_eq_true hb)]
        exact he
    | _ => exact he.elim
noncomputable def rounds (kx : T Value → St → R) (n : Nat) : T Value → St → R := Nat.rec (motive := fun _ => T Value → St → R) (fun _ _ => .fail 154) (fun _ lp f s => R.rec (motive := fun _ => R) (fun n => .fail n) lp (fun f s => .ret f s) (fun i f s => .exit i f s) (kx f s)) n
theorem rounds_ok {x : Code} {kx : T Value → St → R} (hx : KOk P ro N b0 x kx) : ∀ (n : Nat) (f : T Value) (s : St) (ρ : Nat → Nm) (w : World) (a : Act) (ds : List Deferred), SR ρ s w → Fits ρ N ds s.nx f a → Mk b0 ρ s.h.get w ds → b0 ≤ w.heap.size → (rounds kx n f s).ok → ∀ (b : Frame) (k : List Item) (cs : List Frame), b.roundOf = (fz ro).round →
    ∃ e a' w', End N b0 ρ s w (rounds kx n f s) e a' w' ∧ ArrivesIn (Machine.fenced P (fz ro)) P (lone (b.atR a (.code x :: .inLoop x :: k)) cs w) b k cs e a' w'
  | 0, f, s, ρ, w, a, ds, hr, hf, hmk, hb0, hok, b, k, cs, hro => hok.elim
  | n + 1, f, s, ρ, w, a, ds, hr, hf, hmk, hb0, hok, b, k, cs, hro => by
    have hroom : (fz ro).room (cs.length + 1 + 0) := room_wide _
    change (R.rec (motive := fun _ => R) (fun n => .fail n) (rounds kx n) (fun f s => .ret f s) (fun i f s => .exit i f s) (kx f s)).ok at hok
    show ∃ e a' w', End N b0 ρ s w (R.rec (motive := fun _ => R) (fun n => .fail n) (rounds kx n) (fun f s => .ret f s) (fun i f s => .exit i f s) (kx f s)) e a' w' ∧ _
    rcases h1 : kx f s with m | ⟨f1, s1⟩ | ⟨f1, s1⟩ | ⟨i, f1, s1⟩
    · rw [h1] at hok
      exact hok.elim
    · have hok1 : (kx f s).ok := by rw [h1]; trivial
      obtain ⟨e1, a1, w1, he, harr⟩ := hx f s ρ w a ds hr hf hmk hb0 hok1 b (.inLoop x :: k) cs hro trivial hroom
      rw [h1] at hok he
      cases e1 with
      | normal =>
        obtain ⟨ρ1, ds1, st, hf1, hmk1⟩ := he
        obtain ⟨e2, a2, w2, he2, harr2⟩ := rounds_ok hx n f1 s1 ρ1 w1 a1 ds1 st.hr hf1 hmk1 (Nat.le_trans hb0 st.fr.size) hok b k cs hro
        exact ⟨e2, a2, w2, he2.back st, .of_steps (StepsIn.trans harr (.one (fenced_calm (F := fz ro) (n := 0) trivial hroom rfl) stepR_inLoop)) harr2⟩
      | _ => exact he.elim
    · have hok1 : (kx f s).ok := by rw [h1]; trivial
      obtain ⟨e1, a1, w1, he, harr⟩ := hx f s ρ w a ds hr hf hmk hb0 hok1 b (.inLoop x :: k) cs hro trivial hroom
      rw [h1] at he
      cases e1 with
      | ret => exact ⟨.ret, a1, w1, he, .pass (x := .inLoop x) rfl (fun _ _ => .inl (by simp)) harr⟩
      | _ => exact he.elim
    · have hok1 : (kx f s).ok := by rw [h1]; trivial
      obtain ⟨e1, a1, w1, he, harr⟩ := hx f s ρ w a ds hr hf hmk hb0 hok1 b (.inLoop x :: k) cs hro trivial hroom
      rw [h1] at he
      cases e1 with
      | exit j => exact ⟨.exit j, a1, w1, he, .pass (x := .inLoop x) rfl (fun _ _ => .inl (by simp)) harr⟩
      | _ => exact he.elim
theorem loop_ok {x : Code} {kx : T Value → St → R} (hx : KOk P ro N b0 x kx) (n : Nat) : KOk P ro N b0 (.loop x) (rounds kx n) := fun f s ρ w a ds hr hf hmk hb0 hok b k cs hro hb hroom => by
  obtain ⟨e, a', w', h1, h2⟩ := rounds_ok hx n f s ρ w a ds hr hf hmk hb0 hok b k cs hro
  exact ⟨e, a', w', h1, .of_steps (.one (fenced_calm hb hroom rfl) stepR_loop) h2⟩
theorem rangeF_ok (hcl : ClOk P cl) {g : Operand} {ps : Array Tmp} {asg bd : Code} : KOk P none N b0 (.rangeFunc g ps asg bd) (xRangeF P cl N g ps asg bd) := fun f s ρ w a ds hr hf hmk hb0 hok => by
  have key : W (fun r => (Code.rangeFunc g ps asg bd).wpIn (fz none) 0 P (End N b0 ρ s w r) a w) (xRangeF P cl N g ps asg bd f s) := by
    refine onO_w fun v hv => onFun_w (fun G fs cs hg => newS_w (onB_w fun hen => ?_)) (fun _ _ _ _ => W.fail 212)
    subst hg
    intro hok
    unfold onCR at hok ⊢
    rcases hc : cl false G (app fs.toList (.func (.yield s.nx) #[] #[] :: cs.toList)) (s.new (.loop f N ps asg bd)) with n | ⟨u, s2⟩
    · rw [hc] at hok
      exact hok.elim
    · rw [hc] at hok
      refine onLoop_w (G := fun r => (Code.rangeFunc g ps asg bd).wpIn (fz none) 0 P (End N b0 ρ s w r) a w) (fun f2 N2 ps2 as2 bd2 hl _ => ?_) hok
      have hq := evO_sound hf.fr (ev_eq hv)
      obtain ⟨y, hy⟩ : ∃ y, a.eval g = y := ⟨_, rfl⟩
      rw [hy] at hq
      cases hq with
      | func _ _ _ fs' cs' _ z1 z2 hfa hca =>
        have ha0 : (wa w).heap.size = w.heap.size + 1 := by simp [wa]
        refine wpIn_rangeFunc fun fn _ => ?_
        have sta : SStep ρ s w ρ s (wa w) := step_push (Step.refl hr) _
        have hx := upd_ext ρ s.nx ⟨(wa w).heap.size, 0, 0⟩
        have st1 : SStep ρ s w (upd ρ s.nx ⟨(wa w).heap.size, 0, 0⟩) (s.new (.loop f N ps asg bd)) (wl w fn a.tmps ps asg bd) :=
          (sta.trans (sta.hr.new _ (.loop f N ps asg bd) ⟨rfl, fn, a.tmps, w.heap.size, rfl, hf.size, fun t v hv => by
            obtain ⟨u, g1, g2⟩ := hf.fr t v hv
            exact ⟨u, g1, g2.mono hx⟩⟩)).less get_updH
        have hyv : VR (upd ρ s.nx ⟨(wa w).heap.size, 0, 0⟩) (s.nx + 1) (.func (.yield s.nx) #[] #[]) (.func (.yield (wa w).heap.size) #[] #[]) := by
          have := VR.yieldF (ρ := upd ρ s.nx ⟨(wa w).heap.size, 0, 0⟩) (nx := s.nx + 1) s.nx (Nat.lt_succ_self _)
          rw [upd_at] at this
          exact this
        have hmk1 : Mk b0 (upd ρ s.nx ⟨(wa w).heap.size, 0, 0⟩) (s.new (.loop f N ps asg bd)).h.get (wl w fn a.tmps ps asg bd) ({ target := .collected w.heap.size, args := #[] } :: ds) := by
          refine ⟨⟨w.heap.size, rfl, hb0, ?_, fun n o hn he => ?_, fun e he hte => ?_⟩, hmk.step st1⟩
          · show ((wa w).heap.push _)[w.heap.size]? = _
            rw [push_old _ _ (by omega)]
            show (w.heap.push (.deferred (some [])))[w.heap.size]? = _
            rw [Array.getElem?_push, if_pos rfl]
          · rcases updH_get (get_updH n o hn) with ⟨rfl, _⟩ | ⟨_, hn⟩
            · rw [upd_at] at he
              simp only at he
              omega
            · rw [hx.2 n (hr.obj n o hn).1] at he
              have := hr.old hn
              omega
          · have := hmk.lt e he _ hte
            omega
        refine ⟨(wa w).heap.size, _, wl w fn a.tmps ps asg bd, { target := .fn (.func G) cs', args := fs' ++ #[.func (.yield (wa w).heap.size) #[] #[]] }, wl w fn a.tmps ps asg bd, G, fs' ++ #[.func (.yield (wa w).heap.size) #[] #[]] ++ cs', wl w fn a.tmps ps asg bd, enterLoop_run fn a.tmps ps asg bd, ?_, fun _ _ => trivial, ?_, fun h => (by cases h), ?_⟩
        · unfold resolve
          simp only [hy]
          rw [show Array.map a.eval #[Operand.const (Value.func (Fn.yield (wa w).heap.size) #[] #[])] = #[Value.func (Fn.yield (wa w).heap.size) #[] #[]] from by simp [Act.eval]]
          rfl
        · exact callFunc_run hen (fs' ++ #[.func (.yield (wa w).heap.size) #[] #[]] ++ cs') _
        · have har : AR (upd ρ s.nx ⟨(wa w).heap.size, 0, 0⟩) (s.nx + 1) (app fs.toList (.func (.yield s.nx) #[] #[] :: cs.toList)).toArray (fs' ++ #[.func (.yield (wa w).heap.size) #[] #[]] ++ cs') := by
            have h5 := ((AR.mono hx ⟨z1, hfa⟩).append (AR.one hyv)).append (AR.mono hx ⟨z2, hca⟩)
            have e : (app fs.toList (.func (.yield s.nx) #[] #[] :: cs.toList)).toArray = fs ++ #[.func (.yield s.nx) #[] #[]] ++ cs := by
              rw [app_eq]
              apply Array.ext'
              simp
            rw [e]
            exact h5
          have hcall := hcl.calls G _ _ _ _ hc _ _ _ st1.hr har
          have h2 : CallsIn (fz none) (0 - 1) P G _ _ _ := callsIn_wide.2 hcall
          refine CallsIn.mono h2 fun e w3 he => ?_
          cases e with
          | returned u' =>
            obtain ⟨ρ2, st2, _⟩ := he
            obtain ⟨hlx, hs0, r, hr1, hr2, hr3, _⟩ := loop_at st2.hr hl
            have hl2 : ρ2 s.nx = ⟨(wa w).heap.size, 0, 0⟩ := (st2.ext.2 s.nx (Nat.lt_succ_self _)).trans (upd_at _ _ _)
            have hr1' : w3.heap[(wa w).heap.size]? = some (.loop r) := by rw [hl2] at hr1; exact hr1
            refine ⟨none, _, by rw [← hr3]; exact endLoop_run hr1' hr2, ?_⟩
            have std := st2.hr.drop hl (.loop { r with state := .exhausted }) (H' := (s2.h.del s.nx).get) (fun m x hm => del_get hm)
            rw [hl2] at std
            have st3 : SStep _ (s.new (.loop f N ps asg bd)) _ ρ2 ⟨s2.h.del s.nx, s2.nx⟩ _ := st2.trans std
            exact ⟨ρ2, { target := .collected w.heap.size, args := #[] } :: ds, st1.trans st3, ⟨hf.fr.mono (st1.trans st3).ext, hf.size, congrArg (fun l => ({ target := .collected w.heap.size, args := #[] } : Deferred) :: l) hf.defers⟩, hmk1.step st3⟩
          | panicked ch => exact he.elim
          | outgrown => exact he.elim
  exact key hok
theorem band_true {a b : Bool} (h : band a b = true) : a = true ∧ b = true := by
  cases a
  · cases h
  · exact ⟨rfl, h⟩
theorem xCode_ok (hcl : ClOk P cl) (hm : P.follows .mixedOrders = true) {rnd chk : Bool} (hrnd : rnd = false → ro = none) (c : Code) (hch : chk = false → drawsOk P N c = true) : KOk P ro N b0 c (xCode P chk cl N fuel rnd c) := by
  induction c with
  | skip => exact fun f s ρ w a ds hr hf hmk hb0 _ => wpIn_skip ⟨ρ, ds, Step.refl hr, hf, hmk⟩
  | region id ops draw =>
    intro f s ρ w a ds hr hf hmk hb0 hok
    cases draw with
    | false =>
      change (xOps P cl N ops ops.toList f s).ok at hok
      have := xOps_ok hcl (ro := ro) (ds := ds) (ρ0 := ρ) (s0 := s) (w0 := w) ops.toList 0 ops.size (by simp) (by simp) f s ρ w a (Step.refl hr) hf hok
      rw [← List.range_eq_range'] at this
      exact wpIn_mono (wpIn_region this) fun e a w he => EndR.whole hmk he
    | true => exact wpIn_mono (xDraw_ok hcl hm (Step.refl hr) hf hch hok) fun e a w he => EndR.whole hmk he
  | seq x y hx hy => exact seq_ok (hx fun h => (band_true (hch h)).1) (hy fun h => (band_true (hch h)).2)
  | cond c x y hx hy => exact cond_ok (hx fun h => (band_true (hch h)).1) (hy fun h => (band_true (hch h)).2)
  | block id x hx => exact block_ok (hx hch)
  | loop x hx => exact loop_ok (hx hch) fuel
  | rangeFunc c ps x y =>
    cases rnd with
    | false =>
      obtain rfl := hrnd rfl
      exact rangeF_ok hcl
    | true => exact fun f s ρ w a ds hr hf hmk hb0 hok => hok.elim
  | exit id => exact fun f s ρ w a ds hr hf hmk hb0 _ => wpIn_exit ⟨rfl, ρ, ds, Step.refl hr, hf, hmk⟩
  | scope x hx => exact fun f s ρ w a ds hr hf hmk hb0 hok => hok.elim
  | label l => exact fun f s ρ w a ds hr hf hmk hb0 _ => wpIn_label ⟨ρ, ds, Step.refl hr, hf, hmk⟩
  | goto l => exact fun f s ρ w a ds hr hf hmk hb0 hok => hok.elim
  | ret => exact fun f s ρ w a ds hr hf hmk hb0 _ => wpIn_ret ⟨ρ, ds, Step.refl hr, hf, hmk⟩
  | refuse why => exact fun f s ρ w a ds hr hf hmk hb0 hok => hok.elim
end
end Go.Proofs.YtaaomhjgolmakaaGreatDoor.Ev
namespace Go.Proofs.YtaaomhjgolmakaaGreatDoor.Ev
open Go Go.RowKit
section
variable {P : Program} {cl : Cl} {N fuel : Nat} {bad : List Nat}
theorem drawsF_at : ∀ (l : List Func) (k : Nat), drawsF P bad l k = true → ∀ (g : Nat) (fn : Func) (c : Code), l[g]? = some fn → fn.body = some c → memN (k + g) bad = false → drawsOk P fn.ntmps c = true
  | [], _, _, g, fn, c, h, _, _ => by simp at h
  | f0 :: l, k, h, g, fn, c, hg, hb, hm => by
    change band _ (forceL (Nat.succ k) (drawsF P bad l)) = true at h
    obtain ⟨h1, h2⟩ := band_true h
    cases g with
    | zero =>
      obtain rfl := Option.some.inj (show some f0 = some fn by simpa using hg)
      rw [show memN k bad = false from hm, hb] at h1
      exact h1
    | succ g =>
      have h3 : drawsF P bad l (k + 1) = true := h2
      exact drawsF_at l (k + 1) h3 g fn c (by simpa using hg) hb (by rw [show k + 1 + g = k + (g + 1) by omega]; exact hm)
def Draws (P : Program) (bad : List Nat) : Prop := ∀ (g : Nat) (fn : Func) (c : Code), P.funcs[g]? = some fn → fn.body = some c → memN g bad = false → drawsOk P fn.ntmps c = true
theorem draws_of (h : drawsAll P bad = true) : Draws P bad := fun g fn c hg hb hm => drawsF_at P.funcs.toList 0 h g fn c (by rw [Array.getElem?_toList]; exact hg) hb (by rw [Nat.zero_add]; exact hm)
theorem leave_ok {fn : Func} {f : T Value} {s s1 s' : St} {v : Value} {ρ ρ1 : Nat → Nm} {w : World} {tmps : Array Value} (hx : xRes P fn f s1 = .ok v s') (hf : FR ρ1 s1.nx f { tmps := tmps, defers := [] }) :
    ∀ (ds : List Deferred) (w1 : World), SStep ρ s w ρ1 s1 w1 → Mk w.heap.size ρ1 s1.h.get w1 ds → LeavesInM Fence.wide 0 P fn tmps (Gives ρ s w v s') ds .returning w1
  | [], w1, st, _ => by
    obtain ⟨e, u, h1, h2⟩ := xRes_ok hx st.hr hf
    subst e
    exact ⟨u, h1, ρ1, st, h2⟩
  | d :: ds, w1, st, ⟨⟨r, h1, h2, h3, h4, h5⟩, h6⟩ =>
    ⟨by simp, .inl ⟨r, _, h1, takeDeferred_run h3, leave_ok hx hf ds _ (st.shut h2 h4) (h6.shut h5)⟩⟩
theorem xBody_ok (hdr : Draws P bad) (hcl : ClOk P cl) (hm : P.follows .mixedOrders = true) : ∀ g vs s v s', xBody P bad cl fuel g vs s = .ok v s' → ∀ (ρ : Nat → Nm) (w : World) (us : Array Value), SR ρ s w → AR ρ s.nx vs.toArray us → Calls P g us w (Gives ρ s w v s') := fun g vs s v s' h ρ w us hr hv => by
  unfold xBody onOC at h
  rcases hfn : nth P.funcs.toList g with _ | fn
  · rw [hfn] at h
    cases h
  · rw [hfn] at h
    have hfn := fn_get hfn
    simp only at h
    rcases hb : fn.body with _ | c
    · rw [hb] at h
      cases h
    · rw [hb] at h
      simp only at h
      rcases hn : Nat.ble vs.length fn.ntmps with _ | _
      · rw [hn] at h
        cases h
      · rw [hn] at h
        simp only at h
        have hle := Nat.le_of_ble_eq_true hn
        have hsz : us.size = vs.length := by simpa using hv.1.symm
        have hf : Fits ρ fn.ntmps [] s.nx (ofL vs) { tmps := us ++ Array.replicate (fn.ntmps - us.size) undef, defers := [] } := by
          refine ⟨fun t x hx => ?_, by simp; omega, rfl⟩
          have h1 := ofL_get hx
          obtain ⟨u, hu, hvu⟩ := hv.at (i := t) (x := x) (by simpa using h1)
          refine ⟨u, ?_, hvu⟩
          show (us ++ Array.replicate (fn.ntmps - us.size) undef)[t]? = some u
          rw [Array.getElem?_append, if_pos (arr_lt hu)]
          exact hu
        refine callsIn_wide.1 (callsIn_of_wp_marks (F := Fence.wide) (n := 0) hfn hb trivial ?_)
        have hcode : (xCode P (memN g bad) cl fn.ntmps fuel false c (ofL vs) s).ok → c.wpIn Fence.wide 0 P _ _ w := fun hok => xCode_ok hcl hm (ro := none) (b0 := w.heap.size) (fuel := fuel) (rnd := false) (fun _ => rfl) c (hdr g fn c hfn hb) (ofL vs) s ρ w _ [] hr hf trivial (Nat.le_refl _) hok
        rcases h1 : xCode P (memN g bad) cl fn.ntmps fuel false c (ofL vs) s with m | ⟨f1, s1⟩ | ⟨f1, s1⟩ | ⟨i, f1, s1⟩
        · rw [h1] at h
          cases h
        · rw [h1] at h
          refine wpIn_mono (hcode (by rw [h1]; trivial)) fun e a1 w1 he => ?_
          rw [h1] at he
          cases e with
          | normal =>
            obtain ⟨ρ1, ds, st, hf1, hmk⟩ := he
            show LeavesInM Fence.wide 0 P fn a1.tmps (Gives ρ s w v s') a1.defers .returning w1
            rw [hf1.defers]
            exact leave_ok h hf1.fr ds w1 st hmk
          | _ => exact he.elim
        · rw [h1] at h
          refine wpIn_mono (hcode (by rw [h1]; trivial)) fun e a1 w1 he => ?_
          rw [h1] at he
          cases e with
          | ret =>
            obtain ⟨ρ1, ds, st, hf1, hmk⟩ := he
            show LeavesInM Fence.wide 0 P fn a1.tmps (Gives ρ s w v s') a1.defers .returning w1
            rw [hf1.defers]
            exact leave_ok h hf1.fr ds w1 st hmk
          | _ => exact he.elim
        · rw [h1] at h
          cases h
theorem onLoopC_ok {s s' : St} {n : Nat} {k : T Value → Nat → Array Tmp → Code → Code → CR} {v : Value} (h : onLoopC s n k = .ok v s') : ∃ f N ps asg bd, s.h.get n = some (.loop f N ps asg bd) ∧ k f N ps asg bd = .ok v s' := by
  unfold onLoopC onOC at h
  rcases ha : s.h.get n with _ | a
  · rw [ha] at h
    cases h
  · rw [ha] at h
    cases a with
    | loop f N ps asg bd => exact ⟨f, N, ps, asg, bd, rfl, h⟩
    | _ => cases h
theorem onNormal_ok {r : R} {k : T Value → St → CR} {v : Value} {s' : St} (h : onNormal r k = .ok v s') : ∃ f s, r = .normal f s ∧ k f s = .ok v s' := by
  cases r with
  | normal f s => exact ⟨f, s, rfl, h⟩
  | _ => cases h
theorem xYield_ok (hcl : ClOk P cl) (hm : P.follows .mixedOrders = true) : ∀ l vs s v s', xYield P cl fuel l vs s = .ok v s' → ∀ (ρ : Nat → Nm) (w : World) (us : Array Value), SR ρ s w → AR ρ s.nx vs.toArray us →
    ∃ g tmps asg bd, (Instr.yield (ρ l).b us).run P w = .ok (.round (ρ l).b g tmps asg bd) w ∧ RoundIn Fence.wide 0 P (ρ l).b g tmps asg bd w (Gives ρ s w v s') := fun l vs s v s' h ρ w us hr hv => by
  unfold xYield at h
  obtain ⟨f, N, ps, asg, bd, hl, h⟩ := onLoopC_ok h
  rcases hn : Nat.beq vs.length ps.size with _ | _
  · rw [hn] at h
    cases h
  · rw [hn] at h
    have hlen := Nat.eq_of_beq_eq_true hn
    obtain ⟨f1, s1, e1, h⟩ := onNormal_ok h
    obtain ⟨f2, N2, ps2, as2, bd2, hl1, h⟩ := onLoopC_ok h
    obtain ⟨f3, s2, e2, h⟩ := onNormal_ok h
    simp only [CR.ok.injEq] at h
    obtain ⟨rfl, rfl⟩ := h
    obtain ⟨hlx, hs0, r, q1, q2, q3, q4, q5, q6, q7, q8⟩ := loop_at hr hl
    have hus : us.size = vs.length := by simpa using hv.1.symm
    subst q4 q5 q6
    refine ⟨r.fn, _, r.assign, r.body, yield_run q1 (by omega), ?_⟩
    obtain ⟨p1, p2⟩ := putAll_ok r.params.toList vs us.toList f r.tmps (by simpa using hus.symm) (fun i x y hx hy => hv.2 i x y (by simpa using hx) (by simpa using hy)) q7 q8
    refine roundIn_of_wpIn (F := Fence.wide) (n := 0) trivial ?_
    have k1 := xCode_ok hcl hm (ro := some (ρ l).b) (N := N) (b0 := 0) (fuel := fuel) (rnd := true) (chk := true) (fun h => by cases h) r.assign (fun h => by cases h) (putAll N r.params.toList vs f) s ρ w _ [] hr ⟨p2, p1, rfl⟩ trivial (Nat.zero_le _) (by rw [e1]; trivial)
    refine wpIn_mono k1 fun e a1 w1 he => ?_
    rw [e1] at he
    cases e with
    | normal =>
      obtain ⟨ρ1, ds1, st1, hf1, hmk1⟩ := he
      have hl2 : ρ1 l = ρ l := st1.ext.2 l hlx
      obtain ⟨_, _, r1, z1, z2, z3, _⟩ := loop_at st1.hr hl1
      have z1' : w1.heap[(ρ l).b]? = some (.loop r1) := by rw [← hl2]; exact z1
      refine ⟨_, beginRound_run z1' z2, ?_⟩
      have std := st1.hr.drop hl1 (.loop { r1 with state := .busy }) (H' := (s1.h.del l).get) (fun m x hm => del_get hm)
      rw [hl2] at std
      have k2 := xCode_ok hcl hm (ro := some (ρ l).b) (N := N) (b0 := 0) (fuel := fuel) (rnd := true) (chk := true) (fun h => by cases h) r.body (fun h => by cases h) f1 ⟨s1.h.del l, s1.nx⟩ ρ1 _ a1 ds1 std.hr ⟨hf1.fr, hf1.size, hf1.defers⟩ (hmk1.step std) (Nat.zero_le _) (by rw [e2]; trivial)
      refine wpIn_mono k2 fun e a2 w3 he => ?_
      rw [e2] at he
      cases e with
      | normal =>
        obtain ⟨ρ2, ds2, st2, hf2, _⟩ := he
        have hb : (ρ1 l).b = (ρ l).b := congrArg Nm.b hl2
        rw [← hb] at st2
        obtain ⟨g1, g2⟩ := round_step st1.hr hl1 z1 z2 z3 st2
        rw [hb] at g1 g2
        exact ⟨_, _, endRound_run g1, ρ2, st1.trans g2, .bool true⟩
      | _ => exact he.elim
    | _ => exact he.elim
theorem xCl_ok (hdr : Draws P bad) {hook : Cl → Cl} (hh : ∀ cl, ClOk P cl → ClOk P (hook cl)) (hm : P.follows .mixedOrders = true) : ∀ n, ClOk P (xCl P bad hook fuel n)
  | 0 => ⟨fun g vs s v s' h => (by cases h), fun g vs s v s' h => (by cases h)⟩
  | n + 1 => hh _ ⟨xBody_ok hdr (xCl_ok hdr hh hm n) hm, xYield_ok (xCl_ok hdr hh hm n) hm⟩
noncomputable def boolV (v : Value) : Bool := match v with
  | .bool b => b
  | _ => false
noncomputable def start : St := ⟨.leaf, 0⟩
theorem start_sr (ρ : Nat → Nm) (w : World) : SR ρ start w := ⟨fun n o h => (by cases h), fun n m o o' h => (by cases h)⟩
end
end Go.Proofs.YtaaomhjgolmakaaGreatDoor.Ev
namespace Go.Proofs.YtaaomhjgolmakaaGreatDoor.Ev
open Go Go.RowKit
noncomputable def repL (l : List UInt8) (n : Nat) : List UInt8 := Nat.rec (motive := fun _ => List UInt8) [] (fun _ ih => app l ih) n
noncomputable def canonC (l : List UInt8) : (List UInt8 → CR) → CR := List.rec (motive := fun _ => (List UInt8 → CR) → CR) (fun k => k []) (fun x _ ih k => forceL (UInt8.toNat x) (fun n => ih (fun l => k (UInt8.ofNat n :: l)))) l
theorem canonC_eq : ∀ (l : List UInt8) (k : List UInt8 → CR), canonC l k = k l
  | [], k => rfl
  | x :: l, k => by
    show forceL (UInt8.toNat x) (fun n => canonC l (fun l => k (UInt8.ofNat n :: l))) = _
    rw [forceL_eq, canonC_eq l, UInt8.ofNat_toNat]
theorem repL_eq (l : List UInt8) : ∀ n, repL l n = Lib.repeatL l n
  | 0 => by
    show ([] : List UInt8) = _
    simp [Lib.repeatL]
  | n + 1 => by
    show app l (repL l n) = _
    rw [app_eq, repL_eq l n]
    simp [Lib.repeatL]
noncomputable def repV (slow : CR) (vs : List Value) (s : St) : CR := match vs with
  | [.string b, .int .i64 (.ofNat n)] => Bool.rec (motive := fun _ => CR) slow (canonC (repL b.data.toList n) (fun l => .ok (.string ⟨⟨l⟩⟩) s)) (band (Nat.ble n 9223372036854775807) (Nat.ble (Nat.mul b.size n) 140737488355328))
  | _ => slow
noncomputable def hookR (g : Nat) (cl : Cl) : Cl := fun y q vs s => Bool.rec (motive := fun _ => CR) (Bool.rec (motive := fun _ => CR) (cl false q vs s) (repV (cl false q vs s) vs s) (Nat.beq q g)) (cl true q vs s) y
def RepC (P : Program) (g : Nat) : Prop := ∀ (s : ByteArray) (c : Nat) (w : World), c ≤ 9223372036854775807 → s.size * c ≤ 140737488355328 →
  Calls P g #[.string s, .int .i64 c] w fun e w' => e = .returned (.string ⟨(Lib.repeatL s.data.toList c).toArray⟩) ∧ Below w.heap.size w w'
section
variable {P : Program} {cl : Cl} {ρ0 : Nat → Nm} {s0 : St} {w0 : World}
theorem step_below {s : St} {ρ : Nat → Nm} {w w' : World} (h : SStep ρ0 s0 w0 ρ s w) (hb : Below w.heap.size w w') : SStep ρ0 s0 w0 ρ s w' := by
  refine ⟨h.ext, ⟨fun n x hn => ?_, h.hr.inj⟩, ⟨hb.os.trans h.fr.os, hb.tape.trans h.fr.tape, hb.output.trans h.fr.output, Nat.le_trans h.fr.size hb.size, fun k hk hn => ?_⟩, h.liv⟩
  · have h1 := h.hr.obj n x hn
    refine ⟨h1.1, ?_⟩
    rw [hb.block _ (h.hr.old hn)]
    exact h1.2
  · rw [hb.block k (Nat.lt_of_lt_of_le hk h.fr.size)]
    exact h.fr.block k hk hn
theorem hookR_ok {g : Nat} (C : RepC P g) (cl : Cl) (hcl : ClOk P cl) : ClOk P (hookR g cl) := by
  refine ⟨fun q vs s v s' h ρ w us hr hv => ?_, fun q vs s v s' h => hcl.yields q vs s v s' h⟩
  change Bool.rec (motive := fun _ => CR) (cl false q vs s) (repV (cl false q vs s) vs s) (Nat.beq q g) = .ok v s' at h
  rcases hb : Nat.beq q g with _ | _
  · rw [hb] at h
    exact hcl.calls q vs s v s' h ρ w us hr hv
  · rw [hb] at h
    obtain rfl := Nat.eq_of_beq_eq_true hb
    change repV (cl false q vs s) vs s = .ok v s' at h
    unfold repV at h
    split at h
    · rename_i b n
      rcases hc : band (Nat.ble n 9223372036854775807) (Nat.ble (Nat.mul b.size n) 140737488355328) with _ | _
      · rw [hc] at h
        exact hcl.calls q _ s v s' h ρ w us hr hv
      · rw [hc] at h
        obtain ⟨c1, c2⟩ := bandT hc
        change canonC (repL b.data.toList n) (fun l => .ok (.string ⟨⟨l⟩⟩) s) = .ok v s' at h
        rw [canonC_eq] at h
        simp only [CR.ok.injEq] at h
        obtain ⟨rfl, rfl⟩ := h
        have hus : us = #[.string b, .int .i64 (.ofNat n)] := by
          have h2 : us.size = 2 := hv.1.symm
          obtain ⟨u0, h0⟩ := arr_get (a := us) (i := 0) (by omega)
          obtain ⟨u1, h1⟩ := arr_get (a := us) (i := 1) (by omega)
          have e0 : u0 = .string b := by
            have := hv.2 0 (.string b) u0 rfl h0
            cases this
            rfl
          have e1 : u1 = .int .i64 (.ofNat n) := by
            have := hv.2 1 (.int .i64 (.ofNat n)) u1 rfl h1
            cases this
            rfl
          subst e0 e1
          apply Array.ext
          · exact h2
          · intro i h3 h4
            match i, h3 with
            | 0, _ => rw [Array.getElem?_eq_getElem (by omega)] at h0; exact Option.some.inj h0
            | 1, _ => rw [Array.getElem?_eq_getElem (by omega)] at h1; exact Option.some.inj h1
            | i + 2, h3 => omega
        subst hus
        refine Calls.mono (C b n w (Nat.le_of_ble_eq_true c1) (Nat.le_of_ble_eq_true c2)) fun e w' ⟨h1, h2⟩ => ?_
        subst h1
        refine ⟨ρ, step_below (Step.refl hr) h2, ?_⟩
        rw [repL_eq]
        exact .string _
    · exact hcl.calls q _ s v s' h ρ w us hr hv
end
end Go.Proofs.YtaaomhjgolmakaaGreatDoor.Ev
namespace Go.Proofs.YtaaomhjgolmakaaGreatDoor.Ev
open Go Go.RowKit
section
variable {P : Program} {cl0 : Cl}
end
end Go.Proofs.YtaaomhjgolmakaaGreatDoor.Ev
namespace Go.Proofs.YtaaomhjgolmakaaGreatDoor.Ev
open Go Go.RowKit
noncomputable def oneInt (b : Array Value) : Option Int := match b.toList with
  | [.int .i64 z] => some z
  | _ => none
noncomputable def numF (ft : Nat) (u : Value) : Option Int := match u with
  | .iface t (.agg b) => match Nat.beq t ft with
    | true => oneInt b
    | false => none
  | _ => none
noncomputable def numS (st ft : Nat) (u : Value) : Option Int := match u with
  | .iface t (.agg a) => match Nat.beq t st, a.toList with
    | true, [.string _, x] => numF ft x
    | _, _ => none
  | _ => none
noncomputable def numL (st ft : Nat) (vs : List Value) : Option Int := match vs with
  | [u] => numS st ft u
  | _ => none
noncomputable def constIs (G : Nat) (v : Value) (a : Option AO) : Bool := match a with
  | some (.const b (.cells cs _ _)) => match cs.toList with
    | [u] => band (Nat.beq b G) (veq u v)
    | _ => false
  | _ => false
noncomputable def numR (slow : CR) (G : Nat) (v : Value) (st ft : Nat) (vs : List Value) (s : St) : CR := Option.rec (motive := fun _ => CR) slow (fun z => Bool.rec (motive := fun _ => CR) slow (.ok (.int .i64 z) s) (constIs G v (s.h.get 0))) (numL st ft vs)
noncomputable def hookK (g G : Nat) (v : Value) (st ft : Nat) (cl : Cl) : Cl := fun y q vs s => Bool.rec (motive := fun _ => CR) (Bool.rec (motive := fun _ => CR) (cl false q vs s) (numR (cl false q vs s) G v st ft vs s) (Nat.beq q g)) (cl true q vs s) y
def NumC (P : Program) (g G : Nat) (v : Value) (st ft : Nat) : Prop := ∀ (d : ByteArray) (z : Int) (w : World), w.cell? ⟨G, 0, none⟩ = some v →
  Calls P g #[.iface st (.agg #[.string d, .iface ft (.agg #[.int .i64 z])])] w fun e w' => e = .returned (.int .i64 z) ∧ Below w.heap.size w w'
theorem oneInt_is {b : Array Value} {z : Int} (h : oneInt b = some z) : b = #[.int .i64 z] := by
  unfold oneInt at h
  split at h
  · rename_i z' hb
    obtain rfl := Option.some.inj h
    obtain ⟨b⟩ := b
    simp only at hb
    rw [hb]
  · cases h
theorem numF_is {ft : Nat} {u : Value} {z : Int} (h : numF ft u = some z) : u = .iface ft (.agg #[.int .i64 z]) := by
  unfold numF at h
  split at h
  · split at h
    · rename_i hb
      rw [oneInt_is h, Nat.eq_of_beq_eq_true hb]
    · cases h
  · cases h
theorem numS_is {st ft : Nat} {u : Value} {z : Int} (h : numS st ft u = some z) : ∃ d, u = .iface st (.agg #[.string d, .iface ft (.agg #[.int .i64 z])]) := by
  unfold numS at h
  split at h
  · rename_i t a
    split at h
    · rename_i d x hb ha
      obtain ⟨a⟩ := a
      simp only at ha
      subst ha
      rw [numF_is h, Nat.eq_of_beq_eq_true hb]
      exact ⟨d, rfl⟩
    · cases h
  · cases h
theorem numL_is {st ft : Nat} {vs : List Value} {z : Int} (h : numL st ft vs = some z) : ∃ d, vs = [.iface st (.agg #[.string d, .iface ft (.agg #[.int .i64 z])])] := by
  unfold numL at h
  split at h
  · obtain ⟨d, rfl⟩ := numS_is h
    exact ⟨d, rfl⟩
  · cases h
section
variable {P : Program}
theorem constIs_cell {ρ : Nat → Nm} {s : St} {w : World} {G : Nat} {v : Value} (hr : SR ρ s w) (h : constIs G v (s.h.get 0) = true) : w.cell? ⟨G, 0, none⟩ = some v := by
  unfold constIs at h
  split at h
  · rename_i b cs e fr ha
    split at h
    · rename_i u hu
      obtain ⟨h1, h2⟩ := band_true h
      have h3 := (hr.obj 0 _ ha).2
      obtain ⟨_, hb, ho⟩ := h3
      obtain rfl := Nat.eq_of_beq_eq_true h1
      obtain rfl := veq_eq h2
      rw [hb] at ho
      simp only [World.cell?, ho]
      obtain ⟨cs⟩ := cs
      simp only at hu
      subst hu
      rfl
    · cases h
  · cases h
theorem hookK_ok {g G : Nat} {v0 : Value} {st ft : Nat} (C : NumC P g G v0 st ft) (cl : Cl) (hcl : ClOk P cl) : ClOk P (hookK g G v0 st ft cl) := by
  refine ⟨fun q vs s v s' h ρ w us hr hv => ?_, fun q vs s v s' h => hcl.yields q vs s v s' h⟩
  change Bool.rec (motive := fun _ => CR) (cl false q vs s) (numR (cl false q vs s) G v0 st ft vs s) (Nat.beq q g) = .ok v s' at h
  rcases hb : Nat.beq q g with _ | _
  · rw [hb] at h
    exact hcl.calls q vs s v s' h ρ w us hr hv
  rw [hb] at h
  change numR (cl false q vs s) G v0 st ft vs s = .ok v s' at h
  obtain rfl := Nat.eq_of_beq_eq_true hb
  unfold numR at h
  rcases hn : numL st ft vs with _ | z
  · rw [hn] at h
    exact hcl.calls q vs s v s' h ρ w us hr hv
  rw [hn] at h
  change Bool.rec (motive := fun _ => CR) (cl false q vs s) (.ok (.int .i64 z) s) (constIs G v0 (s.h.get 0)) = .ok v s' at h
  rcases hc : constIs G v0 (s.h.get 0) with _ | _
  · rw [hc] at h
    exact hcl.calls q vs s v s' h ρ w us hr hv
  rw [hc] at h
  simp only [CR.ok.injEq] at h
  obtain ⟨rfl, rfl⟩ := h
  obtain ⟨d, rfl⟩ := numL_is hn
  have hus : us = #[.iface st (.agg #[.string d, .iface ft (.agg #[.int .i64 z])])] := by
    have h2 : us.size = 1 := hv.1.symm
    obtain ⟨u0, h0⟩ := arr_get (a := us) (i := 0) (by omega)
    have e0 : u0 = .iface st (.agg #[.string d, .iface ft (.agg #[.int .i64 z])]) := flat_eq (by rfl) (hv.2 0 _ u0 rfl h0)
    subst e0
    apply Array.ext
    · exact h2
    · intro i h3 h4
      match i, h3 with
      | 0, _ => rw [Array.getElem?_eq_getElem (by omega)] at h0; exact Option.some.inj h0
      | i + 1, h3 => omega
  subst hus
  refine Calls.mono (C d z w (constIs_cell hr hc)) fun e w' ⟨h1, h2⟩ => ?_
  subst h1
  exact ⟨ρ, step_below (Step.refl hr) h2, .int _ _⟩
noncomputable def startK (G : Nat) (o : Obj) (nx : Nat) : St := ⟨T.leaf.set (.const G o) 0, nx⟩
theorem startK_sr {G nx : Nat} {o : Obj} {w : World} {ρ : Nat → Nm} (hρ : ρ 0 = ⟨G, 0, 0⟩) (hn : 0 < nx) (h : w.heap[G]? = some o) : SR ρ (startK G o nx) w := by
  have key : ∀ n a, (startK G o nx).h.get n = some a → n = 0 ∧ a = .const G o := fun n a ha => by
    have ha : ((T.leaf : T AO).set (.const G o) 0).get n = some a := ha
    rcases set_get ha with ⟨h1, h2⟩ | ⟨_, h2⟩
    · exact ⟨h1, h2⟩
    · have h2 : (none : Option AO) = some a := h2
      cases h2
  refine ⟨fun n a ha => ?_, fun n m a b ha hb _ => ?_⟩
  · obtain ⟨rfl, rfl⟩ := key n a ha
    refine ⟨hn, ?_⟩
    rw [hρ]
    exact ⟨rfl, rfl, h⟩
  · rw [(key n a ha).1, (key m b hb).1]
def cellObj (v : Value) (e : TypeId) : Obj := .cells #[v] e (0, 0)
noncomputable def stays (G : Nat) (v : Value) (e : TypeId) (a : Option AO) : Bool := match a with
  | some (.const b (.cells cs e' fr)) => match cs.toList with
    | [u] => band (Nat.beq b G) (band (veq u v) (band (Nat.beq e' e) (band (Nat.beq fr.1 0) (Nat.beq fr.2 0))))
    | _ => false
  | _ => false
theorem stays_is {G : Nat} {v : Value} {e : TypeId} {a : Option AO} (h : stays G v e a = true) : a = some (.const G (cellObj v e)) := by
  unfold stays at h
  split at h
  · rename_i b cs e' fr
    split at h
    · rename_i u hu
      obtain ⟨h1, h⟩ := band_true h
      obtain ⟨h2, h⟩ := band_true h
      obtain ⟨h3, h⟩ := band_true h
      obtain ⟨h4, h5⟩ := band_true h
      obtain ⟨cs⟩ := cs
      obtain ⟨f1, f2⟩ := fr
      simp only at hu h4 h5
      rw [hu, Nat.eq_of_beq_eq_true h1, veq_eq h2, Nat.eq_of_beq_eq_true h3, Nat.eq_of_beq_eq_true h4, Nat.eq_of_beq_eq_true h5]
      rfl
    · cases h
  · cases h
noncomputable def isTrueK (G : Nat) (v : Value) (e : TypeId) (c : CR) : Bool := CR.rec (motive := fun _ => Bool) (fun _ => false) (fun u s => band (boolV u) (stays G v e (s.h.get 0))) c
theorem run_trueK {cl : Cl} (hcl : ClOk P cl) {g : FuncId} {vs : List Value} {G : Nat} {v0 : Value} {e0 : TypeId} {nx : Nat} (h : isTrueK G v0 e0 (cl false g vs (startK G (cellObj v0 e0) nx)) = true) {us : Array Value} {w : World} {ρ : Nat → Nm} (hρ : ρ 0 = ⟨G, 0, 0⟩) (hn : 0 < nx) (hw : w.heap[G]? = some (cellObj v0 e0)) (hv : AR ρ nx vs.toArray us) : Calls P g us w (fun e w' => e = .returned (.bool true) ∧ Below w.heap.size w w') := by
  rcases hc : cl false g vs (startK G (cellObj v0 e0) nx) with n | ⟨v, s'⟩
  · rw [hc] at h
    cases h
  · rw [hc] at h
    refine Calls.mono (hcl.calls g vs _ v s' hc ρ w us (startK_sr hρ hn hw) hv) fun e w' he => ?_
    cases e with
    | returned u =>
      obtain ⟨ρ', st, hu⟩ := he
      obtain ⟨hb1, hb2⟩ := band_true (show band (boolV v) (stays G v0 e0 (s'.h.get 0)) = true from h)
      have hb : v = .bool true := by
        unfold boolV at hb1
        split at hb1
        · rw [hb1]
        · cases hb1
      subst hb
      cases hu
      have hk0 := stays_is hb2
      have h0 := (st.hr.obj 0 _ hk0).2
      obtain ⟨_, q1, q2⟩ := h0
      refine ⟨rfl, st.fr.os, st.fr.tape, st.fr.output, st.fr.size, fun k hk => ?_⟩
      by_cases hkG : k = G
      · subst hkG
        rw [q1] at q2
        exact q2.trans hw.symm
      · refine st.fr.block k hk (fun n o hn2 => ?_)
        have h9 : n = 0 := by
          have hn2 : ((T.leaf : T AO).set (.const G (cellObj v0 e0)) 0).get n = some o := hn2
          rcases set_get hn2 with ⟨h1, _⟩ | ⟨_, h2⟩
          · exact h1
          · have h2 : (none : Option AO) = some o := h2
            cases h2
        rw [h9, hρ]
        exact fun e => hkG e.symm
    | panicked ch => exact he.elim
    | outgrown => exact he.elim
end
end Go.Proofs.YtaaomhjgolmakaaGreatDoor.Ev
namespace Go.Proofs.YtaaomhjgolmakaaGreatDoor.Ev
open Go Go.RowKit
noncomputable def crcBit (y : Nat) : Nat := Nat.xor (Nat.mod (Nat.mul y 2) 4294967296) (Nat.mod (Nat.mul (Nat.div y 2147483648) 79764919) 4294967296)
noncomputable def crcBits (n y : Nat) : Nat := Nat.rec (motive := fun _ => Nat) y (fun _ ih => crcBit ih) n
noncomputable def crcByte (y b : Nat) : Nat := crcBits 8 (Nat.xor y (Nat.mod (Nat.mul b 16777216) 4294967296))
noncomputable def crcL (l : List UInt8) : Nat → Nat := List.rec (motive := fun _ => Nat → Nat) (fun y => y) (fun b _ ih y => ih (crcByte y (UInt8.toNat b))) l
noncomputable def crcBitsF (n : Nat) : Nat → (Nat → CR) → CR := Nat.rec (motive := fun _ => Nat → (Nat → CR) → CR) (fun y k => k y) (fun _ ih y k => forceL (crcBit y) (fun y => ih y k)) n
noncomputable def crcGo (l : List UInt8) : Nat → (Nat → CR) → CR := List.rec (motive := fun _ => Nat → (Nat → CR) → CR) (fun y k => k y) (fun b _ ih y k => forceL (Nat.xor y (Nat.mod (Nat.mul (UInt8.toNat b) 16777216) 4294967296)) (fun y => crcBitsF 8 y (fun y => ih y k))) l
theorem crcBits_bit (y : Nat) : ∀ n, crcBits n (crcBit y) = crcBit (crcBits n y)
  | 0 => rfl
  | n + 1 => congrArg crcBit (crcBits_bit y n)
theorem crcBitsF_eq : ∀ (n y : Nat) (k : Nat → CR), crcBitsF n y k = k (crcBits n y)
  | 0, y, k => rfl
  | n + 1, y, k => by
    show forceL (crcBit y) (fun y => crcBitsF n y k) = _
    rw [forceL_eq, crcBitsF_eq n, crcBits_bit]
    rfl
theorem crcGo_eq : ∀ (l : List UInt8) (y : Nat) (k : Nat → CR), crcGo l y k = k (crcL l y)
  | [], y, k => rfl
  | b :: l, y, k => by
    show forceL (Nat.xor y (Nat.mod (Nat.mul (UInt8.toNat b) 16777216) 4294967296)) (fun y => crcBitsF 8 y (fun y => crcGo l y k)) = _
    rw [forceL_eq, crcBitsF_eq, crcGo_eq l]
    rfl
noncomputable def crcV (slow : CR) (vs : List Value) (s : St) : CR := match vs with
  | [.int .u32 (.ofNat x), .string b] => Bool.rec (motive := fun _ => CR) slow (crcGo b.data.toList x (fun r => .ok (.int .u32 (.ofNat r)) s)) (band (Nat.ble (Nat.succ x) 4294967296) (Nat.ble b.size 1048576))
  | _ => slow
noncomputable def hookC (g : Nat) (cl : Cl) : Cl := fun y q vs s => Bool.rec (motive := fun _ => CR) (Bool.rec (motive := fun _ => CR) (cl false q vs s) (crcV (cl false q vs s) vs s) (Nat.beq q g)) (cl true q vs s) y
def CrcC (P : Program) (g : Nat) : Prop := ∀ (x : Nat) (s : ByteArray) (w : World), x < 4294967296 → s.size ≤ 1048576 →
  Calls P g #[.int .u32 x, .string s] w fun e w' => e = .returned (.int .u32 (crcL s.data.toList x)) ∧ Below w.heap.size w w'
theorem hookC_ok {P : Program} {g : Nat} (C : CrcC P g) (cl : Cl) (hcl : ClOk P cl) : ClOk P (hookC g cl) := by
  refine ⟨fun q vs s v s' h ρ w us hr hv => ?_, fun q vs s v s' h => hcl.yields q vs s v s' h⟩
  change Bool.rec (motive := fun _ => CR) (cl false q vs s) (crcV (cl false q vs s) vs s) (Nat.beq q g) = .ok v s' at h
  rcases hb : Nat.beq q g with _ | _
  · rw [hb] at h
    exact hcl.calls q vs s v s' h ρ w us hr hv
  · rw [hb] at h
    obtain rfl := Nat.eq_of_beq_eq_true hb
    change crcV (cl false q vs s) vs s = .ok v s' at h
    unfold crcV at h
    split at h
    · rename_i x b
      rcases hc : band (Nat.ble (Nat.succ x) 4294967296) (Nat.ble b.size 1048576) with _ | _
      · rw [hc] at h
        exact hcl.calls q _ s v s' h ρ w us hr hv
      · rw [hc] at h
        obtain ⟨c1, c2⟩ := bandT hc
        change crcGo b.data.toList x (fun r => .ok (.int .u32 (.ofNat r)) s) = .ok v s' at h
        rw [crcGo_eq] at h
        simp only [CR.ok.injEq] at h
        obtain ⟨rfl, rfl⟩ := h
        have hus : us = #[.int .u32 (.ofNat x), .string b] := by
          have h2 : us.size = 2 := hv.1.symm
          obtain ⟨u0, h0⟩ := arr_get (a := us) (i := 0) (by omega)
          obtain ⟨u1, h1⟩ := arr_get (a := us) (i := 1) (by omega)
          have e0 : u0 = .int .u32 (.ofNat x) := by
            have := hv.2 0 (.int .u32 (.ofNat x)) u0 rfl h0
            cases this
            rfl
          have e1 : u1 = .string b := by
            have := hv.2 1 (.string b) u1 rfl h1
            cases this
            rfl
          subst e0 e1
          apply Array.ext
          · exact h2
          · intro i h3 h4
            match i, h3 with
            | 0, _ => rw [Array.getElem?_eq_getElem (by omega)] at h0; exact Option.some.inj h0
            | 1, _ => rw [Array.getElem?_eq_getElem (by omega)] at h1; exact Option.some.inj h1
            | i + 2, h3 => omega
        subst hus
        refine Calls.mono (C x b w (Nat.le_of_ble_eq_true c1) (Nat.le_of_ble_eq_true c2)) fun e w' ⟨h1, h2⟩ => ?_
        subst h1
        exact ⟨ρ, step_below (Step.refl hr) h2, .int _ _⟩
    · exact hcl.calls q _ s v s' h ρ w us hr hv
end Go.Proofs.YtaaomhjgolmakaaGreatDoor.Ev
namespace Go.Proofs.YtaaomhjgolmakaaGreatDoor
open Go.RowKit
def lowL (v : Nat) : Nat → List UInt8
  | 0 => []
  | k + 1 => UInt8.ofNat (v / 256 ^ k % 256) :: lowL v k
theorem lowL_len (v k : Nat) : (lowL v k).length = k := by
  induction k with
  | zero => rfl
  | succ k ih => simp [lowL, ih]
def numL (l : List UInt8) : Nat := l.foldl (fun v b => v * 256 + b.toNat) 0
theorem numL_snoc (l : List UInt8) (b : UInt8) : numL (l ++ [b]) = numL l * 256 + b.toNat := by simp [numL]
theorem foldl_num (l : List UInt8) : ∀ a : Nat, l.foldl (fun v b => v * 256 + b.toNat) a = a * 256 ^ l.length + numL l := by
  induction l with
  | nil => intro a; simp [numL]
  | cons b l ih =>
    intro a
    have h1 := ih (a * 256 + b.toNat)
    have h2 := ih (0 * 256 + b.toNat)
    simp only [List.foldl_cons, numL, List.length_cons, Nat.pow_succ] at *
    rw [h1, h2, Nat.zero_mul, Nat.zero_add, Nat.add_mul, Nat.mul_assoc, Nat.mul_comm 256 (256 ^ l.length)]
    omega
theorem numL_cons (b : UInt8) (l : List UInt8) : numL (b :: l) = b.toNat * 256 ^ l.length + numL l := by
  have := foldl_num l (0 * 256 + b.toNat)
  simpa [numL] using this
theorem numL_lt (l : List UInt8) : numL l < 256 ^ l.length := by
  induction l with
  | nil => simp [numL]
  | cons b l ih =>
    rw [numL_cons, List.length_cons, Nat.pow_succ]
    have hb : b.toNat < 256 := b.toNat_lt
    have : b.toNat * 256 ^ l.length + 256 ^ l.length ≤ 256 ^ l.length * 256 := by
      rw [← Nat.succ_mul, Nat.mul_comm]
      exact Nat.mul_le_mul_left _ hb
    omega
theorem numL_lowL (v k : Nat) : numL (lowL v k) = v % 256 ^ k := by
  induction k with
  | zero => simp [lowL, numL, Nat.mod_one]
  | succ k ih =>
    rw [lowL, numL_cons, ih, lowL_len, Nat.pow_succ, Nat.mod_mul]
    have : (UInt8.ofNat (v / 256 ^ k % 256)).toNat = v / 256 ^ k % 256 := by simp
    rw [this, Nat.mul_comm]
    omega
theorem lowL_numL (l : List UInt8) : lowL (numL l) l.length = l := by
  have key : ∀ (l p : List UInt8), lowL (numL (p ++ l)) l.length = l := by
    intro l
    induction l with
    | nil => intro p; rfl
    | cons b l ih =>
      intro p
      have h := ih (p ++ [b])
      rw [List.append_assoc, List.singleton_append] at h
      rw [List.length_cons, lowL, h]
      congr 1
      have hp : numL (p ++ b :: l) = (numL p * 256 + b.toNat) * 256 ^ l.length + numL l := by
        have := foldl_num l (numL (p ++ [b]))
        rw [numL_snoc] at this
        rw [← this, ← numL_snoc]
        simp [numL]
      rw [hp, Nat.mul_comm _ (256 ^ l.length), Nat.mul_add_div (Nat.pow_pos (by omega)), Nat.div_eq_of_lt (numL_lt l), Nat.add_zero]
      have hb : b.toNat < 256 := b.toNat_lt
      rw [show (numL p * 256 + b.toNat) % 256 = b.toNat by omega]
      simp
  simpa using key l []
def tickB (v : Nat) : ByteArray := ⟨(lowL v 8).toArray⟩
def recB (v : Nat) (t : ByteArray) : ByteArray := tickB v ++ t
theorem set_low (v k : Nat) (h : k < 8) : (List.replicate (8 - k) (bv 0) ++ (lowL v k).map bv).set (7 - k) (.int .u8 ((v / 256 ^ k % 256 : Nat) : Int)) = List.replicate (8 - (k + 1)) (bv 0) ++ (lowL v (k + 1)).map bv := by
  rw [show 8 - k = (7 - k) + 1 by omega, List.replicate_succ', List.append_assoc, List.set_append_right _ _ (by simp), List.length_replicate, Nat.sub_self, List.singleton_append, List.set_cons_zero, show 8 - (k + 1) = 7 - k by omega, lowL, List.map_cons, bv_ofNat _ (Nat.mod_lt _ (by omega))]
theorem byte_at (v k : Nat) : ((v : Int) / 2 ^ (8 * k) % 256) = ((v / 256 ^ k % 256 : Nat) : Int) := by
  rw [show (256 : Nat) ^ k = 2 ^ (8 * k) by rw [show (256 : Nat) = 2 ^ 8 from rfl, ← Nat.pow_mul]]
  rw [Int.natCast_emod, Int.natCast_ediv, Int.natCast_pow]
  rfl
set_option maxRecDepth 100000 in
set_option maxHeartbeats 400000 in
theorem fixed_any (v : Nat) (w : World) (h1 : v < 18446744073709551616) :
    Calls Tryz.prog 23 #[.int .u64 v, .int .i64 8] w fun e w' => e = .returned (.tuple #[.string (tickB v), .int .i64 0]) ∧ Below w.heap.size w w' := by
  have hmk : ∀ w, (Instr.makeSlice 128 (.int .i64 8) (.int .i64 8)).run Tryz.prog w = .ok (.slice (some ⟨w.heap.size, 0, none⟩) 8 8) (w.alloc (.cells #[.int .u8 0, .int .u8 0, .int .u8 0, .int .u8 0, .int .u8 0, .int .u8 0, .int .u8 0, .int .u8 0] 5)) := fun _ => by kernel_rfl
  have H1 := Lib.hid h1
  clear h1
  go_enter Tryz.func23, Tryz.ntmps23
  go_wp2
  go_loopw [29] (fun i wr => ∃ k : Nat, k ≤ 8 ∧ i = .int .i64 k ∧ wr.ownsRow w.heap.size 5 1 (.slice (some ⟨w.heap.size, 0, none⟩) 8 8) 8 (List.replicate (8 - k) (bv 0) ++ (lowL v k).map bv) ∧ Below w.heap.size w wr)
    (fun i _ => (8 - intOf i).toNat)
  case atStart => exact ⟨0, Nat.zero_le _, rfl, World.ownsRow_lit w _ 8 (Nat.le_refl _) (by decide) rfl, (Below.refl _ w).alloc (Nat.le_refl _) _⟩
  case round =>
    obtain ⟨k, hk, rfl, how, hb⟩ := hrel
    have HO := Lib.hid how
    clear how
    by_cases hlt : k < 8
    · have hf := HO.out.frozenAt (7 - k)
      have hc : wr.cell? ⟨w.heap.size, 7 - k, none⟩ = some (bv 0) := by
        rw [HO.out.cellAt (7 - k) (by omega), List.getElem?_append_left (by simp; omega), List.getElem?_replicate_of_lt (by omega)]
      go_wp2
      go_roundw
      case rel =>
        have hs := HO.out.stored (7 - k) (.int .u8 ((v / 256 ^ k % 256 : Nat) : Int))
        rw [set_low v k hlt] at hs
        rw [byte_at]
        exact ⟨k + 1, by omega, by go_num, hs.1, hb.grown hs.2 hb.size (fun k hk => by cases hk; exact Nat.le_refl _)⟩
      case measure => simp [intOf]; omega
    · have hk8 : k = 8 := by omega
      subst hk8
      have hcv := run_string_own (P := Tryz.prog) wr 128 9 5 Tryz.underlying128 Tryz.underlying5 Tryz.underlying9 (bs := lowL v 8) (by simpa using HO.out)
      go_wp2
      go_ret2
      exact ⟨rfl, hb⟩
theorem take_snoc (s : ByteArray) (k : Nat) (h : k < s.size) : s.data.toList.take (k + 1) = s.data.toList.take k ++ [s[k]] := by
  rw [List.take_add_one]
  congr 1
  rw [List.getElem?_eq_getElem (by simpa using h)]
  rfl
theorem num_take_lt (s : ByteArray) (k : Nat) (h : k ≤ s.size) : numL (s.data.toList.take k) < 256 ^ k := by
  have := numL_lt (s.data.toList.take k)
  rwa [List.length_take, Nat.min_eq_left (by simpa using h)] at this
theorem shl_or (a : Nat) (b : UInt8) (h : a < 72057594037927936) : bits BinOp.or IntKind.u64 (IntKind.u64.wrap ((a : Int) * 256)) (IntKind.u64.wrap (b.toNat : Int)) = ((a * 256 + b.toNat : Nat) : Int) := by
  have hb : b.toNat < 256 := b.toNat_lt
  rw [IntKind.wrap_u64, IntKind.wrap_u64, show ((a : Int) * 256 % 18446744073709551616) = ((a * 256 : Nat) : Int) by omega, show ((b.toNat : Int) % 18446744073709551616) = (b.toNat : Int) by omega, u64_or_nat _ _ (by omega) (by omega), show a * 256 = 2 ^ 8 * a by omega, ← Nat.two_pow_add_eq_or_of_lt hb]
set_option maxRecDepth 100000 in
set_option maxHeartbeats 400000 in
theorem number_any (s : ByteArray) (w : World) (h1 : 1 ≤ s.size) (h8 : s.size ≤ 8) :
    Calls Tryz.prog 22 #[.string s] w fun e w' => e = .returned (.tuple #[.int .u64 (numL s.data.toList : Nat), .int .i64 0]) ∧ w' = w := by
  go_enter Tryz.func22, Tryz.ntmps22
  go_wp2
  go_loopw [4, 16] (fun x i wr => ∃ k : Nat, k ≤ s.size ∧ i = .int .i64 k ∧ x = .int .u64 (numL (s.data.toList.take k) : Nat) ∧ wr = w)
    (fun _ i _ => (s.size - intOf i).toNat)
  case atStart => exact ⟨0, Nat.zero_le _, rfl, rfl, rfl⟩
  case round =>
    obtain ⟨k, hk, rfl, rfl, rfl⟩ := hrel
    by_cases hlt : k < s.size
    · go_wp2
      go_roundw
      case rel =>
        have hn := num_take_lt s k hk
        have hp : 256 ^ k ≤ 256 ^ 7 := Nat.pow_le_pow_right (by omega) (by omega)
        refine ⟨k + 1, by omega, by go_num, ?_, trivial⟩
        rw [shl_or _ _ (by omega), take_snoc s k hlt, numL_snoc]
      case measure => simp [intOf]; omega
    · have ht : s.data.toList.take k = s.data.toList := List.take_of_length_le (by simp; omega)
      rw [ht]
      go_wp2
      go_ret2
      exact ⟨rfl, rfl⟩
theorem cut8_size (t : ByteArray) (h : 8 ≤ t.size) : (t.extract 0 8).size = 8 := by simp; omega
theorem tickB_size (v : Nat) : (tickB v).size = 8 := lowL_len v 8
def splitV (t : ByteArray) : Nat × ByteArray × Bool := if t.size < 8 then (0, ⟨#[]⟩, false) else (numL (t.data.toList.take 8), t.extract 8 t.size, true)
theorem bytes_ext {a b : ByteArray} (h : a.data.toList = b.data.toList) : a = b := by
  cases a; cases b
  congr 1
  exact Array.toList_inj.1 h
theorem extract_toList (t : ByteArray) (a b : Nat) : (t.extract a b).data.toList = (t.data.toList.take b).drop a := by
  simp [List.drop_take]
theorem split_rec (v : Nat) (t : ByteArray) (h : v < 18446744073709551616) : splitV (recB v t) = (v, t, true) := by
  have hd : (recB v t).data.toList = lowL v 8 ++ t.data.toList := by simp [recB, tickB]
  have hz : (recB v t).size = 8 + t.size := by simp [recB, tickB_size]
  have h1 : numL ((recB v t).data.toList.take 8) = v := by
    rw [hd, List.take_left' (lowL_len v 8), numL_lowL]
    exact Nat.mod_eq_of_lt h
  have h2 : (recB v t).extract 8 (recB v t).size = t := bytes_ext (by
    rw [extract_toList, List.take_of_length_le (by simp), hd, List.drop_left' (lowL_len v 8)])
  rw [splitV, if_neg (by omega), h1, h2]
theorem rec_split (t : ByteArray) (h : 8 ≤ t.size) : recB (splitV t).1 (splitV t).2.1 = t := by
  rw [splitV, if_neg (by omega)]
  refine bytes_ext ?_
  have h8 : (t.data.toList.take 8).length = 8 := by rw [List.length_take]; exact Nat.min_eq_left (by simpa using h)
  have h1 : lowL (numL (t.data.toList.take 8)) 8 = t.data.toList.take 8 := by
    have := lowL_numL (t.data.toList.take 8)
    rwa [h8] at this
  simp only [recB, tickB, ByteArray.data_append, Array.toList_append, extract_toList, h1]
  rw [List.take_of_length_le (l := t.data.toList) (i := t.size) (by simp), List.take_append_drop]
theorem split_lt (t : ByteArray) : (splitV t).1 < 18446744073709551616 := by
  unfold splitV
  split
  · show 0 < _; omega
  · show numL _ < _
    refine Nat.lt_of_lt_of_le (numL_lt _) ?_
    have : 256 ^ (t.data.toList.take 8).length ≤ 256 ^ 8 := Nat.pow_le_pow_right (by omega) (by rw [List.length_take]; omega)
    omega
set_option maxRecDepth 100000 in
set_option maxHeartbeats 400000 in
theorem record_any (v : Nat) (t : ByteArray) (w : World) (h1 : v < 18446744073709551616) (h2 : t.size ≤ 140737488351232) :
    Calls Tryz.prog 7 #[.int .u64 v, .string t] w fun e w' => e = .returned (.string (recB v t)) ∧ Below w.heap.size w w' := by
  have hn : ¬ 9223372036854775807 < (tickB v).size + t.size := by rw [tickB_size]; omega
  have H1 := Lib.hid h1
  clear h1
  go_enter Tryz.func7, Tryz.ntmps7
  go_wp2_with fail
  refine (fixed_any v _ H1.out).mono ?_
  rintro e w1 ⟨rfl, hb⟩
  go_wp2
  go_ret
  exact ⟨rfl, hb⟩
set_option maxRecDepth 100000 in
set_option maxHeartbeats 400000 in
theorem split_any (t : ByteArray) (w : World) :
    Calls Tryz.prog 6 #[.string t] w fun e w' => e = .returned (.tuple #[.int .u64 (splitV t).1, .string (splitV t).2.1, .bool (splitV t).2.2]) ∧ Below w.heap.size w w' := by
  by_cases h : t.size < 8
  · have hs : splitV t = (0, ⟨#[]⟩, false) := if_pos h
    rw [hs]
    go_enter Tryz.func6, Tryz.ntmps6
    go_wp2
    go_ret3
    exact ⟨rfl, Below.refl _ _⟩
  · have hs : splitV t = (numL (t.data.toList.take 8), t.extract 8 t.size, true) := if_neg h
    rw [hs]
    go_enter Tryz.func6, Tryz.ntmps6
    go_wp2_with fail
    refine (number_any _ _ (by rw [cut8_size t (by omega)]; omega) (by rw [cut8_size t (by omega)]; omega)).mono ?_
    rintro e w1 ⟨rfl, rfl⟩
    go_wp2
    go_region
    go_wp2
    go_ret3
    exact ⟨rfl, (Below.refl _ _).drew⟩
end Go.Proofs.YtaaomhjgolmakaaGreatDoor
namespace Go.Proofs.YtaaomhjgolmakaaGreatDoor
open Go.RowKit
theorem quo_one (v k : Nat) (h : v < 18446744073709551616) : IntKind.u64.wrap (((v : Int) / 256 ^ k).tdiv 256) = ((v / 256 ^ (k + 1) : Nat) : Int) := by
  have hle : v / 256 ^ k ≤ v := Nat.div_le_self _ _
  rw [show ((v : Int) / 256 ^ k) = ((v / 256 ^ k : Nat) : Int) by rw [Int.natCast_ediv, Int.natCast_pow]; rfl, Int.tdiv_eq_ediv_of_nonneg (Int.natCast_nonneg _), IntKind.wrap_u64, Nat.pow_succ, ← Nat.div_div_eq_div_mul]
  generalize v / 256 ^ k = q at *
  omega
theorem cat_low (v k : Nat) : ByteArray.mk #[UInt8.ofNat (v / 256 ^ k % 256)] ++ ByteArray.mk (lowL v k).toArray = ByteArray.mk (lowL v (k + 1)).toArray := bytes_ext (by simp [lowL])
theorem low_end (v : Nat) (h : v < 18446744073709551616) : v / 256 ^ 8 = 0 := Nat.div_eq_of_lt (by omega)
set_option maxRecDepth 100000 in
set_option maxHeartbeats 400000 in
theorem rfixed_any (v : Nat) (w : World) (h1 : v < 18446744073709551616) :
    Calls Tryz.prog 24 #[.int .u64 v, .int .i64 8] w fun e w' => e = .returned (.tuple #[.string (tickB v), .int .i64 0]) ∧ Below w.heap.size w w' := by
  have H1 := Lib.hid h1
  clear h1
  go_enter Tryz.func24, Tryz.ntmps24
  go_wp2
  go_loopw [0, 6, 7] (fun x s i wr => ∃ k : Nat, k ≤ 8 ∧ i = .int .i64 k ∧ x = .int .u64 (v / 256 ^ k : Nat) ∧ s = .string ⟨(lowL v k).toArray⟩ ∧ Below w.heap.size w wr)
    (fun _ _ i _ => (8 - intOf i).toNat)
  case atStart => exact ⟨0, Nat.zero_le _, rfl, by simp, rfl, Below.refl _ w⟩
  case round =>
    obtain ⟨k, hk, rfl, rfl, rfl, hb⟩ := hrel
    by_cases hlt : k < 8
    · have hx : ((v : Int) / 256 ^ k).tmod 256 % 256 = ((v / 256 ^ k % 256 : Nat) : Int) := by
        rw [show ((v : Int) / 256 ^ k) = ((v / 256 ^ k : Nat) : Int) by rw [Int.natCast_ediv, Int.natCast_pow]; rfl, Int.tmod_eq_emod_of_nonneg (Int.natCast_nonneg _)]
        omega
      have how : (wr.alloc (.cells #[.int .u8 (((v : Int) / 256 ^ k).tmod 256 % 256)] 5)).ownsRow w.heap.size 5 1 (.slice (some ⟨wr.heap.size, 0, none⟩) 1 1) 1 ([UInt8.ofNat (v / 256 ^ k % 256)].map bv) := by
        have := World.ownsRow_lit (base := w.heap.size) (e := 5) (size := 1) wr #[.int .u8 (((v : Int) / 256 ^ k).tmod 256 % 256)] 1 hb.size (by decide) rfl
        rw [List.map_singleton, bv_ofNat _ (Nat.mod_lt _ (by omega)), ← hx]
        exact this
      have hcv := run_string_own (P := Tryz.prog) (wr.alloc (.cells #[.int .u8 (((v : Int) / 256 ^ k).tmod 256 % 256)] 5)) 128 9 5 Tryz.underlying128 Tryz.underlying5 Tryz.underlying9 (bs := [UInt8.ofNat (v / 256 ^ k % 256)]) how
      have hn : ¬ 9223372036854775807 < (ByteArray.mk [UInt8.ofNat (v / 256 ^ k % 256)].toArray).size + (ByteArray.mk (lowL v k).toArray).size := by
        have := lowL_len v k
        simp [ByteArray.size]
        omega
      clear how hx
      go_wp2
      go_roundw
      case rel =>
        exact ⟨k + 1, by omega, by go_num, by rw [quo_one v k H1.out], by rw [cat_low], hb.alloc hb.size _⟩
      case measure => simp [intOf]; omega
    · have hk8 : k = 8 := by omega
      subst hk8
      have he := low_end v H1.out
      rw [he]
      go_wp2
      go_ret2
      exact ⟨rfl, hb⟩
set_option maxRecDepth 100000 in
set_option maxHeartbeats 400000 in
theorem rrecord_any (v : Nat) (t : ByteArray) (w : World) (h1 : v < 18446744073709551616) (h2 : t.size ≤ 140737488351232) :
    Calls Tryz.prog 8 #[.int .u64 v, .string t] w fun e w' => e = .returned (.string (recB v t)) ∧ Below w.heap.size w w' := by
  have hn : ¬ 9223372036854775807 < (tickB v).size + t.size := by rw [tickB_size]; omega
  have H1 := Lib.hid h1
  clear h1
  go_enter Tryz.func8, Tryz.ntmps8
  go_wp2_with fail
  refine (rfixed_any v _ H1.out).mono ?_
  rintro e w1 ⟨rfl, hb⟩
  go_wp2
  go_ret
  exact ⟨rfl, hb⟩
end Go.Proofs.YtaaomhjgolmakaaGreatDoor
namespace Go.Proofs.YtaaomhjgolmakaaGreatDoor
open Go.RowKit Ev
theorem xor_u32 (a b : Nat) (ha : a < 4294967296) (hb : b < 4294967296) : bits .xor .u32 (a : Int) (b : Int) = ((a ^^^ b : Nat) : Int) := by
  have hx : a ^^^ b < 2 ^ 32 := Nat.xor_lt_two_pow (by omega) (by omega)
  have h1 : (BitVec.ofInt 32 (a : Int)).toNat = a := by
    rw [BitVec.ofInt_natCast, BitVec.toNat_ofNat]; exact Nat.mod_eq_of_lt (by omega)
  have h2 : (BitVec.ofInt 32 (b : Int)).toNat = b := by
    rw [BitVec.ofInt_natCast, BitVec.toNat_ofNat]; exact Nat.mod_eq_of_lt (by omega)
  show IntKind.u32.wrap ((BitVec.ofInt 32 (a : Int) ^^^ BitVec.ofInt 32 (b : Int)).toNat : Int) = _
  rw [BitVec.toNat_xor, h1, h2, IntKind.wrap_u32]
  omega
theorem xor_lt32 (a b : Nat) (ha : a < 4294967296) (hb : b < 4294967296) : a ^^^ b < 4294967296 := Nat.xor_lt_two_pow (n := 32) (by omega) (by omega)
theorem crcBit_lt (y : Nat) : crcBit y < 4294967296 := xor_lt32 _ _ (Nat.mod_lt _ (by decide)) (Nat.mod_lt _ (by decide))
theorem crc_step (z : Nat) (hz : z < 4294967296) : bits .xor .u32 ((z : Int) * 2 % 4294967296) ((z : Int) / 2147483648 * 79764919) = (crcBit z : Int) := by
  have e1 : ((z : Int) * 2 % 4294967296) = ((z * 2 % 4294967296 : Nat) : Int) := by omega
  have e2 : ((z : Int) / 2147483648 * 79764919) = ((z / 2147483648 * 79764919 % 4294967296 : Nat) : Int) := by omega
  rw [e1, e2, xor_u32 _ _ (Nat.mod_lt _ (by decide)) (Nat.mod_lt _ (by decide))]
  rfl
theorem crc_first (y b : Nat) (hy : y < 4294967296) : bits .xor .u32 (y : Int) ((b : Int) % 4294967296 * 16777216 % 4294967296) = ((y ^^^ (b * 16777216 % 4294967296) : Nat) : Int) := by
  have e2 : ((b : Int) % 4294967296 * 16777216 % 4294967296) = ((b * 16777216 % 4294967296 : Nat) : Int) := by omega
  rw [e2, xor_u32 _ _ hy (Nat.mod_lt _ (by decide))]
theorem crcL_snoc : ∀ (l : List UInt8) (y : Nat) (b : UInt8), crcL (l ++ [b]) y = crcByte (crcL l y) b.toNat
  | [], _, _ => rfl
  | x :: l, y, b => crcL_snoc l (crcByte y x.toNat) b
set_option maxRecDepth 100000 in
set_option maxHeartbeats 4000000 in
theorem crc_any (x : Nat) (s : ByteArray) (w : World) (hx : x < 4294967296) (hs : s.size ≤ 140737488351232) : Calls Tryz.prog 423 #[.int .u32 x, .string s] w fun e w' => e = .returned (.int .u32 (crcL s.data.toList x)) ∧ w' = w := by
  go_enter Tryz.func423, Tryz.ntmps423
  go_wp2_with fail
  go_loopg [11, 5] s.size (fun g i c wr => ∃ (k y : Nat), g = s.size - k ∧ i = .int .i64 k ∧ c = .int .u32 y ∧ y < 4294967296 ∧ k ≤ s.size ∧ Hid (y = crcL (s.data.toList.take k) x) ∧ wr = w)
  case atStart => exact ⟨0, x, rfl, rfl, rfl, hx, Nat.zero_le _, Lib.hid rfl, rfl⟩
  case round =>
    obtain ⟨k, y, hg, rfl, rfl, hy, hk, HY, rfl⟩ := hrel
    have HG := Lib.hid hg
    clear hg
    by_cases hlt : k < s.size
    · have hkl : (k : Int) < (s.size : Int) := by omega
      have hf := crc_first y s[k].toNat hy
      obtain ⟨z0, hz0⟩ : ∃ z, z = y ^^^ (s[k].toNat * 16777216 % 4294967296) := ⟨_, rfl⟩
      have hzl : z0 < 4294967296 := by rw [hz0]; exact xor_lt32 _ _ hy (Nat.mod_lt _ (by decide))
      rw [← hz0] at hf
      have HZ := Lib.hid hz0
      clear hz0
      go_wp2_with fail
      have HF := Lib.hid hf
      clear hf
      go_loopg [21, 5] 8 (fun g i c w7 => ∃ (j q : Nat), g = 8 - j ∧ i = .int .i64 j ∧ c = .int .u32 q ∧ q < 4294967296 ∧ j ≤ 8 ∧ Hid (q = crcBits j z0) ∧ w7 = wr)
      case atStart => exact ⟨0, z0, rfl, rfl, rfl, hzl, by omega, Lib.hid rfl, rfl⟩
      case round =>
        obtain ⟨j, q, hg, rfl, rfl, hq, hj, HQ, rfl⟩ := hrel
        have HG2 := Lib.hid hg
        clear hg
        have hs := crc_step q hq
        have HQL := Lib.hid (crcBit_lt q)
        by_cases hj8 : j < 8
        · have HS := Lib.hid (show crcBit q = crcBits (j + 1) z0 by rw [HQ.out]; rfl)
          go_wp2_with fail
          go_roundg (8 - (j + 1))
          case rel => exact ⟨j + 1, crcBit q, rfl, by go_num, rfl, HQL.out, by omega, HS, rfl⟩
          case measure => have := HG2.out; omega
        · obtain rfl : j = 8 := by omega
          have HS := Lib.hid (show q = crcL (s.data.toList.take (k + 1)) x by
            have e : s.data.toList.take (k + 1) = s.data.toList.take k ++ [s[k]] := by
              rw [List.take_succ_eq_append_getElem (by simpa using hlt)]
              rfl
            rw [e, crcL_snoc, ← HY.out, HQ.out, HZ.out]
            rfl)
          clear hs
          go_wp2_with fail
          go_roundg (s.size - (k + 1))
          case rel => exact ⟨k + 1, q, rfl, by go_num, rfl, hq, by omega, HS, rfl⟩
          case measure => have := HG.out; omega
    · have HE := Lib.hid (show y = crcL s.data.toList x by
        rw [HY.out, List.take_of_length_le (by simpa using Nat.le_of_not_lt hlt)])
      go_wp2_with fail
      go_ret
      exact ⟨congrArg (fun n : Nat => Ending.returned (.int .u32 (n : Int))) HE.out, rfl⟩
theorem crcC : CrcC Tryz.prog 423 := fun x s w hx hs => (crc_any x s w hx (by omega)).mono fun e w' ⟨h1, h2⟩ => ⟨h1, by rw [h2]; exact Below.refl _ _⟩
end Go.Proofs.YtaaomhjgolmakaaGreatDoor
namespace Go.Proofs.YtaaomhjgolmakaaGreatDoor
open Go Go.RowKit
theorem et_row : ∃ zero : Array Value, (((begin Tryz.prog (fun _ _ => 0) default).world.heap[(0 : Nat)]?).bind Obj.row?) = some (zero, 300) ∧ zero.size = 1 := ⟨#[.nilIface], by kernel_rfl, rfl⟩
theorem et_lt : 0 < Tryz.prog.globals.size := of_decide_eq_true (by kernel_rfl)
theorem et_block {W : World} {v : Value} (hsh : World.ShapedOpen Tryz.prog W) (hc : W.cell? ⟨0, 0, none⟩ = some v) : W.heap[(0 : Nat)]? = some (Ev.cellObj v 300) := by
  obtain ⟨zero, hz, h1⟩ := et_row
  obtain ⟨cs, h2, h3, _⟩ := hsh.1 0 zero _ et_lt hz
  simp only [World.cell?, h2] at hc
  obtain ⟨cs⟩ := cs
  rw [h1] at h3
  match cs, h3 with
  | [u], _ =>
    have hc : some u = some v := hc
    obtain rfl := Option.some.inj hc
    exact h2
end Go.Proofs.YtaaomhjgolmakaaGreatDoor
namespace Go.Proofs.YtaaomhjgolmakaaGreatDoor.Num
open Go.RowKit Go.Extern.Stop Go.Stop Go.Extern
set_option maxRecDepth 100000 in
theorem valueOfP (t : Addr) (w : World) : (ReflectliteValue.unpack (.iface 190 (.pointer (some t)))).run Tryz.prog w = .ok (.agg #[.pointer (some ⟨4, 190, none⟩), .pointer (some ⟨w.heap.size, 0, none⟩), .int .u64 150]) (w.alloc (.cells #[.pointer (some t)] 190)) := by kernel_rfl
set_option maxRecDepth 100000 in
theorem typeP (a : Addr) (w : World) : (ReflectliteValue.methodAny (ReflectliteValue.valueError "reflectlite.Value.Type" 0) (fun t _ _ _ => ReflectliteType.toType t) #[.agg #[.pointer (some ⟨4, 190, none⟩), .pointer (some a), .int .u64 150]]).run Tryz.prog w = .ok (.iface 482 (.agg #[.pointer (some ⟨4, 190, none⟩)])) w := by kernel_rfl
set_option maxRecDepth 100000 in
theorem methodKind (h : Value) (w : World) : (Go.method 957 482 (.agg #[h]) "Kind").run Tryz.prog w = .ok (669, h) w := by kernel_rfl
set_option maxRecDepth 100000 in
theorem kindP (w : World) : ((ReflectliteType.abiMethod fun t => (fun a : Nat => Value.int IntKind.u8 (a : Int)) <$> Rtype.kind t) #[.pointer (some ⟨4, 190, none⟩)]).run Tryz.prog w = .ok (.int .u8 22) w := by kernel_rfl
set_option maxRecDepth 100000 in
theorem kindF (w : World) : ((ReflectliteType.abiMethod fun t => (fun a : Nat => Value.int IntKind.u8 (a : Int)) <$> Rtype.kind t) #[.pointer (some ⟨4, 188, none⟩)]).run Tryz.prog w = .ok (.int .u8 25) w := by kernel_rfl
theorem rlm (z : Sem Value) (f : TypeId → Addr → Nat → Nat → Sem Value) (v : Value) :
    ReflectliteValue.method z f #[v] = (do match ← ReflectliteValue.parts v with | none => z | some (t, a, fl) => f t a fl (fl % 32)) := rfl
set_option maxRecDepth 100000 in
theorem partsP (a : Addr) (w : World) : (ReflectliteValue.parts (.agg #[.pointer (some ⟨4, 190, none⟩), .pointer (some a), .int .u64 150])).run Tryz.prog w = .ok (some (190, a, 150)) w := by kernel_rfl
theorem isNilP (a p : Addr) (W : World) (ha : W.cell? a = some (.pointer (some p))) :
    (ReflectliteValue.method (ReflectliteValue.valueError "reflectlite.Value.IsNil" 0) ReflectliteValue.isNil #[.agg #[.pointer (some ⟨4, 190, none⟩), .pointer (some a), .int .u64 150]]).run Tryz.prog W = .ok (.bool false) W := by
  rw [rlm]
  simp only [Sem.run_bind, partsP, Result.andThen]
  simp [ReflectliteValue.isNil, loadVar, isAgg, underlying, Tryz.underlying190, ha, Result.andThen]
set_option maxRecDepth 100000 in
theorem methodElem (h : Value) (w : World) : (Go.method 957 482 (.agg #[h]) "Elem").run Tryz.prog w = .ok (685, .agg #[h]) w := by kernel_rfl
set_option maxRecDepth 100000 in
theorem methodImplements (h : Value) (w : World) : (Go.method 957 482 (.agg #[h]) "Implements").run Tryz.prog w = .ok (686, .agg #[h]) w := by kernel_rfl
set_option maxRecDepth 100000 in
theorem methodAssignableTo (h : Value) (w : World) : (Go.method 957 482 (.agg #[h]) "AssignableTo").run Tryz.prog w = .ok (683, .agg #[h]) w := by kernel_rfl
set_option maxRecDepth 100000 in
theorem elemT (w : World) : (ReflectliteType.method ReflectliteType.elem #[.agg #[.pointer (some ⟨4, 190, none⟩)]]).run Tryz.prog w = .ok (.iface 482 (.agg #[.pointer (some ⟨4, 188, none⟩)])) w := by kernel_rfl
set_option maxRecDepth 100000 in
theorem implementsF (w : World) : (ReflectliteType.relation "Implements" ReflectliteType.implements_ #[.agg #[.pointer (some ⟨4, 188, none⟩)], .iface 482 (.agg #[.pointer (some ⟨4, 84, none⟩)])]).run Tryz.prog w = .ok (.bool true) w := by kernel_rfl
theorem noAs (v : Value) (xT : TypeId) (w : World) : (Instr.typeAssert (.iface 184 v) xT 487 true).run Tryz.prog w = .ok (.tuple #[.nilIface, .bool false]) w := run_typeAssert_lacksB Tryz.underlying487 (by kernel_rfl) (by kernel_rfl) v xT w
theorem hasUnwrap (v : Value) (xT : TypeId) (w : World) : (Instr.typeAssert (.iface 184 v) xT 490 true).run Tryz.prog w = .ok (.tuple #[.iface 184 v, .bool true]) w := run_typeAssert_hasB Tryz.underlying490 (by kernel_rfl) v xT w
set_option maxRecDepth 100000 in
theorem methodUnwrap (v : Value) (w : World) : (Go.method 957 184 v "Unwrap").run Tryz.prog w = .ok (675, v) w := by kernel_rfl
set_option maxRecDepth 100000 in
theorem typeOfF (v : Value) (w : World) : (ReflectliteType.typeOf #[.iface 188 v]).run Tryz.prog w = .ok (.iface 482 (.agg #[.pointer (some ⟨4, 188, none⟩)])) w := by kernel_rfl
set_option maxRecDepth 100000 in
theorem typeOfS (v : Value) (w : World) : (ReflectliteType.typeOf #[.iface 184 v]).run Tryz.prog w = .ok (.iface 482 (.agg #[.pointer (some ⟨4, 184, none⟩)])) w := by kernel_rfl
set_option maxRecDepth 100000 in
theorem assignF (w : World) : (ReflectliteType.relation "AssignableTo" ReflectliteType.assignableTo #[.agg #[.pointer (some ⟨4, 188, none⟩)], .iface 482 (.agg #[.pointer (some ⟨4, 188, none⟩)])]).run Tryz.prog w = .ok (.bool true) w := by kernel_rfl
set_option maxRecDepth 100000 in
theorem assignS (w : World) : (ReflectliteType.relation "AssignableTo" ReflectliteType.assignableTo #[.agg #[.pointer (some ⟨4, 184, none⟩)], .iface 482 (.agg #[.pointer (some ⟨4, 188, none⟩)])]).run Tryz.prog w = .ok (.bool false) w := by kernel_rfl
set_option maxRecDepth 100000 in
theorem valueOfF (n : Int) (w : World) : (ReflectliteValue.unpack (.iface 188 (.agg #[.int .i64 n]))).run Tryz.prog w = .ok (.agg #[.pointer (some ⟨4, 188, none⟩), .pointer (some ⟨w.heap.size, 0, none⟩), .int .u64 153]) (w.alloc (.cells #[.int .i64 n] 188)) := by kernel_rfl
set_option maxRecDepth 100000 in
theorem elemOfP (w : World) : (Rtype.elem? 190).run Tryz.prog w = .ok (some 188) w := by kernel_rfl
set_option maxRecDepth 100000 in
theorem mkF (p : Addr) (w : World) : (ReflectliteValue.mk 188 p ReflectliteValue.flagAddr).run Tryz.prog w = .ok (.agg #[.pointer (some ⟨4, 188, none⟩), .pointer (some p), .int .u64 409]) w := by kernel_rfl
theorem elemV (a p : Addr) (W : World) (ha : W.cell? a = some (.pointer (some p))) :
    (ReflectliteValue.method (ReflectliteValue.valueError "reflectlite.Value.Elem" 0) ReflectliteValue.elem #[.agg #[.pointer (some ⟨4, 190, none⟩), .pointer (some a), .int .u64 150]]).run Tryz.prog W
      = .ok (.agg #[.pointer (some ⟨4, 188, none⟩), .pointer (some p), .int .u64 409]) W := by
  rw [rlm]
  simp only [Sem.run_bind, partsP, Result.andThen]
  simp [ReflectliteValue.elem, loadVar, isAgg, underlying, Tryz.underlying190, ha, Result.andThen, elemOfP, mkF]
theorem rls (v x : Value) : ReflectliteValue.set #[v, x] = (do
    let (some (dst, a, fl), some (src, b, _)) := (← ReflectliteValue.parts v, ← ReflectliteValue.parts x)
      | unsupported (.noEntry "extern/(internal/reflectlite.Value).Set.zeroValue")
    if fl / ReflectliteValue.flagAddr % 2 == 0 then unsupported (.noEntry "extern/(internal/reflectlite.Value).Set.unaddressable")
    let val ← loadVar src b
    if ← Rtype.directlyAssignable dst src then storeVar dst a val
    else if ← Rtype.implements dst src then
      if (← Rtype.kind src) == 20 then
        match val with
        | .nilIface => unsupported (.noEntry "extern/reflectlite: a nil value of one interface type handed on as a value of another")
        | _ => storeVar dst a val
      else storeVar dst a (.iface src val)
    else panicString ("reflectlite.Set: value of type " ++ (← Rtype.spelt src) ++ " is not assignable to type " ++ (← Rtype.spelt dst))
    pure (.tuple #[])) := rfl
set_option maxRecDepth 100000 in
theorem partsFa (a : Addr) (w : World) : (ReflectliteValue.parts (.agg #[.pointer (some ⟨4, 188, none⟩), .pointer (some a), .int .u64 409])).run Tryz.prog w = .ok (some (188, a, 409)) w := by kernel_rfl
set_option maxRecDepth 100000 in
theorem partsF (a : Addr) (w : World) : (ReflectliteValue.parts (.agg #[.pointer (some ⟨4, 188, none⟩), .pointer (some a), .int .u64 153])).run Tryz.prog w = .ok (some (188, a, 153)) w := by kernel_rfl
set_option maxRecDepth 100000 in
theorem directF (w : World) : (Rtype.directlyAssignable 188 188).run Tryz.prog w = .ok (true) w := by kernel_rfl
theorem infoF : (Tryz.prog.info? 188).map (·.size) = some 1 := by kernel_rfl
theorem setF (ta b : Addr) (n : Int) (old : Value) (W : World) (hs : b.spot = none) (hb : W.cell? b = some (.int .i64 n)) (ht : W.cell? ta = some old) (hts : ta.spot = none) (hf : W.frozen? ta = false) :
    (ReflectliteValue.set #[.agg #[.pointer (some ⟨4, 188, none⟩), .pointer (some ta), .int .u64 409], .agg #[.pointer (some ⟨4, 188, none⟩), .pointer (some b), .int .u64 153]]).run Tryz.prog W
      = .ok (.tuple #[]) (W.setCell ta (.int .i64 n)) := by
  rw [rls]
  obtain ⟨b1, b2, b3⟩ := b
  obtain ⟨t1, t2, t3⟩ := ta
  simp only at hs hts
  subst hs hts
  have l1 : (loadVar 188 ⟨b1, b2, none⟩).run Tryz.prog W = .ok (.agg #[.int .i64 n]) W := run_loadVar_mid W b1 b2 188 [.int .i64 n] _ (fun j u hj => by
    match j, hj with
    | 0, hj => rw [Nat.add_zero]; exact hb.trans hj
    | j + 1, hj => simp at hj) Tryz.underlying188 rfl infoF
  have s1 : (storeVar 188 ⟨t1, t2, none⟩ (.agg #[.int .i64 n])).run Tryz.prog W = .ok () (W.setCell ⟨t1, t2, none⟩ (.int .i64 n)) := by
    have := run_storeVar_mid (P := Tryz.prog) W t1 t2 188 #[.int .i64 n] (fun j hj => by
      have : j = 0 := by simpa using hj
      subst this
      exact ⟨by rw [Nat.add_zero]; simp [ht], (by rw [Nat.add_zero]; exact hf)⟩) infoF (by simp [Value.oneCell'])
    rw [this]
    rfl
  simp only [Sem.run_bind, partsFa, partsF, Result.andThen]
  simp [ReflectliteValue.flagAddr, l1, Result.andThen, directF, s1]
set_option maxRecDepth 100000 in
set_option maxHeartbeats 4000000 in
theorem as_step (d : ByteArray) (n : Int) (t : Addr) (old : Value) (w : World) (hg : w.cell? ⟨0, 0, none⟩ = some (.iface 482 (.agg #[.pointer (some ⟨4, 84, none⟩)]))) (hts : t.spot = none) (ht0 : w.cell? t = some old) (hf0 : w.frozen? t = false) :
    Calls Tryz.prog 82 #[.iface 184 (.agg #[.string d, .iface 188 (.agg #[.int .i64 n])]), .iface 190 (.pointer (some t))] w fun ev w' => ev = .returned (.bool true) ∧ w' = (((((w.alloc (.cells #[.pointer (some t)] 190)).alloc (.cells #[.pointer (some ⟨4, 190, none⟩), .pointer (some ⟨w.heap.size, 0, none⟩), .int .u64 150] 297)).alloc (.cells #[.pointer (some ⟨4, 190, none⟩), .pointer (some ⟨w.heap.size, 0, none⟩), .int .u64 150] 297)).alloc (.cells #[.string d, .iface 188 (.agg #[.int .i64 n])] 184)).alloc (.cells #[.int .i64 n] 188)).setCell t (.int .i64 n) := by
  have h6 := @run_callFunc_extern Tryz.prog 166 _ (fun args => ReflectliteValue.unpack (args.getD 0 (.tuple #[]))) Tryz.func166 (by kernel_rfl) (by kernel_rfl) (by kernel_rfl) (by kernel_rfl)
  have h7 := @run_callFunc_extern Tryz.prog 167 _ (ReflectliteValue.methodAny (ReflectliteValue.valueError "reflectlite.Value.Type" 0) (fun t _ _ _ => ReflectliteType.toType t)) Tryz.func167 (by kernel_rfl) (by kernel_rfl) (by kernel_rfl) (by kernel_rfl)
  have h8 := @run_callFunc_extern Tryz.prog 168 _ (ReflectliteValue.method (ReflectliteValue.valueError "reflectlite.Value.IsNil" 0) ReflectliteValue.isNil) Tryz.func168 (by kernel_rfl) (by kernel_rfl) (by kernel_rfl) (by kernel_rfl)
  have h27 := @run_callFunc_extern Tryz.prog 669 _ (ReflectliteType.abiMethod fun t => do pure (.int .u8 (← Rtype.kind t))) Tryz.func669 (by kernel_rfl) (by kernel_rfl) (by kernel_rfl) (by kernel_rfl)
  have h37 := @run_callFunc_extern Tryz.prog 685 _ (ReflectliteType.method ReflectliteType.elem) Tryz.func685 (by kernel_rfl) (by kernel_rfl) (by kernel_rfl) (by kernel_rfl)
  have h38 := @run_callFunc_extern Tryz.prog 686 _ (ReflectliteType.relation "Implements" ReflectliteType.implements_) Tryz.func686 (by kernel_rfl) (by kernel_rfl) (by kernel_rfl) (by kernel_rfl)
  have h10 := @run_callFunc_extern Tryz.prog 320 _ ReflectliteType.typeOf Tryz.func320 (by kernel_rfl) (by kernel_rfl) (by kernel_rfl) (by kernel_rfl)
  have h35 := @run_callFunc_extern Tryz.prog 683 _ (ReflectliteType.relation "AssignableTo" ReflectliteType.assignableTo) Tryz.func683 (by kernel_rfl) (by kernel_rfl) (by kernel_rfl) (by kernel_rfl)
  have h11 := @run_callFunc_extern Tryz.prog 321 _ (ReflectliteValue.method (ReflectliteValue.valueError "reflectlite.Value.Elem" 0) ReflectliteValue.elem) Tryz.func321 (by kernel_rfl) (by kernel_rfl) (by kernel_rfl) (by kernel_rfl)
  have h12 := @run_callFunc_extern Tryz.prog 322 _ ReflectliteValue.set Tryz.func322 (by kernel_rfl) (by kernel_rfl) (by kernel_rfl) (by kernel_rfl)
  have tO := typeOfF
  have tS := typeOfS
  have mA := methodAssignableTo
  have aF := assignF
  have aS := assignS
  have vF := valueOfF
  have f6 := valueOfP
  have f7 := typeP
  have mK := methodKind
  have mE := methodElem
  have mU := methodUnwrap
  have nA := noAs
  have hU := hasUnwrap
  have mI := methodImplements
  have kP := kindP
  have kF := kindF
  have eT := elemT
  have iF := implementsF
  have hlt : 0 < w.heap.size := by
    rcases Nat.lt_or_ge 0 w.heap.size with h | h
    · exact h
    · simp [World.cell?, Array.getElem?_eq_none h] at hg
  have htl : t.block < w.heap.size := by
    rcases Nat.lt_or_ge t.block w.heap.size with h | h
    · exact h
    · simp [World.cell?, Array.getElem?_eq_none h] at ht0
  have n8 := isNilP ⟨w.heap.size, 0, none⟩ t ((w.alloc (.cells #[.pointer (some t)] 190)).alloc (.cells #[.pointer (some ⟨4, 190, none⟩), .pointer (some ⟨w.heap.size, 0, none⟩), .int .u64 150] 297)) (by simp)
  have hg2 : ((w.alloc (.cells #[.pointer (some t)] 190)).alloc (.cells #[.pointer (some ⟨4, 190, none⟩), .pointer (some ⟨w.heap.size, 0, none⟩), .int .u64 150] 297)).cell? ⟨0, 0, none⟩ = some (.iface 482 (.agg #[.pointer (some ⟨4, 84, none⟩)])) := by
    rw [World.cell?_alloc_lt _ _ ⟨0, 0, none⟩ (by simp <;> omega), World.cell?_alloc_lt _ _ ⟨0, 0, none⟩ hlt]; exact hg
  have el := elemV ⟨w.heap.size, 0, none⟩ t ((((w.alloc (.cells #[.pointer (some t)] 190)).alloc (.cells #[.pointer (some ⟨4, 190, none⟩), .pointer (some ⟨w.heap.size, 0, none⟩), .int .u64 150] 297)).alloc (.cells #[.pointer (some ⟨4, 190, none⟩), .pointer (some ⟨w.heap.size, 0, none⟩), .int .u64 150] 297)).alloc (.cells #[.string d, .iface 188 (.agg #[.int .i64 n])] 184)) (by rw [World.cell?_alloc_lt _ _ ⟨w.heap.size, 0, none⟩ (by simp; omega), World.cell?_alloc_lt _ _ ⟨w.heap.size, 0, none⟩ (by simp; omega)]; simp)
  have st := setF t ⟨w.heap.size + 1 + 1 + 1 + 1, 0, none⟩ n old (((((w.alloc (.cells #[.pointer (some t)] 190)).alloc (.cells #[.pointer (some ⟨4, 190, none⟩), .pointer (some ⟨w.heap.size, 0, none⟩), .int .u64 150] 297)).alloc (.cells #[.pointer (some ⟨4, 190, none⟩), .pointer (some ⟨w.heap.size, 0, none⟩), .int .u64 150] 297)).alloc (.cells #[.string d, .iface 188 (.agg #[.int .i64 n])] 184)).alloc (.cells #[.int .i64 n] 188)) rfl
    (by rw [World.cell?_alloc_at _ _ _ _ (by simp)]; rfl)
    (by rw [World.cell?_alloc_lt _ _ t (by simp; omega), World.cell?_alloc_lt _ _ t (by simp; omega), World.cell?_alloc_lt _ _ t (by simp; omega), World.cell?_alloc_lt _ _ t (by simp; omega), World.cell?_alloc_lt _ _ t htl]; exact ht0) hts
    (by rw [World.frozen?_alloc_old _ _ t (by simp; omega), World.frozen?_alloc_old _ _ t (by simp; omega), World.frozen?_alloc_old _ _ t (by simp; omega), World.frozen?_alloc_old _ _ t (by simp; omega), World.frozen?_alloc_old _ _ t (Nat.ne_of_lt htl)]; exact hf0)
  go_enter Tryz.func82, Tryz.ntmps82
  go_wp2
  refine wp_loop_rounds 2 ?_
  rw [rounds_succ]
  go_wp2
  rw [rounds_succ]
  go_simp
  go_wp2
  go_ret
  exact ⟨rfl, rfl⟩
theorem free_new (w : World) (cs : Array Value) (T : TypeId) : (w.alloc (.cells cs T)).frozen? ⟨w.heap.size, 0, none⟩ = false := by
  simp only [World.frozen?, World.alloc, Array.getElem?_push_size]
  rfl
theorem cell_set_five {w w5 : World} {t : Addr} {v : Value} {c0 : Value} {T : TypeId} {o2 o3 o4 o5 o6 : Obj} (h : w5 = ((((((w.alloc (.cells #[c0] T)).alloc o2).alloc o3).alloc o4).alloc o5).alloc o6)) (ht : t = ⟨w.heap.size, 0, none⟩) : (w5.setCell t v).cell? t = some v := by
  subst h ht
  have h0 : ((((((w.alloc (.cells #[c0] T)).alloc o2).alloc o3).alloc o4).alloc o5).alloc o6).heap[w.heap.size]? = some (.cells #[c0] T (0, 0)) := by
    rw [Below.heap_alloc _ _ _ (by simp; omega), Below.heap_alloc _ _ _ (by simp; omega), Below.heap_alloc _ _ _ (by simp; omega), Below.heap_alloc _ _ _ (by simp; omega), Below.heap_alloc _ _ _ (by simp)]
    exact heap_alloc_new _ _
  simp only [World.cell?, World.setCell, Array.getElem?_modify, h0]
  simp
theorem below_five {w w5 : World} {t : Addr} {v : Value} {o1 o2 o3 o4 o5 o6 : Obj} (h : w5 = ((((((w.alloc o1).alloc o2).alloc o3).alloc o4).alloc o5).alloc o6)) (ht : t = ⟨w.heap.size, 0, none⟩) : Below w.heap.size w (w5.setCell t v) := by
  subst h ht
  have hb := (((((box_below (w := w) (o := o1)).alloc (by simp) o2).alloc (by simp; omega) o3).alloc (by simp; omega) o4).alloc (by simp; omega) o5).alloc (by simp; omega) o6
  exact hb.setCell (Nat.le_refl _) _
set_option maxRecDepth 100000 in
set_option maxHeartbeats 4000000 in
theorem number_step (d : ByteArray) (n : Int) (w : World) (hg : w.cell? ⟨0, 0, none⟩ = some (.iface 482 (.agg #[.pointer (some ⟨4, 84, none⟩)]))) :
    Calls Tryz.prog 34 #[.iface 184 (.agg #[.string d, .iface 188 (.agg #[.int .i64 n])])] w fun e w' => e = .returned (.int .i64 n) ∧ Below w.heap.size w w' := by
  have hlt : 0 < w.heap.size := by
    rcases Nat.lt_or_ge 0 w.heap.size with h | h
    · exact h
    · simp [World.cell?, Array.getElem?_eq_none h] at hg
  have HA := Lib.hid (as_step d n ⟨w.heap.size, 0, none⟩ (.int .i64 0) (w.alloc (.cells #[.int .i64 0] 188)) (by rw [World.cell?_alloc_lt _ _ ⟨0, 0, none⟩ hlt]; exact hg) rfl (cell_alloc_at rfl) (free_new _ _ _))
  go_enter Tryz.func34, Tryz.ntmps34
  go_wp2_with fail
  refine HA.out.mono ?_
  rintro e w3 ⟨rfl, h3⟩
  have hb : Below w.heap.size w w3 := by rw [h3]; exact below_five rfl rfl
  have hc : w3.cell? ⟨w.heap.size, 0, none⟩ = some (.int .i64 n) := by
    rw [h3]
    exact cell_set_five rfl rfl
  clear h3
  go_wp2_with fail
  go_ret
  exact ⟨rfl, hb⟩
end Go.Proofs.YtaaomhjgolmakaaGreatDoor.Num
namespace Go.Proofs.YtaaomhjgolmakaaGreatDoor
open Go.Shelf
def Tryz.lays105_ren : Go.Shelf.Ren := ⟨fun | 105 => 110 | 212 => 203 | 99 => 204 | 165 => 205 | 166 => 133 | 170 => 206 | 169 => 107 | 263 => 343 | 264 => 344 | 206 => 345 | 240 => 258 | 241 => 346 | 276 => 408 | 277 => 476 | n => n, fun | 9 => 9 | 3 => 3 | 4 => 4 | 20 => 20 | 0 => 0 | 46 => 127 | 109 => 382 | 5 => 5 | 72 => 212 | 76 => 252 | 51 => 162 | 146 => 539 | 53 => 22 | 148 => 541 | 70 => 210 | 37 => 128 | 75 => 84 | 127 => 380 | 164 => 294 | 80 => 218 | n => n, fun | n => n⟩
theorem Tryz.lays105 : Go.Proofs.Lays.n105 Tryz.prog Tryz.lays105_ren := {
  mixed := by kernel_rfl
  f99 := Tryz.func204.trans (congrArg some (by kernel_rfl))
  f105 := Tryz.func110.trans (congrArg some (by kernel_rfl))
  f165 := Tryz.func205.trans (congrArg some (by kernel_rfl))
  f166 := Tryz.func133.trans (congrArg some (by kernel_rfl))
  f169 := Tryz.func107.trans (congrArg some (by kernel_rfl))
  f170 := Tryz.func206.trans (congrArg some (by kernel_rfl))
  f206 := Tryz.func345.trans (congrArg some (by kernel_rfl))
  f212 := Tryz.func203.trans (congrArg some (by kernel_rfl))
  f240 := Tryz.func258.trans (congrArg some (by kernel_rfl))
  f241 := Tryz.func346.trans (congrArg some (by kernel_rfl))
  f263 := Tryz.func343.trans (congrArg some (by kernel_rfl))
  f264 := Tryz.func344.trans (congrArg some (by kernel_rfl))
  f276 := Tryz.func408.trans (congrArg some (by kernel_rfl))
  f277 := Tryz.func476.trans (congrArg some (by kernel_rfl))
  t0 := Tryz.underlying0
  a0 := Tryz.isAgg0
  z0 := Tryz.sizeOf0
  v0 := Tryz.zeroValue0
  t3 := Tryz.underlying3
  a3 := Tryz.isAgg3
  z3 := Tryz.sizeOf3
  v3 := Tryz.zeroValue3
  t4 := Tryz.underlying4
  a4 := Tryz.isAgg4
  z4 := Tryz.sizeOf4
  v4 := Tryz.zeroValue4
  t5 := Tryz.underlying5
  a5 := Tryz.isAgg5
  z5 := Tryz.sizeOf5
  v5 := Tryz.zeroValue5
  t9 := Tryz.underlying9
  a9 := Tryz.isAgg9
  z9 := Tryz.sizeOf9
  v9 := Tryz.zeroValue9
  t20 := Tryz.underlying20
  a20 := Tryz.isAgg20
  z20 := Tryz.sizeOf20
  v20 := Tryz.zeroValue20
  t37 := Tryz.underlying128
  a37 := Tryz.isAgg128
  z37 := Tryz.sizeOf128
  v37 := Tryz.zeroValue128
  t46 := Tryz.underlying127
  a46 := Tryz.isAgg127
  z46 := Tryz.sizeOf127
  v46 := Tryz.zeroValue127
  t51 := Tryz.underlying162
  a51 := Tryz.isAgg162
  z51 := Tryz.sizeOf162
  v51 := Tryz.zeroValue162
  t53 := Tryz.underlying22
  a53 := Tryz.isAgg22
  z53 := Tryz.sizeOf22
  v53 := Tryz.zeroValue22
  t70 := Tryz.underlying210
  a70 := Tryz.isAgg210
  z70 := Tryz.sizeOf210
  v70 := Tryz.zeroValue210
  t72 := Tryz.underlying212
  a72 := Tryz.isAgg212
  z72 := Tryz.sizeOf212
  v72 := Tryz.zeroValue212
  t75 := Tryz.underlying84
  a75 := Tryz.isAgg84
  z75 := Tryz.sizeOf84
  v75 := Tryz.zeroValue84
  t76 := Tryz.underlying252
  a76 := Tryz.isAgg252
  z76 := Tryz.sizeOf252
  v76 := Tryz.zeroValue252
  t109 := Tryz.underlying382
  a109 := Tryz.isAgg382
  z109 := Tryz.sizeOf382
  v109 := Tryz.zeroValue382
  t127 := Tryz.underlying380
  a127 := Tryz.isAgg380
  z127 := Tryz.sizeOf380
  v127 := Tryz.zeroValue380
  t146 := Tryz.underlying539
  a146 := Tryz.isAgg539
  z146 := Tryz.sizeOf539
  v146 := Tryz.zeroValue539
  t148 := Tryz.underlying541
  a148 := Tryz.isAgg541
  z148 := Tryz.sizeOf541
  v148 := Tryz.zeroValue541
  t164 := Tryz.underlying294
  a164 := Tryz.isAgg294
  z164 := Tryz.sizeOf294
  v164 := Tryz.zeroValue294 }
theorem Tryz.Builder_Extra_105 : Builder.Extra Tryz.prog Tryz.lays105_ren := {
  sizeBuilder := by kernel_rfl
  liesBuilder := by kernel_rfl
  t5 := Tryz.underlying5
  a5 := Tryz.isAgg5
  z5 := Tryz.sizeOf5
  v5 := Tryz.zeroValue5
  infoByte := by kernel_rfl
  cellsByte := by kernel_rfl
  sizeByte := by kernel_rfl
  neB5 := by decide }
theorem repC : Ev.RepC Tryz.prog 110 := fun s c w hc hlen => Any.strings_Repeat Tryz.lays105 Tryz.Builder_Extra_105 s c w hc hlen
end Go.Proofs.YtaaomhjgolmakaaGreatDoor
