/-
  An evaluator for closed runs: code and calls are right.
-/
import Derived.Test.YtjfcjpbolokfcaaGreatDoorEv33
import Derived.Scope
namespace Go.Proofs.YtjfcjpbolokfcaaGreatDoor.Ev
open Go

section
variable {P : Program} {cl : Cl} {N fuel : Nat} {ρ0 : Nat → Nm} {s0 : St} {w0 : World}
theorem End.back {ρ : Nat → Nm} {s : St} {w : World} {r : R} {e : Exit} {a : Act} {w' : World} (st : SStep ρ0 s0 w0 ρ s w) (h : End N ρ s w r e a w') : End N ρ0 s0 w0 r e a w' := by
  unfold End at h ⊢
  split at h
  · obtain ⟨ρ', h1, h2⟩ := h
    exact ⟨ρ', st.trans h1, h2⟩
  · obtain ⟨ρ', h1, h2⟩ := h
    exact ⟨ρ', st.trans h1, h2⟩
  · obtain ⟨h0, ρ', h1, h2⟩ := h
    exact ⟨h0, ρ', st.trans h1, h2⟩
  · exact h.elim
/-- What a piece of code comes to is what it is here. -/
def KOk (P : Program) (N : Nat) (c : Code) (k : T Value → St → R) : Prop :=
  ∀ (f : T Value) (s : St) (ρ : Nat → Nm) (w : World) (a : Act), SR ρ s w → Fits ρ N s.nx f a → (k f s).ok → c.wp P (End N ρ s w (k f s)) a w
theorem seq_ok {x y : Code} {kx ky : T Value → St → R} (hx : KOk P N x kx) (hy : KOk P N y ky) : KOk P N (.seq x y) (fun f s => R.rec (motive := fun _ => R) (fun n => .fail n) ky (fun f s => .ret f s) (fun i f s => .exit i f s) (kx f s)) := fun f s ρ w a hr hf hok => by
  refine wp_seq ?_
  rcases h1 : kx f s with n | ⟨f1, s1⟩ | ⟨f1, s1⟩ | ⟨i, f1, s1⟩
  · simp only [h1] at hok
    exact hok.elim
  · have hok1 : (kx f s).ok := by rw [h1]; trivial
    simp only [h1] at hok ⊢
    refine wp_mono (hx f s ρ w a hr hf hok1) fun e a1 w1 he => ?_
    rw [h1] at he
    cases e with
    | normal =>
      obtain ⟨ρ1, st, hf1⟩ := he
      exact wp_mono (hy f1 s1 ρ1 w1 a1 st.hr hf1 hok) fun e2 a2 w2 he2 => he2.back st
    | _ => exact he.elim
  · have hok1 : (kx f s).ok := by rw [h1]; trivial
    simp only [h1] at hok ⊢
    refine wp_mono (hx f s ρ w a hr hf hok1) fun e a1 w1 he => ?_
    rw [h1] at he
    cases e with
    | ret => exact he
    | _ => exact he.elim
  · have hok1 : (kx f s).ok := by rw [h1]; trivial
    simp only [h1] at hok ⊢
    refine wp_mono (hx f s ρ w a hr hf hok1) fun e a1 w1 he => ?_
    rw [h1] at he
    cases e with
    | exit j => exact he
    | _ => exact he.elim
theorem cond_ok {c : Operand} {x y : Code} {kx ky : T Value → St → R} (hx : KOk P N x kx) (hy : KOk P N y ky) : KOk P N (.cond c x y) (fun f s => onO 153 (ev c f) (fun v => onBool v (fun b => Bool.rec (motive := fun _ => R) (ky f s) (kx f s) b))) := fun f s ρ w a hr hf hok => by
  rcases hc : ev c f with _ | v
  · simp only [hc] at hok
    exact hok.elim
  · simp only [hc] at hok ⊢
    cases v with
    | bool b =>
      have hv := evO_sound hf.fr (ev_eq hc)
      obtain ⟨u, hu⟩ : ∃ u, a.eval c = u := ⟨_, rfl⟩
      rw [hu] at hv
      cases hv
      cases b
      · exact wp_cond hu (hy f s ρ w a hr hf hok)
      · exact wp_cond hu (hx f s ρ w a hr hf hok)
    | _ => exact hok.elim
theorem block_ok {id : Nat} {x : Code} {kx : T Value → St → R} (hx : KOk P N x kx) : KOk P N (.block id x) (fun f s => R.rec (motive := fun _ => R) (fun n => .fail n) (fun f s => .normal f s) (fun f s => .ret f s) (fun i f s => Bool.rec (motive := fun _ => R) (.exit i f s) (.normal f s) (Nat.beq i id)) (kx f s)) := fun f s ρ w a hr hf hok => by
  refine wp_block ?_
  rcases h1 : kx f s with n | ⟨f1, s1⟩ | ⟨f1, s1⟩ | ⟨i, f1, s1⟩
  · simp only [h1] at hok
    exact hok.elim
  · have hok1 : (kx f s).ok := by rw [h1]; trivial
    simp only [h1] at hok ⊢
    refine wp_mono (hx f s ρ w a hr hf hok1) fun e a1 w1 he => ?_
    rw [h1] at he
    cases e with
    | normal => exact he
    | _ => exact he.elim
  · have hok1 : (kx f s).ok := by rw [h1]; trivial
    simp only [h1] at hok ⊢
    refine wp_mono (hx f s ρ w a hr hf hok1) fun e a1 w1 he => ?_
    rw [h1] at he
    cases e with
    | ret => exact he
    | _ => exact he.elim
  · have hok1 : (kx f s).ok := by rw [h1]; trivial
    simp only [h1] at hok ⊢
    refine wp_mono (hx f s ρ w a hr hf hok1) fun e a1 w1 he => ?_
    rw [h1] at he
    cases e with
    | exit j =>
      obtain ⟨rfl, he⟩ := he
      show (if i = id then _ else _ : Prop)
      rcases hb : Nat.beq i id with _ | _
      · rw [if_neg (fun e => by rw [e, Nat.beq_refl] at hb; cases hb)]
        exact ⟨rfl, he⟩
      · rw [if_pos (Nat.eq_of_beq_eq_true hb)]
        exact he
    | _ => exact he.elim
/-- So many rounds. -/
noncomputable def rounds (kx : T Value → St → R) (n : Nat) : T Value → St → R := Nat.rec (motive := fun _ => T Value → St → R) (fun _ _ => .fail 154) (fun _ lp f s => R.rec (motive := fun _ => R) (fun n => .fail n) lp (fun f s => .ret f s) (fun i f s => .exit i f s) (kx f s)) n
theorem rounds_ok {x : Code} {kx : T Value → St → R} (hx : KOk P N x kx) : ∀ (n : Nat) (f : T Value) (s : St) (ρ : Nat → Nm) (w : World) (a : Act), SR ρ s w → Fits ρ N s.nx f a → (rounds kx n f s).ok → ∀ (b : Frame) (k : List Item) (cs : List Frame),
    ∃ e a' w', End N ρ s w (rounds kx n f s) e a' w' ∧ Arrives P (lone (b.at a (.code x :: .inLoop x :: k)) cs w) b k cs e a' w'
  | 0, f, s, ρ, w, a, hr, hf, hok, b, k, cs => hok.elim
  | n + 1, f, s, ρ, w, a, hr, hf, hok, b, k, cs => by
    change (R.rec (motive := fun _ => R) (fun n => .fail n) (rounds kx n) (fun f s => .ret f s) (fun i f s => .exit i f s) (kx f s)).ok at hok
    show ∃ e a' w', End N ρ s w (R.rec (motive := fun _ => R) (fun n => .fail n) (rounds kx n) (fun f s => .ret f s) (fun i f s => .exit i f s) (kx f s)) e a' w' ∧ _
    rcases h1 : kx f s with m | ⟨f1, s1⟩ | ⟨f1, s1⟩ | ⟨i, f1, s1⟩
    · rw [h1] at hok
      exact hok.elim
    · have hok1 : (kx f s).ok := by rw [h1]; trivial
      obtain ⟨e1, a1, w1, he, harr⟩ := hx f s ρ w a hr hf hok1 b (.inLoop x :: k) cs
      rw [h1] at hok he
      cases e1 with
      | normal =>
        obtain ⟨ρ1, st, hf1⟩ := he
        obtain ⟨e2, a2, w2, he2, harr2⟩ := rounds_ok hx n f1 s1 ρ1 w1 a1 st.hr hf1 hok b k cs
        exact ⟨e2, a2, w2, he2.back st, .of_steps (Steps.trans harr (.one step_inLoop)) harr2⟩
      | _ => exact he.elim
    · have hok1 : (kx f s).ok := by rw [h1]; trivial
      obtain ⟨e1, a1, w1, he, harr⟩ := hx f s ρ w a hr hf hok1 b (.inLoop x :: k) cs
      rw [h1] at he
      cases e1 with
      | ret => exact ⟨.ret, a1, w1, he, .pass (x := .inLoop x) rfl (fun _ _ => .inl (by simp)) harr⟩
      | _ => exact he.elim
    · have hok1 : (kx f s).ok := by rw [h1]; trivial
      obtain ⟨e1, a1, w1, he, harr⟩ := hx f s ρ w a hr hf hok1 b (.inLoop x :: k) cs
      rw [h1] at he
      cases e1 with
      | exit j => exact ⟨.exit j, a1, w1, he, .pass (x := .inLoop x) rfl (fun _ _ => .inl (by simp)) harr⟩
      | _ => exact he.elim
theorem loop_ok {x : Code} {kx : T Value → St → R} (hx : KOk P N x kx) (n : Nat) : KOk P N (.loop x) (rounds kx n) := fun f s ρ w a hr hf hok b k cs => by
  obtain ⟨e, a', w', h1, h2⟩ := rounds_ok hx n f s ρ w a hr hf hok b k cs
  exact ⟨e, a', w', h1, .of_steps (.one step_loop) h2⟩
theorem xCode_ok (hcl : ClOk P cl) (hm : P.follows .mixedOrders = true) (c : Code) : KOk P N c (xCode P cl N fuel c) := by
  induction c with
  | skip => exact fun f s ρ w a hr hf _ => wp_skip ⟨ρ, Step.refl hr, hf⟩
  | region id ops draw =>
    intro f s ρ w a hr hf hok
    cases draw with
    | false =>
      change (xOps P cl N ops ops.toList f s).ok at hok
      refine wp_region ?_
      have := xOps_ok hcl (ρ0 := ρ) (s0 := s) (w0 := w) ops.toList 0 ops.size (by simp) (by simp) f s ρ w a (Step.refl hr) hf hok
      rw [← List.range_eq_range'] at this
      exact this
    | true => exact xDrawn_ok hcl hm (Step.refl hr) hf hok
  | seq x y hx hy => exact seq_ok hx hy
  | cond c x y hx hy => exact cond_ok hx hy
  | block id x hx => exact block_ok hx
  | loop x hx => exact loop_ok hx fuel
  | rangeFunc c ps x y => exact fun f s ρ w a hr hf hok => hok.elim
  | exit id => exact fun f s ρ w a hr hf _ => wp_exit ⟨rfl, ρ, Step.refl hr, hf⟩
  | scope x hx =>
    intro f s ρ w a hr hf hok
    refine wp_scope_straight (wp_mono (hx f s ρ w a hr hf hok) fun e a1 w1 he => ?_)
    cases e with
    | goto l =>
      unfold End at he
      split at he <;> first | (rename_i hx; cases hx) | exact he.elim
    | _ => exact he
  | label l => exact fun f s ρ w a hr hf _ => wp_label ⟨ρ, Step.refl hr, hf⟩
  | goto l => exact fun f s ρ w a hr hf hok => hok.elim
  | ret => exact fun f s ρ w a hr hf _ => wp_ret ⟨ρ, Step.refl hr, hf⟩
  | refuse why => exact fun f s ρ w a hr hf hok => hok.elim
/-- A function's body. -/
noncomputable def xBody (P : Program) (cl : Cl) (fuel : Nat) : Cl := fun g vs s =>
  onOC 162 (P.funcs[g]?) (fun fn => onOC 163 fn.body (fun c => Bool.rec (motive := fun _ => CR) (.fail 165) (R.rec (motive := fun _ => CR) (fun n => .fail (Nat.add (Nat.mul n 1000) g)) (fun f s => xRes P fn f s) (fun f s => xRes P fn f s) (fun i _ _ => .fail (Nat.add 164 i)) (xCode P cl fn.ntmps fuel c (ofL vs) s)) (Nat.ble vs.length fn.ntmps)))
theorem xBody_ok (hcl : ClOk P cl) (hm : P.follows .mixedOrders = true) : ClOk P (xBody P cl fuel) := fun g vs s v s' h ρ w us hr hv => by
  unfold xBody onOC at h
  rcases hfn : P.funcs[g]? with _ | fn
  · rw [hfn] at h
    cases h
  · rw [hfn] at h
    simp only at h
    rcases hb : fn.body with _ | c
    · rw [hb] at h
      cases h
    · rw [hb] at h
      simp only at h
      rcases hn : Nat.ble vs.length fn.ntmps with _ | _
      · rw [hn] at h
        cases h
      · rw [hn] at h
        simp only at h
        have hle := Nat.le_of_ble_eq_true hn
        have hsz : us.size = vs.length := by simpa using hv.1.symm
        have hf : Fits ρ fn.ntmps s.nx (ofL vs) { tmps := us ++ Array.replicate (fn.ntmps - us.size) undef, defers := [] } := by
          refine ⟨fun t x hx => ?_, by simp; omega, rfl⟩
          have h1 := ofL_get hx
          obtain ⟨u, hu, hvu⟩ := hv.at (i := t) (x := x) (by simpa using h1)
          refine ⟨u, ?_, hvu⟩
          show (us ++ Array.replicate (fn.ntmps - us.size) undef)[t]? = some u
          rw [Array.getElem?_append, if_pos (arr_lt hu)]
          exact hu
        refine calls_of_wp hfn hb ?_
        have fin : ∀ (f1 : T Value) (s1 : St) (a1 : Act) (w1 : World) (ρ1 : Nat → Nm), SStep ρ s w ρ1 s1 w1 → Fits ρ1 fn.ntmps s1.nx f1 a1 → xRes P fn f1 s1 = .ok v s' → a1.defers = [] ∧ ∃ u, (results fn a1.tmps).run P w1 = .ok u w1 ∧ ∃ ρ', SStep ρ s w ρ' s' w1 ∧ VR ρ' s'.nx v u := fun f1 s1 a1 w1 ρ1 st hf1 hx => by
          obtain ⟨rfl, u, h1, h2⟩ := xRes_ok hx st.hr hf1.fr
          exact ⟨hf1.defers, u, h1, ρ1, st, h2⟩
        rcases h1 : xCode P cl fn.ntmps fuel c (ofL vs) s with m | ⟨f1, s1⟩ | ⟨f1, s1⟩ | ⟨i, f1, s1⟩
        · rw [h1] at h
          cases h
        · rw [h1] at h
          refine wp_mono (xCode_ok hcl hm c (ofL vs) s ρ w _ hr hf (by rw [h1]; trivial)) fun e a1 w1 he => ?_
          rw [h1] at he
          cases e with
          | normal =>
            obtain ⟨ρ1, st, hf1⟩ := he
            exact fin f1 s1 a1 w1 ρ1 st hf1 h
          | _ => exact he.elim
        · rw [h1] at h
          refine wp_mono (xCode_ok hcl hm c (ofL vs) s ρ w _ hr hf (by rw [h1]; trivial)) fun e a1 w1 he => ?_
          rw [h1] at he
          cases e with
          | ret =>
            obtain ⟨ρ1, st, hf1⟩ := he
            exact fin f1 s1 a1 w1 ρ1 st hf1 h
          | _ => exact he.elim
        · rw [h1] at h
          cases h
theorem xCl_ok {hook : Cl → Cl} (hh : ∀ cl, ClOk P cl → ClOk P (hook cl)) (hm : P.follows .mixedOrders = true) : ∀ n, ClOk P (xCl P hook fuel n)
  | 0 => fun g vs s v s' h => by cases h
  | n + 1 => hh _ (xBody_ok (xCl_ok hh hm n) hm)
end
end Go.Proofs.YtjfcjpbolokfcaaGreatDoor.Ev
