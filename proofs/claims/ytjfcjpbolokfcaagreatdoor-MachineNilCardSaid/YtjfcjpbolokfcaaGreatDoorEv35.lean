/-
  An evaluator for closed runs: slices.Sorted(maps.Keys(m)) of a map with one entry at most; a closed run that comes to true.
-/
import Derived.Test.YtjfcjpbolokfcaaGreatDoorEv34
import Derived.Below
import Derived.Carry
namespace Go.Proofs.YtjfcjpbolokfcaaGreatDoor.Ev
open Go Go.RowKit

/-- What the library's two functions do. -/
structure HookC (P : Program) (g m i t e : Nat) : Prop where
  keys : ∀ (b : Nat) (w : World), Calls P m #[.map (some b)] w fun r w' => r = .returned (.func (.func i) #[] #[.pointer (some ⟨w.heap.size, 0, none⟩)]) ∧ w' = { w with heap := w.heap.push (.cells #[.map (some b)] t) }
  sorted : ∀ (Bm b : Nat) (es : Array MapEntry) (clock : Nat) (w : World), Bm < w.heap.size → w.cell? ⟨Bm, 0, none⟩ = some (.map (some b)) → w.heap[b]? = some (.map es clock) → (es = #[] ∨ ∃ (x : Nat) (u : Value) (c : Nat), es = #[⟨.int .i64 x, u, c⟩] ∧ c < clock ∧ x ≤ 9223372036854775807) →
    Calls P g #[.func (.func i) #[] #[.pointer (some ⟨Bm, 0, none⟩)]] w fun r w' => ∃ v, r = .returned v ∧ Below w.heap.size w w' ∧ (es = #[] → v = .slice none 0 0) ∧ (∀ en, es = #[en] → ∃ gb cap cur, v = .slice (some ⟨gb, 0, none⟩) 1 cap ∧ w.heap.size ≤ gb ∧ w'.heap[gb]? = some (.cells cur e (0, 0)) ∧ 1 ≤ cap ∧ cur.size = cap ∧ cur[0]? = some en.key)
section
variable {P : Program} {cl : Cl} {ρ0 : Nat → Nm} {s0 : St} {w0 : World}
/-- What is below stays as it is. -/
theorem step_below {s : St} {ρ : Nat → Nm} {w w' : World} (h : SStep ρ0 s0 w0 ρ s w) (hb : Below w.heap.size w w') : SStep ρ0 s0 w0 ρ s w' := by
  refine ⟨h.ext, ⟨fun n x hn => ?_, h.hr.inj⟩, ⟨hb.os.trans h.fr.os, hb.tape.trans h.fr.tape, hb.output.trans h.fr.output, Nat.le_trans h.fr.size hb.size, fun k hk hn => ?_⟩, h.liv⟩
  · have h1 := h.hr.obj n x hn
    refine ⟨h1.1, ?_⟩
    rw [hb.block _ (h.hr.old hn)]
    exact h1.2
  · rw [hb.block k (Nat.lt_of_lt_of_le hk h.fr.size)]
    exact h.fr.block k hk hn
/-- A block that lies there gets a name. -/
theorem step_name {s : St} {ρ : Nat → Nm} {w : World} (h : SStep ρ0 s0 w0 ρ s w) {a : AO} {m : Nm} (ho : OR (upd ρ s.nx m) (s.nx + 1) m a w.heap[m.b]?) (h0 : w0.heap.size ≤ m.b) (hn : ∀ n x, s.h.get n = some x → (ρ n).b ≠ m.b) : SStep ρ0 s0 w0 (upd ρ s.nx m) (s.new a) w := by
  have hx := upd_ext ρ s.nx m
  have key : Step ρ0 s0.nx s0.h.get w0 (upd ρ s.nx m) (s.nx + 1) (updH s.h.get s.nx (some a)) w := by
    refine ⟨h.ext.trans hx, ⟨fun n o' hm => ?_, fun n q o1 o2 h1 h2 he => ?_⟩, h.fr, fun n o' hm => ?_⟩
    · rcases updH_get hm with ⟨rfl, e⟩ | ⟨hne, hm⟩
      · obtain rfl := Option.some.inj e
        refine ⟨Nat.lt_succ_self _, ?_⟩
        rw [upd_at]
        exact ho
      · have h1 := h.hr.obj n o' hm
        refine ⟨Nat.lt_succ_of_lt h1.1, ?_⟩
        rw [hx.2 n h1.1]
        exact h1.2.mono hx
    · rcases updH_get h1 with ⟨g1, _⟩ | ⟨hne, g1⟩ <;> rcases updH_get h2 with ⟨g2, _⟩ | ⟨hme, g2⟩
      · exact g1.trans g2.symm
      · rw [g1, upd_at, hx.2 q (h.hr.obj q _ g2).1] at he
        exact absurd he.symm (hn q _ g2)
      · rw [g2, upd_at, hx.2 n (h.hr.obj n _ g1).1] at he
        exact absurd he (hn n _ g1)
      · rw [hx.2 n (h.hr.obj n _ g1).1, hx.2 q (h.hr.obj q _ g2).1] at he
        exact h.hr.inj n q o1 o2 g1 g2 he
    · rcases updH_get hm with ⟨rfl, _⟩ | ⟨hne, hm⟩
      · exact .inl (by rw [upd_at]; exact h0)
      · rw [hx.2 n (h.hr.obj n _ hm).1]
        exact h.liv n o' hm
  exact key.less get_updH
theorem ar_one {ρ : Nat → Nm} {nx : Nat} {v : Value} {us : Array Value} (h : AR ρ nx [v].toArray us) : ∃ u, us = #[u] ∧ VR ρ nx v u := by
  have hs : us.size = 1 := h.1.symm
  obtain ⟨u, hu⟩ := arr_get (a := us) (i := 0) (by omega)
  refine ⟨u, ?_, h.2 0 v u rfl hu⟩
  apply Array.ext
  · rw [hs]
    rfl
  · intro i h1 h2
    have : i = 0 := by omega
    subst this
    rw [Array.getElem?_eq_getElem h1] at hu
    exact Option.some.inj hu
theorem arr_nil {α : Type} {a b : Array α} (h : a.toList = []) (hs : a.size = b.size) : b = #[] := by
  have h1 : a = #[] := Array.ext' h
  subst h1
  exact Array.eq_empty_of_size_eq_zero hs.symm
theorem keysC_ok {g m i t e : Nat} (C : HookC P g m i t e) {vs : List Value} {s s' : St} {v : Value} (h : keysC i t vs s = .ok v s') (ρ : Nat → Nm) (w : World) (us : Array Value) (hr : SR ρ s w) (hv : AR ρ s.nx vs.toArray us) : Calls P m us w (fun e w' => match e with
    | .returned u => ∃ ρ', SStep ρ s w ρ' s' w' ∧ VR ρ' s'.nx v u
    | _ => False) := by
  unfold keysC at h
  split at h
  · rename_i n
    simp only [CR.ok.injEq] at h
    obtain ⟨rfl, rfl⟩ := h
    obtain ⟨u, rfl, hu⟩ := ar_one hv
    cases hu
    rename_i hlt
    refine Calls.mono (C.keys (ρ n).b w) fun r w' ⟨h1, h2⟩ => ?_
    subst h1 h2
    have hx := upd_ext ρ s.nx ⟨w.heap.size, 0, 0⟩
    refine ⟨_, (hr.new (.cells #[.map (some (ρ n).b)] t) (.boxed (.map (some n)) t) ⟨rfl, .map (some (ρ n).b), rfl, ?_⟩).less get_updH, .func _ _ _ _ _ rfl rfl (fun i x y hx => by simp at hx) (fun i x y h1 h2 => ?_)⟩
    · have := VR.map (ρ := upd ρ s.nx ⟨w.heap.size, 0, 0⟩) (nx := s.nx + 1) n (Nat.lt_succ_of_lt hlt)
      rw [hx.2 n hlt] at this
      exact this
    · cases i with
      | zero =>
        simp at h1 h2
        subst h1 h2
        exact ptr_new ρ s.nx w.heap.size
      | succ i => simp at h1
  · cases h
theorem sortedC_ok {g m i t e : Nat} (C : HookC P g m i t e) {vs : List Value} {s s' : St} {v : Value} (h : sortedC i e vs s = .ok v s') (ρ : Nat → Nm) (w : World) (us : Array Value) (hr : SR ρ s w) (hv : AR ρ s.nx vs.toArray us) : Calls P g us w (fun e w' => match e with
    | .returned u => ∃ ρ', SStep ρ s w ρ' s' w' ∧ VR ρ' s'.nx v u
    | _ => False) := by
  unfold sortedC at h
  split at h
  · rename_i j a b
    obtain ⟨u, rfl, hu⟩ := ar_one hv
    split at h
    · rename_i n hj ha hb
      obtain rfl := Nat.eq_of_beq_eq_true hj
      cases hu with
      | func _ _ _ a' b' s1 s2 ca cb =>
        obtain rfl := arr_nil ha s1
        have hb1 : b = #[.pointer (some ⟨n, 0, none⟩)] := arr1 hb
        subst hb1
        obtain ⟨y, rfl, hy⟩ := ar_one (v := .pointer (some ⟨n, 0, none⟩)) (us := b') ⟨s2, cb⟩
        cases hy
        rename_i hn
        split at h
        · rename_i q tt hbox
          obtain ⟨_, hs0, u', hcell, hu'⟩ := hr.obj n _ hbox
          cases hu'
          have hat : (ρ n).at 0 = ⟨(ρ n).b, 0, none⟩ := by unfold Nm.at; rw [hs0]
          rw [hat]
          have hc : w.cell? ⟨(ρ n).b, 0, none⟩ = some (.map (some (ρ q).b)) := by
            simp only [World.cell?, hcell]
            rfl
          have hBm := hr.old hbox
          split at h
          · rename_i cl hq
            simp only [CR.ok.injEq] at h
            obtain ⟨rfl, rfl⟩ := h
            obtain ⟨_, es', hes, hm⟩ := hr.obj q _ hq
            obtain rfl := MR.none hm
            refine Calls.mono (C.sorted (ρ n).b (ρ q).b #[] cl w hBm hc hes (.inl rfl)) fun r w' ⟨v, h1, h2, h3, _⟩ => ?_
            subst h1
            refine ⟨ρ, step_below (Step.refl hr) h2, ?_⟩
            rw [h3 rfl]
            exact .nilSl
          · rename_i x y c cl hq
            split at h
            · rename_i h4 h5
              simp only [CR.ok.injEq] at h
              obtain ⟨rfl, rfl⟩ := h
              obtain ⟨_, es', hes, hm⟩ := hr.obj q _ hq
              obtain ⟨uu, rfl, _, _⟩ := MR.single hm
              refine Calls.mono (C.sorted (ρ n).b (ρ q).b _ cl w hBm hc hes (.inr ⟨x, uu, c, rfl, Nat.le_of_ble_eq_true h4, Nat.le_of_ble_eq_true h5⟩)) fun r w' ⟨v, h1, h2, _, h3⟩ => ?_
              subst h1
              obtain ⟨gb, cap, cur, rfl, g1, g2, g3, g4, g5⟩ := h3 _ rfl
              have st := step_below (Step.refl hr) h2
              refine ⟨upd ρ s.nx ⟨gb, 0, cap - 1⟩, step_name st ⟨cur, (0, 0), g2, ?_, fun k z hk hz => ?_, fun j _ _ => by simp⟩ g1 (fun n' x' hn' he => ?_), ?_⟩
              · show 0 + 1 + (cap - 1) * 1 ≤ cur.size
                omega
              · have hz2 := ofL_get hz
                have hk0 : k = 0 := by omega
                subst hk0
                simp at hz2
                subst hz2
                exact ⟨_, g5, .int _ _⟩
              · have := hr.old hn'
                simp only at he
                omega
              · have := sl_at (ρ := ρ) (nx := s.nx) (l := 1) (c := 1) (b := gb) (s := 0) (e := cap - 1)
                rw [show 1 + (cap - 1) = cap by omega] at this
                exact this
            · cases h
          · cases h
        · cases h
    · cases h
  · cases h
theorem hookS_ok {g m i t e : Nat} (C : HookC P g m i t e) (cl : Cl) (hcl : ClOk P cl) : ClOk P (hookS g m i t e cl) := fun q vs s v s' h ρ w us hr hv => by
  unfold hookS at h
  rcases h1 : Nat.beq q g with _ | _
  · rw [h1] at h
    simp only at h
    rcases h2 : Nat.beq q m with _ | _
    · rw [h2] at h
      exact hcl q vs s v s' h ρ w us hr hv
    · rw [h2] at h
      obtain rfl := Nat.eq_of_beq_eq_true h2
      exact keysC_ok C h ρ w us hr hv
  · rw [h1] at h
    obtain rfl := Nat.eq_of_beq_eq_true h1
    exact sortedC_ok C h ρ w us hr hv
/-- It came to true. -/
noncomputable def boolV (v : Value) : Bool := match v with
  | .bool b => b
  | _ => false
noncomputable def isTrue (c : CR) : Bool := CR.rec (motive := fun _ => Bool) (fun _ => false) (fun v _ => boolV v) c
noncomputable def start : St := ⟨.leaf, 0⟩
theorem start_sr (ρ : Nat → Nm) (w : World) : SR ρ start w := ⟨fun n o h => (by cases h), fun n m o o' h => (by cases h)⟩
theorem run_true (hcl : ClOk P cl) {g : FuncId} {vs : List Value} (h : isTrue (cl g vs start) = true) {us : Array Value} {w : World} (hv : AR (fun _ => ⟨0, 0, 0⟩) 0 vs.toArray us) : Calls P g us w (fun e w' => e = .returned (.bool true) ∧ Below w.heap.size w w') := by
  rcases hc : cl g vs start with n | ⟨v, s'⟩
  · rw [hc] at h
    cases h
  · rw [hc] at h
    refine Calls.mono (hcl g vs start v s' hc _ w us (start_sr _ w) hv) fun e w' he => ?_
    cases e with
    | returned u =>
      obtain ⟨ρ', st, hu⟩ := he
      have hb : v = .bool true := by
        change boolV v = true at h
        unfold boolV at h
        split at h
        · rw [h]
        · cases h
      subst hb
      cases hu
      exact ⟨rfl, st.fr.os, st.fr.tape, st.fr.output, st.fr.size, fun k hk => st.fr.block k hk (fun n o hn => by cases hn)⟩
    | panicked ch => exact he.elim
    | outgrown => exact he.elim
end
end Go.Proofs.YtjfcjpbolokfcaaGreatDoor.Ev
