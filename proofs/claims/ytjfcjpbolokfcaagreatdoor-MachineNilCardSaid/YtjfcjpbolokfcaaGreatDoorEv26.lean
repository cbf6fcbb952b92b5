/-
  An evaluator for closed runs: the interpreter is right (3: operations that turn something, calls).
-/
import Derived.Test.YtjfcjpbolokfcaaGreatDoorEv25
namespace Go.Proofs.YtjfcjpbolokfcaaGreatDoor.Ev
open Go

/-- What a table of calls tells is so. -/
def ClOk (P : Program) (cl : Cl) : Prop :=
  ∀ g vs s v s', cl g vs s = .ok v s' → ∀ (ρ : Nat → Nm) (w : World) (us : Array Value), SR ρ s w → AR ρ s.nx vs.toArray us → Calls P g us w (fun e w' => match e with
    | .returned u => ∃ ρ', SStep ρ s w ρ' s' w' ∧ VR ρ' s'.nx v u
    | _ => False)
theorem srcA_len {s : St} {size l : Nat} {x : Value} {vs : List Value} (h : srcA s size x = some (l, vs)) : vs.length = l * size := by
  unfold srcA at h
  split at h
  · simp only [Option.some.injEq, Prod.mk.injEq] at h
    obtain ⟨rfl, rfl⟩ := h
    simp
  · simp only [Option.some.injEq, Prod.mk.injEq] at h
    obtain ⟨rfl, rfl⟩ := h
    simp
  · split at h
    · split at h
      · split at h
        · rename_i hv
          simp only [Option.some.injEq, Prod.mk.injEq] at h
          obtain ⟨rfl, rfl⟩ := h
          exact (readF_get _ _ _ _ hv).1
        · cases h
      · cases h
    · cases h
  · split at h
    · rename_i hs
      simp only [Option.some.injEq, Prod.mk.injEq] at h
      obtain ⟨rfl, rfl⟩ := h
      have := Nat.eq_of_beq_eq_true hs
      subst this
      simp
    · cases h
  · cases h
section
variable {P : Program} {o : Oper} {f : T Value} {s s' : St} {v : Value} {k : K}
theorem makeSlice_ok {t e : TypeId} {x y : Operand} {i j : IntKind} {l c : Nat} {ie : TypeInfo} {z : Value} (ho : o.op = .makeSlice t x y) (hu : P.underlying t = some (.slice e)) (hie : P.info? e = some ie) (hz : ie.zero = some z) (hx : evO f x = some (.int i (.ofNat l))) (hy : evO f y = some (.int j (.ofNat c)))
    (h1 : l ≤ c) (h2 : ie.bytes * c ≤ 1048576) (h3 : c ≤ 1048576) (hfl : (rowOf z (c * ie.size)).toList.all flat = true) (h0 : c * ie.size ≠ 0) :
    ValOk P o f s (.slice (some ⟨s.nx, 0, none⟩) l c) (s.new (.cells (ofL (rowOf z (c * ie.size)).toList) (rowOf z (c * ie.size)).size e ie.size 0)) := by
  refine valOk_of (sem := fun ev => Instr.makeSlice t (ev x) (ev y)) (fun ev => by unfold execOp; rw [ho]) (fun ρ w a hr hf => ?_)
  have hp := evO_sound hf hx
  have hq := evO_sound hf hy
  obtain ⟨u, hu2⟩ : ∃ u, a.eval x = u := ⟨_, rfl⟩
  obtain ⟨g, hg2⟩ : ∃ u, a.eval y = u := ⟨_, rfl⟩
  rw [hu2] at hp
  rw [hg2] at hq
  cases hp
  cases hq
  have har : AR ρ s.nx (rowOf z (c * ie.size)) (rowOf z (c * ie.size)) := ⟨rfl, fun i x y hx hy => by
    obtain rfl := Option.some.inj (hx.symm.trans hy)
    exact flat_vr (List.all_eq_true.1 hfl x (Array.mem_toList_iff.2 (Array.mem_of_getElem? hx)))⟩
  have hsl := sl_at (ρ := ρ) (nx := s.nx) (l := l) (c := c) (b := w.heap.size) (s := 0) (e := 0)
  refine ⟨_, _, .slice (some ⟨w.heap.size, 0, none⟩) l c, ?_, (newRow_sim hr har e ie.size).less get_updH, hsl⟩
  have wl : IntKind.i64.wrap (l : Int) = (l : Int) := IntWalk.i64_in _ ⟨by omega, by omega⟩
  have wc : IntKind.i64.wrap (c : Int) = (c : Int) := IntWalk.i64_in _ ⟨by omega, by omega⟩
  have hb : ¬ ((ie.bytes : Int) * (c : Int) > 2 ^ 48) := by
    rw [← Int.natCast_mul]
    omega
  have hc0 : ¬ ((c : Int) < 0) := by omega
  have hl0 : ¬ ((l : Int) < 0) := by omega
  have hlc : ¬ ((l : Int) > (c : Int)) := by omega
  have ai : ∀ (i : IntKind) (n : Int) (w : World), (asInt (.int i n)).run P w = .ok n w := fun _ _ _ => rfl
  simp only [hu2, hg2, Instr.makeSlice, Int.ofNat_eq_natCast, Sem.run_bind, run_und hu, Result.andThen_ok, ai, run_inf hie, wl, wc, decide_eq_false hc0, decide_eq_false hb, decide_eq_false hl0, decide_eq_false hlc, Bool.or_self, Bool.false_eq_true, if_false, askRoom_run, run_siz hie, Int.toNat_natCast, if_neg h0, run_zero hie hz, Sem.run_pure]
  rfl
end
end Go.Proofs.YtjfcjpbolokfcaaGreatDoor.Ev
