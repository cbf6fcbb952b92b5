/-
  An evaluator for closed runs: the operations (16: asserted types; places of a row of a room of its own).
-/
import Derived.Test.YtjfcjpbolokfcaaGreatDoorEv19
namespace Go.Proofs.YtjfcjpbolokfcaaGreatDoor.Ev
open Go

section
variable {P : Program} {o : Oper} {f : T Value} {s s' : St} {v : Value}
def isIfaceD : TypeDesc → Bool
  | .interface _ => true
  | _ => false
theorem assert_run {x : Operand} {xt t : TypeId} {ok : Bool} (ho : o.op = .typeAssert x xt t ok) (ev : Operand → Value) : execOp ev o = (do pure (.value (← Instr.typeAssert (ev x) xt t ok))) := by unfold execOp; rw [ho]
theorem assert_ok {x : Operand} {xt t : TypeId} {d : TypeDesc} {ok : Bool} (ho : o.op = .typeAssert x xt t ok) (hu : P.underlying t = some d) (hd : isIfaceD d = false) (hx : evO f x = some (.iface t v)) : QOk P o f s (match ok with | true => .tuple #[v, .bool true] | false => v) := by
  refine qOk_of (sem := fun ev => Instr.typeAssert (ev x) xt t ok) (fun ev => assert_run ho ev) (fun ρ w a hr hf => ?_)
  have hp := evO_sound hf hx
  obtain ⟨u, hu2⟩ : ∃ u, a.eval x = u := ⟨_, rfl⟩
  rw [hu2] at hp
  cases hp with
  | iface _ _ z hz =>
    refine ⟨match ok with | true => .tuple #[z, .bool true] | false => z, ?_, ?_⟩
    · simp only [hu2, Instr.typeAssert, Sem.run_bind, run_und hu, Result.andThen_ok]
      cases d <;> first
        | (cases hd; done)
        | (simp only [if_true]
           cases ok <;> rfl)
    · cases ok
      · exact hz
      · exact pair_vr hz (.bool _)
theorem indexFx_ok {ty e : TypeId} {x y : Operand} {n k l c : Nat} {kk : IntKind} {i : Int} {inf : TypeInfo} (ho : o.op = .indexAddr ty x y) (hu : P.underlying ty = some (.slice e)) (hi : P.info? e = some inf) (hx : evO f x = some (.slice (some ⟨n, k, some 0⟩) l c)) (hy : evO f y = some (.int kk i)) (h0 : 0 ≤ i) (hl : i < l) :
    QOk P o f s (.pointer (some ⟨n, k + i.toNat * inf.size, none⟩)) := by
  refine qOk_of (sem := fun ev => Instr.indexAt ty (ev x) (ev y)) (fun ev => by unfold execOp; rw [ho]) (fun ρ w a hr hf => ?_)
  have hp := evO_sound hf hx
  have hq := evO_sound hf hy
  obtain ⟨u, hu2⟩ : ∃ u, a.eval x = u := ⟨_, rfl⟩
  obtain ⟨z, hz2⟩ : ∃ z, a.eval y = z := ⟨_, rfl⟩
  rw [hu2] at hp
  rw [hz2] at hq
  cases hp
  cases hq
  rename_i hn
  refine ⟨_, ?_, .ptr n (k + i.toNat * inf.size) hn⟩
  rw [hu2, hz2]
  simp only [Instr.indexAt, Sem.run_bind, asIntOf_run, run_und hu, Result.andThen_ok, Sem.run_pure]
  rw [if_pos ⟨h0, hl⟩]
  simp only [Sem.run_bind, run_siz hi, Sem.run_pure, Result.andThen_ok, at_add]
theorem clear_run {c : Call} {x : Operand} (ho : o.op = .call c) (hc : c.callee = .builtin .clear) (ha : c.args = #[x]) (ev : Operand → Value) : execOp ev o = (do pure (.value (← Builtin.clear_ c.argTypes o.type #[ev x]))) := by
  rw [builtin_run ho hc ev, ha, map1 ev]
  rfl
theorem clear_ok {c : Call} {x : Operand} {t elem : TypeId} {inf : TypeInfo} {z : Value} {n k l cp m e2 sz fz : Nat} {tr : Go.Proofs.YtjfcjpbolokfcaaGreatDoor.Ev.T Value} (ho : o.op = .call c) (hc : c.callee = .builtin .clear) (ha : c.args = #[x]) (ht : c.argTypes[0]? = some t) (hu : P.underlying t = some (.slice elem)) (hi : P.info? elem = some inf) (hz : inf.zero = some z) (hx : evO f x = some (.slice (some ⟨n, k, none⟩) (l + 1) cp)) (hn : s.h.get n = some (.cells tr m e2 sz fz))
    (hfl : (Builtin.zeroCells z.cells (l + 1)).toList.all flat = true) (h1 : (Builtin.zeroCells z.cells (l + 1)).toList.all (·.oneCell') = true) (hfz : fz ≤ k) (hk : k + (Builtin.zeroCells z.cells (l + 1)).toList.length ≤ m) :
    ValOk P o f s (.tuple #[]) ⟨s.h.set (.cells (writeF (Builtin.zeroCells z.cells (l + 1)).toList tr k) m e2 sz fz) n, s.nx⟩ := by
  refine valOk_of (sem := fun ev => Builtin.clear_ c.argTypes o.type #[ev x]) (fun ev => clear_run ho hc ha ev) (fun ρ w a hr hf => ?_)
  have hp := evO_sound hf hx
  obtain ⟨u, hu2⟩ : ∃ u, a.eval x = u := ⟨_, rfl⟩
  rw [hu2] at hp
  cases hp
  obtain ⟨w', hw, st⟩ := storeCells_sim P (o := k) (Builtin.zeroCells z.cells (l + 1)).toList (Builtin.zeroCells z.cells (l + 1)).toList 0 tr s.h.get w hr hn rfl (fun j p q hp hq => by
    obtain rfl := Option.some.inj (hp.symm.trans hq)
    exact flat_vr (List.all_eq_true.1 hfl p (List.mem_of_getElem? hp))) (fun p hp => List.all_eq_true.1 h1 p hp) (by omega) (by omega)
  refine ⟨ρ, w', .tuple #[], ?_, st.less get_updH, .tuple _ _ rfl (fun i x y hx => by simp at hx)⟩
  have e0 : (#[Value.slice (some ((ρ n).at k)) (l + 1) (cp + (ρ n).e)] : Array Value)[0]? = some (.slice (some ((ρ n).at k)) (l + 1) (cp + (ρ n).e)) := rfl
  simp only [hu2, Builtin.clear_, ht, e0, Sem.run_bind, run_und hu, Result.andThen_ok, run_zero hi hz, hw, Sem.run_pure]
end
end Go.Proofs.YtjfcjpbolokfcaaGreatDoor.Ev
