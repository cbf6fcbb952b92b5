/-
  An evaluator for closed runs: regions that draw their order (3: steps of ours, and the whole).
-/
import Derived.Test.YtjfcjpbolokfcaaGreatDoorEv31
namespace Go.Proofs.YtjfcjpbolokfcaaGreatDoor.Ev
open Go

section
variable {P : Program} {cl : Cl} {N : Nat} {ops : Array Oper} {ρ0 : Nat → Nm} {s0 : St} {w0 : World}
variable {L : Array Bool} {D : List Nat} {f : T Value} {s : St} {a c : Act} {w : World} {ρ : Nat → Nm} {B : Nat → Nat}
theorem Rel.notIn (R : Rel P N ops ρ0 s0 w0 L D f s a w ρ c B) {i : Nat} {o : Oper} (ho : ops[i]? = some o) (hi : i ∉ D) (hq : isA P N o = false) : ¬ li L i := fun h => by
  have := (R.early i o ho hi h).1
  rw [hq] at this
  cases this
/-- A quiet operation is done here. -/
theorem Rel.absorb (R : Rel P N ops ρ0 s0 w0 L D f s a w ρ c B) (S : Slots P N ops) (hD : ∀ (k : Nat) (ok : Oper), ops[k]? = some ok → k ∈ D → ∀ e, bit (mask ok) e = true → e ∈ D) {i : Nat} {o : Oper} (ho : ops[i]? = some o) (hi : i ∉ D) (hq : quiet o = true) {v u : Value}
    (h : (Region.wanted o (yielded ops c.tmps) = false ∧ v = undef ∧ u = undef) ∨ (Region.wanted o (yielded ops c.tmps) = true ∧ QOk P o f s v ∧ VR ρ s.nx v u)) : Rel P N ops ρ0 s0 w0 L (i :: D) (put N o.dst v f) s a w ρ (c.put o.dst u) B := by
  have hil := R.notIn ho hi (quiet_notA hq)
  have hv : VR ρ s.nx v u := by
    rcases h with ⟨_, rfl, rfl⟩ | ⟨_, _, h⟩
    · exact undef_vr
    · exact h
  have apart : ∀ (k : Nat) (ok : Oper), ops[k]? = some ok → k ∈ D → ∀ t, o.dst = some t → t ∉ ok.looksAt ops := fun k ok hk hkD t ht hm => by
    have hik : i ≠ k := fun e => hi (e ▸ hkD)
    rcases S.see i k o ok t ho hk hik ht (.inl hq) hm with h1 | ⟨h1, _⟩
    · exact hi (hD k ok hk hkD i h1)
    · rw [quiet_notA hq] at h1
      cases h1
  have self : ∀ t, o.dst = some t → t ∉ o.looksAt ops := fun t ht => S.self i o t ho ht hq
  have same : ∀ (ok : Oper), (∀ t, o.dst = some t → t ∉ ok.looksAt ops) → (∀ x ∈ ok.op.operands, (c.put o.dst u).eval x = c.eval x) ∧ Region.wanted ok (yielded ops (c.put o.dst u).tmps) = Region.wanted ok (yielded ops c.tmps) := fun ok hk =>
    same_looks (fun t ht => put_at c o.dst u t (fun e => hk t e ht))
  refine ⟨R.st, R.fits.put (Ext.refl _ _) o.dst hv, R.asz, R.adf, R.lsz, R.lcl, fun t h1 h2 => ?_, fun k ok hk hkD hkL => ?_, fun k ok hk hkD hkL => R.early k ok hk (fun h => hkD (List.mem_cons_of_mem _ h)) hkL, fun k j ok oj hk hj hkD hjD hkL hjL he => R.dist k j ok oj hk hj (fun h => hkD (List.mem_cons_of_mem _ h)) (fun h => hjD (List.mem_cons_of_mem _ h)) hkL hjL he⟩
  · have htd : o.dst ≠ some t := h1 i o ho List.mem_cons_self hil
    rw [put_at c o.dst u t htd]
    refine R.agree t (fun k ok hk hkD hkL => h1 k ok hk (List.mem_cons_of_mem _ hkD) hkL) (fun k ok hk hkD hkL => h2 k ok hk (fun h => ?_) hkL)
    rcases List.mem_cons.1 h with rfl | h
    · exact hil hkL
    · exact hkD h
  · rcases List.mem_cons.1 hkD with rfl | hkD
    · obtain rfl := Option.some.inj (ho.symm.trans hk)
      refine ⟨hq, ?_⟩
      obtain ⟨he, hw⟩ := same o self
      have slot : ∀ d, o.dst = some d → d < N → (c.put o.dst u).tmps[d]? = some u := fun d hd hN => by
        rw [hd]
        exact put_self c d u (by rw [R.fits.size]; exact hN)
      rcases h with ⟨h3, rfl, rfl⟩ | ⟨h3, h4, h5⟩
      · exact .inl ⟨by rw [hw]; exact h3, slot⟩
      · exact .inr ⟨by rw [hw]; exact h3, f, c, v, u, h4, R.fits.fr, fun x hx => (he x hx).symm, h5, slot⟩
    · obtain ⟨hkq, hp⟩ := R.pend k ok hk hkD hkL
      refine ⟨hkq, ?_⟩
      obtain ⟨he, hw⟩ := same ok (apart k ok hk hkD)
      have hik : k ≠ i := fun e => hi (e ▸ hkD)
      have slot : ∀ d x, ok.dst = some d → c.tmps[d]? = some x → (c.put o.dst u).tmps[d]? = some x := fun d x hd hx => by
        rw [put_at c o.dst u d (fun e => S.one k i ok o d hk ho hik hd (.inl hkq) e)]
        exact hx
      rcases hp with ⟨h1, h2⟩ | ⟨h1, fk, ak, v', u', h2, h3, h4, h5, h6⟩
      · exact .inl ⟨by rw [hw]; exact h1, fun d hd hN => slot d _ hd (h2 d hd hN)⟩
      · exact .inr ⟨by rw [hw]; exact h1, fk, ak, v', u', h2, h3, fun x hx => (h4 x hx).trans (he x hx).symm, h5, fun d hd hN => slot d _ hd (h6 d hd hN)⟩
/-- What is read again. -/
theorem slotIs_is {d : Option Tmp} {v : Value} {r : R} (h : (slotIs N d v f r).ok) : slotIs N d v f r = r ∧ ∀ t, d = some t → t < N → f.get t = some v := by
  cases d with
  | none => exact ⟨rfl, fun t e => by cases e⟩
  | some d =>
    change (Bool.rec (motive := fun _ => R) r (onO 200 (acc (path d) f) (fun u => onB 201 (veq u v) r)) (Nat.ble (Nat.succ d) N)).ok at h
    show Bool.rec (motive := fun _ => R) r (onO 200 (acc (path d) f) (fun u => onB 201 (veq u v) r)) (Nat.ble (Nat.succ d) N) = r ∧ _
    rcases hb : Nat.ble (Nat.succ d) N with _ | _
    · refine ⟨rfl, fun t e hN => ?_⟩
      obtain rfl := Option.some.inj e
      rw [Nat.ble_eq_true_of_le hN] at hb
      cases hb
    · rw [hb] at h
      rcases hv : acc (path d) f with _ | x
      · rw [hv] at h
        exact h.elim
      · rw [hv] at h
        change (onB 201 (veq x v) r).ok at h
        rcases hq : veq x v with _ | _
        · rw [hq] at h
          exact h.elim
        · obtain rfl := veq_eq hq
          refine ⟨by show onB 201 (veq x x) r = r; rw [hq]; rfl, fun t e _ => ?_⟩
          obtain rfl := Option.some.inj e
          exact acc_get hv
theorem again_is {r : R} : ∀ (l : List Nat), (again P cl N ops l f s r).ok → (∀ i ∈ l, ∀ o, ops[i]? = some o → quiet o = true) →
    again P cl N ops l f s r = r ∧ r.ok ∧ ∀ (ρ : Nat → Nm) (w : World) (c : Act), SR ρ s w → Fits ρ N s.nx f c → ∀ (i : Nat) (o : Oper), i ∈ l → ops[i]? = some o → Pend P N ops ρ s c o
  | [], h, _ => ⟨rfl, h, fun _ _ _ _ _ i o hi => by cases hi⟩
  | i :: l, h, hq => by
    change (onO 202 (nth ops.toList i) (fun o => guardR ops o f (xOp P cl o f s (fun v _ => slotIs N o.dst v f (again P cl N ops l f s r))) (slotIs N o.dst undef f (again P cl N ops l f s r)))).ok at h
    show onO 202 (nth ops.toList i) (fun o => guardR ops o f (xOp P cl o f s (fun v _ => slotIs N o.dst v f (again P cl N ops l f s r))) (slotIs N o.dst undef f (again P cl N ops l f s r))) = r ∧ _
    rw [nth_arr] at h ⊢
    rcases ho : ops[i]? with _ | o
    · rw [ho] at h
      exact h.elim
    · rw [ho] at h
      change (guardR ops o f (xOp P cl o f s (fun v _ => slotIs N o.dst v f (again P cl N ops l f s r))) (slotIs N o.dst undef f (again P cl N ops l f s r))).ok at h
      show guardR ops o f (xOp P cl o f s (fun v _ => slotIs N o.dst v f (again P cl N ops l f s r))) (slotIs N o.dst undef f (again P cl N ops l f s r)) = r ∧ _
      have hqo := hq i List.mem_cons_self o ho
      -- the guard does not hang on the model's frame
      by_cases hF : ∃ (ρ : Nat → Nm) (w : World) (c : Act), SR ρ s w ∧ Fits ρ N s.nx f c
      · obtain ⟨ρ1, w1, c1, hs1, hf1⟩ := hF
        have cont : ∀ v, (slotIs N o.dst v f (again P cl N ops l f s r)).ok → slotIs N o.dst v f (again P cl N ops l f s r) = r ∧ r.ok ∧ (∀ t, o.dst = some t → t < N → f.get t = some v) ∧ ∀ (ρ : Nat → Nm) (w : World) (c : Act), SR ρ s w → Fits ρ N s.nx f c → ∀ (i : Nat) (o : Oper), i ∈ l → ops[i]? = some o → Pend P N ops ρ s c o := fun v hv => by
          obtain ⟨e1, e2⟩ := slotIs_is hv
          rw [e1] at hv
          obtain ⟨e3, e4, e5⟩ := again_is l hv (fun i hi => hq i (List.mem_cons_of_mem _ hi))
          exact ⟨e1.trans e3, e4, e2, e5⟩
        have slot : ∀ (ρ : Nat → Nm) (c : Act) (v : Value), Fits ρ N s.nx f c → (∀ t, o.dst = some t → t < N → f.get t = some v) → ∀ t, o.dst = some t → t < N → ∃ u, c.tmps[t]? = some u ∧ VR ρ s.nx v u := fun ρ c v hf hv t ht hN => hf.fr t v (hv t ht hN)
        rcases guardR_or hf1.fr h with ⟨h1, h2⟩ | ⟨h1, h2⟩
        · have hok := h
          rw [h2] at hok ⊢
          obtain ⟨v, h3, h4⟩ := xOp_q hqo hok
          rw [h3] at hok ⊢
          obtain ⟨e1, e2, e3, e4⟩ := cont v hok
          refine ⟨e1, e2, fun ρ w c hs hf j oj hj hoj => ?_⟩
          rcases List.mem_cons.1 hj with rfl | hj
          · obtain rfl := Option.some.inj (ho.symm.trans hoj)
            rcases guardR_or hf.fr h with ⟨g1, g2⟩ | ⟨g1, g2⟩
            · obtain ⟨u, g3, g4⟩ := h4 ρ w c hs hf.fr
              refine .inr ⟨g1, f, c, v, u, h4, hf.fr, fun _ _ => rfl, g4, fun t ht hN => ?_⟩
              obtain ⟨u', k1, k2⟩ := slot ρ c v hf e3 t ht hN
              rw [k1, g4.det k2]
            · rw [g2] at h
              obtain ⟨_, _, k3, _⟩ := cont undef h
              refine .inl ⟨g1, fun t ht hN => ?_⟩
              obtain ⟨u', k1, k2⟩ := slot ρ c undef hf k3 t ht hN
              rw [k1, undef_vr.det k2]
          · exact e4 ρ w c hs hf j oj hj hoj
        · have hok := h
          rw [h2] at hok ⊢
          obtain ⟨e1, e2, e3, e4⟩ := cont undef hok
          refine ⟨e1, e2, fun ρ w c hs hf j oj hj hoj => ?_⟩
          rcases List.mem_cons.1 hj with rfl | hj
          · obtain rfl := Option.some.inj (ho.symm.trans hoj)
            rcases guardR_or hf.fr h with ⟨g1, g2⟩ | ⟨g1, g2⟩
            · rw [g2] at h
              obtain ⟨v, h3, h4⟩ := xOp_q hqo h
              rw [h3] at h
              obtain ⟨_, _, k3, _⟩ := cont v h
              obtain ⟨u, g3, g4⟩ := h4 ρ w c hs hf.fr
              refine .inr ⟨g1, f, c, v, u, h4, hf.fr, fun _ _ => rfl, g4, fun t ht hN => ?_⟩
              obtain ⟨u', k1, k2⟩ := slot ρ c v hf k3 t ht hN
              rw [k1, g4.det k2]
            · refine .inl ⟨g1, fun t ht hN => ?_⟩
              obtain ⟨u', k1, k2⟩ := slot ρ c undef hf e3 t ht hN
              rw [k1, undef_vr.det k2]
          · exact e4 ρ w c hs hf j oj hj hoj
      · -- no frame fits: nothing to say but that it went on
        have go : ∀ v, (slotIs N o.dst v f (again P cl N ops l f s r)).ok → slotIs N o.dst v f (again P cl N ops l f s r) = r ∧ r.ok := fun v hv => by
          obtain ⟨e1, e2⟩ := slotIs_is hv
          rw [e1] at hv
          obtain ⟨e3, e4, _⟩ := again_is l hv (fun i hi => hq i (List.mem_cons_of_mem _ hi))
          exact ⟨e1.trans e3, e4⟩
        have yes : ∀ x : R, guardR ops o f x x = x ∨ ∃ n, guardR ops o f x x = .fail n := fun x => by
          unfold guardR
          rcases o.guard with _ | ⟨g, want⟩
          · exact .inl rfl
          · simp only
            rcases ops[g]? with _ | og
            · exact .inr ⟨150, rfl⟩
            · simp only [onO]
              rcases og.dst with _ | d
              · exact .inr ⟨151, rfl⟩
              · simp only
                rcases acc (path d) f with _ | v
                · exact .inr ⟨152, rfl⟩
                · simp only
                  cases v with
                  | bool b => cases b <;> cases want <;> exact .inl rfl
                  | tuple => exact .inl rfl
                  | _ => exact .inr ⟨158, rfl⟩
        have both : guardR ops o f (xOp P cl o f s (fun v _ => slotIs N o.dst v f (again P cl N ops l f s r))) (slotIs N o.dst undef f (again P cl N ops l f s r)) = xOp P cl o f s (fun v _ => slotIs N o.dst v f (again P cl N ops l f s r)) ∨ guardR ops o f (xOp P cl o f s (fun v _ => slotIs N o.dst v f (again P cl N ops l f s r))) (slotIs N o.dst undef f (again P cl N ops l f s r)) = slotIs N o.dst undef f (again P cl N ops l f s r) := by
          revert h
          generalize xOp P cl o f s (fun v _ => slotIs N o.dst v f (again P cl N ops l f s r)) = x
          generalize slotIs N o.dst undef f (again P cl N ops l f s r) = y
          unfold guardR
          intro h
          rcases hg : o.guard with _ | ⟨g, want⟩
          · exact .inl rfl
          · rw [hg] at h
            simp only at h ⊢
            rcases hog : ops[g]? with _ | og
            · rw [hog] at h
              exact h.elim
            · rw [hog] at h
              simp only [onO] at h ⊢
              rcases hd : og.dst with _ | d
              · rw [hd] at h
                exact h.elim
              · rw [hd] at h
                simp only at h ⊢
                rcases hv : acc (path d) f with _ | v
                · rw [hv] at h
                  exact h.elim
                · rw [hv] at h
                  simp only at h ⊢
                  cases v with
                  | bool b =>
                    cases b <;> cases want
                    · exact .inl rfl
                    · exact .inr rfl
                    · exact .inr rfl
                    · exact .inl rfl
                  | tuple => exact .inr rfl
                  | _ => exact h.elim
        have res : guardR ops o f (xOp P cl o f s (fun v _ => slotIs N o.dst v f (again P cl N ops l f s r))) (slotIs N o.dst undef f (again P cl N ops l f s r)) = r ∧ r.ok := by
          rcases both with hb | hb
          · rw [hb] at h ⊢
            obtain ⟨v, h3, _⟩ := xOp_q hqo h
            rw [h3] at h ⊢
            exact go v h
          · rw [hb] at h ⊢
            exact go undef h
        exact ⟨res.1, res.2, fun ρ w c hs hf => absurd ⟨ρ, w, c, hs, hf⟩ hF⟩
end
end Go.Proofs.YtjfcjpbolokfcaaGreatDoor.Ev
