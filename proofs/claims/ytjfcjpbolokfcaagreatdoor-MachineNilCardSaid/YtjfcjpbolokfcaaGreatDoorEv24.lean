/-
  An evaluator for closed runs: the interpreter is right (1: slots, and how it goes on).
-/
import Derived.Test.YtjfcjpbolokfcaaGreatDoorEv23
namespace Go.Proofs.YtjfcjpbolokfcaaGreatDoor.Ev
open Go

theorem pathF_succ (fuel m : Nat) : pathF (fuel + 1) (m + 1) = match m % 4 with | 0 => .p0 (pathF fuel (m / 4)) | 1 => .p1 (pathF fuel (m / 4)) | 2 => .p2 (pathF fuel (m / 4)) | _ => .p3 (pathF fuel (m / 4)) := by
  have h : m % 4 < 4 := Nat.mod_lt _ (by decide)
  show pick4 (m % 4) (Path.p0 (pathF fuel (m / 4))) (Path.p1 (pathF fuel (m / 4))) (Path.p2 (pathF fuel (m / 4))) (Path.p3 (pathF fuel (m / 4))) = _
  generalize m % 4 = k at h
  match k, h with
  | 0, _ => rfl
  | 1, _ => rfl
  | 2, _ => rfl
  | 3, _ => rfl
theorem leaf_get {α : Type} (m : Nat) : (T.leaf : T α).get m = none := rfl
theorem node_get {α : Type} (o : Option α) (a b c d : T α) (m j : Nat) (h : m % 4 = j) : (T.node o a b c d).get (m + 1) = (kid a b c d j).get (m / 4) := by rw [get_succ, h]
theorem accF_get : ∀ (fuel n : Nat) (t : T Value) (v : Value), acc (pathF fuel n) t = some v → t.get n = some v
  | 0, n, t, v, h => by cases h
  | fuel + 1, 0, t, v, h => by
    cases t with
    | leaf => cases h
    | node o a b c d => exact h
  | fuel + 1, m + 1, t, v, h => by
    rw [pathF_succ] at h
    have h4 : m % 4 < 4 := Nat.mod_lt _ (by decide)
    cases t with
    | leaf =>
      split at h <;> cases h
    | node o a b c d =>
      split at h
      · rename_i hm
        rw [node_get o a b c d m 0 hm]
        exact accF_get fuel _ _ _ h
      · rename_i hm
        rw [node_get o a b c d m 1 hm]
        exact accF_get fuel _ _ _ h
      · rename_i hm
        rw [node_get o a b c d m 2 hm]
        exact accF_get fuel _ _ _ h
      · rename_i h0 h1 h2
        have hm : m % 4 = 3 := by
          have : m % 4 ≠ 0 := h0
          have : m % 4 ≠ 1 := h1
          have : m % 4 ≠ 2 := h2
          omega
        rw [node_get o a b c d m 3 hm]
        exact accF_get fuel _ _ _ h
theorem acc_get {n : Nat} {t : T Value} {v : Value} (h : acc (path n) t = some v) : t.get n = some v := accF_get 9 n t v h
theorem kid_get {a b c d : T Value} {a' b' c' d' : T Value} {fuel m i j : Nat} {x v : Value} (hj : j < 4) (hm : m % 4 = j) (ih : ∀ (t : T Value) (i : Nat) (v : Value), (putP (pathF fuel (m / 4)) x t).get i = some v → (i = m / 4 ∧ v = x) ∨ (i ≠ m / 4 ∧ t.get i = some v))
    (hk : ∀ q, q < 4 → kid a' b' c' d' q = if q = j then putP (pathF fuel (m / 4)) x (kid a b c d q) else kid a b c d q) {o o' : Option Value} (ho : o' = o) (h : (T.node o' a' b' c' d').get i = some v) : (i = m + 1 ∧ v = x) ∨ (i ≠ m + 1 ∧ (T.node o a b c d).get i = some v) := by
  cases i with
  | zero =>
    refine .inr ⟨by simp, ?_⟩
    rw [← ho]
    exact h
  | succ i =>
    rw [get_succ, hk _ (Nat.mod_lt _ (by decide))] at h
    by_cases hq : i % 4 = j
    · rw [if_pos hq] at h
      rcases ih _ _ _ h with ⟨h1, h2⟩ | ⟨h1, h2⟩
      · exact .inl ⟨by omega, h2⟩
      · exact .inr ⟨by omega, by rw [get_succ]; exact h2⟩
    · rw [if_neg hq] at h
      exact .inr ⟨by omega, by rw [get_succ]; exact h⟩
theorem kid0 (a b c d : T Value) (g : T Value → T Value) : ∀ q, q < 4 → kid (g a) b c d q = if q = 0 then g (kid a b c d q) else kid a b c d q := fun q hq => by
  match q, hq with
  | 0, _ => rfl
  | 1, _ => rfl
  | 2, _ => rfl
  | 3, _ => rfl
theorem kid1 (a b c d : T Value) (g : T Value → T Value) : ∀ q, q < 4 → kid a (g b) c d q = if q = 1 then g (kid a b c d q) else kid a b c d q := fun q hq => by
  match q, hq with
  | 0, _ => rfl
  | 1, _ => rfl
  | 2, _ => rfl
  | 3, _ => rfl
theorem kid2 (a b c d : T Value) (g : T Value → T Value) : ∀ q, q < 4 → kid a b (g c) d q = if q = 2 then g (kid a b c d q) else kid a b c d q := fun q hq => by
  match q, hq with
  | 0, _ => rfl
  | 1, _ => rfl
  | 2, _ => rfl
  | 3, _ => rfl
theorem kid3 (a b c d : T Value) (g : T Value → T Value) : ∀ q, q < 4 → kid a b c (g d) q = if q = 3 then g (kid a b c d q) else kid a b c d q := fun q hq => by
  match q, hq with
  | 0, _ => rfl
  | 1, _ => rfl
  | 2, _ => rfl
  | 3, _ => rfl
theorem leaf_node (i : Nat) (v : Value) (h : (T.node none .leaf .leaf .leaf .leaf : T Value).get i = some v) : (T.leaf : T Value).get i = some v := by
  cases i with
  | zero => exact h
  | succ i =>
    rw [get_succ] at h
    have h4 : i % 4 < 4 := Nat.mod_lt _ (by decide)
    match i % 4, h4, h with
    | 0, _, h => exact h
    | 1, _, h => exact h
    | 2, _, h => exact h
    | 3, _, h => exact h
theorem putF_get : ∀ (fuel n : Nat) (x : Value) (t : T Value) (i : Nat) (v : Value), (putP (pathF fuel n) x t).get i = some v → (i = n ∧ v = x) ∨ (i ≠ n ∧ t.get i = some v)
  | 0, n, x, t, i, v, h => by cases h
  | fuel + 1, 0, x, t, i, v, h => by
    have key : ∀ (o : Option Value) (a b c d : T Value), (∀ i v, (T.node o a b c d).get i = some v → t.get i = some v) → (T.node (some x) a b c d).get i = some v → (i = 0 ∧ v = x) ∨ (i ≠ 0 ∧ t.get i = some v) := fun o a b c d hs h => by
      cases i with
      | zero => exact .inl ⟨rfl, (Option.some.inj h).symm⟩
      | succ i =>
        refine .inr ⟨by simp, hs _ _ ?_⟩
        rw [get_succ] at h ⊢
        exact h
    cases t with
    | leaf => exact key none .leaf .leaf .leaf .leaf leaf_node h
    | node o a b c d => exact key o a b c d (fun _ _ h => h) h
  | fuel + 1, m + 1, x, t, i, v, h => by
    have ih := putF_get fuel (m / 4) x
    rw [pathF_succ] at h
    have h4 : m % 4 < 4 := Nat.mod_lt _ (by decide)
    have key : ∀ (o : Option Value) (a b c d : T Value), (∀ i v, (T.node o a b c d).get i = some v → t.get i = some v) → ((i = m + 1 ∧ v = x) ∨ (i ≠ m + 1 ∧ (T.node o a b c d).get i = some v)) → (i = m + 1 ∧ v = x) ∨ (i ≠ m + 1 ∧ t.get i = some v) := fun o a b c d hs h => by
      rcases h with h | ⟨h1, h2⟩
      · exact .inl h
      · exact .inr ⟨h1, hs _ _ h2⟩
    cases t with
    | leaf =>
      refine key none .leaf .leaf .leaf .leaf leaf_node ?_
      split at h
      · rename_i hm
        exact kid_get (j := 0) (by decide) hm ih (kid0 _ _ _ _ _) rfl h
      · rename_i hm
        exact kid_get (j := 1) (by decide) hm ih (kid1 _ _ _ _ _) rfl h
      · rename_i hm
        exact kid_get (j := 2) (by decide) hm ih (kid2 _ _ _ _ _) rfl h
      · rename_i h0 h1 h2
        have hm : m % 4 = 3 := by
          have : m % 4 ≠ 0 := h0
          have : m % 4 ≠ 1 := h1
          have : m % 4 ≠ 2 := h2
          omega
        exact kid_get (j := 3) (by decide) hm ih (kid3 _ _ _ _ _) rfl h
    | node o a b c d =>
      refine key o a b c d (fun _ _ h => h) ?_
      split at h
      · rename_i hm
        exact kid_get (j := 0) (by decide) hm ih (kid0 _ _ _ _ _) rfl h
      · rename_i hm
        exact kid_get (j := 1) (by decide) hm ih (kid1 _ _ _ _ _) rfl h
      · rename_i hm
        exact kid_get (j := 2) (by decide) hm ih (kid2 _ _ _ _ _) rfl h
      · rename_i h0 h1 h2
        have hm : m % 4 = 3 := by
          have : m % 4 ≠ 0 := h0
          have : m % 4 ≠ 1 := h1
          have : m % 4 ≠ 2 := h2
          omega
        exact kid_get (j := 3) (by decide) hm ih (kid3 _ _ _ _ _) rfl h
theorem putP_get {n : Nat} {x : Value} {t : T Value} {i : Nat} {v : Value} (h : (putP (path n) x t).get i = some v) : (i = n ∧ v = x) ∨ (i ≠ n ∧ t.get i = some v) := putF_get 9 n x t i v h
theorem ev_eq {x : Operand} {f : T Value} {v : Value} (h : ev x f = some v) : evO f x = some v := by
  cases x with
  | tmp t => exact acc_get h
  | const c => exact h
  | global g => cases h
  | func g => exact h
theorem put_sound {ρ : Nat → Nm} {nx : Nat} {f : T Value} {a : Act} (h : FR ρ nx f a) {N : Nat} (hN : a.tmps.size = N) (d : Option Tmp) {v u : Value} (hv : VR ρ nx v u) : FR ρ nx (put N d v f) (a.put d u) := by
  cases d with
  | none => exact h
  | some d =>
    intro t x hx
    change (Bool.rec (motive := fun _ => T Value) f (putP (path d) v f) (Nat.ble (Nat.succ d) N)).get t = some x at hx
    show ∃ y, (a.tmps.setIfInBounds d u)[t]? = some y ∧ _
    rcases hb : Nat.ble (Nat.succ d) N with _ | _
    · rw [hb] at hx
      obtain ⟨y, h1, h2⟩ := h t x hx
      have hd : ¬ d < a.tmps.size := fun hlt => by
        have := Nat.ble_eq_true_of_le (Nat.lt_of_lt_of_eq hlt hN)
        rw [hb] at this
        cases this
      refine ⟨y, ?_, h2⟩
      rw [Array.setIfInBounds_eq_of_size_le (Nat.le_of_not_lt hd)]
      exact h1
    · rw [hb] at hx
      rcases putP_get hx with ⟨rfl, rfl⟩ | ⟨hne, hx⟩
      · have hlt : t < a.tmps.size := by rw [hN]; exact Nat.le_of_ble_eq_true hb
        exact ⟨u, Array.getElem?_setIfInBounds_self_of_lt hlt, hv⟩
      · obtain ⟨y, h1, h2⟩ := h t x hx
        exact ⟨y, by rw [Array.getElem?_setIfInBounds_ne (Ne.symm hne)]; exact h1, h2⟩
/-- It came to something. -/
def R.ok : R → Prop
  | .fail _ => False
  | _ => True
/-- If it comes to something, this holds of it. -/
def W (G : R → Prop) (r : R) : Prop := r.ok → G r
section
variable {G : R → Prop} {n : Nat} {f : T Value} {s : St} {v : Value}
theorem W.fail (n : Nat) : W G (.fail n) := fun h => False.elim h
theorem onO_w {α : Type} {o : Option α} {k : α → R} (h : ∀ x, o = some x → W G (k x)) : W G (onO n o k) := by
  cases o with
  | none => exact W.fail n
  | some x => exact h x rfl
theorem onB_w {b : Bool} {r : R} (h : b = true → W G r) : W G (onB n b r) := by
  cases b with
  | false => exact W.fail n
  | true => exact h rfl
theorem ble_w {a b : Nat} {r : R} (h : a ≤ b → W G r) : W G (onB n (Nat.ble a b) r) := onB_w fun e => h (Nat.le_of_ble_eq_true e)
theorem beq_w {a b : Nat} {r : R} (h : a = b → W G r) : W G (onB n (Nat.beq a b) r) := onB_w fun e => h (Nat.eq_of_beq_eq_true e)
theorem bnot_true {b : Bool} (h : bnot b = true) : b = false := by
  cases b
  · rfl
  · cases h
theorem not_w {b : Bool} {r : R} (h : b = false → W G r) : W G (onB n (bnot b) r) := onB_w fun e => h (bnot_true e)
theorem ne_w {a b : Nat} {r : R} (h : a ≠ b → W G r) : W G (onB n (bnot (Nat.beq a b)) r) := not_w fun e => h fun q => by rw [q, Nat.beq_refl] at e; cases e
theorem bool_w {b : Bool} {x y : R} (h0 : b = false → W G x) (h1 : b = true → W G y) : W G (Bool.rec (motive := fun _ => R) x y b) := by
  cases b with
  | false => exact h0 rfl
  | true => exact h1 rfl
theorem opt_w {α : Type} {o : Option α} {x : R} {k : α → R} (h0 : o = none → W G x) (h1 : ∀ y, o = some y → W G (k y)) : W G (Option.rec (motive := fun _ => R) x k o) := by
  cases o with
  | none => exact h0 rfl
  | some y => exact h1 y rfl
theorem onPtr_w {k : Nat → Nat → R} (h : ∀ n o, v = .pointer (some ⟨n, o, none⟩) → W G (k n o)) : W G (onPtr v k) := by
  cases v with
  | pointer a =>
    cases a with
    | none => exact W.fail 4
    | some a =>
      obtain ⟨n, o, q⟩ := a
      cases q with
      | none => exact h n o rfl
      | some q => exact W.fail 5
  | _ => exact W.fail 3
theorem onInt_w {k : IntKind → Int → R} (h : ∀ a b, v = .int a b → W G (k a b)) : W G (onInt v k) := by
  cases v with
  | int a b => exact h a b rfl
  | _ => exact W.fail 6
theorem onBool_w {k : Bool → R} (h : ∀ b, v = .bool b → W G (k b)) : W G (onBool v k) := by
  cases v with
  | bool b => exact h b rfl
  | _ => exact W.fail 7
theorem onSl_w {k : Option Addr → Nat → Nat → R} (h : ∀ a l c, v = .slice a l c → W G (k a l c)) : W G (onSl v k) := by
  cases v with
  | slice a l c => exact h a l c rfl
  | _ => exact W.fail 8
theorem onMap_w {k : Option Nat → R} (h : ∀ m, v = .map m → W G (k m)) : W G (onMap v k) := by
  cases v with
  | map m => exact h m rfl
  | _ => exact W.fail 9
theorem onAgg_w {k : Array Value → R} (h : ∀ a, v = .agg a → W G (k a)) : W G (onAgg v k) := by
  cases v with
  | agg a => exact h a rfl
  | _ => exact W.fail 10
theorem onTup_w {k : Array Value → R} (h : ∀ a, v = .tuple a → W G (k a)) : W G (onTup v k) := by
  cases v with
  | tuple a => exact h a rfl
  | _ => exact W.fail 11
theorem onFun_w {k : FuncId → Array Value → Array Value → R} (h : ∀ g a b, v = .func (.func g) a b → W G (k g a b)) : W G (onFun v k) := by
  cases v with
  | func g a b =>
    cases g with
    | func g => exact h g a b rfl
    | _ => exact W.fail 12
  | _ => exact W.fail 12
theorem onIface_w {k : TypeId → Value → R} (h : ∀ t u, v = .iface t u → W G (k t u)) : W G (onIface v k) := by
  cases v with
  | iface t u => exact h t u rfl
  | _ => exact W.fail 13
theorem onCells_w {k : T Value → Nat → TypeId → Nat → Nat → R} (h : ∀ t m e sz fz, s.h.get n = some (.cells t m e sz fz) → W G (k t m e sz fz)) : W G (onCells s n k) := onO_w fun a ha => by
  cases a with
  | cells t m e sz fz => exact h t m e sz fz ha
  | _ => exact W.fail 15
theorem onEnts_w {k : List MapEntry → Nat → R} (h : ∀ es c, s.h.get n = some (.map es c) → W G (k es c)) : W G (onEnts s n k) := onO_w fun a ha => by
  cases a with
  | map es c => exact h es c ha
  | _ => exact W.fail 17
theorem forceN_w {n : Nat} {k : Nat → R} (h : W G (k n)) : W G (forceN n k) := by cases n <;> exact h
theorem forceT_w {t : T AO} {k : T AO → R} (h : W G (k t)) : W G (forceT t k) := by cases t <;> exact h
theorem newS_w {a : AO} {k : Nat → St → R} (h : W G (k s.nx (s.new a))) : W G (newS s a k) := by
  obtain ⟨t, nx⟩ := s
  show W G (forceN nx fun nx => forceT (t.set a nx) fun h => forceN (Nat.succ nx) fun m => k nx ⟨h, m⟩)
  exact forceN_w (forceT_w (forceN_w h))
theorem setS_w {a : AO} {k : St → R} (h : W G (k ⟨s.h.set a n, s.nx⟩)) : W G (setS s n a k) := by
  obtain ⟨t, nx⟩ := s
  show W G (forceT (t.set a n) fun h => k ⟨h, nx⟩)
  exact forceT_w h
theorem mkInt_w {i : IntKind} {c : Value → R} (h : W G (c (.int i (.ofNat n)))) : W G (mkInt i n c) := forceN_w h
theorem mkBool_w {b : Bool} {c : Value → R} (h : W G (c (.bool b))) : W G (mkBool b c) := by cases b <;> exact h
theorem onNat_w {i : Int} {k : Nat → R} (h : ∀ n, i = .ofNat n → W G (k n)) : W G (onNat i k) := by
  cases i with
  | ofNat n => exact h n rfl
  | negSucc n => exact W.fail 39
theorem onPlace_w {a : Option Addr} {k : Nat → Nat → Option Nat → R} (h : ∀ n o q, a = some ⟨n, o, q⟩ → W G (k n o q)) : W G (onPlace a k) := onO_w fun a ha => by
  obtain ⟨n, o, q⟩ := a
  exact h n o q ha
theorem idx_w {x : Option Operand} {d : Nat} {k : Nat → R} (h : ∀ n, idxA f x d = some n → W G (k n)) : W G (idx f x d k) := by
  cases x with
  | none => exact h d rfl
  | some x =>
    refine onO_w fun v hv => onInt_w fun i z hz => onNat_w fun n hn => forceN_w (h n ?_)
    subst hz hn
    unfold idxA
    simp only [ev_eq hv]
theorem forceV_w {k : Value → R} (h : W G (k v)) : W G (forceV v k) := onSl_w fun a l c hv => onPlace_w fun n o q ha => forceN_w (forceN_w (forceN_w (by subst hv ha; exact h)))
theorem nth_get {α : Type} : ∀ (l : List α) (i : Nat), nth l i = l[i]?
  | [], _ => rfl
  | _ :: _, 0 => rfl
  | x :: l, i + 1 => (nth_get l i).trans (by simp)
theorem evs_eq {f : T Value} : ∀ {xs : List Operand} {vs : List Value}, evs f xs = some vs → evAll f xs = some vs
  | [], vs, h => h
  | x :: xs, vs, h => by
    change Option.rec (motive := fun _ => Option (List Value)) none (fun v => Option.rec (motive := fun _ => Option (List Value)) none (fun vs => some (v :: vs)) (evs f xs)) (ev x f) = some vs at h
    rcases h1 : ev x f with _ | v
    · rw [h1] at h
      cases h
    · rw [h1] at h
      rcases h2 : evs f xs with _ | us
      · rw [h2] at h
        cases h
      · rw [h2] at h
        unfold evAll
        rw [ev_eq h1, evs_eq h2]
        exact h
theorem evp_eq {f : T Value} : ∀ {xs : List (Nat × Operand)} {vs : List (Nat × Value)}, evp f xs = some vs → evParts f xs = some vs
  | [], vs, h => h
  | x :: xs, vs, h => by
    change Option.rec (motive := fun _ => Option (List (Nat × Value))) none (fun v => Option.rec (motive := fun _ => Option (List (Nat × Value))) none (fun vs => some ((x.1, v) :: vs)) (evp f xs)) (ev x.2 f) = some vs at h
    rcases h1 : ev x.2 f with _ | v
    · rw [h1] at h
      cases h
    · rw [h1] at h
      rcases h2 : evp f xs with _ | us
      · rw [h2] at h
        cases h
      · rw [h2] at h
        unfold evParts
        rw [ev_eq h1, evp_eq h2]
        exact h
theorem app_eq {α : Type} : ∀ a b : List α, app a b = a ++ b
  | [], _ => rfl
  | x :: a, b => congrArg (x :: ·) (app_eq a b)
theorem allOne_eq : ∀ vs : List Value, allOne vs = vs.all (·.oneCell')
  | [] => rfl
  | v :: vs => by
    change Bool.rec (motive := fun _ => Bool) false (allOne vs) (v.oneCell') = _
    rw [allOne_eq vs]
    simp only [List.all_cons]
    cases v.oneCell' <;> rfl
end
end Go.Proofs.YtjfcjpbolokfcaaGreatDoor.Ev
