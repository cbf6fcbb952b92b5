/-
  flow.Ring: Push in one law; going round as a function.
-/
import Derived.Test.YtohkchilogmneaaFlow8
namespace Go.Proofs.Ytohkchilogmneaa
open Go.RowKit

def findF (id : Int) (rows : List FRow) : Option Nat := rows.findIdx? (fun r => r.id == id)
/-- The rows behind a Push that may be. -/
def pushR (id wt : Int) (x : It) (rows : List FRow) : List FRow := match findF id rows with
  | some k => rows.modify k (fun r => { r with its := r.its ++ [x] })
  | none => rows ++ [⟨id, wt, 0, [x]⟩]
def stepPush (id wt : Int) (x : It) (rows : List FRow) : List FRow := if pushE id wt x rows = 0 then pushR id wt x rows else rows
theorem find_at {id : Int} : ∀ {rows : List FRow}, (findF id rows = none ∧ atF id rows = none) ∨ ∃ k r, findF id rows = some k ∧ rows[k]? = some r ∧ r.id = id ∧ atF id rows = some r
  | [] => .inl ⟨rfl, rfl⟩
  | x :: l => by
    by_cases hx : x.id = id
    · exact .inr ⟨0, x, by simp [findF, List.findIdx?_cons, hx], rfl, hx, by simp [atF, hx]⟩
    · have h1 : findF id (x :: l) = (findF id l).map (· + 1) := by simp [findF, List.findIdx?_cons, hx]
      have h2 : atF id (x :: l) = atF id l := by simp [atF, hx]
      rw [h1, h2]
      rcases find_at (id := id) (rows := l) with ⟨h3, h4⟩ | ⟨k, r, h3, h4, h5, h6⟩
      · exact .inl ⟨by rw [h3]; rfl, h4⟩
      · exact .inr ⟨k + 1, r, by rw [h3]; rfl, by simpa using h4, h5, h6⟩
theorem modify_set {α : Type} {g : α → α} : ∀ {l : List α} {k : Nat} {x : α}, l[k]? = some x → l.modify k g = l.set k (g x)
  | [], _, _, h => by simp at h
  | y :: r, 0, x, h => by
    simp at h
    subst h
    simp
  | y :: r, k + 1, x, h => by
    have := modify_set (g := g) (l := r) (k := k) (x := x) (by simpa using h)
    simp [this]
theorem pushE_zero {id wt : Int} {x : It} {rows : List FRow} (h : pushE id wt x rows = 0) : ¬ argBad id wt ∧ ((findF id rows = none ∧ atF id rows = none ∧ itE [] x = 0) ∨ ∃ k r, findF id rows = some k ∧ rows[k]? = some r ∧ r.id = id ∧ r.wt = wt ∧ itE r.its x = 0) := by
  unfold pushE at h
  rcases find_at (id := id) (rows := rows) with ⟨h1, h2⟩ | ⟨k, r, h1, h2, h3, h4⟩
  · rw [h2] at h
    simp only at h
    split at h
    · cases h
    · rename_i hb
      exact ⟨hb, .inl ⟨h1, h2, h⟩⟩
  · rw [h4] at h
    simp only at h
    split at h
    · cases h
    · rename_i hb
      refine ⟨fun hb' => hb (.inl hb'), .inr ⟨k, r, h1, h2, h3, ?_, h⟩⟩
      by_cases hw : r.wt = wt
      · exact hw
      · exact absurd (.inr hw) hb
/-- How many items wait. -/
def totR (rows : List FRow) : Nat := (rows.map (fun r => r.its.length)).sum
theorem tot_set : ∀ {rows : List FRow} {k : Nat} {r y : FRow}, rows[k]? = some r → totR (rows.set k y) + r.its.length = totR rows + y.its.length
  | [], _, _, _, h => by simp at h
  | x :: l, 0, r, y, h => by
    simp at h
    subst h
    simp [totR]
    omega
  | x :: l, k + 1, r, y, h => by
    have := tot_set (y := y) (rows := l) (k := k) (r := r) (by simpa using h)
    simp [totR] at this ⊢
    omega
theorem tot_mem : ∀ {rows : List FRow} {r : FRow}, r ∈ rows → r.its.length ≤ totR rows
  | [], _, h => by cases h
  | x :: l, r, h => by
    rcases List.mem_cons.1 h with rfl | h
    · simp [totR]
    · have := tot_mem h
      simp [totR] at this ⊢
      omega
theorem tot_len : ∀ {rows : List FRow}, (∀ r ∈ rows, r.its ≠ []) → rows.length ≤ totR rows
  | [], _ => by simp
  | x :: l, h => by
    have h1 := tot_len (rows := l) (fun r hr => h r (List.mem_cons_of_mem _ hr))
    have h2 := List.length_pos_iff.2 (h x List.mem_cons_self)
    simp [totR] at h1 ⊢
    omega
theorem tot_push {id wt : Int} {x : It} {rows : List FRow} : totR (stepPush id wt x rows) ≤ totR rows + 1 := by
  unfold stepPush
  split
  · unfold pushR
    rcases find_at (id := id) (rows := rows) with ⟨h1, h2⟩ | ⟨k, r, h1, h2, h3, h4⟩
    · rw [h1]
      simp [totR]
    · rw [h1]
      simp only
      rw [modify_set h2]
      have := tot_set (y := { r with its := r.its ++ [x] }) h2
      simp at this
      omega
  · omega
section
variable {pre : List Int} {ρ : Roles} {f sp : Nat} {q : Int} {gv : Bool} {rows : List FRow}
theorem RingAt.full {w : World} (h : RingAt pre ρ w f q gv rows) : ∀ r ∈ rows, r.its ≠ [] := by
  obtain ⟨sp, v, ns, qb, its, h, rfl⟩ := h
  intro r hr
  obtain ⟨n, hn, rfl⟩ := List.mem_map.1 hr
  exact h.full n hn
/-- Push, whatever becomes of it. -/
def RPushPost' (pre : List Int) (ρ : Roles) (w : World) (f : Nat) (q : Int) (gv : Bool) (rows : List FRow) (id wt : Int) (x : It) (e : Ending) (w' : World) : Prop :=
  e = .returned (.int .i64 (pushE id wt x rows)) ∧ ∃ ρ', Later ρ ρ' w ∧ NewRoles ρ' pre w.heap.size ∧ RingAt pre ρ' w' f q gv (stepPush id wt x rows) ∧ Fp (Part ρ pre) w w'
theorem flowPush_any (hpre : pre ≠ []) (id wt : Int) (x : It) (w : World) (hR : RingAt pre ρ w f q gv rows) (hid : I64 id) (hx : I64 x.id) (hf : totR rows < 1000000) :
    Calls Try.prog 13 #[.pointer (some ⟨f, 0, none⟩), .int .i64 id, .int .i64 wt, .agg #[.int .i64 x.id, .int .i64 x.cost]] w (RPushPost' pre ρ w f q gv rows id wt x) := by
  by_cases h : pushE id wt x rows = 0
  · unfold RPushPost' stepPush
    rw [h, if_pos rfl]
    obtain ⟨hb, ⟨h1, h2, h3⟩ | ⟨k, r, h1, h2, h3, h4, h5⟩⟩ := pushE_zero h
    · unfold pushR
      rw [h1]
      exact flowPush_new hpre id wt x w hR h2 hid hx hb h3 (Nat.lt_of_le_of_lt (tot_len hR.full) hf)
    · unfold pushR
      rw [h1]
      simp only
      rw [modify_set h2]
      subst h3 h4
      exact flowPush_old hpre k r x w hR h2 hx hb h5 (Nat.lt_of_le_of_lt (tot_mem (List.mem_of_getElem? h2)) hf)
  · unfold RPushPost' stepPush
    rw [if_neg h]
    refine (flowPush_bad id wt x w hR hx h).mono ?_
    rintro e w' ⟨rfl, hb⟩
    exact ⟨rfl, fence ρ w, fence_later ρ w, fun k hk => .inl (by simp [fence, Nat.not_lt.2 hk]), (hR.later (fence_later ρ w)).below hb, Fp.of_below hb⟩
end
/-- Going round, so many times at most. -/
def goR (q : Int) : Nat → Bool → List FRow → List FRow
  | 0, _, l => l
  | _, _, [] => []
  | n + 1, gv, x :: r => if headC x.its ≤ (chargeR q gv x).df then chargeR q gv x :: r else goR q n false (r ++ [chargeR q gv x])
/-- Does it end within? -/
def ends (q : Int) : Nat → Bool → List FRow → Bool
  | 0, _, _ => false
  | _, _, [] => false
  | n + 1, gv, x :: r => decide (headC x.its ≤ (chargeR q gv x).df) || ends q n false (r ++ [chargeR q gv x])
theorem goR_picks {q : Int} : ∀ {n : Nat} {gv : Bool} {l : List FRow}, ends q n gv l = true → PicksR q gv l (goR q n gv l)
  | 0, _, _, h => by simp [ends] at h
  | n + 1, _, [], h => by simp [ends] at h
  | n + 1, gv, x :: r, h => by
    unfold ends at h
    unfold goR
    by_cases hc : headC x.its ≤ (chargeR q gv x).df
    · rw [if_pos hc]
      exact .grant hc
    · rw [if_neg hc]
      simp [hc] at h
      exact .rotate hc (goR_picks h)
end Go.Proofs.Ytohkchilogmneaa
