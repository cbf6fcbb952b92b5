/-
  Platforms, plain: pieces of a text, the pair of a piece, the pairs of a platform, how they are shown; what strings.Cut, Contains and Split come to at one byte.
-/
import Derived.Test.YtdbjihkgafhakaaGreatDoorNames
import Derived.Lib.Bytealg
import Derived.Lib.Split
import Derived.Lib.Join
import Derived.Lib.IndexBytes
namespace Go.Proofs.YtdbjihkgafhakaaGreatDoor
open Go.RowKit

abbrev Pr := ByteArray × ByteArray
def ba (l : List UInt8) : ByteArray := ⟨l.toArray⟩
theorem ba_toList (l : List UInt8) : (ba l).data.toList = l := by simp [ba]
theorem ba_of (s : ByteArray) : ba s.data.toList = s := by obtain ⟨a⟩ := s; simp [ba]
theorem ba_inj {a b : List UInt8} (h : ba a = ba b) : a = b := by rw [← ba_toList a, h, ba_toList]

/-- What stands between bytes. -/
def splitL (c : UInt8) : List UInt8 → List (List UInt8)
  | [] => [[]]
  | x :: r => if x = c then [] :: splitL c r else match splitL c r with | [] => [[x]] | p :: ps => (x :: p) :: ps

theorem splitL_none {c : UInt8} : ∀ {s : List UInt8}, c ∉ s → splitL c s = [s]
  | [], _ => rfl
  | x :: r, h => by
    rw [splitL, if_neg (fun e => h (by simp [e])), splitL_none (s := r) (fun e => h (List.mem_cons_of_mem _ e))]
theorem splitL_app {c : UInt8} : ∀ {a b : List UInt8}, c ∉ a → splitL c (a ++ c :: b) = a :: splitL c b
  | [], b, _ => by simp [splitL]
  | x :: r, b, h => by
    rw [List.cons_append, splitL, if_neg (fun e => h (by simp [e])), splitL_app (a := r) (fun e => h (List.mem_cons_of_mem _ e))]
theorem splitL_ne (c : UInt8) (s : List UInt8) : splitL c s ≠ [] := by
  cases s with
  | nil => simp [splitL]
  | cons x r =>
    rw [splitL]
    split
    · simp
    · split <;> simp
theorem first_of {c : UInt8} (s : List UInt8) : c ∉ s ∨ ∃ a b, s = a ++ c :: b ∧ c ∉ a := by
  by_cases h : c ∈ s
  · exact .inr (List.eq_append_cons_of_mem h)
  · exact .inl h

theorem indexByte_none {c : UInt8} : ∀ {s : List UInt8}, c ∉ s → Lib.indexByte s c = -1
  | [], _ => rfl
  | x :: r, h => by
    have h1 : ¬ (x == c) = true := fun e => h (by simp [beq_iff_eq.1 e])
    rw [Lib.indexByte, if_neg h1, indexByte_none (s := r) (fun e => h (List.mem_cons_of_mem _ e))]
    rfl
theorem indexByte_app {c : UInt8} : ∀ {a b : List UInt8}, c ∉ a → Lib.indexByte (a ++ c :: b) c = a.length
  | [], b, _ => by simp [Lib.indexByte]
  | x :: r, b, h => by
    have h1 : ¬ (x == c) = true := fun e => h (by simp [beq_iff_eq.1 e])
    have ih := indexByte_app (a := r) (b := b) (fun e => h (List.mem_cons_of_mem _ e))
    rw [List.cons_append, Lib.indexByte, if_neg h1, ih, if_neg (by rw [beq_iff_eq]; omega)]
    simp
theorem index_none {c : UInt8} {s : List UInt8} (h : c ∉ s) : Lib.index s [c] = -1 := by rw [Lib.index_one, indexByte_none h]
theorem index_app {c : UInt8} {a b : List UInt8} (h : c ∉ a) : Lib.index (a ++ c :: b) [c] = a.length := by rw [Lib.index_one, indexByte_app h]
theorem drop_app {c : UInt8} (a b : List UInt8) : (a ++ c :: b).drop (a.length + 1) = b := by
  rw [show a ++ c :: b = (a ++ [c]) ++ b by simp]
  exact List.drop_left' (by simp)
theorem contains_none {c : UInt8} {s : List UInt8} (h : c ∉ s) : Lib.contains s [c] = false := by simp [Lib.contains, index_none h]
theorem contains_some {c : UInt8} {s : List UInt8} (h : c ∈ s) : Lib.contains s [c] = true := by
  obtain ⟨a, b, rfl, ha⟩ := List.eq_append_cons_of_mem h
  simp [Lib.contains, index_app ha]
theorem cut_none {c : UInt8} {s : List UInt8} (h : c ∉ s) : Lib.cut s [c] = (s, [], false) := by
  rw [Lib.cut, index_none h, if_neg (by omega)]
theorem cut_app {c : UInt8} {a b : List UInt8} (h : c ∉ a) : Lib.cut (a ++ c :: b) [c] = (a, b, true) := by
  rw [Lib.cut, index_app h, if_pos (by omega)]
  simp only [Int.toNat_natCast, List.length_singleton]
  rw [drop_app]
  simp
theorem count_none {c : UInt8} {s : List UInt8} (h : c ∉ s) : Lib.count s [c] = 0 := Lib.count_miss (index_none h)
theorem count_app {c : UInt8} {a b : List UInt8} (h : c ∉ a) : Lib.count (a ++ c :: b) [c] = 1 + Lib.count b [c] := by
  rw [Lib.count_hit (i := a.length) (by simp) (index_app h)]
  simp only [List.length_singleton]
  rw [drop_app]
theorem splitK_splitL (c : UInt8) : ∀ (n : Nat) (s : List UInt8), s.length ≤ n → Lib.splitK [c] 0 (Lib.count s [c]) s = splitL c s := by
  intro n
  induction n with
  | zero =>
    intro s hs
    have : s = [] := List.length_eq_zero_iff.1 (by omega)
    subst this
    rw [count_none (by simp)]
    rfl
  | succ n ih =>
    intro s hs
    rcases first_of (c := c) s with h | ⟨a, b, rfl, ha⟩
    · rw [count_none h, splitL_none h]
      rfl
    · rw [count_app ha, splitL_app ha, Nat.add_comm, Lib.splitK, index_app ha, if_neg (by rw [beq_iff_eq]; omega)]
      simp only [Int.toNat_natCast, Nat.add_zero, List.length_singleton]
      rw [drop_app, ih b (by simp at hs; omega)]
      simp
/-- strings.Split at one byte. -/
theorem splitB_pieces (c : UInt8) (s : ByteArray) : Lib.splitB ⟨#[c]⟩ 0 (Lib.countB s ⟨#[c]⟩) s = (splitL c s.data.toList).map ba := by
  have h := Lib.splitB_data ⟨#[c]⟩ 0 (Lib.countB s ⟨#[c]⟩) s
  have e : Lib.splitK [c] 0 (Lib.countB s ⟨#[c]⟩) s.data.toList = splitL c s.data.toList := splitK_splitL c _ _ (Nat.le_refl _)
  rw [show (⟨#[c]⟩ : ByteArray).data.toList = [c] from rfl, e] at h
  rw [← h, List.map_map]
  conv => lhs; rw [← List.map_id (Lib.splitB ⟨#[c]⟩ 0 (Lib.countB s ⟨#[c]⟩) s)]
  exact List.map_congr_left fun x _ => (ba_of x).symm
theorem splitL_length (c : UInt8) : ∀ s : List UInt8, (splitL c s).length = Lib.count s [c] + 1 := by
  intro s
  generalize hn : s.length = n
  induction n using Nat.strongRecOn generalizing s with
  | _ n ih =>
    rcases first_of (c := c) s with h | ⟨a, b, rfl, ha⟩
    · rw [count_none h, splitL_none h]; rfl
    · rw [count_app ha, splitL_app ha, List.length_cons, ih b.length (by simp at hn; omega) b rfl]
      omega
theorem splitL_le (c : UInt8) (s : List UInt8) : (splitL c s).length ≤ s.length + 1 := by
  induction s with
  | nil => simp [splitL]
  | cons x r ih =>
    rw [splitL]
    split
    · simp; omega
    · split
      · simp
      · rename_i p ps e
        rw [e] at ih
        simp at ih ⊢
        omega
theorem splitL_mem_le (c : UInt8) : ∀ (s : List UInt8) (p : List UInt8), p ∈ splitL c s → p.length ≤ s.length
  | [], p, h => by simp [splitL] at h; subst h; simp
  | x :: r, p, h => by
    rw [splitL] at h
    split at h
    · rcases List.mem_cons.1 h with rfl | h
      · simp
      · have := splitL_mem_le c r p h; simp; omega
    · split at h
      · simp at h; subst h; simp
      · rename_i q qs e
        rcases List.mem_cons.1 h with rfl | h
        · have := splitL_mem_le c r q (by rw [e]; simp); simp; omega
        · have := splitL_mem_le c r p (by rw [e]; exact List.mem_cons_of_mem _ h); simp; omega
/-- What stands between is put together again. -/
theorem join_splitL (c : UInt8) : ∀ s : List UInt8, Lib.join (splitL c s) [c] = s := by
  intro s
  generalize hn : s.length = n
  induction n using Nat.strongRecOn generalizing s with
  | _ n ih =>
    rcases first_of (c := c) s with h | ⟨a, b, rfl, ha⟩
    · rw [splitL_none h]; simp [Lib.join, List.intercalate, List.intersperse]
    · have e := ih b.length (by simp at hn; omega) b rfl
      rw [splitL_app ha]
      obtain ⟨p, ps, hp⟩ : ∃ p ps, splitL c b = p :: ps := by
        cases hb : splitL c b with
        | nil => exact absurd hb (splitL_ne c b)
        | cons p ps => exact ⟨p, ps, rfl⟩
      rw [hp] at e ⊢
      have e2 : Lib.join (a :: p :: ps) [c] = a ++ c :: Lib.join (p :: ps) [c] := by simp [Lib.join, List.intercalate, List.intersperse]
      rw [e2, e]

/-- The pair of a piece; what is wrong with it. -/
def pairOk (k v : List UInt8) : Bool := nameB (ba k) && (decide (v = [42]) || nameB (ba v))
def oneE (x : List UInt8) : Int := match splitL 61 x with
  | [k, v] => if pairOk k v = true then 0 else 5
  | _ => 3
def oneV (x : List UInt8) : Pr := match splitL 61 x with
  | [k, v] => (ba k, ba v)
  | _ => (ba [], ba [])
def hasKey (l : List Pr) (k : ByteArray) : Bool := l.any fun p => p.1.data.toList == k.data.toList
def parseF : List Pr → List (List UInt8) → List Pr × Int
  | acc, [] => (acc, 0)
  | acc, x :: r => if oneE x ≠ 0 then ([], oneE x) else if hasKey acc (oneV x).1 = true then ([], 8) else parseF (acc ++ [oneV x]) r
def parseP (s : ByteArray) : List Pr × Int :=
  if s.size = 0 then ([], 0) else if 6 < (splitL 44 s.data.toList).length then ([], 9) else parseF [] (splitL 44 s.data.toList)
def shown (p : Pr) : List UInt8 := p.1.data.toList ++ 61 :: p.2.data.toList
def showP (l : List Pr) : List UInt8 := Lib.join (l.map shown) [44]

theorem parseF_len : ∀ (ps : List (List UInt8)) (acc : List Pr), (parseF acc ps).1.length ≤ acc.length + ps.length
  | [], acc => by simp [parseF]
  | x :: r, acc => by
    rw [parseF]
    split
    · simp
    · split
      · simp
      · have := parseF_len r (acc ++ [oneV x])
        simp at this ⊢
        omega
theorem parseP_len (s : ByteArray) : (parseP s).1.length ≤ 6 := by
  unfold parseP
  split
  · simp
  · split
    · simp
    · have := parseF_len (splitL 44 s.data.toList) []
      simp at this
      omega
theorem oneE_cases (x : List UInt8) : oneE x = 0 ∨ oneE x = 3 ∨ oneE x = 5 := by
  unfold oneE
  split
  · split <;> simp
  · simp
/-- A piece that may be, and its pair. -/
theorem shown_one {x : List UInt8} (h : oneE x = 0) : shown (oneV x) = x := by
  unfold oneE at h
  split at h
  · rename_i k v e
    have hv : oneV x = (ba k, ba v) := by unfold oneV; rw [e]
    have := join_splitL 61 x
    rw [e] at this
    rw [hv]
    simp only [shown, ba_toList]
    rw [← this]
    simp [Lib.join, List.intercalate, List.intersperse]
  · cases h
theorem parseF_show : ∀ (ps : List (List UInt8)) (acc l : List Pr), parseF acc ps = (l, 0) → l.map shown = acc.map shown ++ ps
  | [], acc, l, h => by
    simp [parseF] at h
    rw [h]; simp
  | x :: r, acc, l, h => by
    rw [parseF] at h
    split at h
    · rename_i hne
      simp only [Prod.mk.injEq] at h
      exact absurd h.2 hne
    · rename_i h0
      have h0' : oneE x = 0 := by simpa using h0
      split at h
      · simp at h
      · rw [parseF_show r _ l h]
        simp [shown_one h0']
/-- What was read is shown as it was. -/
theorem show_parse {s : ByteArray} {l : List Pr} (h : parseP s = (l, 0)) : showP l = s.data.toList := by
  unfold parseP at h
  split at h
  · rename_i h0
    simp at h
    subst h
    have : s.data.toList = [] := by
      apply List.length_eq_zero_iff.1
      simpa using h0
    rw [this]; rfl
  · split at h
    · simp at h
    · have := parseF_show _ _ _ h
      simp at this
      unfold showP
      rw [this, join_splitL]
end Go.Proofs.YtdbjihkgafhakaaGreatDoor
