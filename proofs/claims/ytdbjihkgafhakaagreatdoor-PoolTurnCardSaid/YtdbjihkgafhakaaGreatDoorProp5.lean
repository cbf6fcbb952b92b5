/-
  prop.Canon: the walk.
-/
import Derived.Test.YtdbjihkgafhakaaGreatDoorProp4
namespace Go.Proofs.YtdbjihkgafhakaaGreatDoor
open Go.RowKit
open Go.Sort hiding Below

theorem parseF_err : ∀ (ps : List (List UInt8)) (acc : List Pr) {l : List Pr} {e : Int}, parseF acc ps = (l, e) → l ≠ [] → e = 0
  | [], acc, l, e, h, _ => by simp [parseF] at h; exact h.2.symm
  | x :: r, acc, l, e, h, hne => by
    rw [parseF] at h
    split at h
    · simp at h; exact absurd h.1 hne
    · split at h
      · simp at h; exact absurd h.1 hne
      · exact parseF_err r _ h hne
theorem mem_join_le (c : UInt8) : ∀ (l : List (List UInt8)) (x : List UInt8), x ∈ l → x.length ≤ (Lib.join l [c]).length
  | [], _, h => by cases h
  | [y], x, h => by simp at h; subst h; simp [Lib.join, List.intercalate, List.intersperse]
  | y :: z :: r, x, h => by
    have e2 : Lib.join (y :: z :: r) [c] = y ++ c :: Lib.join (z :: r) [c] := by simp [Lib.join, List.intercalate, List.intersperse]
    rw [e2]
    rcases List.mem_cons.1 h with rfl | h
    · simp
    · have := mem_join_le c (z :: r) x h
      simp
      omega
theorem flat_get (l : List Pr) (j : Nat) (u : Value) (h : (flatP l)[j]? = some u) : (flatK encP 2 l.toArray)[j]! = u := by
  have hj : j < l.length * 2 := by
    have := (List.getElem?_eq_some_iff.1 h).1
    rwa [flatP_len] at this
  rw [get_flatK _ _ _ _ (by simpa using hj)]
  have hp : l[j / 2]? = some l[j / 2]! := by rw [List.getElem?_eq_getElem (by omega), getElem!_pos l _ (by omega)]
  have h2 := flatP_get (j % 2) hp (by omega)
  rw [show j / 2 * 2 + j % 2 = j by omega, h] at h2
  rw [show l.toArray[j / 2]! = l[j / 2]! by simp]
  have h3 : (encP l[j / 2]!)[j % 2]? = some u := h2.symm
  rw [List.getElem!_eq_getElem?_getD, h3]
  rfl
theorem holds_of_at {w : World} {g : Nat} {l : List Pr} (h : ∀ i u, (flatP l)[i]? = some u → w.cell? ⟨g, i, none⟩ = some u ∧ w.frozen? ⟨g, i, none⟩ = false) : HoldsK encP 2 w g 0 l.toArray := by
  intro j hj
  have hj2 : j < (flatP l).length := by rw [flatP_len]; simpa using hj
  have h1 : (flatP l)[j]? = some (flatP l)[j] := List.getElem?_eq_getElem hj2
  rw [flat_get l j _ h1, Nat.zero_add]
  exact h j _ h1
theorem at_of_holds {w : World} {g cap : Nat} {d : Array Pr} (h : HoldsK encP 2 w g 0 d) (hg : g < w.heap.size) (hcap : d.size ≤ cap) (hmax : cap ≤ maxLen) : PairsAt w (.slice (some ⟨g, 0, none⟩) d.size cap) d.toList := by
  refine ⟨_, cap, by simp, by simpa using hcap, hmax, fun i u hu => ⟨g, rfl, hg, ?_⟩⟩
  have hi : i < d.size * 2 := by
    have := (List.getElem?_eq_some_iff.1 hu).1
    rw [flatP_len] at this
    simpa using this
  have h1 := (h i (by simpa using hi)).1
  rw [Nat.zero_add] at h1
  rw [h1]
  have := flat_get d.toList i u hu
  simp only [Array.toArray_toList] at this
  rw [this]
  rfl
theorem below_sort {B blk n : Nat} {d : Array Pr} {os : Array Obj} {w : World} (h : B ≤ blk) (hB : B ≤ w.heap.size) : Below B w (sortWorldK encP 2 w blk 0 n d os) := by
  refine ⟨rfl, rfl, rfl, size_sortWorldK_c _ _ _ _ _ _ _ _, fun k hk => ?_⟩
  have hne : blk ≠ k := by omega
  have hlt : k < (putRow id (Sort.ahead w n) blk 0 (flatK encP 2 d)).heap.size := by rw [size_putRow]; simp; omega
  show ((putRow id (Sort.ahead w n) blk 0 (flatK encP 2 d)).heap ++ os)[k]? = _
  rw [Array.getElem?_append_left hlt]
  simp only [putRow, mapBlock, Array.getElem?_modify]
  simp [hne]

/-- What the sort leaves is a permutation, sorted. -/
theorem sorted_of {l : List Pr} {d' : Array Pr} (ho : Once l) (hp : PermIn 0 l.toArray.size l.toArray d') (hs : SortedIn (ltOf kCmp) 0 l.toArray.size d') : d'.toList = sortP l := by
  obtain ⟨hsz, _, hperm⟩ := hp
  have e1 : d'.extract 0 l.toArray.size = d' := by rw [← hsz]; simp
  have e2 : l.toArray.extract 0 l.toArray.size = l.toArray := by simp
  rw [e1, e2] at hperm
  refine sortP_of ho (by simpa using hperm) ?_
  unfold Rising
  rw [List.pairwise_iff_getElem]
  intro i j hi hj hij
  have h := hs i j (Nat.zero_le _) hij (by rw [← hsz]; simpa using hj)
  have hi' : i < d'.size := by simpa using hi
  have hj' : j < d'.size := by simpa using hj
  rw [getElem!_pos d' i hi', getElem!_pos d' j hj'] at h
  simp only [Array.getElem_toList]
  exact h

theorem modest_parse {s : ByteArray} (hs : s.size ≤ 1048576) : Modest (parseP s).1 := by
  refine ⟨by have := parseP_len s; omega, fun p hp => ?_⟩
  have hlen : s.data.toList.length = s.size := by simp
  rcases he : parseP s with ⟨l, e⟩
  rw [he] at hp
  have hne : l ≠ [] := by rintro rfl; cases hp
  have h0 : e = 0 := by
    unfold parseP at he
    split at he
    · simp at he; exact absurd he.1 hne
    · split at he
      · simp at he; exact absurd he.1 hne
      · exact parseF_err _ _ he hne
  subst h0
  have h1 := show_parse he
  have h2 : (showP l).length = s.size := by rw [h1, hlen]
  have h3 : shown p ∈ l.map shown := List.mem_map.2 ⟨p, hp, rfl⟩
  have h4 := mem_join_le 44 (l.map shown) _ h3
  unfold showP at h2
  have e1 : p.1.data.toList.length = p.1.size := by simp
  have e2 : p.2.data.toList.length = p.2.size := by simp
  simp only [shown, List.length_append, List.length_cons] at h4
  omega
theorem modest_sort {l : List Pr} (h : Modest l) : Modest (sortP l) := by
  refine ⟨by rw [(sortP_perm l).length_eq]; exact h.1, fun p hp => h.2 p ((sortP_perm l).mem_iff.1 hp)⟩

end Go.Proofs.YtdbjihkgafhakaaGreatDoor
