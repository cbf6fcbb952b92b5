/-
  billetref04.Canon: the walk.
-/
import Derived.Test.YtmijmfgclmaodaaGreatDoorRProp3
namespace Go.Proofs.YtmijmfgclmaodaaGreatDoor
open Go.RowKit

/-- 'append(s, x)', s of the call's own: it lies where it lay, or in a block that is new. -/
theorem wpList_append_at {P : Program} {w : World} {us : Array Value} {e : TypeId} {ops : Array Oper} {rest : List Oper} {o : Oper} {a : Act} {Q : Exit → Act → World → Prop} (hgd : o.guard = none) (s x : Operand) (t : TypeId)
    (hop : o.op = Op.call { callee := Callee.builtin Builtin.append, args := #[s, x], argTypes := #[t, t] }) (base : Nat) (z : Value) (size bytes : Nat)
    (ht : P.underlying t = some (TypeDesc.slice e)) (hinfo : (P.info? e).map (fun i => (i.zero, i.size, i.bytes)) = some (some z, size, bytes)) (hz : z.cells.size = size) (hsz : 0 < size)
    (v : Value) (n : Nat) (xs : List Value) (hs : a.eval s = v) (hown : w.ownsRow base e size v n xs) (hx : a.eval x = Value.slice (some ⟨w.heap.size, 0, none⟩) 1 1)
    (hus : us.size = size) (hu : ∀ u ∈ us.toList, u.oneCell' = true) (hb : base ≤ w.heap.size) (hn : n < 140737488355328) (hby : (n + 1) * bytes ≤ 140737488355328)
    (hK : ∀ (g cap : Nat) (w' : World), w'.ownsRow base e size (.slice (some ⟨g, 0, none⟩) (n + 1) cap) (n + 1) (xs ++ us.toList) → w.grownBy w' v.ownBlock → (v.ownBlock = some g ∨ w.heap.size ≤ g) →
      wpList P ops Q rest (a.put o.dst (.slice (some ⟨g, 0, none⟩) (n + 1) cap)) w') :
    wpList P ops Q (o :: rest) a (w.alloc (.cells us e)) := by
  obtain ⟨i0, hi, hz0, hz1, hz2⟩ := info_parts hinfo
  refine wpList_append_lies _ hgd s x t hop base e i0 z size bytes ht hi hz0 hz1 hz2 hz hsz v n xs hs (hown.alloc _) ⟨w.heap.size, 0, none⟩ 1 1 us.toList hx (by simpa using hus) ?_ hu (by omega) ?_ hby ?_ (w.heap.size + 1) (by simp) ?_
  · intro j u hj
    have e1 : (⟨w.heap.size, 0, none⟩ : Addr).add j = ⟨w.heap.size, j, none⟩ := by unfold Addr.add; split <;> simp_all
    rw [e1]
    exact cell_alloc_at (by simpa using hj)
  · unfold maxLen; omega
  · simp; omega
  · intro g cap w' h1 h2 h3 _
    refine hK g cap w' h1 ⟨h2.os, h2.tape, h2.output, by have := h2.size; simp at this; omega, fun k hk hne => ?_⟩ ?_
    · rw [h2.block k (by simp; omega) hne]
      exact Below.heap_alloc _ _ _ hk
    · rcases h3 with h | h
      · exact .inl h
      · exact .inr (by omega)

/-- Two slices lie apart. -/
def Apart (v u : Value) : Prop := ∀ g, v.ownBlock = some g → u.ownBlock ≠ some g
theorem Apart.symm {v u : Value} (h : Apart v u) : Apart u v := fun g h1 h2 => h g h2 h1
theorem Apart.kept {v u : Value} (h : Apart v u) : v.ownBlock = none ∨ v.ownBlock ≠ u.ownBlock := by
  rcases hv : v.ownBlock with _ | g
  · exact .inl rfl
  · exact .inr fun e => h g hv e.symm
theorem apart_new {w : World} {b size n : Nat} {e : TypeId} {v : Value} {xs : List Value} (h : w.ownsRow b e size v n xs) {g m cap : Nat} (hg : w.heap.size ≤ g) : Apart (.slice (some ⟨g, 0, none⟩) m cap) v := by
  intro j hj h2
  simp only [Value.ownBlock, Option.some.injEq] at hj
  subst hj
  obtain ⟨_, ⟨rfl, _⟩ | ⟨g', cap', cur, rfl, _, hb, _⟩⟩ := h
  · cases h2
  · simp only [Value.ownBlock, Option.some.injEq] at h2
    subst h2
    have := (Array.getElem?_eq_some_iff.1 hb).1
    omega
/-- Behind an append: what lay apart from the old slice lies apart from the new one. -/
theorem Apart.append {w : World} {b size n : Nat} {e : TypeId} {u v : Value} {xs : List Value} {g m cap : Nat} (h : Apart v u) (hu : w.ownsRow b e size u n xs) (hat : v.ownBlock = some g ∨ w.heap.size ≤ g) : Apart (.slice (some ⟨g, 0, none⟩) m cap) u := by
  rcases hat with hv | hg
  · intro j hj
    simp only [Value.ownBlock, Option.some.injEq] at hj
    subst hj
    exact h _ hv
  · exact apart_new hu hg

def upto (a i : Nat) (l : List Pr) : List Pr := (l.take i).eraseIdx a
theorem upto_zero (a : Nat) (l : List Pr) : upto a 0 l = [] := by simp [upto]
theorem upto_at {a : Nat} {l : List Pr} {q : Pr} (h : l[a]? = some q) : upto a (a + 1) l = upto a a l := by
  have ha : a < l.length := (List.getElem?_eq_some_iff.1 h).1
  have e1 : (l.take a).length = a := by rw [List.length_take]; omega
  unfold upto
  rw [take_snoc_of h, List.eraseIdx_append_of_length_le (by omega), e1, Nat.sub_self]
  rw [show [q].eraseIdx 0 = [] from rfl, List.append_nil, List.eraseIdx_of_length_le (by omega)]
theorem upto_other {a i : Nat} {l : List Pr} {p : Pr} (h : l[i]? = some p) (hne : i ≠ a) : upto a (i + 1) l = upto a i l ++ [p] := by
  have hi : i < l.length := (List.getElem?_eq_some_iff.1 h).1
  unfold upto
  rw [take_snoc_of h]
  rcases Nat.lt_or_ge a i with hlt | hge
  · rw [List.eraseIdx_append_of_lt_length (by rw [List.length_take]; omega)]
  · rw [List.eraseIdx_of_length_le (by simp [List.length_take]; omega), List.eraseIdx_of_length_le (by rw [List.length_take]; omega)]
theorem upto_all (a : Nat) (l : List Pr) : upto a l.length l = l.eraseIdx a := by unfold upto; rw [List.take_length]
theorem upto_len (a i : Nat) (l : List Pr) : (upto a i l).length ≤ i := by
  unfold upto
  refine Nat.le_trans (List.length_eraseIdx_le _ _) ?_
  rw [List.length_take]
  omega
def sliceLen : Value → Nat
  | .slice _ n _ => n
  | _ => 0
theorem erase_perm : ∀ {l : List Pr} {a : Nat} {q : Pr}, l[a]? = some q → (q :: l.eraseIdx a).Perm l
  | [], _, _, h => by simp at h
  | x :: r, 0, q, h => by simp at h; subst h; exact List.Perm.refl _
  | x :: r, a + 1, q, h => by
    have ih := erase_perm (l := r) (a := a) (q := q) (by simpa using h)
    rw [List.eraseIdx_cons_succ]
    exact (List.Perm.swap x q _).trans (ih.cons x)

/-- The outer loop: what is laid, and what is left. -/
structure CSt (l0 acc rest : List Pr) : Prop where
  perm : (acc ++ rest).Perm l0
  rising : Rising acc
  below : ∀ p ∈ acc, ∀ q ∈ rest, kLt q p = false
theorem cst_start (l : List Pr) : CSt l [] l := ⟨List.Perm.refl _, List.Pairwise.nil, fun p hp => by cases hp⟩
theorem cst_step {l0 acc rest : List Pr} {a : Nat} {q : Pr} (h : CSt l0 acc rest) (hq : rest[a]? = some q) (hmin : ∀ p ∈ rest, kLt p q = false) : CSt l0 (acc ++ [q]) (rest.eraseIdx a) := by
  have hp := erase_perm hq
  refine ⟨?_, ?_, ?_⟩
  · rw [List.append_assoc]
    exact (List.Perm.append_left acc hp).trans h.perm
  · unfold Rising
    rw [List.pairwise_append]
    refine ⟨h.rising, List.pairwise_singleton _ _, fun p hpa x hx => ?_⟩
    rw [List.mem_singleton] at hx
    subst hx
    exact h.below p hpa _ (List.mem_of_getElem? hq)
  · intro p hpa x hx
    have hxr : x ∈ rest := hp.mem_iff.1 (List.mem_cons_of_mem _ hx)
    rcases List.mem_append.1 hpa with hpa | hpa
    · exact h.below p hpa x hxr
    · rw [List.mem_singleton] at hpa
      subst hpa
      exact hmin x hxr
theorem cst_end {l0 acc : List Pr} (ho : Once l0) (h : CSt l0 acc []) : acc = sortP l0 := sortP_of ho (by simpa using h.perm) h.rising
theorem cst_len {l0 acc rest : List Pr} (h : CSt l0 acc rest) : acc.length + rest.length = l0.length := by
  have := h.perm.length_eq
  simpa using this

def CRel (l0 : List Pr) (w : World) (lv ov : Value) (wr : World) : Prop := ∃ (acc rest : List Pr), CSt l0 acc rest ∧ wr.ownsRow w.heap.size 123 2 lv rest.length (flatP rest) ∧ wr.ownsRow w.heap.size 123 2 ov acc.length (flatP acc) ∧ Apart ov lv ∧ Below w.heap.size w wr
def URel (rest : List Pr) (a : Nat) (acc : List Pr) (w : World) (lv ov : Value) (rv i : Value) (wr : World) : Prop := ∃ k : Nat, i = .int .i64 k ∧ k ≤ rest.length ∧ wr.ownsRow w.heap.size 123 2 rv (upto a k rest).length (flatP (upto a k rest)) ∧
  wr.ownsRow w.heap.size 123 2 lv rest.length (flatP rest) ∧ wr.ownsRow w.heap.size 123 2 ov acc.length (flatP acc) ∧ Apart rv lv ∧ Apart rv ov ∧ Below w.heap.size w wr

set_option maxRecDepth 100000 in
set_option maxHeartbeats 2000000 in
/-- THE WALK: billetref04.Canon. -/
theorem rcanon_any (s : ByteArray) (w : World) (hs : s.size ≤ 1048576) :
    Calls Tryz.prog 70 #[.string s] w fun e w' => e = .returned (.tuple #[.string (ba (canonP s)), .int .i64 (canonE s)]) ∧ Below w.heap.size w w' := by
  have HM := Lib.hid (modest_parse hs)
  have HN := Lib.hid (parseP_once s)
  have h6 := parseP_len s
  by_cases h0 : canonE s = 0
  · have HC := Lib.hid (show canonP s = showP (sortP (parseP s).1) by unfold canonP; rw [if_pos h0])
    have HE := Lib.hid h0
    have HE2 := Lib.hid (show (parseP s).2 = 0 from h0)
    clear h0
    go_enter Tryz.func70, Tryz.ntmps70
    go_wp2_with fail
    refine (rparse_any s _ hs).mono ?_
    rintro e w1 ⟨v, rfl, hown, hb1⟩
    rw [HE2.out]
    generalize hl0 : (parseP s).1 = l0 at *
    have HL0 := Lib.hid hl0
    have HB1 := Lib.hid hb1
    have HO := Lib.hid hown
    have hsz1 := hb1.size
    clear hb1 hown hl0
    go_wp2_with fail
    go_loopw [4, 6] (fun lv ov wr => CRel l0 w lv ov wr) (fun lv _ _ => sliceLen lv)
    case atStart => exact ⟨[], l0, cst_start l0, HO.out.alloc _, own_empty hsz1, apart_new HO.out (Nat.le_refl _), HB1.out.alloc hsz1 _⟩
    case round =>
      obtain ⟨acc, rest, hst, hl, ho, hap, hb⟩ := hrel
      have HS := Lib.hid hst
      have HL := Lib.hid hl
      have HA := Lib.hid ho
      have HP := Lib.hid hap
      have HB := Lib.hid hb
      have hszw := hb.size
      have hlen := cst_len hst
      obtain ⟨la, lcap, rfl, hlc, hlm, -, hlcell⟩ := own_cells hl
      have HLC := Lib.hid hlcell
      clear hst hl ho hap hb hlcell HO HB1
      have hrl : rest.length ≤ 6 := by omega
      have hal : acc.length ≤ 6 := by omega
      clear hlen
      by_cases hpos : 0 < rest.length
      · go_wp2_with fail
        refine (least_any (.slice la rest.length lcap) rest _ (pairsAt_own HL.out) hpos (by omega)).mono ?_
        rintro e w2 ⟨a, q, rfl, hq, hmin, hb2⟩
        have hal2 : a < rest.length := (List.getElem?_eq_some_iff.1 hq).1
        obtain ⟨g, rfl, -, hgl, c0, -⟩ := HLC.out (a * 2) (.string q.1) (by have := flatP_get 0 hq (by omega); simpa [encP] using this)
        obtain ⟨g', hg', -, -, c1, -⟩ := HLC.out (a * 2 + 1) (.string q.2) (by have := flatP_get 1 hq (by omega); simpa [encP] using this)
        cases hg'
        have d0 := cell_below hb2 c0
        have d1 := cell_below hb2 c1
        have HQ := Lib.hid hq
        have HS2 := Lib.hid (cst_step HS.out hq hmin)
        have HB2 := Lib.hid hb2
        have hsz2 := hb2.size
        have HL2 := Lib.hid (own_below HL.out hb2)
        have HA2 := Lib.hid (own_below HA.out hb2)
        clear hq hmin hb2 c0 c1 HL HLC
        go_wp2_with (at_builtin; refine wpList_append_at rfl _ _ 118 rfl w.heap.size _ 2 32 Tryz.underlying118 pair_info rfl (by decide) u6 acc.length (flatP acc) rfl HA2.out rfl rfl ?c1 ?c2 ?c3 ?c4 ?_; (case c1 => exact encP_one q); (case c2 => omega); (case c3 => omega); (case c4 => omega); intro og ocap w4 hown4 hg4 hat4)
        have HA4 := Lib.hid (show w4.ownsRow w.heap.size 123 2 (.slice (some ⟨og, 0, none⟩) (acc.length + 1) ocap) (acc ++ [q]).length (flatP (acc ++ [q])) by rw [flatP_snoc, List.length_append]; exact hown4)
        have HL4 := Lib.hid (World.ownsRow.kept HL2.out hg4 HP.out.symm.kept)
        have HP4 := Lib.hid (show Apart (.slice (some ⟨og, 0, none⟩) (acc.length + 1) ocap) _ from HP.out.append HL2.out hat4)
        have HB4 := Lib.hid (show Below w.heap.size w w4 from (HB.out.trans (HB2.out.mono hszw)).grown hg4 (by omega) (fun j hj => own_block HA.out j hj))
        have hsz4 : w.heap.size ≤ w4.heap.size := HB4.out.size
        clear hown4 hg4 hat4 d0 d1
        go_wp2_with fail
        go_loopw [8, 9] (fun rv i wr => URel rest a (acc ++ [q]) w (.slice (some ⟨g, 0, none⟩) rest.length lcap) (.slice (some ⟨og, 0, none⟩) (acc.length + 1) ocap) rv i wr) (fun _ i _ => rest.length - (intOf i).toNat)
        case atStart => exact ⟨0, rfl, Nat.zero_le _, by rw [upto_zero]; exact own_empty hsz4, HL4.out.alloc _, HA4.out.alloc _, apart_new HL4.out (Nat.le_refl _), apart_new HA4.out (Nat.le_refl _), HB4.out.alloc hsz4 _⟩
        case round =>
          obtain ⟨k, rfl, hk, hr, hl, ho, har, hao, hb⟩ := hrel
          have JR := Lib.hid hr
          have JL := Lib.hid hl
          have JO := Lib.hid ho
          have JX := Lib.hid har
          have JY := Lib.hid hao
          have JB := Lib.hid hb
          have hszj := hb.size
          have hul := upto_len a k rest
          obtain ⟨_, _, hle, -, -, -, hlcell⟩ := own_cells hl
          cases hle
          have JC := Lib.hid hlcell
          clear hr hl ho har hao hb hlcell HA4 HL4
          by_cases hlt : k < rest.length
          · by_cases hka : k = a
            · have HN := Lib.hid (show upto a (k + 1) rest = upto a k rest by rw [hka]; exact upto_at HQ.out)
              have hne : ((k : Int) != (a : Int)) = false := by rw [hka]; simp
              have hne2 : ((k : Int) == (a : Int)) = true := by rw [hka]; simp
              clear hka
              go_wp2
              go_roundw
              case rel => exact ⟨k + 1, by go_num, by omega, by rw [HN.out]; exact JR.out, JL.out, JO.out, JX.out, JY.out, JB.out⟩
              case measure => simp [intOf]; omega
            · obtain ⟨p, hp⟩ : ∃ p, rest[k]? = some p := ⟨_, List.getElem?_eq_getElem hlt⟩
              have HN := Lib.hid (upto_other hp hka)
              have hne : ((k : Int) != (a : Int)) = true := by rw [bne_iff_ne]; omega
              have hne2 : ((k : Int) == (a : Int)) = false := by rw [beq_eq_false_iff_ne]; omega
              obtain ⟨g1, hg1, -, -, c0, -⟩ := JC.out (k * 2) (.string p.1) (by have := flatP_get 0 hp (by omega); simpa [encP] using this)
              obtain ⟨g2, hg2, -, -, c1, -⟩ := JC.out (k * 2 + 1) (.string p.2) (by have := flatP_get 1 hp (by omega); simpa [encP] using this)
              cases hg1
              cases hg2
              clear hp hka
              go_wp2_with (at_builtin; refine wpList_append_at rfl _ _ 118 rfl w.heap.size _ 2 32 Tryz.underlying118 pair_info rfl (by decide) u8 (upto a k rest).length (flatP (upto a k rest)) rfl JR.out rfl rfl ?d1 ?d2 ?d3 ?d4 ?_; (case d1 => exact encP_one p); (case d2 => omega); (case d3 => omega); (case d4 => omega); intro rg rcap w6 hown6 hg6 hat6)
              have JR6 := Lib.hid (show w6.ownsRow w.heap.size 123 2 (.slice (some ⟨rg, 0, none⟩) ((upto a k rest).length + 1) rcap) (upto a (k + 1) rest).length (flatP (upto a (k + 1) rest)) by rw [HN.out, flatP_snoc, List.length_append]; exact hown6)
              have JL6 := Lib.hid (World.ownsRow.kept JL.out hg6 JX.out.symm.kept)
              have JO6 := Lib.hid (World.ownsRow.kept JO.out hg6 JY.out.symm.kept)
              have JX6 := Lib.hid (show Apart (.slice (some ⟨rg, 0, none⟩) ((upto a k rest).length + 1) rcap) _ from JX.out.append JL.out hat6)
              have JY6 := Lib.hid (show Apart (.slice (some ⟨rg, 0, none⟩) ((upto a k rest).length + 1) rcap) _ from JY.out.append JO.out hat6)
              have JB6 := Lib.hid (show Below w.heap.size w w6 from JB.out.grown hg6 hszj (fun j hj => own_block JR.out j hj))
              clear hown6 hg6 hat6 c0 c1
              go_wp2
              go_roundw
              case rel => exact ⟨k + 1, by go_num, by omega, JR6.out, JL6.out, JO6.out, JX6.out, JY6.out, JB6.out⟩
              case measure => simp [intOf]; omega
          · have hke : k = rest.length := by omega
            have JR7 := Lib.hid (show wr.ownsRow w.heap.size 123 2 u8 (rest.eraseIdx a).length (flatP (rest.eraseIdx a)) by
              have h := JR.out
              rw [hke, upto_all] at h
              exact h)
            obtain ⟨ra, rcap, rfl, -, -, -, -⟩ := own_cells JR7.out
            have hel : (rest.eraseIdx a).length < rest.length := by rw [List.length_eraseIdx_of_lt hal2]; omega
            clear hke JR
            go_wp2
            go_roundw
            case rel => exact ⟨acc ++ [q], rest.eraseIdx a, HS2.out, JR7.out, JO.out, JY.out.symm, JB.out⟩
            case measure => exact hel
      · have hr0 : rest = [] := List.length_eq_zero_iff.1 (by omega)
        subst hr0
        have hacc := cst_end HN.out HS.out
        have HQ := Lib.hid hacc
        go_wp2_with fail
        refine (rshow_any _ (sortP l0) _ (by rw [← HQ.out]; exact pairsAt_own HA.out) (modest_sort HM.out)).mono ?_
        rintro e w5 ⟨rfl, hb5⟩
        go_wp2
        go_ret2
        rw [HC.out, HE.out]
        exact ⟨rfl, HB.out.trans (hb5.mono hszw)⟩
  · have HC := Lib.hid (show canonP s = [] by unfold canonP; rw [if_neg h0])
    have hne : (canonE s != 0) = true := by rw [bne_iff_ne]; exact h0
    have HE2 := Lib.hid (show (parseP s).2 = canonE s from rfl)
    clear h0
    go_enter Tryz.func70, Tryz.ntmps70
    go_wp2_with fail
    refine (rparse_any s _ hs).mono ?_
    rintro e w1 ⟨v, rfl, hown, hb1⟩
    rw [HE2.out]
    clear hown
    go_wp2
    go_ret2
    rw [HC.out]
    exact ⟨rfl, hb1⟩
end Go.Proofs.YtmijmfgclmaodaaGreatDoor
