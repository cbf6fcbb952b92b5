/-
  slices.Sorted(maps.Keys(m)) of a map with one entry at most: what the evaluator's hook says.
-/
import Derived.Test.YtjfcjpbolokfcaaGreatDoorSrt
import Derived.Test.YtjfcjpbolokfcaaGreatDoorEv35
namespace Go.Proofs.YtjfcjpbolokfcaaGreatDoor.Ev
open Go Go.RowKit Go.Maps Go.Sort Go.Shelf Go.WideElems Go.ChangeMaps Go.MapKept Go.Proofs

theorem sorts (m : Nat) : AnyZI.SortsIn Tryz.prog Tryz.sortedA_ren Fence.wide m :=
  ⟨fun blk off cap ss W hH hblk hsz => callsIn_wide.2 (AnyM.slices_Sort_int Tryz.sortA blk off cap ss W hH hblk hsz),
   fun p cap W => callsIn_wide.2 (AnyM.slices_Sort_int_none Tryz.sortA p cap W)⟩
/-- Any value reads as nothing. -/
def readAny (_ : Value) : Option (DataW Unit × List MemPlace) := some (.nil, [])
theorem hookC : HookC Tryz.prog 99 100 176 160 3 := by
  refine ⟨fun b w => ?_, fun Bm b es clock w hBm hc hes he => ?_⟩
  · exact (callsIn_wide (n := 5)).1 (AnyZI.keys_in Tryz.keysA Fence.wide 5 trivial rfl (some b) w)
  · have hint : Tryz.prog.underlying 3 = some (.int .i64) := Tryz.underlying3
    have hcase : ∃ l : List Int, (es.toList.map fun e => e.key) = l.map encZ ∧ es.size = l.length ∧ l.length ≤ 1 ∧ ∃ D0 : DataW Unit, w.ownsMap Tryz.prog 3 readAny b 1 D0 ∧ intKeys D0 = l ∧ Maps.size D0 ≤ 1 := by
      rcases he with rfl | ⟨x, u, c, rfl, h1, h2⟩
      · exact ⟨[], rfl, rfl, by simp, .map [], ⟨#[], clock, hes, ⟨by simp, ⟨by simp, by simp⟩, fun y hy => by simp at hy⟩, by simp, rfl⟩, rfl, by simp [Maps.size]⟩
      · have wfx : (Lit.int .i64 (x : Int)).wf = true := by
          have e1 : IntKind.i64.min = -9223372036854775808 := by decide
          have e2 : IntKind.i64.max = 9223372036854775807 := by decide
          simp only [Lit.wf, e1, e2, Bool.and_eq_true, decide_eq_true_eq]
          omega
        have hk : keyOf Tryz.prog 3 (.int .i64 (x : Int)) = some (.int .i64 x) := keyOf_int_mk hint wfx
        have hrd : WideElems.rd Tryz.prog 3 readAny ⟨.int .i64 (x : Int), u, c⟩ = some (.int .i64 x, .nil) := by simp [WideElems.rd, hk, readAny]
        refine ⟨[(x : Int)], rfl, rfl, by simp, .map [(.int .i64 x, .nil)], ⟨_, clock, hes, ⟨by simp [maxLen], ⟨by simpa using h1, by simp⟩, fun y hy => ?_⟩, by simp, ?_⟩, rfl, by simp [Maps.size]⟩
        · simp at hy
          subst hy
          exact ⟨_, hrd⟩
        · simp [WideElems.rg, hrd, DataW.insert]
    obtain ⟨l, hkeys, hsz, hl1, D0, hown, hik, hmz⟩ := hcase
    have hseq : SeqGives Fence.wide 2 Tryz.prog 176 #[.pointer (some ⟨Bm, 0, none⟩)] encZ (fun ss => ss.Perm (intKeys D0)) (Maps.size D0) w := AnyZI.keys_gives Tryz.keysB Fence.wide 2 trivial rfl (by omega) Bm b 1 D0 w hBm hc hown
    have cS := AnyZI.sorted_in Tryz.sortedA Fence.wide 5 trivial trivial trivial trivial rfl (by omega) (sorts _) (enters_of Tryz.func175 (by kernel_rfl) rfl) 176 #[.pointer (some ⟨Bm, 0, none⟩)] trivial (enters_of Tryz.func176 (by kernel_rfl) rfl) _ _ (Nat.le_trans hmz (by simp [maxLen])) (by omega) _ hseq
    change CallsIn _ _ Tryz.prog 99 _ _ _ at cS
    refine Calls.mono ((callsIn_wide (n := 5)).1 cS) ?_
    rintro e w' ⟨v, ss, rfl, hS, hrow, hnil, hb⟩
    rw [hik] at hS
    have hss : ss.length = l.length := hS.length_eq
    refine ⟨v, rfl, hb, fun h0 => hnil.2 ?_, fun en hen => ?_⟩
    · subst h0
      exact List.eq_nil_of_length_eq_zero (by rw [hss, ← hsz]; rfl)
    · subst hen
      have h1 : l.length = 1 := hsz.symm
      obtain ⟨x, rfl⟩ : ∃ x, l = [x] := by
        match l, h1 with
        | [x], _ => exact ⟨x, rfl⟩
      have hsx : ss = [x] := List.perm_singleton.1 hS
      subst hsx
      have hx : en.key = encZ x := by simpa using hkeys
      rcases hrow.2 with ⟨rfl, h0⟩ | ⟨gb, cap, cur, rfl, g1, g2, g3, g4, g5, g6⟩
      · simp at h0
      · refine ⟨gb, cap, cur, rfl, g1, g2, by simpa using g3, by simpa using g5, ?_⟩
        have h6 : cur.toList.take 1 = [encZ x] := by simpa using g6
        have h7 : (cur.toList.take 1)[0]? = some (encZ x) := by rw [h6]; rfl
        rw [hx]
        simpa using h7
end Go.Proofs.YtjfcjpbolokfcaaGreatDoor.Ev
