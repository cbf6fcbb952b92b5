/-
  law17.live: the plain side.
-/
import Derived.Test.YtdbjihkgafhakaaGreatDoorPool13
namespace Go.Proofs.YtdbjihkgafhakaaGreatDoor
open Go.RowKit

theorem took_ge (row : FRow) (rest : List FRow) : totR (row :: rest) ≤ totR (tookR row rest).2 + 1 := by
  unfold tookR withR
  split
  · rename_i h
    have h1 : row.its.length ≤ 1 := by
      have := congrArg List.length h
      simp at this
      omega
    simp [totR]
    omega
  · simp [totR]
    omega
theorem tookA_ge (s : Bool × List FRow) : totR s.2 ≤ totR (tookA s).2 + 1 := by
  unfold tookA
  split
  · rename_i r rs h
    rw [h]
    exact took_ge r rs
  · exact Nat.le_succ _
theorem totT_took_ge (row : TRow) (rest : List TRow) : totT (row :: rest) ≤ totT (tookT row rest).2 + 1 := by
  have h1 := tookA_ge (row.gv, row.rows)
  unfold tookT withT
  split
  · rename_i h
    change (tookA (row.gv, row.rows)).2 = [] at h
    rw [h] at h1
    simp [totT, totR] at h1 ⊢
    omega
  · simp [totT]
    simp only at h1
    omega
def livE (id : Int) (c : Int) : Ent := ⟨⟨#[]⟩, c, 0, 1, 0, 1, id, 1⟩
def liv0 : Nat → List TRow
  | 0 => []
  | 1 => []
  | 2 => (pushT (livE 2 0) []).2
  | 3 => (pushT (livE 2 0) []).2
  | _ => (pushT (livE 4 0) (pushT (livE 2 0) []).2).2
def liv1 : Nat → List TRow
  | 0 => []
  | 1 => (pushT (livE 1 1) []).2
  | 2 => (pushT (livE 1 1) []).2
  | _ => (pushT (livE 3 1) (pushT (livE 1 1) []).2).2
theorem liv_tot : totT (liv0 4) = 2 ∧ totT (liv1 4) = 2 := by decide
theorem liv_code : (pushT (livE 1 1) (liv1 0)).1 = 0 ∧ (pushT (livE 2 0) (liv0 1)).1 = 0 ∧ (pushT (livE 3 1) (liv1 2)).1 = 0 ∧ (pushT (livE 4 0) (liv0 3)).1 = 0 := by decide
/-- The one need of the example. -/
structure OneN (L : List PN) (a b : Int) (r0 r1 : List TRow) (nn : PN) (c0 c1 : PC) : Prop where
  L : L = [nn]
  name : nn.name = ⟨#[]⟩
  uses : nn.uses = 2
  cls : nn.cls = [c0, c1]
  s0 : c0.served = a
  s1 : c1.served = b
  w0 : c0.rows = r0
  w1 : c1.rows = r1
theorem match_nil : matchP ⟨#[]⟩ ⟨#[]⟩ = true := by decide
theorem one_best {L : List PN} {a b : Int} {r0 r1 : List TRow} {nn : PN} {c0 c1 : PC} (h : OneN L a b r0 r1 nn c0 c1) (h0 : 0 < totT r0) (h1 : 0 < totT r1) : bestTo 1 ⟨#[]⟩ L L.length = some (if b < a then ⟨0, nn, 1, c1⟩ else ⟨0, nn, 0, c0⟩) := by
  rw [h.L]
  have e1 : bestTo 1 ⟨#[]⟩ [nn] [nn].length = needTo 1 ⟨#[]⟩ 0 nn none 2 := by
    show bestTo 1 ⟨#[]⟩ [nn] (0 + 1) = _
    rw [bestTo_succ (n := nn) rfl, h.cls]
    rfl
  rw [e1, needTo_succ (c := c1) (by rw [h.cls]; rfl), needTo_succ (c := c0) (by rw [h.cls]; rfl)]
  have f0 : stepB 1 ⟨#[]⟩ (needTo 1 ⟨#[]⟩ 0 nn none 0) ⟨0, nn, 0, c0⟩ = some ⟨0, nn, 0, c0⟩ := by
    unfold stepB
    refine if_pos ?_
    show fitB 1 ⟨#[]⟩ none ⟨0, nn, 0, c0⟩ = true
    unfold fitB betterB
    simp [h.name, match_nil, h.w0, h0]
  rw [f0]
  unfold stepB fitB betterB
  simp only [h.name, match_nil, h.w1, h.s0, h.s1]
  by_cases hb : b < a
  · simp [h1, hb]
  · simp [hb]
end Go.Proofs.YtdbjihkgafhakaaGreatDoor
