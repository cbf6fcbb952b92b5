/-
  WorldNil: the whole law is one closed run, whatever comes in.
-/
import Derived.Test.YtccdbpdempepfaaGreatDoorWn07
import Derived.KernelRfl
namespace Go.Proofs.YtccdbpdempepfaaGreatDoor.Ev
open Go Go.RowKit Go.Proofs
theorem mixed : Tryz.prog.follows .mixedOrders = true := by kernel_rfl
theorem draws : drawsAll Tryz.prog [153] = true := by kernel_rfl
def etV : Value := .iface 712 (.agg #[.pointer (some ⟨4, 251, none⟩)])
theorem numC : NumC Tryz.prog 124 1 etV 429 433 := fun d z w h => Num.number_step d z w h
noncomputable def hk (cl : Cl) : Cl := hookR 115 (hookC 598 (hookK 124 1 etV 429 433 cl))
theorem hk_ok (cl : Cl) (h : ClOk Tryz.prog cl) : ClOk Tryz.prog (hk cl) := hookR_ok repC _ (hookC_ok crcC _ (hookK_ok numC _ h))
theorem clOk (n : Nat) : ClOk Tryz.prog (xCl Tryz.prog [153] hk 20000 n) := xCl_ok (draws_of draws) hk_ok mixed n
def evV (k : Int) (b : ByteArray) (t f : Int) (sl : Value) : Value := .agg #[.int .i64 k, .string b, .int .u64 t, .int .i64 f, sl]
noncomputable def runW (e : Value) : CR := xCl Tryz.prog [153] hk 20000 120 false 3 [e] (startK 1 (cellObj etV 600) 2)
theorem worldNil_nil (k : Int) (b : ByteArray) (t f : Int) : isTrueK 1 etV 600 (runW (evV k b t f (.slice none 0 0))) = true := by kernel_rfl
theorem worldNil_sl (k : Int) (b : ByteArray) (t f : Int) (l c : Nat) : isTrueK 1 etV 600 (runW (evV k b t f (.slice (some ⟨1, 0, none⟩) l c))) = true := by kernel_rfl
theorem ar_one {ρ : Nat → Nm} {nx : Nat} {v u : Value} (h : VR ρ nx v u) : AR ρ nx [v].toArray #[u] := ⟨rfl, fun i x y hx hy => by
  match i, hx, hy with
  | 0, hx, hy => simp at hx hy; subst hx hy; exact h
  | i + 1, hx, hy => simp at hx⟩
theorem ev_vr {ρ : Nat → Nm} {nx : Nat} (k : Int) (b : ByteArray) (t f : Int) {s s' : Value} (h : VR ρ nx s s') : VR ρ nx (evV k b t f s) (evV k b t f s') := .agg _ _ rfl fun i x y hx hy => by
  match i, hx, hy with
  | 0, hx, hy => simp at hx hy; subst hx hy; exact .int _ _
  | 1, hx, hy => simp at hx hy; subst hx hy; exact .string _
  | 2, hx, hy => simp at hx hy; subst hx hy; exact .int _ _
  | 3, hx, hy => simp at hx hy; subst hx hy; exact .int _ _
  | 4, hx, hy => simp at hx hy; subst hx hy; exact h
  | i + 5, hx, hy => simp at hx
theorem worldNil_any (k : Int) (b : ByteArray) (t f : Int) (s : Value) (hs : s = .slice none 0 0 ∨ ∃ g o l c, s = .slice (some ⟨g, o, none⟩) l c) (w : World) (hw : w.heap[(1 : Nat)]? = some (cellObj etV 600)) : Calls Tryz.prog 3 #[evV k b t f s] w (fun r w' => r = .returned (.bool true) ∧ Below w.heap.size w w') := by
  rcases hs with rfl | ⟨g, o, l, c, rfl⟩
  · exact run_trueK (clOk 120) (worldNil_nil k b t f) (ρ := fun _ => ⟨1, 0, 0⟩) rfl (by decide) hw (ar_one (ev_vr k b t f .nilSl))
  · exact run_trueK (clOk 120) (worldNil_sl k b t f l c) (ρ := fun n => if n = 0 then ⟨1, 0, 0⟩ else ⟨g, o, 0⟩) rfl (by decide) hw (ar_one (ev_vr k b t f (.sl 1 0 l c (by decide))))
end Go.Proofs.YtccdbpdempepfaaGreatDoor.Ev
