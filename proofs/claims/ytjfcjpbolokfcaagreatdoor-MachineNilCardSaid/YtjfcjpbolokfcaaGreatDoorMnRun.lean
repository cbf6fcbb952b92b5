/-
  MachineNil: the whole law is one closed run, whatever comes in.
-/
import Derived.Test.YtjfcjpbolokfcaaGreatDoorHook
import Derived.KernelRfl
namespace Go.Proofs.YtjfcjpbolokfcaaGreatDoor.Ev
open Go Go.RowKit Go.Proofs

/-- A request. -/
def rqV (k : Int) (a b c d e g : ByteArray) (h i j l m n o p q : Int) (on : Bool) : Array Value := #[.int .i64 k, .string a, .string b, .string c, .string d, .string e, .string g, .int .i64 h, .int .i64 i, .int .i64 j, .int .i64 l, .int .i64 m, .int .i64 n, .int .i64 o, .int .i64 p, .int .i64 q, .bool on]
theorem mixed : Tryz.prog.follows .mixedOrders = true := by kernel_rfl
theorem clOk (n : Nat) : ClOk Tryz.prog (xCl Tryz.prog (hookS 99 100 176 160 3) 3000 n) := xCl_ok (fun cl h => hookS_ok hookC cl h) mixed n
theorem machineNil_run (to k : Int) (a b c d e g : ByteArray) (h i j l m n o p q : Int) (on : Bool) : isTrue (xCl Tryz.prog (hookS 99 100 176 160 3) 3000 40 3 [.int .u64 to, .agg (rqV k a b c d e g h i j l m n o p q on)] start) = true := by kernel_rfl
theorem ar_two {ρ : Nat → Nm} {nx : Nat} {v u v' u' : Value} (h1 : VR ρ nx v v') (h2 : VR ρ nx u u') : AR ρ nx [v, u].toArray #[v', u'] := ⟨rfl, fun i x y hx hy => by
  match i, hx, hy with
  | 0, hx, hy => simp at hx hy; subst hx hy; exact h1
  | 1, hx, hy => simp at hx hy; subst hx hy; exact h2
  | i + 2, hx, hy => simp at hx⟩
theorem rq_vr {ρ : Nat → Nm} {nx : Nat} (k : Int) (a b c d e g : ByteArray) (h i j l m n o p q : Int) (on : Bool) : VR ρ nx (.agg (rqV k a b c d e g h i j l m n o p q on)) (.agg (rqV k a b c d e g h i j l m n o p q on)) := flat_vr (by rfl)
theorem machineNil_any (to k : Int) (a b c d e g : ByteArray) (h i j l m n o p q : Int) (on : Bool) (w : World) : Calls Tryz.prog 3 #[.int .u64 to, .agg (rqV k a b c d e g h i j l m n o p q on)] w (fun r w' => r = .returned (.bool true) ∧ Below w.heap.size w w') :=
  run_true (clOk 40) (machineNil_run to k a b c d e g h i j l m n o p q on) (ar_two (.int _ _) (rq_vr k a b c d e g h i j l m n o p q on))
end Go.Proofs.YtjfcjpbolokfcaaGreatDoor.Ev
