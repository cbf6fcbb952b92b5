/-
  An evaluator for closed runs: the interpreter (1: what a run comes to, slots, and how it goes on).
-/
import Derived.Test.YtjfcjpbolokfcaaGreatDoorEv20
namespace Go.Proofs.YtjfcjpbolokfcaaGreatDoor.Ev
open Go

/-- What a piece of code comes to. -/
inductive R where
  | fail (why : Nat)
  | normal (f : T Value) (s : St)
  | ret (f : T Value) (s : St)
  | exit (id : Nat) (f : T Value) (s : St)
/-- What a call comes to. -/
inductive CR where
  | fail (why : Nat)
  | ok (v : Value) (s : St)
abbrev Cl := FuncId → List Value → St → CR
abbrev K := Value → St → R

/-- A slot's way in the tree. -/
inductive Path where
  | bad
  | e
  | p0 (p : Path)
  | p1 (p : Path)
  | p2 (p : Path)
  | p3 (p : Path)
noncomputable def pathF (fuel : Nat) : Nat → Path :=
  Nat.rec (motive := fun _ => Nat → Path) (fun _ => .bad) (fun _ ih n => Nat.casesOn n .e (fun m => pick4 (Nat.mod m 4) (.p0 (ih (Nat.div m 4))) (.p1 (ih (Nat.div m 4))) (.p2 (ih (Nat.div m 4))) (.p3 (ih (Nat.div m 4))))) fuel
noncomputable def path (n : Nat) : Path := pathF 9 n
noncomputable def acc (p : Path) : T Value → Option Value :=
  Path.rec (motive := fun _ => T Value → Option Value) (fun _ => none) (fun t => T.rec (motive := fun _ => Option Value) none (fun o _ _ _ _ _ _ _ _ => o) t)
    (fun _ ih t => T.rec (motive := fun _ => Option Value) none (fun _ a _ _ _ _ _ _ _ => ih a) t)
    (fun _ ih t => T.rec (motive := fun _ => Option Value) none (fun _ _ b _ _ _ _ _ _ => ih b) t)
    (fun _ ih t => T.rec (motive := fun _ => Option Value) none (fun _ _ _ c _ _ _ _ _ => ih c) t)
    (fun _ ih t => T.rec (motive := fun _ => Option Value) none (fun _ _ _ _ d _ _ _ _ => ih d) t) p
noncomputable def putP (p : Path) (x : Value) : T Value → T Value :=
  Path.rec (motive := fun _ => T Value → T Value) (fun _ => .leaf) (fun t => T.rec (motive := fun _ => T Value) (.node (some x) .leaf .leaf .leaf .leaf) (fun _ a b c d _ _ _ _ => .node (some x) a b c d) t)
    (fun _ ih t => T.rec (motive := fun _ => T Value) (.node none (ih .leaf) .leaf .leaf .leaf) (fun o a b c d _ _ _ _ => .node o (ih a) b c d) t)
    (fun _ ih t => T.rec (motive := fun _ => T Value) (.node none .leaf (ih .leaf) .leaf .leaf) (fun o a b c d _ _ _ _ => .node o a (ih b) c d) t)
    (fun _ ih t => T.rec (motive := fun _ => T Value) (.node none .leaf .leaf (ih .leaf) .leaf) (fun o a b c d _ _ _ _ => .node o a b (ih c) d) t)
    (fun _ ih t => T.rec (motive := fun _ => T Value) (.node none .leaf .leaf .leaf (ih .leaf)) (fun o a b c d _ _ _ _ => .node o a b c (ih d)) t) p
/-- An operand's value. -/
noncomputable def ev (x : Operand) : T Value → Option Value :=
  Operand.rec (motive := fun _ => T Value → Option Value) (fun t => acc (path t)) (fun v _ => Bool.rec (motive := fun _ => Option Value) none (some v) (flat v)) (fun _ _ => none) (fun g _ => some (.func (.func g) #[] #[])) x
/-- A slot is turned. -/
noncomputable def put (N : Nat) (d : Option Tmp) (v : Value) (f : T Value) : T Value :=
  Option.rec (motive := fun _ => T Value) f (fun d => Bool.rec (motive := fun _ => T Value) f (putP (path d) v f) (Nat.ble (Nat.succ d) N)) d
/-- Goes on only if there is something. -/
noncomputable def onO {α : Type} (why : Nat) (o : Option α) (k : α → R) : R := Option.rec (motive := fun _ => R) (.fail why) k o
noncomputable def onB (why : Nat) (b : Bool) (r : R) : R := Bool.rec (motive := fun _ => R) (.fail why) r b
noncomputable def onPtr (v : Value) (k : Nat → Nat → R) : R :=
  Value.casesOn (motive_1 := fun _ => R) v (fun _ => .fail 3) (fun _ _ => .fail 3) (fun _ _ => .fail 3) (fun _ _ _ => .fail 3) (fun _ => .fail 3)
    (fun a => Option.rec (motive := fun _ => R) (.fail 4) (fun a => Addr.rec (motive := fun _ => R) (fun n o q => Option.rec (motive := fun _ => R) (k n o) (fun _ => .fail 5) q) a) a)
    (fun _ _ _ => .fail 3) (fun _ => .fail 3) (fun _ => .fail 3) (fun _ _ _ => .fail 3) (.fail 3) (fun _ _ => .fail 3) (.fail 3) (fun _ => .fail 3) (fun _ => .fail 3)
noncomputable def onInt (v : Value) (k : IntKind → Int → R) : R :=
  Value.casesOn (motive_1 := fun _ => R) v (fun _ => .fail 6) k (fun _ _ => .fail 6) (fun _ _ _ => .fail 6) (fun _ => .fail 6) (fun _ => .fail 6)
    (fun _ _ _ => .fail 6) (fun _ => .fail 6) (fun _ => .fail 6) (fun _ _ _ => .fail 6) (.fail 6) (fun _ _ => .fail 6) (.fail 6) (fun _ => .fail 6) (fun _ => .fail 6)
noncomputable def onBool (v : Value) (k : Bool → R) : R :=
  Value.casesOn (motive_1 := fun _ => R) v k (fun _ _ => .fail 7) (fun _ _ => .fail 7) (fun _ _ _ => .fail 7) (fun _ => .fail 7) (fun _ => .fail 7)
    (fun _ _ _ => .fail 7) (fun _ => .fail 7) (fun _ => .fail 7) (fun _ _ _ => .fail 7) (.fail 7) (fun _ _ => .fail 7) (.fail 7) (fun _ => .fail 7) (fun _ => .fail 7)
noncomputable def onSl (v : Value) (k : Option Addr → Nat → Nat → R) : R :=
  Value.casesOn (motive_1 := fun _ => R) v (fun _ => .fail 8) (fun _ _ => .fail 8) (fun _ _ => .fail 8) (fun _ _ _ => .fail 8) (fun _ => .fail 8) (fun _ => .fail 8)
    k (fun _ => .fail 8) (fun _ => .fail 8) (fun _ _ _ => .fail 8) (.fail 8) (fun _ _ => .fail 8) (.fail 8) (fun _ => .fail 8) (fun _ => .fail 8)
noncomputable def onMap (v : Value) (k : Option Nat → R) : R :=
  Value.casesOn (motive_1 := fun _ => R) v (fun _ => .fail 9) (fun _ _ => .fail 9) (fun _ _ => .fail 9) (fun _ _ _ => .fail 9) (fun _ => .fail 9) (fun _ => .fail 9)
    (fun _ _ _ => .fail 9) k (fun _ => .fail 9) (fun _ _ _ => .fail 9) (.fail 9) (fun _ _ => .fail 9) (.fail 9) (fun _ => .fail 9) (fun _ => .fail 9)
noncomputable def onAgg (v : Value) (k : Array Value → R) : R :=
  Value.casesOn (motive_1 := fun _ => R) v (fun _ => .fail 10) (fun _ _ => .fail 10) (fun _ _ => .fail 10) (fun _ _ _ => .fail 10) (fun _ => .fail 10) (fun _ => .fail 10)
    (fun _ _ _ => .fail 10) (fun _ => .fail 10) (fun _ => .fail 10) (fun _ _ _ => .fail 10) (.fail 10) (fun _ _ => .fail 10) (.fail 10) k (fun _ => .fail 10)
noncomputable def onTup (v : Value) (k : Array Value → R) : R :=
  Value.casesOn (motive_1 := fun _ => R) v (fun _ => .fail 11) (fun _ _ => .fail 11) (fun _ _ => .fail 11) (fun _ _ _ => .fail 11) (fun _ => .fail 11) (fun _ => .fail 11)
    (fun _ _ _ => .fail 11) (fun _ => .fail 11) (fun _ => .fail 11) (fun _ _ _ => .fail 11) (.fail 11) (fun _ _ => .fail 11) (.fail 11) (fun _ => .fail 11) k
noncomputable def onFun (v : Value) (k : FuncId → Array Value → Array Value → R) : R :=
  Value.casesOn (motive_1 := fun _ => R) v (fun _ => .fail 12) (fun _ _ => .fail 12) (fun _ _ => .fail 12) (fun _ _ _ => .fail 12) (fun _ => .fail 12) (fun _ => .fail 12)
    (fun _ _ _ => .fail 12) (fun _ => .fail 12) (fun _ => .fail 12) (fun g a b => Fn.rec (motive := fun _ => R) (fun g => k g a b) (fun _ => .fail 12) (fun _ _ => .fail 12) (fun _ _ _ _ => .fail 12) (fun _ => .fail 12) g) (.fail 12) (fun _ _ => .fail 12) (.fail 12) (fun _ => .fail 12) (fun _ => .fail 12)
noncomputable def onIface (v : Value) (k : TypeId → Value → R) : R :=
  Value.casesOn (motive_1 := fun _ => R) v (fun _ => .fail 13) (fun _ _ => .fail 13) (fun _ _ => .fail 13) (fun _ _ _ => .fail 13) (fun _ => .fail 13) (fun _ => .fail 13)
    (fun _ _ _ => .fail 13) (fun _ => .fail 13) (fun _ => .fail 13) (fun _ _ _ => .fail 13) (.fail 13) k (.fail 13) (fun _ => .fail 13) (fun _ => .fail 13)
/-- Cells of a block. -/
noncomputable def onCells (s : St) (n : Nat) (k : T Value → Nat → TypeId → Nat → Nat → R) : R :=
  onO 14 (s.h.get n) (fun a => AO.rec (motive := fun _ => R) k (fun _ _ => .fail 15) (fun _ _ => .fail 15) (fun _ _ _ _ => .fail 15) (fun _ _ => .fail 15) a)
noncomputable def onEnts (s : St) (n : Nat) (k : List MapEntry → Nat → R) : R :=
  onO 16 (s.h.get n) (fun a => AO.rec (motive := fun _ => R) (fun _ _ _ _ _ => .fail 17) k (fun _ _ => .fail 17) (fun _ _ _ _ => .fail 17) (fun _ _ => .fail 17) a)
/-- A number, told. -/
noncomputable def forceN (n : Nat) (k : Nat → R) : R := Nat.rec (motive := fun _ => R) (k 0) (fun m _ => k (Nat.succ m)) n
/-- A state, its root told. -/
noncomputable def forceT (t : T AO) (k : T AO → R) : R := T.rec (motive := fun _ => R) (k .leaf) (fun o a b c d _ _ _ _ => k (.node o a b c d)) t
noncomputable def forceB (b : Bool) (k : Bool → R) : R := Bool.rec (motive := fun _ => R) (k false) (k true) b
/-- A new block. -/
noncomputable def newS (s : St) (a : AO) (k : Nat → St → R) : R :=
  St.rec (motive := fun _ => R) (fun h nx => forceN nx (fun nx => forceT (h.set a nx) (fun h => forceN (Nat.succ nx) (fun m => k nx ⟨h, m⟩)))) s
/-- A block is another one. -/
noncomputable def setS (s : St) (n : Nat) (a : AO) (k : St → R) : R :=
  St.rec (motive := fun _ => R) (fun h nx => forceT (h.set a n) (fun h => k ⟨h, nx⟩)) s
end Go.Proofs.YtjfcjpbolokfcaaGreatDoor.Ev
