/-
  An evaluator for closed runs: the interpreter (2: the operations).
  An evaluator for closed runs: the interpreter (3: regions, code, calls).
  An evaluator for closed runs: the interpreter is right (1: slots, and how it goes on).
-/
import Derived.Test.YtnjabndkaabogaaGreatDoorTm05
namespace Go.Proofs.YtnjabndkaabogaaGreatDoor.Ev
open Go
noncomputable def maxOf (k : IntKind) : Nat := IntKind.rec (motive := fun _ => Nat) 127 32767 2147483647 9223372036854775807 255 65535 4294967295 18446744073709551615 k
noncomputable def mkInt (k : IntKind) (n : Nat) (c : Value → R) : R := forceN n (fun n => c (.int k (.ofNat n)))
noncomputable def mkBool (b : Bool) (c : Value → R) : R := Bool.rec (motive := fun _ => R) (c (.bool false)) (c (.bool true)) b
noncomputable def sameKind (a b : IntKind) : Bool := Nat.beq a.ctorIdx b.ctorIdx
noncomputable def bnot (b : Bool) : Bool := Bool.rec (motive := fun _ => Bool) true false b
noncomputable def intEq (a b : Int) : Bool := match a, b with
  | .ofNat m, .ofNat n => Nat.beq m n
  | .negSucc m, .negSucc n => Nat.beq m n
  | _, _ => false
noncomputable def band (a b : Bool) : Bool := Bool.rec (motive := fun _ => Bool) false b a
noncomputable def boolEq (a b : Bool) : Bool := match a, b with
  | true, true => true
  | false, false => true
  | _, _ => false
noncomputable def listEq {α : Type} (e : α → α → Bool) : List α → List α → Bool := fun a => List.rec (motive := fun _ => List α → Bool) (fun b => List.isEmpty b) (fun x _ ih b => match b with
  | [] => false
  | y :: b => band (e x y) (ih b)) a
noncomputable def optEq (a b : Option Nat) : Bool := match a, b with
  | none, none => true
  | some a, some b => Nat.beq a b
  | _, _ => false
noncomputable def addrEq (a b : Option Addr) : Bool := match a, b with
  | none, none => true
  | some a, some b => band (Nat.beq a.block b.block) (band (Nat.beq a.off b.off) (optEq a.spot b.spot))
  | _, _ => false
noncomputable def veqS (ih : Value → Value → Bool) (x y : Value) : Bool := match x, y with
  | .bool a, .bool b => boolEq a b
  | .int k a, .int j b => band (sameKind k j) (intEq a b)
  | .string a, .string b => listEq (fun x y => Nat.beq (UInt8.toNat x) (UInt8.toNat y)) a.data.toList b.data.toList
  | .pointer a, .pointer b => addrEq a b
  | .slice a l c, .slice b m d => band (addrEq a b) (band (Nat.beq l m) (Nat.beq c d))
  | .map a, .map b => optEq a b
  | .func (.func g) a b, .func (.func h) c d => band (Nat.beq g h) (band (listEq ih a.toList c.toList) (listEq ih b.toList d.toList))
  | .nilFunc, .nilFunc => true
  | .nilIface, .nilIface => true
  | .iface t a, .iface u b => band (Nat.beq t u) (ih a b)
  | .agg a, .agg b => listEq ih a.toList b.toList
  | .tuple a, .tuple b => listEq ih a.toList b.toList
  | _, _ => false
noncomputable def veqN (n : Nat) : Value → Value → Bool := Nat.rec (motive := fun _ => Value → Value → Bool) (fun _ _ => false) (fun _ ih => veqS ih) n
noncomputable def veq (x y : Value) : Bool := veqN 8 x y
noncomputable def uns (k : IntKind) : Bool := IntKind.rec (motive := fun _ => Bool) false false false false true true true true k
noncomputable def bitsOf (k : IntKind) : Nat := IntKind.rec (motive := fun _ => Nat) 8 16 32 64 8 16 32 64 k
noncomputable def wrapN (k : IntKind) (n : Nat) (slow : R) (c : Value → R) : R := Bool.rec (motive := fun _ => R) (Bool.rec (motive := fun _ => R) slow (mkInt k (Nat.mod n (Nat.succ (maxOf k))) c) (uns k)) (mkInt k n c) (Nat.ble n (maxOf k))
inductive NF where
  | mk (r : IntKind → Nat → Nat → R → (Value → R) → R)
noncomputable def bitsN (g : Nat → Nat → Nat) (k : IntKind) (a b : Nat) (slow : R) (c : Value → R) : R := Bool.rec (motive := fun _ => R) slow (Bool.rec (motive := fun _ => R) slow (wrapN k (g a b) slow c) (Nat.ble b (maxOf k))) (Nat.ble a (maxOf k))
noncomputable def natF (op : BinOp) : NF :=
  match op with
  | .add => .mk (fun k a b slow c => wrapN k (Nat.add a b) slow c)
  | .sub => .mk (fun k a b slow c => Bool.rec (motive := fun _ => R) slow (Bool.rec (motive := fun _ => R) slow (mkInt k (Nat.sub a b) c) (Nat.ble (Nat.sub a b) (maxOf k))) (Nat.ble b a))
  | .mul => .mk (fun k a b slow c => wrapN k (Nat.mul a b) slow c)
  | .quo => .mk (fun k a b slow c => Bool.rec (motive := fun _ => R) slow (wrapN k (Nat.div a b) slow c) (Nat.ble 1 b))
  | .rem => .mk (fun k a b slow c => Bool.rec (motive := fun _ => R) slow (mkInt k (Nat.mod a b) c) (Nat.ble 1 b))
  | .and => .mk (bitsN Nat.land)
  | .or => .mk (bitsN Nat.lor)
  | .xor => .mk (bitsN Nat.xor)
  | .lss => .mk (fun _ a b _ c => mkBool (Nat.ble (Nat.succ a) b) c)
  | .leq => .mk (fun _ a b _ c => mkBool (Nat.ble a b) c)
  | .gtr => .mk (fun _ a b _ c => mkBool (Nat.ble (Nat.succ b) a) c)
  | .geq => .mk (fun _ a b _ c => mkBool (Nat.ble b a) c)
  | .eql => .mk (fun _ a b _ c => mkBool (Nat.beq a b) c)
  | .neq => .mk (fun _ a b _ c => mkBool (bnot (Nat.beq a b)) c)
  | _ => .mk (fun _ _ _ slow _ => slow)
noncomputable def natOp (op : BinOp) (k : IntKind) (a b : Nat) (slow : R) (c : Value → R) : R := NF.rec (motive := fun _ => R) (fun r => r k a b slow c) (natF op)
noncomputable def shF (op : BinOp) : NF :=
  match op with
  | .shl => .mk (fun k a b slow c => Bool.rec (motive := fun _ => R) slow (wrapN k (Nat.shiftLeft a b) slow c) (Nat.ble b (bitsOf k)))
  | .shr => .mk (fun k a b slow c => Bool.rec (motive := fun _ => R) slow (mkInt k (Nat.shiftRight a b) c) (Nat.ble b (bitsOf k)))
  | _ => .mk (fun _ _ _ slow _ => slow)
noncomputable def shOp (op : BinOp) (x y : Value) (slow : R) (c : Value → R) : R :=
  match x, y with
  | .int k (.ofNat a), .int _ (.ofNat b) => NF.rec (motive := fun _ => R) (fun r => r k a b slow c) (shF op)
  | _, _ => slow
noncomputable def intOp (op : BinOp) (x y : Value) (slow : R) (c : Value → R) : R :=
  match x, y with
  | .int k (.ofNat a), .int k' (.ofNat b) => Bool.rec (motive := fun _ => R) slow (natOp op k a b slow c) (sameKind k k')
  | _, _ => slow
noncomputable def evs (f : T Value) (xs : List Operand) : Option (List Value) := List.rec (motive := fun _ => Option (List Value)) (some []) (fun x _ ih => Option.rec (motive := fun _ => Option (List Value)) none (fun v => Option.rec (motive := fun _ => Option (List Value)) none (fun vs => some (v :: vs)) ih) (ev x f)) xs
noncomputable def evp (f : T Value) (xs : List (Nat × Operand)) : Option (List (Nat × Value)) := List.rec (motive := fun _ => Option (List (Nat × Value))) (some []) (fun x _ ih => Option.rec (motive := fun _ => Option (List (Nat × Value))) none (fun v => Option.rec (motive := fun _ => Option (List (Nat × Value))) none (fun vs => some ((x.1, v) :: vs)) ih) (ev x.2 f)) xs
noncomputable def app {α : Type} (a b : List α) : List α := List.rec (motive := fun _ => List α) b (fun x _ ih => x :: ih) a
noncomputable def spotN (q : Option Nat) : Nat := Option.rec (motive := fun _ => Nat) 0 (fun n => n) q
noncomputable def canonL (l : List UInt8) : (List UInt8 → R) → R := List.rec (motive := fun _ => (List UInt8 → R) → R) (fun k => k []) (fun x _ ih k => forceN (UInt8.toNat x) (fun n => ih (fun l => k (UInt8.ofNat n :: l)))) l
noncomputable def canonB (b : ByteArray) (k : ByteArray → R) : R := canonL b.data.toList (fun l => k ⟨⟨l⟩⟩)
noncomputable def canonI (z : Int) (k : Int → R) : R := Int.rec (motive := fun _ => R) (fun n => forceN n (fun n => k (.ofNat n))) (fun n => forceN n (fun n => k (.negSucc n))) z
noncomputable def canonV (v : Value) (k : Value → R) : R := match v with
  | .int i z => canonI z (fun z => k (.int i z))
  | .bool b => Bool.rec (motive := fun _ => R) (k (.bool false)) (k (.bool true)) b
  | .string b => canonB b (fun b => k (.string b))
  | v => k v
noncomputable def dropL {α : Type} (l : List α) : Nat → List α := List.rec (motive := fun _ => Nat → List α) (fun _ => []) (fun x t ih n => Nat.casesOn n (x :: t) (fun n => ih n)) l
noncomputable def takeL {α : Type} (l : List α) : Nat → List α := List.rec (motive := fun _ => Nat → List α) (fun _ => []) (fun x _ ih n => Nat.casesOn n [] (fun n => x :: ih n)) l
noncomputable def byteEq (a b : ByteArray) : Bool := listEq (fun x y => Nat.beq (UInt8.toNat x) (UInt8.toNat y)) a.data.toList b.data.toList
noncomputable def strOp (op : BinOp) (x y : Value) (slow : R) (c : Value → R) : R := match op, x, y with
  | .add, .string a, .string b => Bool.rec (motive := fun _ => R) slow (canonL (app a.data.toList b.data.toList) (fun l => c (.string ⟨⟨l⟩⟩))) (Nat.ble (Nat.add a.size b.size) 9223372036854775807)
  | .eql, .string a, .string b => mkBool (byteEq a b) c
  | .neq, .string a, .string b => mkBool (bnot (byteEq a b)) c
  | _, _, _ => slow
section
variable (P : Program)
noncomputable def slowOp (o : Oper) (f : T Value) (s : St) (k : K) : R := onO 20 (flatOp P o f) (fun v => canonV v (fun v => k v s))
noncomputable def xMove (x : Operand) (f : T Value) (s : St) (k : K) : R := onO 21 (ev x f) (fun v => k v s)
noncomputable def xPick (c x y : Operand) (f : T Value) (s : St) (k : K) : R := onO 22 (ev c f) (fun b => onBool b (fun b => Bool.rec (motive := fun _ => R) (onO 22 (ev y f) (fun v => k v s)) (onO 22 (ev x f) (fun v => k v s)) b))
noncomputable def xAlloc (ty : TypeId) (s : St) (k : K) : R :=
  onO 23 (P.info? ty) (fun i => onO 23 i.zero (fun z => onB 23 (flat z) (newS s (.cells (ofL z.cells.toList) z.cells.size ty 0 0) (fun n s => k (.pointer (some ⟨n, 0, none⟩)) s))))
noncomputable def xBox (ty : TypeId) (x : Operand) (f : T Value) (s : St) (k : K) : R :=
  onO 24 (ev x f) (fun v => newS s (.cells (ofL v.cells.toList) v.cells.size ty 0 0) (fun n s => k (.pointer (some ⟨n, 0, none⟩)) s))
noncomputable def xLoad (ty : TypeId) (x : Operand) (f : T Value) (s : St) (k : K) : R :=
  onO 25 (ev x f) (fun v => onPtr v (fun n o => onCells s n (fun t m _ _ _ => onO 25 (P.underlying ty) (fun d =>
    Bool.rec (motive := fun _ => R) (onB 26 (Nat.ble (Nat.succ o) m) (onO 26 (t.get o) (fun v => k v s)))
      (onO 25 (P.info? ty) (fun i => onB 27 (Nat.ble (Nat.add o i.size) m) (onO 27 (readF t o i.size) (fun vs => k (.agg vs.toArray) s)))) (isAggD d)))))
noncomputable def one (v : Value) : Bool := v.oneCell'
noncomputable def allOne (vs : List Value) : Bool := List.rec (motive := fun _ => Bool) true (fun v _ ih => Bool.rec (motive := fun _ => Bool) false ih (one v)) vs
noncomputable def xStore (ty : TypeId) (x y : Operand) (f : T Value) (s : St) (k : K) : R :=
  onO 28 (ev x f) (fun p => onPtr p (fun n o => onCells s n (fun t m e sz fz => onO 28 (ev y f) (fun v => onO 28 (P.info? ty) (fun i =>
    onB 29 (Nat.beq v.cells.size i.size) (onB 30 (allOne v.cells.toList) (onB 31 (Nat.ble fz o) (onB 32 (Nat.ble (Nat.add o i.size) m)
      (setS s n (.cells (writeF v.cells.toList t o) m e sz fz) (fun s => k undef s))))))))))
noncomputable def xNil (x : Operand) (f : T Value) (s : St) (k : K) : R := onO 33 (ev x f) (fun v => onPtr v (fun _ _ => k v s))
noncomputable def xExtract (x : Operand) (i : Nat) (f : T Value) (s : St) (k : K) : R := onO 34 (ev x f) (fun v => onTup v (fun vs => onO 34 (nth vs.toList i) (fun v => k v s)))
noncomputable def isIfc (d : TypeDesc) : Bool := match d with | .interface _ => true | _ => false
noncomputable def xIface (t : TypeId) (x : Operand) (f : T Value) (s : St) (k : K) : R := onO 35 (ev x f) (fun v => onO 35 (P.underlying t) (fun d => onB 35 (bnot (isIfc d)) (k (.iface t v) s)))
noncomputable def xFunc (g : Fn) (xs ys : Array Operand) (f : T Value) (s : St) (k : K) : R := onO 36 (evs f xs.toList) (fun vs => onO 36 (evs f ys.toList) (fun us => onB 36 (bnot (isY g)) (k (.func g vs.toArray us.toArray) s)))
noncomputable def structOf (t : TypeId) : Option (Array Field) := match P.underlying t with
  | some (.struct fs) => some fs
  | _ => none
noncomputable def sliceOf (t : TypeId) : Option TypeId := match P.underlying t with
  | some (.slice e) => some e
  | _ => none
noncomputable def arrOf (t : TypeId) : Option (Nat × TypeId) := match P.underlying t with
  | some (.array n e) => some (n, e)
  | _ => none
noncomputable def mapOf (t : TypeId) : Option (TypeId × TypeId) := match P.underlying t with
  | some (.map k e) => some (k, e)
  | _ => none
noncomputable def fieldOf (t : TypeId) (i : Nat) : Option Field := match structOf P t with
  | some fs => fs[i]?
  | none => none
noncomputable def xField (ty : TypeId) (x : Operand) (i : Nat) (f : T Value) (s : St) (k : K) : R :=
  onO 37 (ev x f) (fun v => onPtr v (fun n o => onO 37 (fieldOf P ty i) (fun fd => onO 37 (P.info? fd.type) (fun inf => onB 38 (bnot (Nat.beq inf.size 0))
    (forceN (Nat.add o fd.offset) (fun o => k (.pointer (some ⟨n, o, none⟩)) s))))))
noncomputable def onNat (i : Int) (k : Nat → R) : R := Int.rec (motive := fun _ => R) k (fun _ => .fail 39) i
noncomputable def onPlace (a : Option Addr) (k : Nat → Nat → Option Nat → R) : R := onO 40 a (fun a => Addr.rec (motive := fun _ => R) k a)
noncomputable def xIndexAddr (ty : TypeId) (x y : Operand) (f : T Value) (s : St) (k : K) : R :=
  onO 41 (ev x f) (fun v => onO 41 (ev y f) (fun iv => onInt iv (fun _ i => onNat i (fun i => onO 41 (P.underlying ty) (fun d => match d with
    | .slice e => onO 41 (P.info? e) (fun inf => onSl v (fun a l _ => onB 42 (Nat.ble (Nat.succ i) l) (onPlace a (fun n o q => onB 42 (Nat.ble (spotN q) 0) (forceN (Nat.add o (Nat.mul i inf.size)) (fun o => k (.pointer (some ⟨n, o, none⟩)) s))))))
    | .array l e => onO 41 (P.info? e) (fun inf => onB 42 (Nat.ble (Nat.succ i) l) (onPtr v (fun n o => forceN (Nat.add o (Nat.mul i inf.size)) (fun o => k (.pointer (some ⟨n, o, none⟩)) s))))
    | _ => .fail 43)))))
noncomputable def idx (f : T Value) (x : Option Operand) (d : Nat) (k : Nat → R) : R := Option.rec (motive := fun _ => R) (k d) (fun x => onO 44 (ev x f) (fun v => onInt v (fun _ i => onNat i (fun n => forceN n k)))) x
noncomputable def forceV (v : Value) (k : Value → R) : R := onSl v (fun a l c => onPlace a (fun n o q => forceN o (fun o => forceN l (fun l => forceN c (fun c => k (.slice (some ⟨n, o, q⟩) l c))))))
noncomputable def xSlice (_o : Oper) (ty : TypeId) (x : Operand) (lo hi mx : Option Operand) (f : T Value) (s : St) (k : K) : R :=
  onO 45 (ev x f) (fun v => Value.casesOn (motive_1 := fun _ => R) v (fun _ => .fail 45) (fun _ _ => .fail 45) (fun _ _ => .fail 45) (fun _ _ _ => .fail 45) (fun b => onO 45 (P.underlying ty) (fun d => match d, mx with
      | .string, none => idx f lo 0 (fun l => idx f hi b.size (fun h => onB 45 (Nat.ble l h) (onB 45 (Nat.ble h b.size) (canonL (takeL (dropL b.data.toList l) (Nat.sub h l)) (fun l => k (.string ⟨⟨l⟩⟩) s)))))
      | _, _ => .fail 45)) (fun _ => onPtr v (fun n q => onO 46 (arrOf P ty) (fun ne => onO 46 (P.info? ne.2) (fun inf => idx f lo 0 (fun l => idx f hi ne.1 (fun h => idx f mx ne.1 (fun m =>
      onB 46 (Nat.ble l h) (onB 46 (Nat.ble h m) (onB 46 (Nat.ble m ne.1) (onB 46 (Bool.rec (motive := fun _ => Bool) true (Option.isSome hi) (Option.isSome mx)) (forceV (cutFx n q inf.size l h m) (fun v => k v s))))))))))))
    (fun a len cp => onO 47 (sliceOf P ty) (fun e => onO 47 (P.info? e) (fun inf => onPlace a (fun n b q =>
      idx f lo 0 (fun l => idx f hi len (fun h => onB 48 (Nat.ble l h)
        (Option.rec (motive := fun _ => R)
          (onB 49 (Nat.ble h cp) (Option.rec (motive := fun _ => R) (forceV (cutA n b inf.size l h cp) (fun v => k v s)) (fun q => onB 50 (Nat.beq q 0) (forceV (cutFx n b inf.size l h cp) (fun v => k v s))) q))
          (fun y => onB 51 (Option.isSome hi) (idx f (some y) cp (fun m => onB 52 (Nat.ble h m) (onB 53 (Nat.ble m cp) (onB 54 (Nat.beq (spotN q) 0) (forceV (cutFx n b inf.size l h m) (fun v => k v s)))))))
          mx)))))))
    (fun _ => .fail 45) (fun _ => .fail 45) (fun _ _ _ => .fail 45) (.fail 45) (fun _ _ => .fail 45) (.fail 45) (fun _ => .fail 45) (fun _ => .fail 45))
noncomputable def xPart (x : Operand) (p : Array Value → Option Value) (f : T Value) (s : St) (k : K) : R := onO 55 (ev x f) (fun v => onAgg v (fun cs => onO 55 (p cs) (fun v => k v s)))
noncomputable def xFieldV (ty : TypeId) (x : Operand) (i : Nat) (f : T Value) (s : St) (k : K) : R := onO 56 (fieldOf P ty i) (fun fd => xPart x (fun cs => partA P fd.type cs fd.offset) f s k)
noncomputable def xIndexV (o : Oper) (ty : TypeId) (x y : Operand) (f : T Value) (s : St) (k : K) : R := Option.rec (motive := fun _ => R) (slowOp P o f s k) (fun p => onO 57 (P.info? p.2) (fun inf => onO 57 (ev y f) (fun iv => onInt iv (fun _ i => onNat i (fun i => onB 58 (Nat.ble (Nat.succ i) p.1) (xPart x (fun cs => partA P p.2 cs (Nat.mul i inf.size)) f s k)))))) (arrOf P ty)
noncomputable def placesOf (ty : TypeId) : Option (Array (Nat × Nat)) := match structOf P ty with
  | some fs => runPure P (fs.mapM fun fd => do pure (fd.offset, ← sizeOf fd.type))
  | none => none
noncomputable def xBuild (ty : TypeId) (ps : Array (Nat × Operand)) (f : T Value) (s : St) (k : K) : R :=
  onO 59 (P.info? ty) (fun i => onO 59 i.zero (fun z => onB 59 (flat z) (onO 60 (evp f ps.toList) (fun vs => onO 59 (P.underlying ty) (fun d => match d with
    | .struct _ => onO 61 (placesOf P ty) (fun pl => onO 61 (Instr.fill (pl[·]?) z.cells vs) (fun cells => k (.agg cells) s))
    | .array _ e => onO 62 (P.info? e) (fun ie => onO 62 (Instr.fill (fun i => some (i * ie.size, ie.size)) z.cells vs) (fun cells => k (.agg cells) s))
    | _ => .fail 63)))))
noncomputable def rowOf (z : Value) (n : Nat) : Array Value := (Array.range n).map (z.cells[· % z.cells.size]!)
noncomputable def xBuildSlice (ty : TypeId) (n : Nat) (ps : Array (Nat × Operand)) (f : T Value) (s : St) (k : K) : R :=
  onO 64 (sliceOf P ty) (fun e => onO 64 (P.info? e) (fun ie => Bool.rec (motive := fun _ => R)
    (onO 64 ie.zero (fun z => onB 65 (Nat.ble (n * ie.size) 16777216) (onB 66 ((rowOf z (n * ie.size)).toList.all flat) (onB 66 (bnot (Nat.beq (n * ie.size) 0)) (onO 67 (evp f ps.toList) (fun vs =>
      onO 68 (Instr.fill (fun i => some (i * ie.size, ie.size)) (rowOf z (n * ie.size)) vs) (fun cells => newS s (.cells (ofL cells.toList) cells.size e ie.size 0) (fun m s => k (.slice (some ⟨m, 0, none⟩) n n) s))))))))
    (onB 69 ps.toList.isEmpty (newS s (.cells .leaf 0 e ie.size 0) (fun m s => k (.slice (some ⟨m, 0, none⟩) 0 0) s)))
    (Nat.beq n 0)))
noncomputable def xMakeMap (r : Option Operand) (s : St) (k : K) : R := Option.rec (motive := fun _ => R) (newS s (.map [] 0) (fun n s => k (.map (some n)) s)) (fun _ => .fail 70) r
noncomputable def keyIs (u : Value) (kk : IntKind) (z : Int) : Bool := match u with
  | .int k' z' => band (sameKind k' kk) (intEq z' z)
  | _ => false
noncomputable def keyOf (u : Value) (kk : IntKind) : Bool := match u with
  | .int k' _ => sameKind k' kk
  | _ => false
noncomputable def findP (kk : IntKind) (z : Int) (es : List MapEntry) : Option (Nat × Value) := List.rec (motive := fun _ => Option (Nat × Value)) none (fun e _ ih => Bool.rec (motive := fun _ => Option (Nat × Value)) ih (some (0, e.val)) (keyIs e.key kk z)) es
noncomputable def allK (kk : IntKind) (es : List MapEntry) : Bool := List.rec (motive := fun _ => Bool) true (fun e _ ih => band (keyOf e.key kk) ih) es
noncomputable def xLookup (ty : TypeId) (x ix : Operand) (ok : Bool) (f : T Value) (s : St) (k : K) : R :=
  onO 71 (mapOf P ty) (fun ke => onO 71 (P.info? ke.2) (fun ie => onO 71 ie.zero (fun z => onB 71 (flat z) (onO 72 (ev x f) (fun v => onO 72 (ev ix f) (fun kv => onB 73 (flat kv) (onMap v (fun m =>
    Option.rec (motive := fun _ => R)
      (onO 74 (runPure P (Instr.checkKey true 10000 ke.1 kv)) (fun _ => onO 74 (runPure P (Instr.findKey ke.1 kv [])) (fun r => Option.rec (motive := fun _ => R) (k (lookR ok z none) s) (fun _ => .fail 74) r)))
      (fun n => onEntsP s n (fun es _ => onO 75 (P.underlying ke.1) (fun _ => onO 75 (runPure P (Instr.checkKey es.isEmpty 10000 ke.1 kv)) (fun _ => onO 76 (runPure P (Instr.findKey ke.1 kv es)) (fun r => k (lookR ok z r) s))))
        (fun es => onO 75 (P.underlying ke.1) (fun kd => match kd, kv with
          | .int _, .int kk zz => onB 75 (allK kk es) (k (lookR ok z (findP kk zz es)) s)
          | _, _ => .fail 75)))
      m))))))))
noncomputable def xUpdate (ty : TypeId) (m ky x : Operand) (f : T Value) (s : St) (k : K) : R :=
  onO 77 (mapOf P ty) (fun ke => onO 77 (P.underlying ke.1) (fun _ => onO 78 (ev m f) (fun mv => onO 78 (ev ky f) (fun kv => onB 79 (flat kv) (onO 78 (ev x f) (fun v => onMap mv (fun n => onO 80 n (fun n => onEnts s n (fun es clock =>
    onO 81 (runPure P (Instr.checkKey false 10000 ke.1 kv)) (fun _ => onO 82 (runPure P (Instr.findKey ke.1 kv es)) (fun r => Option.rec (motive := fun _ => R)
      (setS s n (.map (es ++ [⟨kv, v, clock⟩]) (clock + 1)) (fun s => k undef s))
      (fun r => onO 83 (es[r.1]?) (fun e0 => onB 84 (Instr.sameBits 10000 e0.key kv) (setS s n (.map (setE kv v es r.1) clock) (fun s => k undef s)))) r)))))))))))
noncomputable def xRange (ty : TypeId) (x : Operand) (f : T Value) (s : St) (k : K) : R :=
  onO 85 (ev x f) (fun v => onO 85 (P.underlying ty) (fun d => match d, v with
    | .string, .string b => newS s (.iter b 0) (fun n s => k (.pointer (some ⟨n, 0, none⟩)) s)
    | .map _ _, .map (some n) => onEnts s n (fun _ clock => newS s (.mapIter n clock [] clock) (fun n s => k (.pointer (some ⟨n, 0, none⟩)) s))
    | _, _ => .fail 86))
noncomputable def xNext (it : Operand) (str : Bool) (f : T Value) (s : St) (k : K) : R :=
  onO 87 (ev it f) (fun v => onPtr v (fun n o => onB 87 (Nat.beq o 0) (onO 88 (s.h.get n) (fun a => match a, str with
    | .iter b pos, true => match nextS b pos with
      | (v, p) => forceN p (fun p => setS s n (.iter b p) (fun s => k v s))
    | .mapIter q since seen last, false => onEnts s q (fun es clock => match es, seen with
      | [], _ => k (.tuple #[.bool false]) s
      | [e], [] => onB 89 (Nat.ble (e.born + 1) since) (setS s n (.mapIter q since [e.born] clock) (fun s => k (.tuple #[.bool true, e.key, e.val]) s))
      | [e], [b] => onB 90 (Nat.beq b e.born) (onB 90 (Nat.ble (e.born + 1) last) (k (.tuple #[.bool false]) s))
      | _, _ => .fail 91)
    | _, _ => .fail 92))))
noncomputable def xEntry (it : Operand) (f : T Value) (s : St) (k : K) : R :=
  onO 137 (ev it f) (fun v => onPtr v (fun n o => onB 137 (Nat.beq o 0) (onO 137 (s.h.get n) (fun a => match a with
    | .mapIter q _ [b] last => onEnts s q (fun es clock => match es with
      | [e] => onB 137 (Nat.beq b e.born) (onB 137 (Nat.beq clock last) (k (.tuple #[e.key, e.val]) s))
      | _ => .fail 137)
    | _ => .fail 137))))
noncomputable def xAssert (x : Operand) (t : TypeId) (ok : Bool) (f : T Value) (s : St) (k : K) : R :=
  onO 93 (ev x f) (fun v => onIface v (fun t' v => onB 94 (Nat.beq t' t) (onO 94 (P.underlying t) (fun d => onB 94 (bnot (isIfaceD d)) (Bool.rec (motive := fun _ => R) (k v s) (k (.tuple #[v, .bool true]) s) ok)))))
noncomputable def cmpOp (o : Oper) (t : TypeId) (x y : Operand) (neg : Bool) (f : T Value) (s : St) (k : K) : R :=
  onO 95 (P.underlying t) (fun d => onO 95 (ev x f) (fun u => onO 95 (ev y f) (fun z => Option.rec (motive := fun _ => R) (slowOp P o f s k) (fun r => Bool.rec (motive := fun _ => R) (mkBool r (fun v => k v s)) (mkBool (bnot r) (fun v => k v s)) neg) (nilCmp P d u z))))
noncomputable def isCmp (op : BinOp) : Option Bool := match op with
  | .eql => some false
  | .neq => some true
  | _ => none
noncomputable def xBin (o : Oper) (op : BinOp) (t : TypeId) (x y : Operand) (f : T Value) (s : St) (k : K) : R :=
  onO 96 (ev x f) (fun u => onO 96 (ev y f) (fun z => intOp op u z (shOp op u z (strOp op u z (Option.rec (motive := fun _ => R) (slowOp P o f s k) (fun neg => cmpOp P o t x y neg f s k) (isCmp op)) (fun v => k v s)) (fun v => k v s)) (fun v => k v s)))
noncomputable def xUn (o : Oper) (op : UnOp) (x : Operand) (f : T Value) (s : St) (k : K) : R :=
  onO 97 (ev x f) (fun v => match op, v with
    | .not, .bool b => mkBool (bnot b) (fun v => k v s)
    | _, _ => slowOp P o f s k)
noncomputable def xLen (o : Oper) (t : TypeId) (x : Operand) (f : T Value) (s : St) (k : K) : R :=
  onO 98 (P.underlying t) (fun d => onO 98 (ev x f) (fun v => match d, v with
    | .slice _, .slice _ l _ => mkInt .i64 l (fun v => k v s)
    | .map _ _, .map (some n) => onEnts s n (fun es _ => mkInt .i64 es.length (fun v => k v s))
    | _, _ => slowOp P o f s k))
noncomputable def xAppend (t0 t1 : TypeId) (x y : Operand) (f : T Value) (s : St) (k : K) : R :=
  onO 100 (sliceOf P t0) (fun elem => onO 100 (P.underlying t1) (fun d1 => onB 100 (bnot (isIntD d1)) (onO 100 (P.info? elem) (fun inf => onO 100 inf.zero (fun z => onB 100 (Nat.beq z.cells.size inf.size) (onB 100 (Nat.ble inf.bytes 1048576)
    (onO 101 (ev x f) (fun v => onO 101 (ev y f) (fun u => onO 102 (srcA s inf.size u) (fun r => onSl v (fun b l cp => forceN r.1 (fun q =>
      Bool.rec (motive := fun _ => R)
        (onB 103 (allOne r.2) (Option.rec (motive := fun _ => R)
          (onB 104 (Nat.beq l 0) (onB 104 (Nat.beq cp 0) (onB 104 (Nat.ble q 1048576) (newS s (.cells (ofL r.2) (Nat.mul q inf.size) elem inf.size 0) (fun n s => k (.slice (some ⟨n, 0, none⟩) q q) s)))))
          (fun a => Addr.rec (motive := fun _ => R) (fun n o spot => onCells s n (fun t m e sz fz =>
            Option.rec (motive := fun _ => R)
              (Bool.rec (motive := fun _ => R)
                (onB 105 (Nat.beq e elem) (onB 105 (Nat.beq sz inf.size) (onB 105 (Nat.ble l cp) (onB 105 (Nat.ble (Nat.add l q) 1048576) (onB 105 (Nat.ble fz (Nat.add o (Nat.mul l inf.size))) (onB 105 (Nat.beq m (Nat.add o (Nat.mul cp inf.size))) (onB 105 (bnot (Nat.beq inf.size 0))
                  (onO 106 (growT t o (Nat.mul l inf.size) r.2) (fun nt => forceN (Nat.add l q) (fun lq =>
                    newS ⟨s.h.del n, s.nx⟩ (.cells nt (Nat.mul lq inf.size) elem inf.size (Nat.sub fz o)) (fun n s => k (.slice (some ⟨n, 0, none⟩) lq lq) s)))))))))))
                (onB 107 (Nat.ble fz (Nat.add o (Nat.mul l inf.size))) (onB 107 (Nat.ble (Nat.add (Nat.add o (Nat.mul l inf.size)) (Nat.mul q inf.size)) m)
                  (forceN (Nat.add l q) (fun lq => setS s n (.cells (writeF r.2 t (Nat.add o (Nat.mul l inf.size))) m e sz fz) (fun s => k (.slice (some ⟨n, o, none⟩) lq cp) s)))))
                (Nat.ble (Nat.add l q) cp))
              (fun spot => Bool.rec (motive := fun _ => R) (.fail 108)
                (onB 109 (Nat.ble (Nat.succ cp) (Nat.add l q)) (onB 109 (Nat.ble (Nat.add l q) 1048576) (onB 109 (Nat.ble (Nat.add o (Nat.mul l inf.size)) m)
                  (onO 106 (growT t o (Nat.mul l inf.size) r.2) (fun nt => forceN (Nat.add l q) (fun lq =>
                    newS s (.cells nt (Nat.mul lq inf.size) elem inf.size 0) (fun n s => k (.slice (some ⟨n, 0, none⟩) lq lq) s)))))))
                (Nat.beq spot 0))
              spot)) a)
          b))
        (onB 110 r.2.isEmpty (onB 110 (Nat.ble l cp) (k v s)))
        (Nat.beq q 0)))))))))))))
noncomputable def xDelete (ty : TypeId) (m ky : Operand) (f : T Value) (s : St) (k : K) : R :=
  onO 111 (mapOf P ty) (fun ke => onO 111 (P.underlying ke.1) (fun _ => onO 111 (ev m f) (fun mv => onO 111 (ev ky f) (fun kv => onB 112 (flat kv) (onMap mv (fun n => onO 112 n (fun n => onEnts s n (fun es clock =>
    onO 113 (runPure P (Instr.checkKey es.isEmpty 10000 ke.1 kv)) (fun _ => onO 114 (runPure P (Instr.findKey ke.1 kv es)) (fun r => setS s n (.map (leftE es r) clock) (fun s => k (.tuple #[]) s)))))))))))
noncomputable def xClear (ty : TypeId) (x : Operand) (f : T Value) (s : St) (k : K) : R :=
  onO 115 (sliceOf P ty) (fun e => onO 115 (P.info? e) (fun inf => onO 115 inf.zero (fun z => onO 116 (ev x f) (fun v => onSl v (fun a l _ => Nat.rec (motive := fun _ => R) (.fail 119) (fun l _ => onPlace a (fun n o q => onB 117 (Option.isNone q) (onCells s n (fun t m e2 sz fz =>
    onB 118 ((Builtin.zeroCells z.cells (l + 1)).toList.all flat) (onB 118 ((Builtin.zeroCells z.cells (l + 1)).toList.all (·.oneCell')) (onB 118 (Nat.ble fz o) (onB 118 (Nat.ble (o + (Builtin.zeroCells z.cells (l + 1)).toList.length) m)
      (setS s n (.cells (writeF (Builtin.zeroCells z.cells (l + 1)).toList t o) m e2 sz fz) (fun s => k (.tuple #[]) s))))))))) l)))))
noncomputable def xMakeSlice (ty : TypeId) (x y : Operand) (f : T Value) (s : St) (k : K) : R :=
  onO 170 (sliceOf P ty) (fun e => onO 170 (P.info? e) (fun ie => onO 170 ie.zero (fun z => onO 171 (ev x f) (fun v => onO 171 (ev y f) (fun u => onInt v (fun _ l => onInt u (fun _ c => onNat l (fun l => onNat c (fun c => forceN l (fun l => forceN c (fun c =>
    onB 172 (Nat.ble l c) (onB 172 (Nat.ble (Nat.mul ie.bytes c) 1048576) (onB 172 (Nat.ble c 1048576) (onB 173 ((rowOf z (c * ie.size)).toList.all flat) (onB 173 (bnot (Nat.beq (Nat.mul c ie.size) 0))
      (newS s (.cells (ofL (rowOf z (c * ie.size)).toList) (rowOf z (c * ie.size)).size e ie.size 0) (fun n s => k (.slice (some ⟨n, 0, none⟩) l c) s)))))))))))))))))
noncomputable def xMapEntry (ty : TypeId) (m ky : Operand) (f : T Value) (s : St) (k : K) : R :=
  onO 174 (mapOf P ty) (fun ke => onO 174 (P.underlying ke.1) (fun _ => onO 174 (P.info? ke.2) (fun ie => onO 174 ie.zero (fun z => onB 174 (flat z) (onO 175 (ev m f) (fun mv => onO 175 (ev ky f) (fun kv => onB 175 (flat kv) (onMap mv (fun n => onO 176 n (fun n => onEnts s n (fun es clock =>
    onO 177 (runPure P (Instr.checkKey false 10000 ke.1 kv)) (fun _ => onO 178 (runPure P (Instr.findKey ke.1 kv es)) (fun r => Option.rec (motive := fun _ => R)
      (setS s n (.map (es ++ [⟨kv, z, clock⟩]) (clock + 1)) (fun s => k (.tuple #[z, .int .i64 clock]) s))
      (fun r => onO 179 (es[r.1]?) (fun e0 => onB 180 (Instr.sameBits 10000 e0.key kv) (onB 180 (veq e0.val r.2) (setS s n (.map (setE kv r.2 es r.1) clock) (fun s => k (.tuple #[r.2, .int .i64 e0.born]) s))))) r)))))))))))))
noncomputable def findBorn (b : Nat) : List MapEntry → Nat → Option Nat
  | [], _ => none
  | e :: es, i => match Nat.beq e.born b with
    | true => some i
    | false => findBorn b es (i + 1)
def setB (v : Value) : List MapEntry → Nat → List MapEntry
  | [], _ => []
  | e :: es, 0 => { e with val := v } :: es
  | e :: es, i + 1 => e :: setB v es i
noncomputable def xEntryStore (m st x : Operand) (f : T Value) (s : St) (k : K) : R :=
  onO 181 (ev m f) (fun mv => onO 181 (ev st f) (fun bv => onO 181 (ev x f) (fun v => onMap mv (fun n => onO 182 n (fun n => onInt bv (fun _ b => onNat b (fun b => onEnts s n (fun es clock =>
    onO 183 (findBorn b es 0) (fun i => setS s n (.map (setB v es i) clock) (fun s => k undef s))))))))))
noncomputable def xConv (o : Oper) (a b : TypeId) (x : Operand) (f : T Value) (s : St) (k : K) : R :=
  onO 184 (ev x f) (fun v => match v with
    | .pointer (some ⟨n, q, none⟩) => onO 184 (P.underlying a) (fun da => onO 184 (P.underlying b) (fun db => onCells s n (fun _ m e sz _ => match da, db with
      | .pointer t', .unsafePointer => onO 184 (P.info? t') (fun j => onB 184 (bnot (Nat.beq j.size 0)) (onB 184 (Nat.ble (Nat.succ q) m) (k v s)))
      | .unsafePointer, .pointer t' => onO 185 (P.info? t') (fun _ => onB 185 (Nat.beq sz 0) (onB 185 (liesAt P P.depth e (m / P.cellsOf e) q t' 1) (k v s)))
      | _, _ => .fail 184)))
    | .slice (some ⟨n, q, sp⟩) l _ => onO 186 (P.underlying a) (fun da => onO 186 (P.underlying b) (fun db => match da, db with
      | .slice t', .string => onO 186 (P.underlying t') (fun dt => match dt with
        | .int .u8 => onB 186 (Nat.ble (spotN sp) 0) (onCells s n (fun t m _ _ _ => onB 186 (Nat.ble (Nat.add q l) m) (onO 186 (readF t q l) (fun vs => onO 186 (bytesV vs) (fun bs => canonB ⟨bs.toArray⟩ (fun b => k (.string b) s))))))
        | _ => .fail 186)
      | _, _ => .fail 186))
    | .int _ (.ofNat n) => onO 184 (P.underlying a) (fun _ => onO 184 (P.underlying b) (fun db => match db with
      | .int i => wrapN i n (slowOp P o f s k) (fun v => k v s)
      | _ => slowOp P o f s k))
    | _ => slowOp P o f s k)
noncomputable def xSliceData (o : Oper) (x : Operand) (f : T Value) (s : St) (k : K) : R :=
  onO 189 (ev x f) (fun v => match v with
    | .slice (some ⟨n, q, none⟩) _ c => Nat.casesOn (motive := fun _ => R) c (.fail 189) (fun _ => k (.pointer (some ⟨n, q, none⟩)) s)
    | _ => slowOp P o f s k)
noncomputable def mx (a b : Nat) : Nat := Bool.rec (motive := fun _ => Nat) a b (Nat.ble a b)
noncomputable def ptrOf (t : TypeId) : Option TypeId := match P.underlying t with
  | some (.pointer e) => some e
  | _ => none
noncomputable def xUStr (t : TypeId) (x y : Operand) (f : T Value) (s : St) (k : K) : R :=
  onO 193 (ptrOf P t) (fun el => onO 193 (ev x f) (fun v => onO 193 (ev y f) (fun u => match v, u with
    | .pointer p, .int .i64 (.ofNat l) => Nat.casesOn (motive := fun _ => R) l (k (.string .empty) s) (fun l' => onPtr (.pointer p) (fun n q => onCells s n (fun tr m e sz fz =>
        onB 194 (Nat.beq el e) (onB 194 (Nat.beq (P.cellsOf e) 1) (onB 194 (Nat.ble (Nat.succ l') 1048576) (onB 194 (Nat.ble (Nat.add q (Nat.succ l')) m) (onO 195 (readF tr q (Nat.succ l')) (fun vs => onO 195 (bytesV vs) (fun bs =>
          forceN (mx fz (Nat.add q (Nat.succ l'))) (fun fz => canonB ⟨bs.toArray⟩ (fun b => setS s n (.cells tr m e sz fz) (fun s => k (.string b) s))))))))))))
    | _, _ => .fail 193)))
noncomputable def xCopy (o : Oper) (t : TypeId) (x y : Operand) (f : T Value) (s : St) (k : K) : R :=
  onO 190 (sliceOf P t) (fun elem => onO 190 (P.info? elem) (fun inf => onO 190 (ev x f) (fun v => match v with
    | .slice (some ⟨n, q, sp⟩) dl _ => onB 190 (Nat.ble (spotN sp) 0) (onO 190 (ev y f) (fun u => onO 191 (srcA s inf.size u) (fun r => onB 192 (Nat.ble r.1 dl) (onB 192 (allOne r.2) (onCells s n (fun tr m e sz fz =>
        onB 192 (Nat.ble fz q) (onB 192 (Nat.ble (Nat.add q (Nat.mul r.1 inf.size)) m) (forceN r.1 (fun j => setS s n (.cells (writeF r.2 tr q) m e sz fz) (fun s => k (.int .i64 (.ofNat j)) s))))))))))
    | _ => slowOp P o f s k)))
noncomputable def xExtF (c : Call) (g : FuncId) (f : T Value) (s : St) (k : K) : R := onO 196 (evs f c.args.toList) (fun vs => onO 197 (extFlat P g vs) (fun v => canonV v (fun v => k v s)))
noncomputable def xExt (c : Call) (g : FuncId) (fs cs : Array Value) (f : T Value) (s : St) (k : K) : R :=
  match fs.toList, cs.toList with
  | [], [] => match c.args.toList with
    | [y] => match extIs P g "internal/abi.NoEscape" with
      | some _ => onO 187 (ev y f) (fun v => k v s)
      | none => match extIs P g "internal/bytealg.MakeNoZero" with
        | some fn => match fn.resultTypes.toList with
          | [t] => onO 188 (sliceOf P t) (fun elem => onO 188 (ev y f) (fun v => match v with
            | .int .i64 (.ofNat l) => onB 188 (Nat.ble l 1048576) (forceN l (fun l => newS s (.cells .leaf l elem 1 0) (fun n s => k (.slice (some ⟨n, 0, none⟩) l l) s)))
            | _ => .fail 188))
          | _ => .fail 188
        | none => xExtF P c g f s k
    | _ => xExtF P c g f s k
  | _, _ => .fail 187
noncomputable def onCR (c : CR) (k : Value → St → R) : R := CR.rec (motive := fun _ => R) (fun n => .fail n) k c
noncomputable def enter (cl : Cl) (g : FuncId) (vs : List Value) (s : St) (k : K) : R := onB 120 (enterOk P g) (onCR (cl false g vs s) k)
noncomputable def xCall (cl : Cl) (o : Oper) (c : Call) (f : T Value) (s : St) (k : K) : R :=
  Callee.rec (motive := fun _ => R)
    (fun x => onO 121 (ev x f) (fun v => onFun v (fun g fs cs => Bool.rec (motive := fun _ => R) (xExt P c g fs cs f s k) (onO 122 (evs f c.args.toList) (fun vs => enter P cl g (app fs.toList (app vs cs.toList)) s k)) (enterOk P g)) (fun l => onO 122 (evs f c.args.toList) (fun vs => onCR (cl true l vs s) k))))
    (fun x m => onO 123 (ev x f) (fun v => onIface v (fun t v => onO 124 (methodOk P t m) (fun g => onO 125 (evs f c.args.toList) (fun vs => enter P cl g (v :: vs) s k)))))
    (fun b => match b, c.args.toList, c.argTypes.toList with
      | .len, [x], [t] => xLen P o t x f s k
      | .append, [x, y], [t0, t1] => xAppend P t0 t1 x y f s k
      | .delete, [m, ky], t :: _ => xDelete P t m ky f s k
      | .clear, [x], [t] => xClear P t x f s k
      | .min, _, _ => slowOp P o f s k
      | .cap, _, _ => slowOp P o f s k
      | .unsafeSliceData, [x], _ => xSliceData P o x f s k
      | .unsafeString, [x, y], t :: _ => xUStr P t x y f s k
      | .copy, [x, y], t :: _ => xCopy P o t x y f s k
      | .max, _, _ => slowOp P o f s k
      | _, _, _ => .fail 126)
    c.callee
noncomputable def quiet (o : Oper) : Bool := match o.op with
  | .move _ | .pick .. | .build .. | .load .. | .nilCheck _ | .binOp .. | .unOp .. | .convert .. | .makeInterface .. | .makeFunc .. | .slice .. | .fieldAddr .. | .field .. | .indexAddr .. | .index .. | .lookup .. | .typeAssert .. | .extract .. => true
  | .call c => match c.callee with
    | .builtin .len => true
    | .builtin .min => true
    | .builtin .cap => true
    | .builtin .unsafeSliceData => true
    | .builtin .max => true
    | _ => false
  | _ => false
inductive OpF where
  | mk (r : Cl → T Value → St → K → R)
noncomputable def xOpT (op : Op) : Program → Oper → OpF :=
  Op.rec (motive := fun _ => Program → Oper → OpF)
    (fun x _P _o => .mk (fun _cl f s k => xMove x f s k))
    (fun x _P _o => .mk (fun _cl f s k => xMove x f s k))
    (fun c x y _P _o => .mk (fun _cl f s k => xPick c x y f s k))
    (fun t P _o => .mk (fun _cl _f s k => xAlloc P t s k))
    (fun t x _P _o => .mk (fun _cl f s k => xBox t x f s k))
    (fun t ps P _o => .mk (fun _cl f s k => xBuild P t ps f s k))
    (fun t n ps P _o => .mk (fun _cl f s k => xBuildSlice P t n ps f s k))
    (fun t m ky x P _o => .mk (fun _cl f s k => xUpdate P t m ky x f s k))
    (fun t x P _o => .mk (fun _cl f s k => xLoad P t x f s k))
    (fun t x y P _o => .mk (fun _cl f s k => xStore P t x y f s k))
    (fun _ _P _o => .mk (fun _cl _f _s _k => .fail 130))
    (fun _ _P _o => .mk (fun _cl _f _s _k => .fail 131))
    (fun x _P _o => .mk (fun _cl f s k => xNil x f s k))
    (fun op t x y _ P o => .mk (fun _cl f s k => xBin P o op t x y f s k))
    (fun op _ x P o => .mk (fun _cl f s k => xUn P o op x f s k))
    (fun a b x P o => .mk (fun _cl f s k => xConv P o a b x f s k))
    (fun _ _ _P _o => .mk (fun _cl _f _s _k => .fail 132))
    (fun t x P _o => .mk (fun _cl f s k => xIface P t x f s k))
    (fun g xs ys _P _o => .mk (fun _cl f s k => xFunc g xs ys f s k))
    (fun _ r _P _o => .mk (fun _cl _f s k => xMakeMap r s k))
    (fun _ _ _P _o => .mk (fun _cl _f _s _k => .fail 133))
    (fun t x y P _o => .mk (fun _cl f s k => xMakeSlice P t x y f s k))
    (fun t x lo hi mx P o => .mk (fun _cl f s k => xSlice P o t x lo hi mx f s k))
    (fun t x i P _o => .mk (fun _cl f s k => xField P t x i f s k))
    (fun t x i P _o => .mk (fun _cl f s k => xFieldV P t x i f s k))
    (fun t x y P _o => .mk (fun _cl f s k => xIndexAddr P t x y f s k))
    (fun t x y P o => .mk (fun _cl f s k => xIndexV P o t x y f s k))
    (fun t x ix ok P _o => .mk (fun _cl f s k => xLookup P t x ix ok f s k))
    (fun t m ky x P _o => .mk (fun _cl f s k => xUpdate P t m ky x f s k))
    (fun t m ky P _o => .mk (fun _cl f s k => xMapEntry P t m ky f s k))
    (fun _ m st x _P _o => .mk (fun _cl f s k => xEntryStore m st x f s k))
    (fun t x P _o => .mk (fun _cl f s k => xRange P t x f s k))
    (fun it str _P _o => .mk (fun _cl f s k => xNext it str f s k))
    (fun it _P _o => .mk (fun _cl f s k => xEntry it f s k))
    (fun x _ t ok P _o => .mk (fun _cl f s k => xAssert P x t ok f s k))
    (fun x i _P _o => .mk (fun _cl f s k => xExtract x i f s k))
    (fun c P o => .mk (fun cl f s k => xCall P cl o c f s k))
    (fun _ _P _o => .mk (fun _cl _f _s _k => .fail 138))
    (fun _ _P _o => .mk (fun _cl _f _s _k => .fail 139))
    (fun _ _P _o => .mk (fun _cl _f _s _k => .fail 140))
    (fun _ _ _P _o => .mk (fun _cl _f _s _k => .fail 141))
    (fun _ _ _ _P _o => .mk (fun _cl _f _s _k => .fail 142))
    (fun _ _ _P _o => .mk (fun _cl _f _s _k => .fail 143))
    op
noncomputable def xOpF (o : Oper) : OpF := xOpT o.op P o
noncomputable def xOp (cl : Cl) (o : Oper) (f : T Value) (s : St) (k : K) : R := OpF.rec (motive := fun _ => R) (fun r => r cl f s k) (xOpF P o)
end
end Go.Proofs.YtnjabndkaabogaaGreatDoor.Ev
namespace Go.Proofs.YtnjabndkaabogaaGreatDoor.Ev
open Go
section
variable (P : Program)
noncomputable def onGuard (v : Value) (k : Bool → R) (no : R) : R :=
  Value.casesOn (motive_1 := fun _ => R) v k (fun _ _ => .fail 158) (fun _ _ => .fail 158) (fun _ _ _ => .fail 158) (fun _ => .fail 158) (fun _ => .fail 158)
    (fun _ _ _ => .fail 158) (fun _ => .fail 158) (fun _ => .fail 158) (fun _ _ _ => .fail 158) (.fail 158) (fun _ _ => .fail 158) (.fail 158) (fun _ => .fail 158) (fun _ => no)
noncomputable def guardR (ops : Array Oper) (o : Oper) (f : T Value) (yes no : R) : R :=
  Option.rec (motive := fun _ => R) yes (fun g => onO 150 (ops[g.1]?) (fun og => onO 151 og.dst (fun d => onO 152 (acc (path d) f) (fun v => onGuard v (fun b => Bool.rec (motive := fun _ => R) (Bool.rec (motive := fun _ => R) yes no g.2) (Bool.rec (motive := fun _ => R) no yes g.2) b) no)))) o.guard
noncomputable def xOps (cl : Cl) (N : Nat) (ops : Array Oper) (l : List Oper) : T Value → St → R :=
  List.rec (motive := fun _ => T Value → St → R) (fun f s => .normal f s) (fun o _ ih f s => guardR ops o f (xOp P cl o f s (fun v s => ih (put N o.dst v f) s)) (ih (put N o.dst undef f) s)) l
noncomputable def sub (m d : Nat) : Bool := Nat.beq (Nat.land m d) m
noncomputable def bit (m i : Nat) : Bool := Nat.beq (Nat.land (Nat.shiftRight m i) 1) 1
noncomputable def add1 (m i : Nat) : Nat := Nat.lor m (Nat.shiftLeft 1 i)
noncomputable def maskL (l : List Edge) : Nat := List.rec (motive := fun _ => Nat) 0 (fun e _ ih => Bool.rec (motive := fun _ => Nat) ih (add1 ih e.on) (Region.binds .any e)) l
noncomputable def mask (o : Oper) : Nat := maskL o.after.toList
noncomputable def isA (N : Nat) (o : Oper) : Bool := match o.op, o.dst, o.guard with
  | .alloc t, some d, none => match P.info? t with
    | some i => band (Option.isSome i.zero) (Nat.ble (d + 1) N)
    | none => false
  | _, _, _ => false
noncomputable def pickI (ok : Oper → Bool) (d : Nat) (l : List (Nat × Oper)) : Option Nat := List.rec (motive := fun _ => Option Nat) none (fun x _ ih => Bool.rec (motive := fun _ => Option Nat) ih (some x.1) (band (ok x.2) (sub (mask x.2) d))) l
noncomputable def rm (i : Nat) (l : List (Nat × Oper)) : List (Nat × Oper) := List.rec (motive := fun _ => List (Nat × Oper)) [] (fun x t ih => Bool.rec (motive := fun _ => List (Nat × Oper)) (x :: ih) t (Nat.beq x.1 i)) l
noncomputable def forceL {α : Type} (n : Nat) (k : Nat → α) : α := Nat.rec (motive := fun _ => α) (k 0) (fun m _ => k (Nat.succ m)) n
noncomputable def orderF (N fuel : Nat) : Nat → List (Nat × Oper) → List Nat := Nat.rec (motive := fun _ => Nat → List (Nat × Oper) → List Nat) (fun _ _ => []) (fun _ ih d l =>
  Option.rec (motive := fun _ => List Nat) (Option.rec (motive := fun _ => List Nat) (Option.rec (motive := fun _ => List Nat) [] (fun i => forceL i (fun i => forceL (add1 d i) (fun d => i :: ih d (rm i l)))) (pickI (isA P N) d l)) (fun i => forceL i (fun i => forceL (add1 d i) (fun d => i :: ih d (rm i l)))) (pickI (fun o => band (bnot (quiet o)) (bnot (isA P N o))) d l)) (fun i => forceL i (fun i => forceL (add1 d i) (fun d => i :: ih d (rm i l)))) (pickI quiet d l)) fuel
noncomputable def numb (l : List Oper) : Nat → List (Nat × Oper) := List.rec (motive := fun _ => Nat → List (Nat × Oper)) (fun _ => []) (fun o _ ih i => forceL i (fun i => (i, o) :: ih (i + 1))) l
noncomputable def order (N : Nat) (ops : Array Oper) : List Nat := orderF P N ops.size 0 (numb ops.toList 0)
noncomputable def allL {α : Type} (p : α → Bool) (l : List α) : Bool := List.rec (motive := fun _ => Bool) true (fun x _ ih => band (p x) ih) l
noncomputable def allocs (N : Nat) (l : List (Nat × Oper)) : Nat := List.rec (motive := fun _ => Nat) 0 (fun x _ ih => Bool.rec (motive := fun _ => Nat) ih (add1 ih x.1) (isA P N x.2)) l
noncomputable def alone (N : Nat) (l : List (Nat × Oper)) (d i : Nat) : Bool := allL (fun x => Bool.rec (motive := fun _ => Bool) (Bool.rec (motive := fun _ => Bool) (Bool.rec (motive := fun _ => Bool) (Bool.rec (motive := fun _ => Bool) (bnot (sub (mask x.2) (Nat.lor d (allocs P N l)))) true (bit (mask x.2) i)) true (isA P N x.2)) true (Nat.beq x.1 i)) true (bit d x.1)) l
noncomputable def okOrd (N : Nat) (l : List (Nat × Oper)) (ops : Array Oper) (pi : List Nat) : Nat → Bool := List.rec (motive := fun _ => Nat → Bool) (fun d => allL (fun x => bit d x.1) l)
  (fun i _ ih d => band (bnot (bit d i)) (Option.rec (motive := fun _ => Bool) false (fun o => band (sub (mask o) d) (band (Bool.rec (motive := fun _ => Bool) (alone P N l d i) true (quiet o)) (forceL (add1 d i) ih))) (nth ops.toList i))) pi
noncomputable def memN (d : Nat) (l : List Nat) : Bool := List.rec (motive := fun _ => Bool) false (fun x _ ih => Bool.rec (motive := fun _ => Bool) ih true (Nat.beq x d)) l
noncomputable def okSlots (N : Nat) (l : List (Nat × Oper)) (ops : Array Oper) : Bool := allL (fun x => Option.rec (motive := fun _ => Bool) true (fun d => Bool.rec (motive := fun _ => Bool)
    (Bool.rec (motive := fun _ => Bool) true (allL (fun y => Bool.rec (motive := fun _ => Bool) (band (Option.rec (motive := fun _ => Bool) true (fun e => bnot (Nat.beq e d)) y.2.dst) (Bool.rec (motive := fun _ => Bool) true (Bool.rec (motive := fun _ => Bool) (bit (mask x.2) y.1) true (bit (mask y.2) x.1)) (memN d (y.2.looksAt ops)))) true (Nat.beq y.1 x.1)) l) (isA P N x.2))
    (band (bnot (memN d (x.2.looksAt ops))) (allL (fun y => Bool.rec (motive := fun _ => Bool) (band (Option.rec (motive := fun _ => Bool) true (fun e => bnot (Nat.beq e d)) y.2.dst) (Bool.rec (motive := fun _ => Bool) true (bit (mask y.2) x.1) (memN d (y.2.looksAt ops)))) true (Nat.beq y.1 x.1)) l))
    (quiet x.2)) x.2.dst) l
noncomputable def okDraw (N : Nat) (ops : Array Oper) : Bool := band (Region.noSelect ops) (band (okSlots P N (numb ops.toList 0) ops) (okOrd P N (numb ops.toList 0) ops (order P N ops) 0))
noncomputable def slotIs (N : Nat) (d : Option Tmp) (v : Value) (f : T Value) (r : R) : R := Option.rec (motive := fun _ => R) r (fun d => Bool.rec (motive := fun _ => R) r (onO 200 (acc (path d) f) (fun u => onB 201 (veq u v) r)) (Nat.ble (Nat.succ d) N)) d
noncomputable def again (cl : Cl) (N : Nat) (ops : Array Oper) (l : List Nat) (f : T Value) (s : St) (r : R) : R := List.rec (motive := fun _ => R) r (fun i _ ih => onO 202 (nth ops.toList i) (fun o => guardR ops o f (xOp P cl o f s (fun v _ => slotIs N o.dst v f ih)) (slotIs N o.dst undef f ih))) l
noncomputable def clos (ops : Array Oper) (D : List Nat) : Nat → Nat := List.rec (motive := fun _ => Nat → Nat) (fun m => m) (fun i _ ih m => Bool.rec (motive := fun _ => Nat) (ih m) (Option.rec (motive := fun _ => Nat) (ih m) (fun o => forceL (Nat.lor m (mask o)) ih) (nth ops.toList i)) (bit m i)) D
noncomputable def behind (ops : Array Oper) (m : Nat) (D : List Nat) : List Nat := List.rec (motive := fun _ => List Nat) [] (fun i _ ih => Bool.rec (motive := fun _ => List Nat) (Option.rec (motive := fun _ => List Nat) ih (fun o => Bool.rec (motive := fun _ => List Nat) ih (i :: ih) (quiet o)) (nth ops.toList i)) ih (bit m i)) D
noncomputable def xDr (cl : Cl) (N : Nat) (ops : Array Oper) (pi : List Nat) : List Nat → T Value → St → R :=
  List.rec (motive := fun _ => List Nat → T Value → St → R) (fun _ f s => .normal f s)
    (fun i _ ih D f s => onO 203 (nth ops.toList i) (fun o => Bool.rec (motive := fun _ => R)
      (guardR ops o f (xOp P cl o f s (fun v s => again P cl N ops (behind ops (clos ops D (mask o)) D) (put N o.dst v f) s (ih (i :: D) (put N o.dst v f) s)))
        (again P cl N ops (behind ops (clos ops D (mask o)) D) (put N o.dst undef f) s (ih (i :: D) (put N o.dst undef f) s)))
      (guardR ops o f (xOp P cl o f s (fun v s => ih (i :: D) (put N o.dst v f) s)) (ih (i :: D) (put N o.dst undef f) s))
      (quiet o))) pi
noncomputable def xDrawn (cl : Cl) (N : Nat) (ops : Array Oper) (f : T Value) (s : St) : R := onB 204 (okDraw P N ops) (xDr P cl N ops (order P N ops) [] f s)
noncomputable def isIns (d0 : Tmp) (kk : IntKind) (o : Oper) : Option (Int × Operand) := match o.op, o.dst, o.guard with
  | .insert t (.tmp d) (.const (.int k z)) x, none, none => match mapOf P t with
    | some ke => match P.underlying ke.1 with
      | some (.int _) => match band (Nat.beq d d0) (sameKind k kk) with
        | true => some (z, x)
        | false => none
      | _ => none
    | none => none
  | _, _, _ => none
noncomputable def mapHead (ops : Array Oper) : Option Tmp := match ops[0]? with
  | some o => match o.op, o.dst, o.guard with
    | .makeMap _ none, some d, none => match Nat.beq (mask o) 0 with
      | true => some d
      | false => none
    | _, _, _ => none
  | none => none
noncomputable def firstKind (l : List Oper) : Option IntKind := List.rec (motive := fun _ => Option IntKind) none (fun o _ ih => match o.op with
  | .insert _ _ (.const (.int k _)) _ => some k
  | _ => ih) l
noncomputable def full (m : Nat) : Nat := Nat.rec (motive := fun _ => Nat) 0 (fun i ih => add1 ih i) m
noncomputable def downFrom (m : Nat) : List Nat := Nat.rec (motive := fun _ => List Nat) [] (fun i ih => i :: ih) m
noncomputable def qList (m : Nat) (l : List (Nat × Oper)) : List Nat := List.rec (motive := fun _ => List Nat) [] (fun x _ ih => Bool.rec (motive := fun _ => List Nat) ih (x.1 :: ih) (band (Nat.ble 1 x.1) (band (Nat.ble (x.1 + 1) m) (quiet x.2)))) l
noncomputable def okQ (ops : Array Oper) (q : List Nat) : Nat → Bool := List.rec (motive := fun _ => Nat → Bool) (fun _ => true) (fun i _ ih d => band (bnot (bit d i)) (Option.rec (motive := fun _ => Bool) false (fun o => band (sub (mask o) d) (forceL (add1 d i) ih)) (nth ops.toList i))) q
noncomputable def notTmp (d0 : Tmp) (x : Operand) : Bool := match x with
  | .tmp t => bnot (Nat.beq t d0)
  | _ => true
noncomputable def kindOk (ops : Array Oper) (d0 : Tmp) (kk : IntKind) (m : Nat) (x : Nat × Oper) : Bool :=
  Bool.rec (motive := fun _ => Bool) true
    (Bool.rec (motive := fun _ => Bool) (sub (full m) (mask x.2))
      (band (sub (mask x.2) (full x.1)) (Bool.rec (motive := fun _ => Bool)
        (band (bit (mask x.2) 0) (match isIns P d0 kk x.2 with
          | some (_, y) => notTmp d0 y
          | none => false))
        (band (Option.isNone x.2.guard) (band (bnot (memN d0 (x.2.looksAt ops))) (Option.rec (motive := fun _ => Bool) true (fun e => bnot (Nat.beq e d0)) x.2.dst)))
        (quiet x.2)))
      (Nat.ble (x.1 + 1) m))
    (Nat.ble 1 x.1)
noncomputable def oneOk (d0 : Tmp) (kk : IntKind) (l : List (Nat × Oper)) (x : Nat × Oper) : Bool := match isIns P d0 kk x.2 with
  | some (z, _) => allL (fun y => match isIns P d0 kk y.2 with
    | some (z', _) => Bool.rec (motive := fun _ => Bool) (bnot (intEq z z')) true (Nat.beq x.1 y.1)
    | none => true) l
  | none => true
noncomputable def okMap (N : Nat) (ops : Array Oper) (d0 : Tmp) (kk : IntKind) (m : Nat) : Bool :=
  band (Region.noSelect ops) (band (okSlots P N (numb ops.toList 0) ops) (band (Nat.beq ops.size (m + 2)) (band (Nat.ble 1 m) (band (Nat.ble (d0 + 1) N) (band (allL (kindOk P ops d0 kk m) (numb ops.toList 0)) (band (allL (oneOk P d0 kk (numb ops.toList 0)) (numb ops.toList 0)) (band (okQ ops (qList m (numb ops.toList 0)) 0) (okOrd P N (numb ops.toList 0) ops [m, m + 1] (full m)))))))))
noncomputable def xQ (cl : Cl) (N : Nat) (ops : Array Oper) (q : List Nat) (s : St) (k : T Value → R) : T Value → R := List.rec (motive := fun _ => T Value → R) (fun f => k f) (fun i _ ih f => onO 203 (nth ops.toList i) (fun o => onB 235 (band (quiet o) (Option.isNone o.guard)) (xOp P cl o f s (fun v _ => ih (put N o.dst v f))))) q
noncomputable def entS (d0 : Tmp) (kk : IntKind) (f : T Value) (o : Oper) (ih : Option (List MapEntry)) : Option (List MapEntry) := match isIns P d0 kk o with
  | some (z, y) => match ev y f, ih with
    | some v, some E => some (⟨.int kk z, v, 0⟩ :: E)
    | _, _ => none
  | none => ih
noncomputable def entsE (d0 : Tmp) (kk : IntKind) (m : Nat) (f : T Value) (l : List (Nat × Oper)) : Option (List MapEntry) := List.rec (motive := fun _ => Option (List MapEntry)) (some []) (fun x _ ih => Bool.rec (motive := fun _ => Option (List MapEntry)) ih (entS P d0 kk f x.2 ih) (Nat.ble (x.1 + 1) m)) l
noncomputable def memK (kk : IntKind) (z : Int) (es : List MapEntry) : Bool := List.rec (motive := fun _ => Bool) false (fun e _ ih => Bool.rec (motive := fun _ => Bool) ih true (keyIs e.key kk z)) es
noncomputable def nodS (e : MapEntry) (t : List MapEntry) (ih : Bool) : Bool := match e.key with
  | .int kk z => band (bnot (memK kk z t)) ih
  | _ => false
noncomputable def nodupE (es : List MapEntry) : Bool := List.rec (motive := fun _ => Bool) true (fun e t ih => nodS e t ih) es
noncomputable def xMapLit (cl : Cl) (N : Nat) (ops : Array Oper) (f : T Value) (s : St) : R :=
  onO 230 (mapHead ops) (fun d0 => onO 231 (firstKind ops.toList) (fun kk => forceN (Nat.sub ops.size 2) (fun m => onB 232 (okMap P N ops d0 kk m) (xQ P cl N ops (qList m (numb ops.toList 0)) s (fun f =>
    onO 233 (entsE P d0 kk m f (numb ops.toList 0)) (fun E => onB 234 (nodupE E) (newS s (.pmap E) (fun n s2 => xDr P cl N ops [m, m + 1] (downFrom m) (put N (some d0) (.map (some n)) f) s2)))) f))))
noncomputable def isInsert (o : Oper) : Bool := match o.op with
  | .insert .. => true
  | _ => false
noncomputable def isLit (ops : Array Oper) : Bool := band (Option.isSome (mapHead ops)) (bnot (allL (fun o => bnot (isInsert o)) ops.toList))
noncomputable def xDraw (chk : Bool) (cl : Cl) (N : Nat) (ops : Array Oper) (f : T Value) (s : St) : R := Bool.rec (motive := fun _ => R) (Bool.rec (motive := fun _ => R) (xDr P cl N ops (order P N ops) [] f s) (xMapLit P cl N ops f s) (isLit ops)) (Bool.rec (motive := fun _ => R) (xMapLit P cl N ops f s) (xDr P cl N ops (order P N ops) [] f s) (okDraw P N ops)) chk
noncomputable def drawOk (N : Nat) (ops : Array Oper) : Bool := Bool.rec (motive := fun _ => Bool) (okDraw P N ops) true (isLit ops)
noncomputable def drawsOk (N : Nat) (c : Code) : Bool :=
  Code.rec (motive := fun _ => Bool) true (fun _ ops draw => Bool.rec (motive := fun _ => Bool) true (drawOk P N ops) draw) (fun _ _ a b => band a b) (fun _ _ _ a b => band a b) (fun _ _ a => a) (fun _ a => a) (fun _ _ _ _ _ _ => true) (fun _ => true) (fun _ _ => true) (fun _ => true) (fun _ => true) true (fun _ => true) c
noncomputable def drawsF (bad : List Nat) (l : List Func) : Nat → Bool := List.rec (motive := fun _ => Nat → Bool) (fun _ => true) (fun fn _ ih k => band (Bool.rec (motive := fun _ => Bool) (Option.rec (motive := fun _ => Bool) true (fun c => drawsOk P fn.ntmps c) fn.body) true (memN k bad)) (forceL (Nat.succ k) ih)) l
noncomputable def drawsAll (bad : List Nat) : Bool := drawsF P bad P.funcs.toList 0
noncomputable def xRangeF (cl : Cl) (N : Nat) (g : Operand) (ps : Array Tmp) (assign body : Code) (f : T Value) (s : St) : R :=
  onO 210 (ev g f) (fun v => onFun v (fun G fs cs => newS s (.loop f N ps assign body) (fun l s => onB 211 (enterOk P G) (onCR (cl false G (app fs.toList (.func (.yield l) #[] #[] :: cs.toList)) s) (fun _ s => onLoop s l (fun _ _ _ _ _ => .normal f ⟨s.h.del l, s.nx⟩))))) (fun _ => .fail 212))
inductive CodeF where
  | mk (r : Cl → T Value → St → R)
noncomputable def runC (c : CodeF) (cl : Cl) (f : T Value) (s : St) : R := CodeF.rec (motive := fun _ => R) (fun r => r cl f s) c
noncomputable def codeF (chk : Bool) (N fuel : Nat) (rnd : Bool) (c : Code) : CodeF :=
  Code.rec (motive := fun _ => CodeF)
    (.mk (fun _ f s => .normal f s))
    (fun _ ops draw => Bool.rec (motive := fun _ => CodeF) (.mk (fun cl f s => xOps P cl N ops ops.toList f s)) (.mk (fun cl f s => xDraw P chk cl N ops f s)) draw)
    (fun _ _ iha ihb => .mk (fun cl f s => R.rec (motive := fun _ => R) (fun n => .fail n) (fun f s => runC ihb cl f s) (fun f s => .ret f s) (fun i f s => .exit i f s) (runC iha cl f s)))
    (fun c _ _ iha ihb => .mk (fun cl f s => onO 153 (ev c f) (fun v => onBool v (fun b => Bool.rec (motive := fun _ => R) (runC ihb cl f s) (runC iha cl f s) b))))
    (fun id _ ih => .mk (fun cl f s => R.rec (motive := fun _ => R) (fun n => .fail n) (fun f s => .normal f s) (fun f s => .ret f s) (fun i f s => Bool.rec (motive := fun _ => R) (.exit i f s) (.normal f s) (Nat.beq i id)) (runC ih cl f s)))
    (fun _ ih => .mk (fun cl f s => Nat.rec (motive := fun _ => T Value → St → R) (fun _ _ => .fail 154) (fun _ lp f s => R.rec (motive := fun _ => R) (fun n => .fail n) lp (fun f s => .ret f s) (fun i f s => .exit i f s) (runC ih cl f s)) fuel f s))
    (fun g ps asg bd _ _ => Bool.rec (motive := fun _ => CodeF) (.mk (fun cl f s => xRangeF P cl N g ps asg bd f s)) (.mk (fun _ _ _ => .fail 155)) rnd)
    (fun id => .mk (fun _ f s => .exit id f s))
    (fun _ _ => .mk (fun _ _ _ => .fail 159))
    (fun _ => .mk (fun _ f s => .normal f s))
    (fun _ => .mk (fun _ _ _ => .fail 156))
    (.mk (fun _ f s => .ret f s))
    (fun _ => .mk (fun _ _ _ => .fail 157))
    c
noncomputable def xCode (chk : Bool) (cl : Cl) (N fuel : Nat) (rnd : Bool) (c : Code) (f : T Value) (s : St) : R := runC (codeF P chk N fuel rnd c) cl f s
noncomputable def onOC {α : Type} (why : Nat) (o : Option α) (k : α → CR) : CR := Option.rec (motive := fun _ => CR) (.fail why) k o
noncomputable def resV (f : T Value) (s : St) (r : ResultVar) : Option Value :=
  ResultVar.rec (motive := fun _ => Option Value) (fun t => acc (path t) f)
    (fun a ty => Option.rec (motive := fun _ => Option Value) none (fun v => match v, P.underlying ty with
      | .pointer (some ⟨n, k, none⟩), some d => match s.h.get n with
        | some (.cells t m _ _ _) => match isAggD d with
          | false => match Nat.ble (k + 1) m with
            | true => t.get k
            | false => none
          | true => match P.info? ty with
            | some i => match Nat.ble (k + i.size) m with
              | true => match readF t k i.size with
                | some vs => some (.agg vs.toArray)
                | none => none
              | false => none
            | none => none
        | _ => none
      | _, _ => none) (acc (path a) f)) r
noncomputable def resVs (f : T Value) (s : St) (rs : List ResultVar) : Option (List Value) :=
  List.rec (motive := fun _ => Option (List Value)) (some []) (fun r _ ih => Option.rec (motive := fun _ => Option (List Value)) none (fun v => Option.rec (motive := fun _ => Option (List Value)) none (fun vs => some (v :: vs)) ih) (resV P f s r)) rs
noncomputable def single (vs : List Value) : Value := match vs with
  | [v] => v
  | vs => .tuple vs.toArray
noncomputable def xRes (fn : Func) (f : T Value) (s : St) : CR := onOC 160 (resVs P f s fn.results.toList) (fun vs => .ok (single vs) s)
noncomputable def xBody (bad : List Nat) (cl : Cl) (fuel : Nat) (g : Nat) (vs : List Value) (s : St) : CR :=
  onOC 162 (nth P.funcs.toList g) (fun fn => onOC 163 fn.body (fun c => Bool.rec (motive := fun _ => CR) (.fail 165) (R.rec (motive := fun _ => CR) (fun n => .fail (Nat.add (Nat.mul n 1000) g)) (fun f s => xRes P fn f s) (fun f s => xRes P fn f s) (fun i _ _ => .fail (Nat.add 164 i)) (xCode P (memN g bad) cl fn.ntmps fuel false c (ofL vs) s)) (Nat.ble vs.length fn.ntmps)))
noncomputable def putAll (N : Nat) (ps : List Tmp) : List Value → T Value → T Value := List.rec (motive := fun _ => List Value → T Value → T Value) (fun _ f => f) (fun p _ ih vs f => match vs with
  | [] => f
  | v :: vs => ih vs (put N (some p) v f)) ps
noncomputable def onLoopC (s : St) (n : Nat) (k : T Value → Nat → Array Tmp → Code → Code → CR) : CR :=
  onOC 220 (s.h.get n) (fun a => AO.rec (motive := fun _ => CR) (fun _ _ _ _ _ => .fail 221) (fun _ _ => .fail 221) (fun _ _ => .fail 221) (fun _ _ _ _ => .fail 221) k (fun _ => .fail 221) a)
noncomputable def onNormal (r : R) (k : T Value → St → CR) : CR := R.rec (motive := fun _ => CR) (fun n => .fail (Nat.add (Nat.mul n 1000) 999)) k (fun _ _ => .fail 222) (fun _ _ _ => .fail 223) r
noncomputable def xYield (cl : Cl) (fuel : Nat) (l : Nat) (vs : List Value) (s : St) : CR :=
  onLoopC s l (fun f N ps asg bd => Bool.rec (motive := fun _ => CR) (.fail 224)
    (onNormal (xCode P true cl N fuel true asg (putAll N ps.toList vs f) s) (fun f1 s1 => onLoopC s1 l (fun f2 N2 ps2 as2 bd2 =>
      onNormal (xCode P true cl N fuel true bd f1 ⟨s1.h.del l, s1.nx⟩) (fun _ s2 => .ok (.bool true) ⟨s2.h.set (.loop f2 N2 ps2 as2 bd2) l, s2.nx⟩))))
    (Nat.beq vs.length ps.size))
noncomputable def xCl (bad : List Nat) (hook : Cl → Cl) (fuel : Nat) : Nat → Cl := Nat.rec (motive := fun _ => Cl) (fun _ _ _ _ => .fail 161) (fun _ ih => hook (fun y g vs s => Bool.rec (motive := fun _ => CR) (xBody P bad ih fuel g vs s) (xYield P ih fuel g vs s) y))
end
end Go.Proofs.YtnjabndkaabogaaGreatDoor.Ev
namespace Go.Proofs.YtnjabndkaabogaaGreatDoor.Ev
open Go
theorem pathF_succ (fuel m : Nat) : pathF (fuel + 1) (m + 1) = match m % 4 with | 0 => .p0 (pathF fuel (m / 4)) | 1 => .p1 (pathF fuel (m / 4)) | 2 => .p2 (pathF fuel (m / 4)) | _ => .p3 (pathF fuel (m / 4)) := by
  have h : m % 4 < 4 := Nat.mod_lt _ (by decide)
  show pick4 (m % 4) (Path.p0 (pathF fuel (m / 4))) (Path.p1 (pathF fuel (m / 4))) (Path.p2 (pathF fuel (m / 4))) (Path.p3 (pathF fuel (m / 4))) = _
  generalize m % 4 = k at h
  match k, h with
  | 0, _ => rfl
  | 1, _ => rfl
  | 2, _ => rfl
  | 3, _ => rfl
theorem node_get {α : Type} (o : Option α) (a b c d : T α) (m j : Nat) (h : m % 4 = j) : (T.node o a b c d).get (m + 1) = (kid a b c d j).get (m / 4) := by rw [get_succ, h]
theorem accF_get : ∀ (fuel n : Nat) (t : T Value) (v : Value), acc (pathF fuel n) t = some v → t.get n = some v
  | 0, n, t, v, h => by cases h
  | fuel + 1, 0, t, v, h => by
    cases t with
    | leaf => cases h
    | node o a b c d => exact h
  | fuel + 1, m + 1, t, v, h => by
    rw [pathF_succ] at h
    have h4 : m % 4 < 4 := Nat.mod_lt _ (by decide)
    cases t with
    | leaf =>
      split at h <;> cases h
    | node o a b c d =>
      split at h
      · rename_i hm
        rw [node_get o a b c d m 0 hm]
        exact accF_get fuel _ _ _ h
      · rename_i hm
        rw [node_get o a b c d m 1 hm]
        exact accF_get fuel _ _ _ h
      · rename_i hm
        rw [node_get o a b c d m 2 hm]
        exact accF_get fuel _ _ _ h
      · rename_i h0 h1 h2
        have hm : m % 4 = 3 := by
          have : m % 4 ≠ 0 := h0
          have : m % 4 ≠ 1 := h1
          have : m % 4 ≠ 2 := h2
          omega
        rw [node_get o a b c d m 3 hm]
        exact accF_get fuel _ _ _ h
theorem acc_get {n : Nat} {t : T Value} {v : Value} (h : acc (path n) t = some v) : t.get n = some v := accF_get 9 n t v h
theorem kid_get {a b c d : T Value} {a' b' c' d' : T Value} {fuel m i j : Nat} {x v : Value} (hj : j < 4) (hm : m % 4 = j) (ih : ∀ (t : T Value) (i : Nat) (v : Value), (putP (pathF fuel (m / 4)) x t).get i = some v → (i = m / 4 ∧ v = x) ∨ (i ≠ m / 4 ∧ t.get i = some v))
    (hk : ∀ q, q < 4 → kid a' b' c' d' q = if q = j then putP (pathF fuel (m / 4)) x (kid a b c d q) else kid a b c d q) {o o' : Option Value} (ho : o' = o) (h : (T.node o' a' b' c' d').get i = some v) : (i = m + 1 ∧ v = x) ∨ (i ≠ m + 1 ∧ (T.node o a b c d).get i = some v) := by
  cases i with
  | zero =>
    refine .inr ⟨by simp, ?_⟩
    rw [← ho]
    exact h
  | succ i =>
    rw [get_succ, hk _ (Nat.mod_lt _ (by decide))] at h
    by_cases hq : i % 4 = j
    · rw [if_pos hq] at h
      rcases ih _ _ _ h with ⟨h1, h2⟩ | ⟨h1, h2⟩
      · exact .inl ⟨by omega, h2⟩
      · exact .inr ⟨by omega, by rw [get_succ]; exact h2⟩
    · rw [if_neg hq] at h
      exact .inr ⟨by omega, by rw [get_succ]; exact h⟩
theorem kid0 (a b c d : T Value) (g : T Value → T Value) : ∀ q, q < 4 → kid (g a) b c d q = if q = 0 then g (kid a b c d q) else kid a b c d q := fun q hq => by
  match q, hq with
  | 0, _ => rfl
  | 1, _ => rfl
  | 2, _ => rfl
  | 3, _ => rfl
theorem kid1 (a b c d : T Value) (g : T Value → T Value) : ∀ q, q < 4 → kid a (g b) c d q = if q = 1 then g (kid a b c d q) else kid a b c d q := fun q hq => by
  match q, hq with
  | 0, _ => rfl
  | 1, _ => rfl
  | 2, _ => rfl
  | 3, _ => rfl
theorem kid2 (a b c d : T Value) (g : T Value → T Value) : ∀ q, q < 4 → kid a b (g c) d q = if q = 2 then g (kid a b c d q) else kid a b c d q := fun q hq => by
  match q, hq with
  | 0, _ => rfl
  | 1, _ => rfl
  | 2, _ => rfl
  | 3, _ => rfl
theorem kid3 (a b c d : T Value) (g : T Value → T Value) : ∀ q, q < 4 → kid a b c (g d) q = if q = 3 then g (kid a b c d q) else kid a b c d q := fun q hq => by
  match q, hq with
  | 0, _ => rfl
  | 1, _ => rfl
  | 2, _ => rfl
  | 3, _ => rfl
theorem leaf_node (i : Nat) (v : Value) (h : (T.node none .leaf .leaf .leaf .leaf : T Value).get i = some v) : (T.leaf : T Value).get i = some v := by
  cases i with
  | zero => exact h
  | succ i =>
    rw [get_succ] at h
    have h4 : i % 4 < 4 := Nat.mod_lt _ (by decide)
    match i % 4, h4, h with
    | 0, _, h => exact h
    | 1, _, h => exact h
    | 2, _, h => exact h
    | 3, _, h => exact h
theorem putF_get : ∀ (fuel n : Nat) (x : Value) (t : T Value) (i : Nat) (v : Value), (putP (pathF fuel n) x t).get i = some v → (i = n ∧ v = x) ∨ (i ≠ n ∧ t.get i = some v)
  | 0, n, x, t, i, v, h => by cases h
  | fuel + 1, 0, x, t, i, v, h => by
    have key : ∀ (o : Option Value) (a b c d : T Value), (∀ i v, (T.node o a b c d).get i = some v → t.get i = some v) → (T.node (some x) a b c d).get i = some v → (i = 0 ∧ v = x) ∨ (i ≠ 0 ∧ t.get i = some v) := fun o a b c d hs h => by
      cases i with
      | zero => exact .inl ⟨rfl, (Option.some.inj h).symm⟩
      | succ i =>
        refine .inr ⟨by simp, hs _ _ ?_⟩
        rw [get_succ] at h ⊢
        exact h
    cases t with
    | leaf => exact key none .leaf .leaf .leaf .leaf leaf_node h
    | node o a b c d => exact key o a b c d (fun _ _ h => h) h
  | fuel + 1, m + 1, x, t, i, v, h => by
    have ih := putF_get fuel (m / 4) x
    rw [pathF_succ] at h
    have h4 : m % 4 < 4 := Nat.mod_lt _ (by decide)
    have key : ∀ (o : Option Value) (a b c d : T Value), (∀ i v, (T.node o a b c d).get i = some v → t.get i = some v) → ((i = m + 1 ∧ v = x) ∨ (i ≠ m + 1 ∧ (T.node o a b c d).get i = some v)) → (i = m + 1 ∧ v = x) ∨ (i ≠ m + 1 ∧ t.get i = some v) := fun o a b c d hs h => by
      rcases h with h | ⟨h1, h2⟩
      · exact .inl h
      · exact .inr ⟨h1, hs _ _ h2⟩
    cases t with
    | leaf =>
      refine key none .leaf .leaf .leaf .leaf leaf_node ?_
      split at h
      · rename_i hm
        exact kid_get (j := 0) (by decide) hm ih (kid0 _ _ _ _ _) rfl h
      · rename_i hm
        exact kid_get (j := 1) (by decide) hm ih (kid1 _ _ _ _ _) rfl h
      · rename_i hm
        exact kid_get (j := 2) (by decide) hm ih (kid2 _ _ _ _ _) rfl h
      · rename_i h0 h1 h2
        have hm : m % 4 = 3 := by
          have : m % 4 ≠ 0 := h0
          have : m % 4 ≠ 1 := h1
          have : m % 4 ≠ 2 := h2
          omega
        exact kid_get (j := 3) (by decide) hm ih (kid3 _ _ _ _ _) rfl h
    | node o a b c d =>
      refine key o a b c d (fun _ _ h => h) ?_
      split at h
      · rename_i hm
        exact kid_get (j := 0) (by decide) hm ih (kid0 _ _ _ _ _) rfl h
      · rename_i hm
        exact kid_get (j := 1) (by decide) hm ih (kid1 _ _ _ _ _) rfl h
      · rename_i hm
        exact kid_get (j := 2) (by decide) hm ih (kid2 _ _ _ _ _) rfl h
      · rename_i h0 h1 h2
        have hm : m % 4 = 3 := by
          have : m % 4 ≠ 0 := h0
          have : m % 4 ≠ 1 := h1
          have : m % 4 ≠ 2 := h2
          omega
        exact kid_get (j := 3) (by decide) hm ih (kid3 _ _ _ _ _) rfl h
theorem putP_get {n : Nat} {x : Value} {t : T Value} {i : Nat} {v : Value} (h : (putP (path n) x t).get i = some v) : (i = n ∧ v = x) ∨ (i ≠ n ∧ t.get i = some v) := putF_get 9 n x t i v h
theorem ev_eq {x : Operand} {f : T Value} {v : Value} (h : ev x f = some v) : evO f x = some v := by
  cases x with
  | tmp t => exact acc_get h
  | const c => exact h
  | global g => cases h
  | func g => exact h
theorem put_sound {ρ : Nat → Nm} {nx : Nat} {f : T Value} {a : Act} (h : FR ρ nx f a) {N : Nat} (hN : a.tmps.size = N) (d : Option Tmp) {v u : Value} (hv : VR ρ nx v u) : FR ρ nx (put N d v f) (a.put d u) := by
  cases d with
  | none => exact h
  | some d =>
    intro t x hx
    change (Bool.rec (motive := fun _ => T Value) f (putP (path d) v f) (Nat.ble (Nat.succ d) N)).get t = some x at hx
    show ∃ y, (a.tmps.setIfInBounds d u)[t]? = some y ∧ _
    rcases hb : Nat.ble (Nat.succ d) N with _ | _
    · rw [hb] at hx
      obtain ⟨y, h1, h2⟩ := h t x hx
      have hd : ¬ d < a.tmps.size := fun hlt => by
        have := Nat.ble_eq_true_of_le (Nat.lt_of_lt_of_eq hlt hN)
        rw [hb] at this
        cases this
      refine ⟨y, ?_, h2⟩
      rw [Array.setIfInBounds_eq_of_size_le (Nat.le_of_not_lt hd)]
      exact h1
    · rw [hb] at hx
      rcases putP_get hx with ⟨rfl, rfl⟩ | ⟨hne, hx⟩
      · have hlt : t < a.tmps.size := by rw [hN]; exact Nat.le_of_ble_eq_true hb
        exact ⟨u, Array.getElem?_setIfInBounds_self_of_lt hlt, hv⟩
      · obtain ⟨y, h1, h2⟩ := h t x hx
        exact ⟨y, by rw [Array.getElem?_setIfInBounds_ne (Ne.symm hne)]; exact h1, h2⟩
def R.ok : R → Prop
  | .fail _ => False
  | _ => True
def W (G : R → Prop) (r : R) : Prop := r.ok → G r
section
variable {G : R → Prop} {n : Nat} {f : T Value} {s : St} {v : Value}
theorem W.fail (n : Nat) : W G (.fail n) := fun h => False.elim h
theorem onO_w {α : Type} {o : Option α} {k : α → R} (h : ∀ x, o = some x → W G (k x)) : W G (onO n o k) := by
  cases o with
  | none => exact W.fail n
  | some x => exact h x rfl
theorem onB_w {b : Bool} {r : R} (h : b = true → W G r) : W G (onB n b r) := by
  cases b with
  | false => exact W.fail n
  | true => exact h rfl
theorem ble_w {a b : Nat} {r : R} (h : a ≤ b → W G r) : W G (onB n (Nat.ble a b) r) := onB_w fun e => h (Nat.le_of_ble_eq_true e)
theorem beq_w {a b : Nat} {r : R} (h : a = b → W G r) : W G (onB n (Nat.beq a b) r) := onB_w fun e => h (Nat.eq_of_beq_eq_true e)
theorem bnot_true {b : Bool} (h : bnot b = true) : b = false := by
  cases b
  · rfl
  · cases h
theorem not_w {b : Bool} {r : R} (h : b = false → W G r) : W G (onB n (bnot b) r) := onB_w fun e => h (bnot_true e)
theorem ne_w {a b : Nat} {r : R} (h : a ≠ b → W G r) : W G (onB n (bnot (Nat.beq a b)) r) := not_w fun e => h fun q => by rw [q, Nat.beq_refl] at e; cases e
theorem bool_w {b : Bool} {x y : R} (h0 : b = false → W G x) (h1 : b = true → W G y) : W G (Bool.rec (motive := fun _ => R) x y b) := by
  cases b with
  | false => exact h0 rfl
  | true => exact h1 rfl
theorem opt_w {α : Type} {o : Option α} {x : R} {k : α → R} (h0 : o = none → W G x) (h1 : ∀ y, o = some y → W G (k y)) : W G (Option.rec (motive := fun _ => R) x k o) := by
  cases o with
  | none => exact h0 rfl
  | some y => exact h1 y rfl
theorem onPtr_w {k : Nat → Nat → R} (h : ∀ n o, v = .pointer (some ⟨n, o, none⟩) → W G (k n o)) : W G (onPtr v k) := by
  cases v with
  | pointer a =>
    cases a with
    | none => exact W.fail 4
    | some a =>
      obtain ⟨n, o, q⟩ := a
      cases q with
      | none => exact h n o rfl
      | some q => exact W.fail 5
  | _ => exact W.fail 3
theorem onInt_w {k : IntKind → Int → R} (h : ∀ a b, v = .int a b → W G (k a b)) : W G (onInt v k) := by
  cases v with
  | int a b => exact h a b rfl
  | _ => exact W.fail 6
theorem onBool_w {k : Bool → R} (h : ∀ b, v = .bool b → W G (k b)) : W G (onBool v k) := by
  cases v with
  | bool b => exact h b rfl
  | _ => exact W.fail 7
theorem onSl_w {k : Option Addr → Nat → Nat → R} (h : ∀ a l c, v = .slice a l c → W G (k a l c)) : W G (onSl v k) := by
  cases v with
  | slice a l c => exact h a l c rfl
  | _ => exact W.fail 8
theorem onMap_w {k : Option Nat → R} (h : ∀ m, v = .map m → W G (k m)) : W G (onMap v k) := by
  cases v with
  | map m => exact h m rfl
  | _ => exact W.fail 9
theorem onAgg_w {k : Array Value → R} (h : ∀ a, v = .agg a → W G (k a)) : W G (onAgg v k) := by
  cases v with
  | agg a => exact h a rfl
  | _ => exact W.fail 10
theorem onTup_w {k : Array Value → R} (h : ∀ a, v = .tuple a → W G (k a)) : W G (onTup v k) := by
  cases v with
  | tuple a => exact h a rfl
  | _ => exact W.fail 11
theorem onFun_w {k : FuncId → Array Value → Array Value → R} {ky : Nat → R} (h : ∀ g a b, v = .func (.func g) a b → W G (k g a b)) (hy : ∀ l a b, v = .func (.yield l) a b → W G (ky l)) : W G (onFun v k ky) := by
  cases v with
  | func g a b =>
    cases g with
    | func g => exact h g a b rfl
    | yield l => exact hy l a b rfl
    | _ => exact W.fail 12
  | _ => exact W.fail 12
theorem onIface_w {k : TypeId → Value → R} (h : ∀ t u, v = .iface t u → W G (k t u)) : W G (onIface v k) := by
  cases v with
  | iface t u => exact h t u rfl
  | _ => exact W.fail 13
theorem onCells_w {k : T Value → Nat → TypeId → Nat → Nat → R} (h : ∀ t m e sz fz, s.h.get n = some (.cells t m e sz fz) → W G (k t m e sz fz)) : W G (onCells s n k) := onO_w fun a ha => by
  cases a with
  | cells t m e sz fz => exact h t m e sz fz ha
  | _ => exact W.fail 15
theorem onEnts_w {k : List MapEntry → Nat → R} (h : ∀ es c, s.h.get n = some (.map es c) → W G (k es c)) : W G (onEnts s n k) := onO_w fun a ha => by
  cases a with
  | map es c => exact h es c ha
  | _ => exact W.fail 17
theorem onEntsP_w {k : List MapEntry → Nat → R} {kp : List MapEntry → R} (h : ∀ es c, s.h.get n = some (.map es c) → W G (k es c)) (hp : ∀ es, s.h.get n = some (.pmap es) → W G (kp es)) : W G (onEntsP s n k kp) := onO_w fun a ha => by
  cases a with
  | map es c => exact h es c ha
  | pmap es => exact hp es ha
  | _ => exact W.fail 17
theorem onLoop_w {k : T Value → Nat → Array Tmp → Code → Code → R} (h : ∀ f N ps asg bd, s.h.get n = some (.loop f N ps asg bd) → W G (k f N ps asg bd)) : W G (onLoop s n k) := onO_w fun a ha => by
  cases a with
  | loop f N ps asg bd => exact h f N ps asg bd ha
  | _ => exact W.fail 19
theorem forceN_w {n : Nat} {k : Nat → R} (h : W G (k n)) : W G (forceN n k) := by cases n <;> exact h
theorem canonL_w : ∀ {l : List UInt8} {k : List UInt8 → R}, W G (k l) → W G (canonL l k)
  | [], k, h => h
  | x :: l, k, h => by
    show W G (forceN (UInt8.toNat x) (fun n => canonL l (fun l => k (UInt8.ofNat n :: l))))
    refine forceN_w (canonL_w ?_)
    rw [UInt8.ofNat_toNat]
    exact h
theorem canonB_w {b : ByteArray} {k : ByteArray → R} (h : W G (k b)) : W G (canonB b k) := canonL_w (by
  have e : (⟨⟨b.data.toList⟩⟩ : ByteArray) = b := rfl
  rw [e]
  exact h)
theorem canonI_w {z : Int} {k : Int → R} (h : W G (k z)) : W G (canonI z k) := by
  cases z with
  | ofNat n => exact forceN_w (k := fun n => k (.ofNat n)) h
  | negSucc n => exact forceN_w (k := fun n => k (.negSucc n)) h
theorem canonV_w {v : Value} {k : Value → R} (h : W G (k v)) : W G (canonV v k) := by
  unfold canonV
  split
  · exact canonI_w h
  · rename_i b
    cases b <;> exact h
  · exact canonB_w h
  · exact h
theorem forceT_w {t : T AO} {k : T AO → R} (h : W G (k t)) : W G (forceT t k) := by cases t <;> exact h
theorem newS_w {a : AO} {k : Nat → St → R} (h : W G (k s.nx (s.new a))) : W G (newS s a k) := by
  obtain ⟨t, nx⟩ := s
  show W G (forceN nx fun nx => forceT (t.set a nx) fun h => forceN (Nat.succ nx) fun m => k nx ⟨h, m⟩)
  exact forceN_w (forceT_w (forceN_w h))
theorem setS_w {a : AO} {k : St → R} (h : W G (k ⟨s.h.set a n, s.nx⟩)) : W G (setS s n a k) := by
  obtain ⟨t, nx⟩ := s
  show W G (forceT (t.set a n) fun h => k ⟨h, nx⟩)
  exact forceT_w h
theorem mkInt_w {i : IntKind} {c : Value → R} (h : W G (c (.int i (.ofNat n)))) : W G (mkInt i n c) := forceN_w h
theorem mkBool_w {b : Bool} {c : Value → R} (h : W G (c (.bool b))) : W G (mkBool b c) := by cases b <;> exact h
theorem onNat_w {i : Int} {k : Nat → R} (h : ∀ n, i = .ofNat n → W G (k n)) : W G (onNat i k) := by
  cases i with
  | ofNat n => exact h n rfl
  | negSucc n => exact W.fail 39
theorem onPlace_w {a : Option Addr} {k : Nat → Nat → Option Nat → R} (h : ∀ n o q, a = some ⟨n, o, q⟩ → W G (k n o q)) : W G (onPlace a k) := onO_w fun a ha => by
  obtain ⟨n, o, q⟩ := a
  exact h n o q ha
theorem idx_w {x : Option Operand} {d : Nat} {k : Nat → R} (h : ∀ n, idxA f x d = some n → W G (k n)) : W G (idx f x d k) := by
  cases x with
  | none => exact h d rfl
  | some x =>
    refine onO_w fun v hv => onInt_w fun i z hz => onNat_w fun n hn => forceN_w (h n ?_)
    subst hz hn
    unfold idxA
    simp only [ev_eq hv]
theorem forceV_w {k : Value → R} (h : W G (k v)) : W G (forceV v k) := onSl_w fun a l c hv => onPlace_w fun n o q ha => forceN_w (forceN_w (forceN_w (by subst hv ha; exact h)))
theorem evs_eq {f : T Value} : ∀ {xs : List Operand} {vs : List Value}, evs f xs = some vs → evAll f xs = some vs
  | [], vs, h => h
  | x :: xs, vs, h => by
    change Option.rec (motive := fun _ => Option (List Value)) none (fun v => Option.rec (motive := fun _ => Option (List Value)) none (fun vs => some (v :: vs)) (evs f xs)) (ev x f) = some vs at h
    rcases h1 : ev x f with _ | v
    · rw [h1] at h
      cases h
    · rw [h1] at h
      rcases h2 : evs f xs with _ | us
      · rw [h2] at h
        cases h
      · rw [h2] at h
        unfold evAll
        rw [ev_eq h1, evs_eq h2]
        exact h
theorem evp_eq {f : T Value} : ∀ {xs : List (Nat × Operand)} {vs : List (Nat × Value)}, evp f xs = some vs → evParts f xs = some vs
  | [], vs, h => h
  | x :: xs, vs, h => by
    change Option.rec (motive := fun _ => Option (List (Nat × Value))) none (fun v => Option.rec (motive := fun _ => Option (List (Nat × Value))) none (fun vs => some ((x.1, v) :: vs)) (evp f xs)) (ev x.2 f) = some vs at h
    rcases h1 : ev x.2 f with _ | v
    · rw [h1] at h
      cases h
    · rw [h1] at h
      rcases h2 : evp f xs with _ | us
      · rw [h2] at h
        cases h
      · rw [h2] at h
        unfold evParts
        rw [ev_eq h1, evp_eq h2]
        exact h
theorem app_eq {α : Type} : ∀ a b : List α, app a b = a ++ b
  | [], _ => rfl
  | x :: a, b => congrArg (x :: ·) (app_eq a b)
theorem allOne_eq : ∀ vs : List Value, allOne vs = vs.all (·.oneCell')
  | [] => rfl
  | v :: vs => by
    change Bool.rec (motive := fun _ => Bool) false (allOne vs) (v.oneCell') = _
    rw [allOne_eq vs]
    simp only [List.all_cons]
    cases v.oneCell' <;> rfl
end
end Go.Proofs.YtnjabndkaabogaaGreatDoor.Ev
