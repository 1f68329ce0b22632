/- The evaluator itself: functions alone, no proofs. -/
import Derived.Test.YtnkicnhjllmmjaaSx1
namespace Go.Proofs.Ytnkicnhjllmmjaa.Sx
open Go
set_option linter.unusedVariables false

/-! ### Small numbers, written out -/
def forceNat {β : Type} (n : Nat) (K : Nat → β) : β :=
  match n with
  | 0 => K 0
  | m + 1 => K (Nat.succ m)

def forceInt {β : Type} (n : Int) (K : Int → β) : β :=
  match n with
  | .ofNat m => forceNat m fun m => K (.ofNat m)
  | .negSucc m => forceNat m fun m => K (.negSucc m)

def iLt : Int → Int → Bool
  | .ofNat a, .ofNat b => Nat.blt a b
  | .ofNat _, .negSucc _ => false
  | .negSucc _, .ofNat _ => true
  | .negSucc a, .negSucc b => Nat.blt b a

def iEq : Int → Int → Bool
  | .ofNat a, .ofNat b => Nat.beq a b
  | .negSucc a, .negSucc b => Nat.beq a b
  | _, _ => false

def wrapU (M : Nat) : Int → Int
  | .ofNat m => .ofNat (m % M)
  | .negSucc m => .ofNat (M - 1 - m % M)

def signedOf (M H : Nat) (r : Nat) : Int :=
  match Nat.blt r H with
  | true => .ofNat r
  | false => .negSucc (M - 1 - r)

def wrapS (M H : Nat) : Int → Int
  | .ofNat m => match Nat.blt m H with
    | true => .ofNat m
    | false => signedOf M H (m % M)
  | .negSucc m => match Nat.blt m H with
    | true => .negSucc m
    | false => signedOf M H (M - 1 - m % M)

def wrapK : IntKind → Int → Int
  | .u8 => wrapU 256
  | .u16 => wrapU 65536
  | .u32 => wrapU 4294967296
  | .u64 => wrapU 18446744073709551616
  | .i8 => wrapS 256 128
  | .i16 => wrapS 65536 32768
  | .i32 => wrapS 4294967296 2147483648
  | .i64 => wrapS 18446744073709551616 9223372036854775808

/-- Below it both sides of a bit operation are as they are. -/
def halfOf : IntKind → Nat
  | .u8 => 256
  | .u16 => 65536
  | .u32 => 4294967296
  | .u64 => 18446744073709551616
  | .i8 => 128
  | .i16 => 32768
  | .i32 => 2147483648
  | .i64 => 9223372036854775808

def bitsSlow (op : BinOp) (k : IntKind) (x y : Int) : Option Int :=
  match op with
  | .and => some (k.wrap ((BitVec.ofInt k.bits x &&& BitVec.ofInt k.bits y).toNat))
  | .or => some (k.wrap ((BitVec.ofInt k.bits x ||| BitVec.ofInt k.bits y).toNat))
  | .xor => some (k.wrap ((BitVec.ofInt k.bits x ^^^ BitVec.ofInt k.bits y).toNat))
  | .andNot => some (k.wrap ((BitVec.ofInt k.bits x &&& ~~~ BitVec.ofInt k.bits y).toNat))
  | _ => none

def bitsK (op : BinOp) (k : IntKind) (x y : Int) : Option Int :=
  match x, y with
  | .ofNat a, .ofNat b =>
    match Nat.blt a (halfOf k) && Nat.blt b (halfOf k) with
    | true => match op with
      | .and => some (.ofNat (Nat.land a b))
      | .or => some (.ofNat (Nat.lor a b))
      | .xor => some (.ofNat (Nat.xor a b))
      | op => bitsSlow op k x y
    | false => bitsSlow op k x y
  | _, _ => bitsSlow op k x y

def bitsN : IntKind → Nat
  | .i8 | .u8 => 8
  | .i16 | .u16 => 16
  | .i32 | .u32 => 32
  | .i64 | .u64 => 64

def minN (a b : Nat) : Nat :=
  match Nat.ble a b with
  | true => a
  | false => b

def shiftK (op : BinOp) (k : IntKind) (x y : Int) : Option Int :=
  match y with
  | .negSucc _ => none
  | .ofNat m =>
    match op, x with
    | .shl, .ofNat a => some (wrapK k (.ofNat (a * 2 ^ minN m (bitsN k))))
    | .shr, .ofNat a => some (.ofNat (a / 2 ^ minN m (bitsN k)))
    | .shl, x => some (k.wrap (x * 2 ^ min m k.bits))
    | .shr, x => some (x.fdiv (2 ^ min m k.bits))
    | _, _ => none

def arithK (op : BinOp) (k : IntKind) (x y : Int) : Option Int :=
  match op with
  | .add => some (wrapK k (x + y))
  | .sub => some (wrapK k (x - y))
  | .mul => some (wrapK k (x * y))
  | .quo => match iEq y 0 with
    | true => none
    | false => some (wrapK k (x.tdiv y))
  | .rem => match iEq y 0 with
    | true => none
    | false => some (x.tmod y)
  | .and => bitsK .and k x y
  | .or => bitsK .or k x y
  | .xor => bitsK .xor k x y
  | .andNot => bitsK .andNot k x y
  | _ => none

def cmpK (op : BinOp) (x y : Int) : Option Bool :=
  match op with
  | .eql => some (iEq x y)
  | .neq => some (!iEq x y)
  | .lss => some (iLt x y)
  | .leq => some (!iLt y x)
  | .gtr => some (iLt y x)
  | .geq => some (!iLt x y)
  | _ => none

/-! ### Lists -/
def takeN {α : Type} : Nat → List α → Option (List α)
  | 0, _ => some []
  | n + 1, x :: xs => match takeN n xs with
    | some l => some (x :: l)
    | none => none
  | _ + 1, [] => none

def dropN {α : Type} : Nat → List α → Option (List α)
  | 0, l => some l
  | n + 1, _ :: xs => dropN n xs
  | _ + 1, [] => none

def atN {α : Type} : Nat → List α → Option α
  | 0, x :: _ => some x
  | n + 1, _ :: xs => atN n xs
  | _, [] => none

/-- Some in the place of those from o on. -/
def putL {α : Type} : Nat → List α → List α → Option (List α)
  | 0, cs, [] => some cs
  | 0, _ :: cs, v :: vs => match putL 0 cs vs with
    | some l => some (v :: l)
    | none => none
  | 0, [], _ :: _ => none
  | o + 1, c :: cs, vs => match putL o cs vs with
    | some l => some (c :: l)
    | none => none
  | _ + 1, [], _ => none

def appL {α : Type} : List α → List α → List α
  | [], ys => ys
  | x :: xs, ys => x :: appL xs ys

/-- A list, written out. -/
def forceL {α β : Type} : List α → (List α → β) → β
  | [], K => K []
  | x :: xs, K => forceL xs fun l => K (x :: l)

def forceNats {β : Type} : List Nat → (List Nat → β) → β
  | [], K => K []
  | x :: xs, K => forceNat x fun x => forceNats xs fun l => K (x :: l)

def repL {α : Type} : Nat → List α → List α
  | 0, _ => []
  | n + 1, z => appL z (repL n z)

def eqNats : List Nat → List Nat → Bool
  | [], [] => true
  | a :: x, b :: y => match Nat.beq a b with
    | true => eqNats x y
    | false => false
  | _, _ => false

def ltNats : List Nat → List Nat → Bool
  | _, [] => false
  | [], _ :: _ => true
  | a :: x, b :: y => match Nat.beq a b with
    | true => ltNats x y
    | false => Nat.blt a b

/-! ### Types and functions -/
inductive Sh where
  | bool
  | int (k : IntKind)
  | str
  | ptr (e : Nat)
  | slice (e : Nat)
  /-- of each field: where it lies, its type, is its name blank? -/
  | struct (fs : List (Nat × Nat × Bool))
  | arr (n e : Nat)
  | iface
  | fn
  | uptr
  | other

structure Ty where
  sh : Sh
  size : Nat
  bytes : Nat
  zero : List SV
  /-- a struct whose values may be held against each other -/
  eqs : Bool

def Sh.isAgg : Sh → Bool
  | .struct _ | .arr _ _ => true
  | _ => false

abbrev Hook := List SV → St → Option (SV × St)

structure Env where
  types : Tree Ty
  funcs : Tree Func
  hooks : Tree Hook
  /-- functions without a body, of values alone -/
  exts : Tree (List SV → Option SV)
  /-- by a type and a method's name: the function, for a receiver that is handed on as it is -/
  methods : List (Nat × String × Nat)
  lo : Nat → Int
  hi : Nat → Int

def scalar : SV → Bool
  | .agg _ | .tup _ => false
  | _ => true

def allScalar : List SV → Bool
  | [] => true
  | x :: xs => match scalar x with
    | true => allScalar xs
    | false => false

def cellsOf : SV → List SV
  | .agg cs => cs
  | v => [v]

def ofConst1 : Value → Option SV
  | .bool b => some (.bool b)
  | .int k n => some (.int k n)
  | .string s => some (.str (s.data.toList.map UInt8.toNat))
  | .pointer none => some .nilPtr
  | .slice none 0 0 => some .nilSl
  | .nilFunc => some .nilFn
  | .nilIface => some .nilIf
  | _ => none

def ofConsts : List Value → Option (List SV)
  | [] => some []
  | v :: vs => match ofConst1 v, ofConsts vs with
    | some x, some xs => some (x :: xs)
    | _, _ => none

def ofConst : Value → Option SV
  | .agg cs => match ofConsts cs.toList with
    | some l => some (.agg l)
    | none => none
  | .tuple vs => match vs.toList with
    | [] => some .undef
    | _ => none
  | v => ofConst1 v

/-! ### Temporaries -/
structure Tm where
  t : Tree SV
  size : Nat

def Tm.at (tm : Tm) (d : Nat) : SV :=
  match tm.t.get d with
  | some v => v
  | none => .undef

def evalS (tm : Tm) : Operand → Option SV
  | .tmp t => some (tm.at t)
  | .const v => ofConst v
  | .global _ => none
  | .func f => some (.fn (.func f) [] [])

def evalsS (tm : Tm) : List Operand → Option (List SV)
  | [] => some []
  | x :: xs => match evalS tm x, evalsS tm xs with
    | some v, some vs => some (v :: vs)
    | _, _ => none

def putT {β : Type} (tm : Tm) (dst : Option Nat) (v : SV) (K : Tm → Option β) : Option β :=
  match dst with
  | none => K tm
  | some d => match Nat.blt d tm.size with
    | true => Tree.put 60 tm.t d (some v) fun t => K ⟨t, tm.size⟩
    | false => none

/-! ### Memory -/
def rd (s : St) (i o n : Nat) : Option (List SV) :=
  match s.heap.get i with
  | some B => match dropN o B.cells with
    | some l => takeN n l
    | none => none
  | none => none

def wrt {β : Type} (s : St) (i o : Nat) (vs : List SV) (K : St → Option β) : Option β :=
  match s.heap.get i with
  | some B => match allScalar vs, putL o B.cells vs with
    | true, some cs => Tree.put 60 s.heap i (some ⟨B.elem, cs, B.exact⟩) fun h => K ⟨h, s.next, i :: s.wr⟩
    | _, _ => none
  | none => none

def new {β : Type} (s : St) (B : Blk) (K : Nat → St → Option β) : Option β :=
  match allScalar B.cells with
  | true => Tree.put 60 s.heap s.next (some B) fun h => forceNat (s.next + 1) fun n => K s.next ⟨h, n, s.wr⟩
  | false => none

def kill {β : Type} (s : St) (i : Nat) (K : St → Option β) : Option β :=
  Tree.put 60 s.heap i none fun h => K ⟨h, s.next, i :: s.wr⟩

/-! ### Operations -/
inductive SNext where
  | val (v : SV)
  | skip
  | enter (f : Nat) (args : List SV)

def retV (v : SV) (s : St) : Option (SNext × St) := some (.val v, s)
def retB (b : Bool) (s : St) : Option (SNext × St) :=
  match b with
  | true => some (.val (.bool true), s)
  | false => some (.val (.bool false), s)
def retI (k : IntKind) (n : Int) (s : St) : Option (SNext × St) := forceInt n fun n => some (.val (.int k n), s)
def retS (l : List Nat) (s : St) : Option (SNext × St) := forceNats l fun l => some (.val (.str l), s)

def partS (E : Env) (t : Nat) (cs : List SV) (off : Nat) : Option SV :=
  match E.types.get t with
  | some ty => match ty.sh.isAgg with
    | true => match dropN off cs with
      | some l => match takeN ty.size l with
        | some l => some (.agg l)
        | none => none
      | none => none
    | false => atN off cs
  | none => none

/-- The numbers that a value may be, at least and at most. -/
def rangeOf (E : Env) : SV → Option (Int × Int)
  | .int _ n => some (n, n)
  | .symI i c => some (E.lo i + c, E.hi i + c)
  | _ => none

def symLt (E : Env) (x y : SV) : Option Bool :=
  match rangeOf E x, rangeOf E y with
  | some (a, b), some (c, d) =>
    match iLt b c, iLt a d with
    | true, _ => some true
    | false, false => some false
    | false, true => match x, y with
      | .symI i p, .symI j q => match Nat.beq i j with
        | true => some (iLt p q)
        | false => none
      | _, _ => none
  | _, _ => none

def symEq (E : Env) (x y : SV) : Option Bool :=
  match rangeOf E x, rangeOf E y with
  | some (a, b), some (c, d) =>
    match iLt b c || iLt d a with
    | true => some false
    | false => match x, y with
      | .symI i p, .symI j q => match Nat.beq i j with
        | true => some (iEq p q)
        | false => none
      | _, _ => none
  | _, _ => none

def notO : Option Bool → Option Bool
  | some true => some false
  | some false => some true
  | none => none

def symCmp (E : Env) (op : BinOp) (x y : SV) : Option Bool :=
  match op with
  | .eql => symEq E x y
  | .neq => notO (symEq E x y)
  | .lss => symLt E x y
  | .leq => notO (symLt E y x)
  | .gtr => symLt E y x
  | .geq => notO (symLt E x y)
  | _ => none

def inI64 (E : Env) (i : Nat) (c : Int) : Bool :=
  !iLt (E.lo i + c) (-9223372036854775808) && iLt (E.hi i + c) 9223372036854775808

/-- i + c, and n more. -/
def symAdd (E : Env) (i : Nat) (c : Int) (s : St) : Option (SNext × St) :=
  match inI64 E i c with
  | true => forceInt c fun c => some (.val (.symI i c), s)
  | false => none

def retO (b : Option Bool) (s : St) : Option (SNext × St) :=
  match b with
  | some b => retB b s
  | none => none

/-- Are two cells of such a type the same? -/
def eqCell (sh : Sh) (x y : SV) : Option Bool :=
  match sh, x, y with
  | .bool, .bool a, .bool b => some (a == b)
  | .int _, .int j a, .int k b => if j = k then some (iEq a b) else none
  | .int .i64, .symI i a, .symI j b => if i = j then some (iEq a b) else none
  | .str, .str a, .str b => some (eqNats a b)
  | .str, .symS i, .symS j => if i = j then some true else none
  | .ptr _, .nilPtr, .nilPtr => some true
  | .ptr _, .nilPtr, .ptr _ _ => some false
  | .ptr _, .ptr _ _, .nilPtr => some false
  | _, _, _ => none

def eqFs (E : Env) (eq : Nat → SV → SV → Option Bool) (xs ys : List SV) : List (Nat × Nat × Bool) → Option Bool
  | [] => some true
  | (off, t, blank) :: fs =>
    match blank with
    | true => eqFs E eq xs ys fs
    | false => match partS E t xs off, partS E t ys off with
      | some a, some b => match eq t a b with
        | some true => eqFs E eq xs ys fs
        | some false => some false
        | none => none
      | _, _ => none

def eqTy (E : Env) : Nat → Nat → SV → SV → Option Bool
  | 0, _, _, _ => none
  | d + 1, t, x, y =>
    match E.types.get t with
    | some ty => match ty.sh with
      | .struct fs => match ty.eqs, x, y with
        | true, .agg xs, .agg ys => eqFs E (eqTy E d) xs ys fs
        | _, _, _ => none
      | sh => eqCell sh x y
    | none => none

end Go.Proofs.Ytnkicnhjllmmjaa.Sx
