/- The evaluator: operations, code, calls. No proofs here. -/
import Derived.Test.YtnkicnhjllmmjaaSx2
namespace Go.Proofs.Ytnkicnhjllmmjaa.Sx
open Go
set_option linter.unusedVariables false

def small (n : Nat) : Bool := Nat.blt n 4294967296

/-- A number from 0 to a limit. -/
def idx (v : SV) (most : Nat) : Option Nat :=
  match v with
  | .int _ (.ofNat m) => match Nat.ble m most with
    | true => some m
    | false => none
  | _ => none

def binS (E : Env) (op : BinOp) (t : Nat) (ox oy : Operand) (x y : SV) (s : St) : Option (SNext × St) :=
  match x, y with
  | .int j a, .int k b =>
    match op with
    | .shl | .shr => match shiftK op j a b with
      | some n => retI j n s
      | none => none
    | .eql | .neq | .lss | .leq | .gtr | .geq =>
      if j = k then retO (cmpK op a b) s else none
    | op => if j = k then (match arithK op j a b with
      | some n => retI j n s
      | none => none) else none
  | .symI i c, .int .i64 n =>
    match op with
    | .add => symAdd E i (c + n) s
    | .sub => symAdd E i (c - n) s
    | .eql | .neq | .lss | .leq | .gtr | .geq => retO (symCmp E op x y) s
    | _ => none
  | .int .i64 n, .symI i c =>
    match op with
    | .add => symAdd E i (n + c) s
    | .eql | .neq | .lss | .leq | .gtr | .geq => retO (symCmp E op x y) s
    | _ => none
  | .symI i c, .symI j d =>
    match op with
    | .sub => if i = j then retI .i64 (wrapK .i64 (c - d)) s else none
    | .eql | .neq | .lss | .leq | .gtr | .geq => retO (symCmp E op x y) s
    | _ => none
  | .str a, .str b =>
    match op with
    | .add => match small (a.length + b.length) with
      | true => retS (appL a b) s
      | false => none
    | .eql => retB (eqNats a b) s
    | .neq => retB (!eqNats a b) s
    | .lss => retB (ltNats a b) s
    | .leq => retB (ltNats a b || eqNats a b) s
    | .gtr => retB (!(ltNats a b || eqNats a b)) s
    | .geq => retB (!ltNats a b) s
    | _ => none
  | .symS i, .symS j =>
    if i = j then (match op with
      | .eql => retB true s
      | .neq => retB false s
      | _ => none) else none
  | .bool a, .bool b =>
    match E.types.get t with
    | some ty => match ty.sh, op with
      | .bool, .eql => retB (a == b) s
      | .bool, .neq => retB (!(a == b)) s
      | _, _ => none
    | none => none
  | .nilPtr, .nilPtr | .nilPtr, .ptr _ _ | .ptr _ _, .nilPtr =>
    match E.types.get t with
    | some ty => match eqCell ty.sh x y with
      | some b => match op with
        | .eql => retB b s
        | .neq => retB (!b) s
        | _ => none
      | none => none
    | none => none
  | .ptr i o, .ptr j p =>
    match E.types.get t with
    | some ty => match ty.sh with
      | .ptr e => match E.types.get e, Nat.beq i j with
        | some te, true => match te.size, op with
          | _ + 1, .eql => retB (Nat.beq o p) s
          | _ + 1, .neq => retB (!Nat.beq o p) s
          | _, _ => none
        | _, _ => none
      | _ => none
    | none => none
  | .nilIf, .nilIf =>
    match ox, oy with
    | .const _, _ | _, .const _ =>
      match E.types.get t with
      | some ty => match ty.sh, op with
        | .iface, .eql => retB true s
        | .iface, .neq => retB false s
        | _, _ => none
      | none => none
    | _, _ => none
  | .nilIf, .iface _ _ | .iface _ _, .nilIf =>
    match E.types.get t with
    | some ty => match ty.sh, op with
      | .iface, .eql => retB false s
      | .iface, .neq => retB true s
      | _, _ => none
    | none => none
  | .nilSl, .nilSl =>
    match E.types.get t with
    | some ty => match ty.sh, op with
      | .slice _, .eql => retB true s
      | .slice _, .neq => retB false s
      | _, _ => none
    | none => none
  | .nilSl, .sl _ _ _ _ | .sl _ _ _ _, .nilSl | .nilSl, .emp _ | .emp _, .nilSl | .nilSl, .etl _ _ _ | .etl _ _ _, .nilSl =>
    match E.types.get t with
    | some ty => match ty.sh, op with
      | .slice _, .eql => retB false s
      | .slice _, .neq => retB true s
      | _, _ => none
    | none => none
  | .agg _, .agg _ =>
    match eqTy E 50 t x y with
    | some b => match op with
      | .eql => retB b s
      | .neq => retB (!b) s
      | _ => none
    | none => none
  | _, _ => none

def unS (op : UnOp) (x : SV) (s : St) : Option (SNext × St) :=
  match op, x with
  | .neg, .int k n => retI k (wrapK k (0 - n)) s
  | .xor, .int k n => match bitsK .xor k (if k.signed then -1 else k.max) n with
    | some m => retI k m s
    | none => none
  | .not, .bool b => retB (!b) s
  | _, _ => none

def byteCells : List Nat → List SV
  | [] => []
  | x :: xs => .int .u8 (.ofNat x) :: byteCells xs

def cellBytes : List SV → Option (List Nat)
  | [] => some []
  | .int .u8 (.ofNat n) :: xs => match Nat.blt n 256, cellBytes xs with
    | true, some l => some (n :: l)
    | _, _ => none
  | _ :: _ => none

def convS (E : Env) (src dst : Nat) (x : SV) (s : St) : Option (SNext × St) :=
  match E.types.get src, E.types.get dst with
  | some a, some b =>
    match b.sh, x with
    | .int k, .int _ n => retI k (wrapK k n) s
    | .int .i64, .symI i c => match inI64 E i c with
      | true => retV x s
      | false => none
    | .str, .str _ => retV x s
    | .str, .symS _ => retV x s
    | .slice e, .str l => match E.types.get e with
      | some te => match te.sh, a.sh with
        | .int .u8, .str => match small l.length with
          | true => new s ⟨e, byteCells l, false⟩ fun i s => some (.val (.sl i 0 l.length (.tail 1)), s)
          | false => none
        | _, _ => none
      | none => none
    | .uptr, .nilPtr | .ptr _, .nilPtr => match a.sh with
      | .ptr _ | .uptr => match a.sh, b.sh with
        | .ptr _, .ptr _ => none
        | _, _ => retV .nilPtr s
      | _ => none
    | .uptr, .ptr i o => match a.sh, s.heap.get i with
      | .ptr e, some B => match E.types.get e, Nat.blt o B.cells.length with
        | some te, true => match te.size with
          | _ + 1 => retV (.ptr i o) s
          | 0 => none
        | _, _ => none
      | _, _ => none
    | .ptr u, .ptr i o => match a.sh, s.heap.get i with
      | .uptr, some B => match E.types.get u, B.exact, Nat.beq B.elem u, o with
        | some tu, true, true, 0 => match tu.size with
          | k + 1 => match Nat.ble (k + 1) B.cells.length with
            | true => retV (.ptr i 0) s
            | false => none
          | 0 => none
        | _, _, _, _ => none
      | _, _ => none
    | .str, .nilSl | .str, .emp _ | .str, .etl _ _ _ => match a.sh with
      | .slice e => match E.types.get e with
        | some te => match te.sh with
          | .int .u8 => retS [] s
          | _ => none
        | none => none
      | _ => none
    | .str, .sl i o n _ => match a.sh with
      | .slice e => match E.types.get e with
        | some te => match te.sh, rd s i o n with
          | .int .u8, some cs => match cellBytes cs with
            | some l => retS l s
            | none => none
          | _, _ => none
        | none => none
      | _ => none
    | _, _ => none
  | _, _ => none

def mostS (sure : Nat) (cap : Option Nat) (mx : Option SV) : Option (Option Nat) :=
  match mx with
  | none => some cap
  | some v => match idx v (cap.getD sure) with
    | some m => some (some m)
    | none => none

def hiS (len sure : Nat) (m : Option Nat) (hi mx : Option SV) : Option Nat :=
  match hi with
  | some v => idx v (m.getD sure)
  | none => match mx with
    | some _ => none
    | none => some len

def loS (h : Nat) (lo : Option SV) : Option Nat :=
  match lo with
  | some v => idx v h
  | none => some 0

/-- The bounds of a slice expression: from, to, most. The last one is none: not known; then 'to' is at most 'sure' (or the length). -/
def boundsS (len sure : Nat) (cap : Option Nat) (lo hi mx : Option SV) : Option (Nat × Nat × Option Nat) :=
  match mostS sure cap mx with
  | none => none
  | some m => match hiS len sure m hi mx with
    | none => none
    | some h => match loS h lo with
      | none => none
      | some l => some (l, h, m)

def known (s : St) (i : Nat) : Nat :=
  match s.heap.get i with
  | some B => B.cells.length
  | none => 0

def sliceS (E : Env) (t : Nat) (x : SV) (lo hi mx : Option SV) (s : St) : Option (SNext × St) :=
  match E.types.get t with
  | none => none
  | some ty =>
    match ty.sh, x with
    | .arr n e, .ptr i o => match E.types.get e, boundsS n n (some n) lo hi mx with
      | some te, some (l, h, some m) =>
        match Nat.beq m l with
        | true => retV (.emp (some 0)) s
        | false => retV (.sl i (o + l * te.size) (h - l) (.exact (m - l))) s
      | _, _ => none
    | .str, .str l => match mx, boundsS l.length l.length (some l.length) lo hi none with
      | none, some (a, b, _) => match dropN a l with
        | some r => match takeN (b - a) r with
          | some r => retS r s
          | none => none
        | none => none
      | _, _ => none
    | .slice e, .nilSl => match E.types.get e with
      | some te => match boundsS 0 0 (some 0) lo hi mx with
        | some _ => retV .nilSl s
        | none => none
      | none => none
    | .slice e, .emp oc => match E.types.get e with
      | some te => match boundsS 0 0 oc lo hi mx with
        | some (_, h, om) => match h, om with
          | 0, some m => retV (.emp (some m)) s
          | 0, none => retV (.emp none) s
          | _, _ => none
        | none => none
      | none => none
    | .slice e, .etl i o es => match E.types.get e with
      | some te => match boundsS 0 0 none lo hi mx with
        | some (_, 0, none) => retV (.etl i o es) s
        | some (_, 0, some 0) => retV (.emp (some 0)) s
        | _ => none
      | none => none
    | .slice e, .sl i o n (.exact c) => match E.types.get e, boundsS n c (some c) lo hi mx with
      | some te, some (l, h, some m) =>
        match Nat.beq m l with
        | true => retV (.emp (some 0)) s
        | false => retV (.sl i (o + l * te.size) (h - l) (.exact (m - l))) s
      | _, _ => none
    | .slice e, .sl i o n (.tail es) => match E.types.get e with
      | some te => match Nat.beq te.size es with
        | true =>
          match boundsS n n none lo hi mx with
          | some (l, h, some m) =>
            match Nat.beq m l with
            | true => retV (.emp (some 0)) s
            | false => retV (.sl i (o + l * es) (h - l) (.exact (m - l))) s
          | some (l, h, none) =>
            match Nat.blt l n with
            | true => retV (.sl i (o + l * es) (h - l) (.tail es)) s
            | false => match l with
              | 0 => retV (.sl i o 0 (.tail es)) s
              | _ => retV (.etl i (o + n * es) es) s
          | none => match boundsS n ((known s i - o) / es) none lo hi mx with
            | some (l, h, none) => match Nat.blt l ((known s i - o) / es) with
              | true => retV (.sl i (o + l * es) (h - l) (.tail es)) s
              | false => none
            | _ => none
        | false => none
      | none => none
    | _, _ => none

def indexAddrS (E : Env) (t : Nat) (x ix : SV) (s : St) : Option (SNext × St) :=
  match E.types.get t with
  | none => none
  | some ty =>
    match ty.sh, x, ix with
    | .arr n e, .ptr i o, .int _ (.ofNat m) => match E.types.get e, Nat.blt m n with
      | some te, true => forceNat (o + m * te.size) fun o => some (.val (.ptr i o), s)
      | _, _ => none
    | .slice e, .sl i o n _, .int _ (.ofNat m) => match E.types.get e, Nat.blt m n with
      | some te, true => forceNat (o + m * te.size) fun o => some (.val (.ptr i o), s)
      | _, _ => none
    | _, _, _ => none

def indexS (E : Env) (t : Nat) (x ix : SV) (s : St) : Option (SNext × St) :=
  match E.types.get t with
  | none => none
  | some ty =>
    match ty.sh, x, ix with
    | .str, .str l, .int _ (.ofNat m) => match atN m l with
      | some b => some (.val (.int .u8 (.ofNat b)), s)
      | none => none
    | .arr n e, .agg cs, .int _ (.ofNat m) => match E.types.get e, Nat.blt m n with
      | some te, true => match partS E e cs (m * te.size) with
        | some v => retV v s
        | none => none
      | _, _ => none
    | _, _, _ => none

def fieldOf (E : Env) (t f : Nat) : Option (Nat × Nat) :=
  match E.types.get t with
  | some ty => match ty.sh with
    | .struct fs => match atN f fs with
      | some (off, ft, _) => some (off, ft)
      | none => none
    | _ => none
  | none => none

def fieldAddrS (E : Env) (t : Nat) (x : SV) (f : Nat) (s : St) : Option (SNext × St) :=
  match fieldOf E t f, x with
  | some (off, ft), .ptr i o => match E.types.get ft with
    | some ty => match ty.size with
      | 0 => none
      | _ + 1 => forceNat (o + off) fun o => some (.val (.ptr i o), s)
    | none => none
  | _, _ => none

def fieldS (E : Env) (t : Nat) (x : SV) (f : Nat) (s : St) : Option (SNext × St) :=
  match fieldOf E t f, x with
  | some (off, ft), .agg cs => match partS E ft cs off with
    | some v => retV v s
    | none => none
  | _, _ => none

def loadS (E : Env) (t i o : Nat) (s : St) : Option SV :=
  match E.types.get t with
  | some ty => match ty.sh.isAgg with
    | true => match rd s i o ty.size with
      | some cs => some (.agg cs)
      | none => none
    | false => match rd s i o 1 with
      | some (v :: _) => some v
      | _ => none
  | none => none

def storeS (E : Env) (t i o : Nat) (v : SV) (s : St) : Option (SNext × St) :=
  match E.types.get t with
  | some ty => match Nat.beq (cellsOf v).length ty.size with
    | true => wrt s i o (cellsOf v) fun s => some (.skip, s)
    | false => none
  | none => none

/-- Parts laid into cells. -/
def fillS (place : Nat → Option (Nat × Nat)) (cells : List SV) : List (Nat × SV) → Option (List SV)
  | [] => some cells
  | (i, v) :: rest =>
    match place i with
    | some (off, size) => match Nat.beq (cellsOf v).length size, putL off cells (cellsOf v) with
      | true, some cs => fillS place cs rest
      | _, _ => none
    | none => none

def evalParts (tm : Tm) : List (Nat × Operand) → Option (List (Nat × SV))
  | [] => some []
  | (i, x) :: r => match evalS tm x, evalParts tm r with
    | some v, some l => some ((i, v) :: l)
    | _, _ => none

def placesS (E : Env) : List (Nat × Nat × Bool) → Option (List (Nat × Nat))
  | [] => some []
  | (off, ft, _) :: fs => match E.types.get ft, placesS E fs with
    | some tf, some l => some ((off, tf.size) :: l)
    | _, _ => none

def buildS (E : Env) (t : Nat) (parts : List (Nat × SV)) (s : St) : Option (SNext × St) :=
  match E.types.get t with
  | none => none
  | some ty =>
    match ty.sh with
    | .struct fs =>
      match placesS E fs with
      | some ps => match fillS (fun i => atN i ps) ty.zero parts with
        | some cs => retV (.agg cs) s
        | none => none
      | none => none
    | .arr _ e => match E.types.get e with
      | some te => match fillS (fun i => some (i * te.size, te.size)) ty.zero parts with
        | some cs => retV (.agg cs) s
        | none => none
      | none => none
    | _ => none

def buildSliceS (E : Env) (t len : Nat) (parts : List (Nat × SV)) (s : St) : Option (SNext × St) :=
  match E.types.get t with
  | none => none
  | some ty =>
    match ty.sh with
    | .slice e => match E.types.get e with
      | some te => match Nat.ble (len * te.size) 16777216, te.size with
        | true, _ + 1 => match fillS (fun i => some (i * te.size, te.size)) (repL len te.zero) parts with
          | some cs => new s ⟨e, cs, true⟩ fun i s => some (.val (.sl i 0 len (.exact len)), s)
          | none => none
        | _, _ => none
      | none => none
    | _ => none

def makeSliceS (E : Env) (t : Nat) (l c : SV) (s : St) : Option (SNext × St) :=
  match E.types.get t with
  | none => none
  | some ty =>
    match ty.sh, l, c with
    | .slice e, .int _ (.ofNat l), .int _ (.ofNat c) => match E.types.get e with
      | some te => match Nat.ble l c, Nat.ble (te.bytes * c) 281474976710656, small c, te.size with
        | true, true, true, _ + 1 => forceL (repL c te.zero) fun cs =>
          new s ⟨e, cs, true⟩ fun i s => some (.val (.sl i 0 l (.exact c)), s)
        | _, _, _, _ => none
      | none => none
    | _, _, _ => none

def zeroS (ty : Ty) : SV :=
  match ty.sh.isAgg with
  | true => .agg ty.zero
  | false => match ty.zero with
    | [] => .undef
    | x :: _ => x

def typeAssertS (E : Env) (x : SV) (a : Nat) (ok : Bool) (s : St) : Option (SNext × St) :=
  match E.types.get a with
  | none => none
  | some ty =>
    match ty.sh with
    | .iface | .other => none
    | _ =>
      match x with
      | .iface t v =>
        match Nat.beq t a, ok with
        | true, true => retV (.tup [v, .bool true]) s
        | true, false => retV v s
        | false, true => retV (.tup [zeroS ty, .bool false]) s
        | false, false => none
      | .nilIf =>
        match ok with
        | true => retV (.tup [zeroS ty, .bool false]) s
        | false => none
      | _ => none

/-! ### Builtins -/
/-- What is appended or copied: how many elements, their cells. -/
def srcS (es : Nat) (x : SV) (s : St) : Option (Nat × List SV) :=
  match x with
  | .nilSl => some (0, [])
  | .emp _ => some (0, [])
  | .etl _ _ _ => some (0, [])
  | .sl i o n _ => match rd s i o (n * es) with
    | some cs => some (n, cs)
    | none => none
  | .str l => match es with
    | 1 => some (l.length, byteCells l)
    | _ => none
  | _ => none

/-- A new row that may have room behind it. -/
def growS (e n es : Nat) (cs : List SV) (s : St) : Option (SNext × St) :=
  new s ⟨e, cs, false⟩ fun i s => some (.val (.sl i 0 n (.tail es)), s)

def appendS (e : Nat) (te : Ty) (x : SV) (n : Nat) (cs : List SV) (s : St) : Option (SNext × St) :=
  match te.size with
  | 0 => none
  | es + 1 =>
    match x with
    | .nilSl => match n with
      | 0 => retV .nilSl s
      | n + 1 => match small (n + 1), Nat.ble ((n + 1) * te.bytes) 140737488355328 with
        | true, true => growS e (n + 1) (es + 1) cs s
        | _, _ => none
    | .emp (some 0) => match n with
      | 0 => retV (.emp (some 0)) s
      | n + 1 => match small (n + 1), Nat.ble ((n + 1) * te.bytes) 140737488355328 with
        | true, true => growS e (n + 1) (es + 1) cs s
        | _, _ => none
    | .sl i o m (.exact c) =>
      match Nat.ble (m + n) c with
      | true => wrt s i (o + m * (es + 1)) cs fun s => some (.val (.sl i o (m + n) (.exact c)), s)
      | false => match rd s i o (m * (es + 1)), small (m + n), Nat.ble ((m + n) * te.bytes) 140737488355328 with
        | some old, true, true => forceL (appL old cs) fun l => growS e (m + n) (es + 1) l s
        | _, _, _ => none
    | .sl i o m (.tail fs) =>
      match Nat.beq fs (es + 1), s.heap.get i with
      | true, some B =>
        match Nat.ble (o + (m + n) * (es + 1)) B.cells.length with
        | true => wrt s i (o + m * (es + 1)) cs fun s => some (.val (.sl i o (m + n) (.tail (es + 1))), s)
        | false => match rd s i o (m * (es + 1)), small (m + n), Nat.ble ((m + n) * te.bytes) 140737488355328 with
          | some old, true, true =>
            match B.exact with
            | true => forceL (appL old cs) fun l => growS e (m + n) (es + 1) l s
            | false => match Nat.beq B.elem e with
              | true => forceL (appL old cs) fun l => kill s i fun s => growS e (m + n) (es + 1) l s
              | false => none
          | _, _, _ => none
      | _, _ => none
    | .etl i o fs =>
      match n with
      | 0 => retV (.etl i o fs) s
      | n + 1 =>
        match Nat.beq fs (es + 1), s.heap.get i, small (n + 1), Nat.ble ((n + 1) * te.bytes) 140737488355328 with
        | true, some B, true, true =>
          match B.exact, Nat.beq B.elem e with
          | false, true => kill s i fun s => growS e (n + 1) (es + 1) cs s
          | true, _ => match Nat.beq o B.cells.length with
            | true => growS e (n + 1) (es + 1) cs s
            | false => none
          | _, _ => none
        | _, _, _, _ => none
    | _ => none

def isI64 : SV → Bool
  | .int .i64 _ => true
  | .symI _ _ => true
  | _ => false

def maxS (E : Env) (isMax : Bool) (x y : SV) : Option SV :=
  match x, y with
  | .int j a, .int k b => if j = k then some (.int j (match isMax with
      | true => (match iLt a b with | true => b | false => a)
      | false => (match iLt b a with | true => b | false => a))) else none
  | x, y => match isI64 x && isI64 y with
    | true => match isMax with
      | true => match symLt E x y with
        | some true => some y
        | some false => some x
        | none => none
      | false => match symLt E y x with
        | some true => some y
        | some false => some x
        | none => none
    | false => none

def maxsS (E : Env) (isMax : Bool) (x : SV) : List SV → Option SV
  | [] => some x
  | y :: ys => match maxS E isMax x y with
    | some z => maxsS E isMax z ys
    | none => none

def builtinS (E : Env) (b : Builtin) (ts : List Nat) (args : List SV) (s : St) : Option (SNext × St) :=
  match b, ts, args with
  | .len, t :: _, [x] => match E.types.get t with
    | some ty => match ty.sh, x with
      | .str, .str l => forceNat l.length fun n => some (.val (.int .i64 (.ofNat n)), s)
      | .slice _, .nilSl => some (.val (.int .i64 0), s)
      | .slice _, .emp _ => some (.val (.int .i64 0), s)
      | .slice _, .etl _ _ _ => some (.val (.int .i64 0), s)
      | .slice _, .sl _ _ n _ => some (.val (.int .i64 (.ofNat n)), s)
      | .arr n _, _ => some (.val (.int .i64 (.ofNat n)), s)
      | _, _ => none
    | none => none
  | .cap, t :: _, [x] => match E.types.get t with
    | some ty => match ty.sh, x with
      | .slice _, .nilSl => some (.val (.int .i64 0), s)
      | .slice _, .emp (some c) => some (.val (.int .i64 (.ofNat c)), s)
      | .slice _, .sl _ _ _ (.exact c) => some (.val (.int .i64 (.ofNat c)), s)
      | _, _ => none
    | none => none
  | .append, t :: u :: _, [x, y] => match E.types.get t, E.types.get u with
    | some ty, some tu => match ty.sh with
      | .slice e => match E.types.get e with
        | some te => match tu.sh with
          | .int _ => match y with
            | .int _ (.ofNat n) => match small n, Nat.ble (n * te.bytes) 281474976710656 with
              | true, true => appendS e te x n (repL n te.zero) s
              | _, _ => none
            | _ => none
          | _ => match srcS te.size y s with
            | some (n, cs) => appendS e te x n cs s
            | none => none
        | none => none
      | _ => none
    | _, _ => none
  | .copy, t :: _, [x, y] => match E.types.get t with
    | some ty => match ty.sh with
      | .slice e => match E.types.get e with
        | some te => match te.size, srcS te.size y s with
          | es + 1, some (n, cs) => match x with
            | .nilSl => some (.val (.int .i64 0), s)
            | .emp _ => some (.val (.int .i64 0), s)
            | .etl _ _ _ => some (.val (.int .i64 0), s)
            | .sl i o m _ => match takeN (minN n m * (es + 1)) cs with
              | some cs => wrt s i o cs fun s => some (.val (.int .i64 (.ofNat (minN n m))), s)
              | none => none
            | _ => none
          | _, _ => none
        | none => none
      | _ => none
    | none => none
  | .clear, t :: _, [x] => match E.types.get t with
    | some ty => match ty.sh with
      | .slice e => match E.types.get e with
        | some te => match x with
          | .nilSl => some (.val .undef, s)
          | .emp _ => some (.val .undef, s)
          | .etl _ _ _ => some (.val .undef, s)
          | .sl i o n _ => match n with
            | 0 => some (.val .undef, s)
            | n + 1 => wrt s i o (repL (n + 1) te.zero) fun s => some (.val .undef, s)
          | _ => none
        | none => none
      | _ => none
    | none => none
  | .max, _, x :: y :: ys => match maxsS E true x (y :: ys) with
    | some v => retV v s
    | none => none
  | .min, _, x :: y :: ys => match maxsS E false x (y :: ys) with
    | some v => retV v s
    | none => none
  | _, _, _ => none

def findMethod : List (Nat × String × Nat) → Nat → String → Option Nat
  | [], _, _ => none
  | (t, m, f) :: r, u, n => match Nat.beq t u with
    | true => match m == n with
      | true => some f
      | false => findMethod r u n
    | false => findMethod r u n

def countN (c : Nat) : List Nat → Nat
  | [] => 0
  | x :: xs => match Nat.beq x c with
    | true => Nat.succ (countN c xs)
    | false => countN c xs

def indexN (c : Nat) : Nat → List Nat → Option Nat
  | _, [] => none
  | i, x :: xs => match Nat.beq x c with
    | true => some i
    | false => indexN c (Nat.succ i) xs

def extCount : List SV → Option SV
  | [.str l, .int .u8 (.ofNat c)] => forceNat (countN c l) fun n => some (.int .i64 (.ofNat n))
  | _ => none

def extIndexByte : List SV → Option SV
  | [.str l, .int .u8 (.ofNat c)] => match indexN c 0 l with
    | some i => some (.int .i64 (.ofNat i))
    | none => some (.int .i64 (.negSucc 0))
  | _ => none

def extSame : List SV → Option SV
  | [v] => some v
  | _ => none

/-- A function is gone to, or answers by itself. -/
def goTo (E : Env) (f : Nat) (args : List SV) (s : St) : Option (SNext × St) :=
  match E.exts.get f with
  | some e => match e args with
    | some v => some (.val v, s)
    | none => none
  | none => match E.funcs.get f with
    | some fn => match fn.body with
      | some _ => some (.enter f args, s)
      | none => none
    | none => none

def callS (E : Env) (tm : Tm) (c : Call) (s : St) : Option (SNext × St) :=
  match evalsS tm c.args.toList with
  | none => none
  | some args =>
    match c.callee with
    | .builtin b => builtinS E b c.argTypes.toList args s
    | .value f => match evalS tm f with
      | some (.fn (.func f) first cap) => goTo E f (appL first (appL args cap)) s
      | _ => none
    | .invoke r name => match evalS tm r with
      | some (.iface t v) => match findMethod E.methods t name with
        | some f => goTo E f (v :: args) s
        | none => none
      | _ => none

def evalO (tm : Tm) : Option Operand → Option (Option SV)
  | none => some none
  | some x => match evalS tm x with
    | some v => some (some v)
    | none => none

def sop (E : Env) (tm : Tm) (op : Op) (s : St) : Option (SNext × St) :=
  match op with
  | .move x | .assign x => match evalS tm x with
    | some v => retV v s
    | none => none
  | .pick c a b => match evalS tm c with
    | some (.bool true) => match evalS tm a with
      | some v => retV v s
      | none => none
    | some (.bool false) => match evalS tm b with
      | some v => retV v s
      | none => none
    | _ => none
  | .alloc t => match E.types.get t with
    | some ty => new s ⟨t, ty.zero, true⟩ fun i s => some (.val (.ptr i 0), s)
    | none => none
  | .box t x => match evalS tm x with
    | some v => new s ⟨t, cellsOf v, true⟩ fun i s => some (.val (.ptr i 0), s)
    | none => none
  | .build t ps => match evalParts tm ps.toList with
    | some l => buildS E t l s
    | none => none
  | .buildSlice t len ps => match evalParts tm ps.toList with
    | some l => buildSliceS E t len l s
    | none => none
  | .load t a => match evalS tm a with
    | some (.ptr i o) => match loadS E t i o s with
      | some v => retV v s
      | none => none
    | _ => none
  | .store t a x => match evalS tm a, evalS tm x with
    | some (.ptr i o), some v => storeS E t i o v s
    | _, _ => none
  | .nilCheck x => match evalS tm x with
    | some (.ptr i o) => retV (.ptr i o) s
    | some (.fn (.func f) a b) => retV (.fn (.func f) a b) s
    | some (.iface t v) => retV (.iface t v) s
    | _ => none
  | .binOp op t x y _ => match evalS tm x, evalS tm y with
    | some a, some b => binS E op t x y a b s
    | _, _ => none
  | .unOp op _ x => match evalS tm x with
    | some a => unS op a s
    | none => none
  | .convert src dst x => match evalS tm x with
    | some a => convS E src dst a s
    | none => none
  | .makeInterface t x => match evalS tm x, E.types.get t with
    | some v, some ty => match ty.sh with
      | .iface | .other => none
      | _ => retV (.iface t v) s
    | _, _ => none
  | .makeFunc fn first cap => match evalsS tm first.toList, evalsS tm cap.toList with
    | some a, some b => retV (.fn fn a b) s
    | _, _ => none
  | .makeSlice t l c => match evalS tm l, evalS tm c with
    | some a, some b => makeSliceS E t a b s
    | _, _ => none
  | .slice t x lo hi mx => match evalS tm x, evalO tm lo, evalO tm hi, evalO tm mx with
    | some v, some lo, some hi, some mx => sliceS E t v lo hi mx s
    | _, _, _, _ => none
  | .fieldAddr t x f => match evalS tm x with
    | some v => fieldAddrS E t v f s
    | none => none
  | .field t x f => match evalS tm x with
    | some v => fieldS E t v f s
    | none => none
  | .indexAddr t x ix => match evalS tm x, evalS tm ix with
    | some a, some b => indexAddrS E t a b s
    | _, _ => none
  | .index t x ix => match evalS tm x, evalS tm ix with
    | some a, some b => indexS E t a b s
    | _, _ => none
  | .typeAssert x _ a ok => match evalS tm x with
    | some v => typeAssertS E v a ok s
    | none => none
  | .extract x i => match evalS tm x with
    | some (.tup vs) => match atN i vs with
      | some v => retV v s
      | none => none
    | _ => none
  | .call c => callS E tm c s
  | _ => none

/-! ### Code -/
abbrev CallF := Nat → List SV → St → Option (SV × St)

def wantedS (all : List Oper) (tm : Tm) (o : Oper) : Bool :=
  match o.guard with
  | none => true
  | some (j, want) => match atN j all with
    | some oj => match oj.dst with
      | some d => match tm.at d with
        | .bool b => b == want
        | _ => false
      | none => false
    | none => false

/-- One operation, with what it calls. -/
def valS (E : Env) (call : CallF) (tm : Tm) (o : Oper) (s : St) : Option (SV × St) :=
  match sop E tm o.op s with
  | some (.val v, s) => some (v, s)
  | some (.skip, s) => some (.undef, s)
  | some (.enter f args, s) => call f args s
  | none => none

def runOps (E : Env) (call : CallF) (all : List Oper) : List Oper → Tm → St → Option (Tm × St)
  | [], tm, s => some (tm, s)
  | o :: rest, tm, s =>
    match wantedS all tm o with
    | true => match valS E call tm o s with
      | some (v, s) => putT tm o.dst v fun tm => runOps E call all rest tm s
      | none => none
    | false => putT tm o.dst .undef fun tm => runOps E call all rest tm s

/-! #### Regions whose order is open -/
inductive Cls where
  | pure
  | make
  /-- it touches this block alone -/
  | one (i : Nat)
  | heap

def clsOf (tm : Tm) : Op → Cls
  | .move _ | .assign _ | .pick .. | .build .. | .nilCheck _ | .binOp .. | .unOp .. | .makeInterface .. | .makeFunc .. | .fieldAddr .. | .field .. | .indexAddr .. | .index .. | .typeAssert .. | .extract .. => .pure
  | .slice .. => .pure
  | .alloc _ | .box .. | .buildSlice .. | .makeSlice .. => .make
  | .convert _ _ x => match evalS tm x with
    | some (.sl _ _ _ _) => .heap
    | some (.str _) => .make
    | _ => .pure
  | .load _ a | .store _ a _ => match evalS tm a with
    | some (.ptr i _) => .one i
    | _ => .heap
  | .call { callee := .builtin b, .. } => match b with
    | .len | .cap | .max | .min => .pure
    | _ => .heap
  | _ => .heap

/-- What an operation left: its place; its new blocks; what it wrote of older ones; which blocks it may have looked at (none: any). -/
structure Rec where
  i : Nat
  lo : Nat
  hi : Nat
  ow : List Nat
  dom : Option (List Nat)

/-- Behind which operations each one comes, a bit each. -/
def predsGo (ops : List Oper) (acc : List Nat) : List Nat :=
  match ops with
  | [] => acc
  | o :: rest => predsGo rest (acc ++ [o.after.toList.foldl (fun s e =>
      match Region.binds .any e with
      | true => Nat.lor s (Nat.lor (2 ^ e.on) (acc.getD e.on 0))
      | false => s) 0])

def predsOf (ops : List Oper) : List Nat := predsGo ops []

def edgesOk (ops : List Oper) (i : Nat) : List Oper → Bool
  | [] => true
  | o :: rest => o.after.toList.all (fun e => !Region.binds .any e || Nat.blt e.on i) && edgesOk ops (i + 1) rest

def apartAll (all : List Oper) (pre : List Nat) (j : Nat) (oj : Oper) (i : Nat) : List Oper → Bool
  | [] => true
  | oi :: rest => (Nat.ble j i || (pre.getD j 0).testBit i || Oper.apart all.toArray oi oj) && apartAll all pre j oj (i + 1) rest

def apartOk (all : List Oper) (pre : List Nat) (j : Nat) : List Oper → Bool
  | [] => true
  | oj :: rest => apartAll all pre j oj 0 all && apartOk all pre (j + 1) rest

/-- May the order of the text stand for each order? (What isn't asked here: what they do to memory.) -/
def drawOk (ops : List Oper) : Bool := edgesOk ops 0 ops && apartOk ops (predsOf ops) 0 ops

def unordered (pre : Nat) : List Rec → List Rec
  | [] => []
  | r :: rs => match pre.testBit r.i with
    | true => unordered pre rs
    | false => r :: unordered pre rs

def rangeN : Nat → Nat → List Nat
  | _, 0 => []
  | lo, n + 1 => lo :: rangeN (Nat.succ lo) n

def exclOf : List Rec → List Nat
  | [] => []
  | r :: rs => appL (appL (rangeN r.lo (r.hi - r.lo)) r.ow) (exclOf rs)

/-- Without some blocks; with those that were there. -/
def without {β : Type} (h : Tree Blk) : List Nat → List (Nat × Blk) → (Tree Blk → List (Nat × Blk) → Option β) → Option β
  | [], out, K => K h out
  | i :: is, out, K => match h.get i with
    | some B => Tree.put 60 h i none fun h => without h is ((i, B) :: out) K
    | none => without h is out K

def back {β : Type} (h : Tree Blk) : List (Nat × Blk) → (Tree Blk → Option β) → Option β
  | [], K => K h
  | (i, B) :: r, K => Tree.put 60 h i (some B) fun h => back h r K

def oldOf (n m : Nat) : List Nat → Option (List Nat)
  | [] => some []
  | i :: is => match Nat.blt i m, oldOf n m is with
    | true, some r => match Nat.blt i n with
      | true => some (i :: r)
      | false => some r
    | _, _ => none

def allIn (h : Tree Blk) : List Nat → Bool
  | [] => true
  | i :: is => match h.get i with
    | some _ => allIn h is
    | none => false

def memN (i : Nat) : List Nat → Bool
  | [] => false
  | j :: js => match Nat.beq i j with
    | true => true
    | false => memN i js

def apartN : List Nat → List Nat → Bool
  | [], _ => true
  | i :: is, l => match memN i l with
    | true => false
    | false => apartN is l

/-- Does none of these look at what is written? -/
def noneLooks (ow : List Nat) : List Rec → Bool
  | [] => true
  | r :: rs => match r.dom with
    | none => false
    | some l => match apartN ow l with
      | true => noneLooks ow rs
      | false => false

def drawOps (E : Env) (call : CallF) (all : List Oper) (pre : List Nat) : List Oper → Nat → List Rec → Tm → St → Option (Tm × St)
  | [], _, _, tm, s => some (tm, s)
  | o :: rest, i, recs, tm, s =>
    match wantedS all tm o with
    | false => putT tm o.dst .undef fun tm => drawOps E call all pre rest (Nat.succ i) recs tm s
    | true =>
      match clsOf tm o.op with
      | .pure => match sop E tm o.op ⟨.leaf, s.next, []⟩ with
        | some (.val v, s1) => match Nat.beq s1.next s.next with
          | true => putT tm o.dst v fun tm => drawOps E call all pre rest (Nat.succ i) recs tm s
          | false => none
        | _ => none
      | .make => match sop E tm o.op ⟨.leaf, s.next, []⟩ with
        | some (.val v, s1) => match Nat.beq s1.next (Nat.succ s.next), s1.wr, s1.heap.get s.next with
          | true, [], some B => Tree.put 60 s.heap s.next (some B) fun h =>
            putT tm o.dst v fun tm => drawOps E call all pre rest (Nat.succ i) (⟨i, s.next, s1.next, [], some []⟩ :: recs) tm ⟨h, s1.next, s.wr⟩
          | _, _, _ => none
        | _ => none
      | .one b => match s.heap.get b, unordered (pre.getD i 0) recs with
        | some B, u => match memN b (exclOf u), Nat.blt b s.next with
          | true, _ => none
          | false, false => none
          | false, true => Tree.put 60 .leaf b (some B) fun h1 => match sop E tm o.op ⟨h1, s.next, []⟩ with
            | some (r, s1) => match Nat.beq s1.next s.next, (match r with | .val v => some v | .skip => some .undef | .enter _ _ => none) with
              | true, some v => match s1.wr with
                | [] => putT tm o.dst v fun tm => drawOps E call all pre rest (Nat.succ i) (⟨i, s.next, s.next, [], some [b]⟩ :: recs) tm s
                | [c] => match Nat.beq c b, noneLooks [b] u with
                  | true, true => Tree.put 60 s.heap b (s1.heap.get b) fun h => putT tm o.dst v fun tm =>
                    drawOps E call all pre rest (Nat.succ i) (⟨i, s.next, s.next, [b], some [b]⟩ :: recs) tm ⟨h, s.next, b :: s.wr⟩
                  | _, _ => none
                | _ => none
              | _, _ => none
            | none => none
        | none, _ => none
      | .heap =>
        match unordered (pre.getD i 0) recs with
        | [] => match valS E call tm o ⟨s.heap, s.next, []⟩ with
          | some (v, s1) => match oldOf s.next s1.next s1.wr with
            | none => none
            | some ow => match allIn s.heap ow with
              | true => putT tm o.dst v fun tm =>
                drawOps E call all pre rest (Nat.succ i) (⟨i, s.next, s1.next, ow, none⟩ :: recs) tm ⟨s1.heap, s1.next, appL ow s.wr⟩
              | false => none
          | none => none
        | u => without s.heap (exclOf u) [] fun h out =>
          match valS E call tm o ⟨h, s.next, []⟩ with
          | some (v, s1) => match oldOf s.next s1.next s1.wr with
            | none => none
            | some ow => match allIn h ow, (match ow with | [] => true | _ => noneLooks ow u) with
              | true, true => back s1.heap out fun h => putT tm o.dst v fun tm =>
                drawOps E call all pre rest (Nat.succ i) (⟨i, s.next, s1.next, ow, none⟩ :: recs) tm ⟨h, s1.next, appL ow s.wr⟩
              | _, _ => none
          | none => none

/-! #### All code -/
inductive SExit where
  | normal
  | exit (id : Nat)
  | ret

def initTm {β : Type} : List SV → Nat → Tree SV → (Tree SV → Option β) → Option β
  | [], _, t, K => K t
  | v :: vs, i, t, K => Tree.put 60 t i (some v) fun t => initTm vs (Nat.succ i) t K

def resS (E : Env) (tm : Tm) (s : St) : List ResultVar → Option (List SV)
  | [] => some []
  | .tmp t :: r => match resS E tm s r with
    | some l => some (tm.at t :: l)
    | none => none
  | .cell a t :: r => match tm.at a with
    | .ptr i o => match loadS E t i o s, resS E tm s r with
      | some v, some l => some (v :: l)
      | _, _ => none
    | _ => none

def resultS (E : Env) (fn : Func) (tm : Tm) (s : St) : Option SV :=
  match resS E tm s fn.results.toList with
  | some [v] => some v
  | some l => some (.tup l)
  | none => none

def enterF (E : Env) (ex : Code → Tm → St → Option (SExit × Tm × St)) (f : Nat) (args : List SV) (s : St) : Option (SV × St) :=
  match E.hooks.get f with
  | some k => k args s
  | none =>
    match E.funcs.get f with
    | none => none
    | some fn => match fn.body with
      | none => none
      | some c => match Nat.ble args.length fn.ntmps with
        | false => none
        | true => initTm args 0 .leaf fun t =>
          match ex c ⟨t, fn.ntmps⟩ s with
          | some (.normal, tm, s) => match resultS E fn tm s with
            | some v => some (v, s)
            | none => none
          | some (.ret, tm, s) => match resultS E fn tm s with
            | some v => some (v, s)
            | none => none
          | _ => none

def exec (E : Env) : Nat → Code → Tm → St → Option (SExit × Tm × St)
  | 0, _, _, _ => none
  | n + 1, c, tm, s =>
    match c with
    | .skip => some (.normal, tm, s)
    | .region _ ops draw =>
      match draw with
      | false => match runOps E (enterF E (exec E n)) ops.toList ops.toList tm s with
        | some (tm, s) => some (.normal, tm, s)
        | none => none
      | true => match drawOk ops.toList with
        | true => match drawOps E (enterF E (exec E n)) ops.toList (predsOf ops.toList) ops.toList 0 [] tm s with
          | some (tm, s) => some (.normal, tm, s)
          | none => none
        | false => none
    | .seq a b => match exec E n a tm s with
      | some (.normal, tm, s) => exec E n b tm s
      | r => r
    | .cond c a b => match evalS tm c with
      | some (.bool true) => exec E n a tm s
      | some (.bool false) => exec E n b tm s
      | _ => none
    | .block id b => match exec E n b tm s with
      | some (.exit id', tm, s) => match Nat.beq id' id with
        | true => some (.normal, tm, s)
        | false => some (.exit id', tm, s)
      | r => r
    | .loop b => match exec E n b tm s with
      | some (.normal, tm, s) => exec E n (.loop b) tm s
      | r => r
    | .exit id => some (.exit id, tm, s)
    | .ret => some (.ret, tm, s)
    | _ => none

/-- A call from nothing. -/
def callTop (E : Env) (fuel : Nat) (f : Nat) (args : List SV) : Option (SV × St) :=
  enterF E (exec E fuel) f args ⟨.leaf, 0, []⟩

end Go.Proofs.Ytnkicnhjllmmjaa.Sx
