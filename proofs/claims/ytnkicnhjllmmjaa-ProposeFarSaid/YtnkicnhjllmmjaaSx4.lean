/- What the evaluator is told of a program: by function, and printed by a program of our own. -/
import Derived.Test.YtnkicnhjllmmjaaSx3
namespace Go.Proofs.Ytnkicnhjllmmjaa.Sx
open Go
set_option linter.unusedVariables false

def shOf (d : TypeDesc) : Sh :=
  match d with
  | .bool => .bool
  | .int k => .int k
  | .string => .str
  | .pointer e => .ptr e
  | .slice e => .slice e
  | .array n e => .arr n e
  | .struct fs => .struct (fs.toList.map fun f => (f.offset, f.type, f.name == "_"))
  | .interface _ => .iface
  | .func .. => .fn
  | .unsafePointer => .uptr
  | _ => .other

def isAggV : Value → Bool
  | .agg _ => true
  | _ => false

def tyOf (P : Program) (t : Nat) : Option Ty :=
  match P.info? t, P.underlying t with
  | some i, some d => match i.zero with
    | some z => match ofConsts z.cells.toList with
      | some l => match Nat.beq l.length i.size && (isAggV z == (shOf d).isAgg) with
        | true => some ⟨shOf d, i.size, i.bytes, l, match d with
          | .struct _ => !P.stoodInHeld t && !P.eqGuardType P.depth t
          | _ => false⟩
        | false => none
      | none => none
    | none => none
  | _, _ => none

end Go.Proofs.Ytnkicnhjllmmjaa.Sx
