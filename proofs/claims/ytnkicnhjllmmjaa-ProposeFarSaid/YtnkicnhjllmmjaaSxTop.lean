/- A call that the evaluator answers from nothing: what the model says of it. -/
import Derived.Test.YtnkicnhjllmmjaaSx22
namespace Go.Proofs.Ytnkicnhjllmmjaa.Sx
open Go Go.RowKit
set_option linter.unusedVariables false

def isTrue : Option (SV × St) → Bool
  | some (.bool true, _) => true
  | _ => false

theorem hooks_none {P : Program} {E : Env} (h : E.hooks = .leaf) : HooksOk P E := by
  intro f k hk
  rw [h, Tree.get_leaf] at hk
  cases hk

theorem below_of {φ φ' : Asg} {h' : Tree Blk} {n n' : Nat} {w w' : World} (g : Goes φ .leaf n w φ' h' n' w') : Below w.heap.size w w' :=
  ⟨g.os, g.tape, g.output, g.size, fun k hk => g.keep k hk fun i z hi => absurd (Tree.get_leaf i) hi⟩

/-- What isn't assigned, and what isn't known. -/
def Asg.free (num : Nat → Int) (txt : Nat → ByteArray) : Asg := ⟨fun _ => none, num, txt⟩

theorem top_true {P : Program} {E : Env} (hE : EnvOk P E) (hH : HooksOk P E) {n f : Nat} {args : List SV} (h : isTrue (callTop E n f args) = true) (num : Nat → Int) (txt : Nat → ByteArray) (hs : ∀ i, E.lo i ≤ num i ∧ num i ≤ E.hi i)
    {as : Array Value} (ha : VRels (Asg.free num txt) args as.toList) (w : World) : Calls P f as w fun e w' => e = .returned (.bool true) ∧ Below w.heap.size w w' := by
  cases hc : callTop E n f args with
  | none => rw [hc] at h; simp [isTrue] at h
  | some r =>
    obtain ⟨v, s'⟩ := r
    rw [hc] at h
    have hv : v = .bool true := by
      unfold isTrue at h
      split at h
      · rename_i heq
        simp only [Option.some.injEq, Prod.mk.injEq] at heq
        exact heq.1
      · simp at h
    subst hv
    obtain ⟨_, k⟩ := call_ok hE hH n _ _ _ _ _ hc
    refine (k (Asg.free num txt) as w hs ha ⟨fun i B hB => by simp [Tree.get_leaf] at hB, fun i j b y z hi => absurd (Tree.get_leaf i) hi, fun i b z hi => by simp [Asg.free] at hi⟩ (fun i _ _ => rfl)).mono fun e w' he => ?_
    obtain ⟨V, φ', rfl, hV, _, hg⟩ := he
    simp only [VRel] at hV
    subst hV
    exact ⟨rfl, below_of hg⟩

end Go.Proofs.Ytnkicnhjllmmjaa.Sx
