/- The evaluator's answers for ProposeFar, by the kernel. -/
import Derived.Test.YtnkicnhjllmmjaaSxEnvOk
import Derived.Test.YtnkicnhjllmmjaaSxTop
namespace Go.Proofs.Ytnkicnhjllmmjaa.Sx
open Go Go.RowKit
set_option linter.unusedVariables false
set_option maxRecDepth 100000

noncomputable def envR (lo hi : Int) : Env := env (fun _ => lo) (fun _ => hi)

theorem far_below : isTrue (callTop (envR (-9223372036854775808) (-1)) 100000 4 [.symI 0 0, .symS 0]) = true := by kernel_rfl
theorem far_slot : isTrue (callTop (envR 0 1099511627775) 100000 4 [.symI 0 0, .symS 0]) = true := by kernel_rfl
theorem far_beyond : isTrue (callTop (envR 1099511627776 9223372036854775806) 100000 4 [.symI 0 0, .symS 0]) = true := by kernel_rfl
theorem far_last : isTrue (callTop (envR 0 0) 100000 4 [.int .i64 9223372036854775807, .symS 0]) = true := by kernel_rfl

theorem far (a0 : Int) (a1 : ByteArray) (h1 : -9223372036854775808 ≤ a0) (h2 : a0 ≤ 9223372036854775807) (w : World) :
    Calls Try.prog 4 #[.int .i64 a0, .string a1] w fun e w' => e = .returned (.bool true) ∧ Below w.heap.size w w' := by
  have sym : ∀ lo hi, lo ≤ a0 → a0 ≤ hi → isTrue (callTop (envR lo hi) 100000 4 [.symI 0 0, .symS 0]) = true → Calls Try.prog 4 #[.int .i64 a0, .string a1] w fun e w' => e = .returned (.bool true) ∧ Below w.heap.size w w' := by
    intro lo hi hl hh ht
    refine top_true (env_ok _ _) (hooks_none rfl) ht (fun _ => a0) (fun _ => a1) (fun _ => ⟨hl, hh⟩) ?_ w
    simp [VRels, VRel, Asg.free]
  by_cases c1 : a0 ≤ -1
  · exact sym _ _ h1 c1 far_below
  · by_cases c2 : a0 ≤ 1099511627775
    · exact sym _ _ (by omega) c2 far_slot
    · by_cases c3 : a0 ≤ 9223372036854775806
      · exact sym _ _ (by omega) c3 far_beyond
      · obtain rfl : a0 = 9223372036854775807 := by omega
        refine top_true (env_ok _ _) (hooks_none rfl) far_last (fun _ => 0) (fun _ => a1) (fun _ => ⟨Int.le_refl _, Int.le_refl _⟩) ?_ w
        simp [VRels, VRel, Asg.free]

end Go.Proofs.Ytnkicnhjllmmjaa.Sx
