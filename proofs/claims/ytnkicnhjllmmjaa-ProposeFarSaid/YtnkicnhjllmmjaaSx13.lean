/- The evaluator's operations are the model's: append, copy, clear. -/
import Derived.Test.YtnkicnhjllmmjaaSx12
namespace Go.Proofs.Ytnkicnhjllmmjaa.Sx
open Go
set_option linter.unusedVariables false
set_option linter.unusedSimpArgs false

/-- What is appended: so many elements, their cells. -/
def SrcIs (P : Program) (e u : Nat) (te : Ty) (z : Value) (X : Value) (n : Nat) (news : List Value) (w : World) : Prop :=
  (∃ d, P.underlying u = some d ∧ (∀ k, d ≠ .int k) ∧ (∀ w', (Builtin.lenOf X).run P w' = .ok n w') ∧ ∀ w' : World, w'.heap = w.heap → (Builtin.firstCells te.size n X).run P w' = .ok news.toArray w') ∨
  (∃ k k', P.underlying u = some (.int k) ∧ X = .int k' (n : Int) ∧ n < 4294967296 ∧ n * te.bytes ≤ 281474976710656 ∧ news.toArray = Builtin.zeroCells z.cells n)

section
variable {P : Program} {E : Env} {tm : Tm} {s s' : St} {x : SNext}

theorem src_rel {es : Nat} {v : SV} {n : Nat} {cs : List SV} (h : srcS es v s = some (n, cs)) {φ : Asg} {w : World} (hf : Fits φ s.heap w) {X : Value} (hX : VRel φ v X) :
    ∃ vs, VRels φ cs vs ∧ cs.length = n * es ∧ (∀ w', (Builtin.lenOf X).run P w' = .ok n w') ∧ ∀ w' : World, w'.heap = w.heap → (Builtin.firstCells es n X).run P w' = .ok vs.toArray w' := by
  unfold srcS at h
  split at h
  · simp only [Option.some.injEq, Prod.mk.injEq] at h
    obtain ⟨rfl, rfl⟩ := h
    simp only [VRel] at hX
    subst hX
    exact ⟨[], by simp [VRels], by simp, fun w' => rfl, fun w' _ => rfl⟩
  · simp only [Option.some.injEq, Prod.mk.injEq] at h
    obtain ⟨rfl, rfl⟩ := h
    simp only [VRel] at hX
    obtain ⟨a, c, rfl, _⟩ := hX
    exact ⟨[], by simp [VRels], by simp, fun w' => rfl, fun w' _ => by simp [Builtin.firstCells, loadCells, loadCellsFrom]⟩
  · simp only [Option.some.injEq, Prod.mk.injEq] at h
    obtain ⟨rfl, rfl⟩ := h
    simp only [VRel] at hX
    obtain ⟨_, _, _, a, c, _, rfl, _⟩ := hX
    exact ⟨[], by simp [VRels], by simp, fun w' => rfl, fun w' _ => by simp [Builtin.firstCells, loadCells, loadCellsFrom]⟩
  · rename_i i o m cap
    split at h
    · rename_i r hr
      simp only [Option.some.injEq, Prod.mk.injEq] at h
      obtain ⟨rfl, rfl⟩ := h
      simp only [VRel] at hX
      obtain ⟨b, β, z, c, hb, rfl, _⟩ := hX
      obtain ⟨b', β', z', vs, hb2, hcl, hrel, hvl, hc⟩ := rd_rel hf hr
      rw [hb] at hb2
      simp only [Option.some.injEq, Prod.mk.injEq] at hb2
      obtain ⟨rfl, rfl, rfl⟩ := hb2
      refine ⟨vs, hrel, hcl, fun w' => rfl, fun w' hw' => ?_⟩
      have hc' : ∀ j v, vs[j]? = some v → w'.cell? ((⟨b, β + o, none⟩ : Addr).add j) = some v := fun j v hj => by
        have := hc j v hj
        simpa [World.cell?, hw'] using this
      have := run_loadCells_list (P := P) w' ⟨b, β + o, none⟩ vs hc'
      rw [hvl] at this
      simpa [Builtin.firstCells] using this
    · simp at h
  · rename_i l
    split at h
    · simp only [Option.some.injEq, Prod.mk.injEq] at h
      obtain ⟨rfl, rfl⟩ := h
      simp only [VRel] at hX
      obtain ⟨rfl, hl⟩ := hX
      refine ⟨_, byteCells_rel hl, by simp [byteCells_eq], fun w' => by simp [Builtin.lenOf, bytes_size], fun w' _ => ?_⟩
      have hx : (bytesOf l).extract 0 l.length = bytesOf l := by rw [bytes_extract]; simp
      simp [Builtin.firstCells, hx]
      apply Array.ext'
      simp
    · simp at h
  · simp at h

theorem wrap_small {n : Nat} (h : n < 4294967296) : IntKind.i64.wrap (n : Int) = n := IntWalk.i64_in _ (by omega)

/-- An append for which there is room. -/
theorem run_append_in {t u ty e : Nat} {ts : Array TypeId} {te : Ty} {ei : TypeInfo} {ed : TypeDesc} {z : Value} (h0 : ts[0]? = some t) (h1 : ts[1]? = some u) (ht : P.underlying t = some (.slice e)) (he : TyIs P e te ei ed z)
    {base : Option Addr} {sLen sCap n : Nat} {X : Value} {news : List Value} {w : World} (hs : SrcIs P e u te z X n news w) (hz : 0 < te.size) (hfit : sLen + n ≤ sCap) :
    (Builtin.append_ ts ty #[.slice base sLen sCap, X]).run P w =
      (((match base with | some a => storeCells (a.add (sLen * te.size)) news | none => pure ()) : Sem Unit).run P w).andThen fun _ w' => .ok (.slice base (sLen + n) sCap) w' := by
  rcases hs with ⟨d, hu, hd, hlen, hfc⟩ | ⟨k, k', hu, rfl, hn, hb, hnews⟩
  · have hni : (d matches .int _) = false := by cases d <;> first | rfl | exact absurd rfl (hd _)
    cases base with
    | none =>
      simp [Builtin.append_, h0, h1, run_underlying ht, he.run_size, run_underlying hu, hni, hlen, hfit, hfc w rfl]
    | some a =>
      simp [Builtin.append_, h0, h1, run_underlying ht, he.run_size, run_underlying hu, hni, hlen, hfit, hfc w rfl]
  · have hw := wrap_small hn
    have hbn : ¬ (281474976710656 < (n : Int) * (te.bytes : Int)) := by
      have : ((n * te.bytes : Nat) : Int) ≤ 281474976710656 := by omega
      rw [Int.natCast_mul] at this
      omega
    have hn0 : ¬ ((n : Int) < 0) := by omega
    by_cases h00 : n = 0
    · subst h00
      have hnil : news = [] := by
        have : news.toArray = #[] := by rw [hnews]; simp [Builtin.zeroCells, Array.range_zero']
        simpa using this
      subst hnil
      cases base <;> simp [Builtin.append_, h0, h1, run_underlying ht, he.run_size, run_underlying hu, asInt, asIntOf, he.run_info, he.bytes, hfit, hw, storeCells] <;> simp_all
    · have hnz : ¬ (n * te.size = 0) := by
        intro h; rcases Nat.mul_eq_zero.1 h with h | h <;> omega
      have hnl : news = (Builtin.zeroCells z.cells n).toList := by rw [← hnews]
      subst hnl
      cases base <;> simp [Builtin.append_, h0, h1, run_underlying ht, he.run_size, run_underlying hu, asInt, asIntOf, he.run_info, he.bytes, he.run_zero, hfit, hw, hbn, hn0, hnz, h00, Nat.ne_of_gt hz]
/-- An append that makes a new row. -/
theorem run_append_up {t u ty e : Nat} {ts : Array TypeId} {te : Ty} {ei : TypeInfo} {ed : TypeDesc} {z : Value} (h0 : ts[0]? = some t) (h1 : ts[1]? = some u) (ht : P.underlying t = some (.slice e)) (he : TyIs P e te ei ed z)
    {base : Option Addr} {sLen sCap n : Nat} {X : Value} {news olds : List Value} {w : World} (hs : SrcIs P e u te z X n news w) (hz : 0 < te.size) (hn0' : 0 < n) (hgrow : sCap < sLen + n) (hsm : sLen + n < 4294967296) (hby : (sLen + n) * te.bytes ≤ 140737488355328)
    (hold : ∀ w' : World, w'.heap = w.heap → (Builtin.firstCells te.size sLen (.slice base sLen sCap)).run P w' = .ok olds.toArray w') :
    (Builtin.append_ ts ty #[.slice base sLen sCap, X]).run P w = .ok (.slice (some ⟨w.heap.size, 0, none⟩) (sLen + n) (grownCap w (sLen + n) sCap e))
        (w.drew.alloc (.cells (olds.toArray ++ news.toArray ++ Builtin.zeroCells z.cells (grownCap w (sLen + n) sCap e - (sLen + n))) e)) := by
  have hn : ¬ (sLen + n ≤ sCap) := by omega
  have h63 : ¬ (9223372036854775807 < ((sLen : Int) + (n : Int))) := by omega
  have h48 : ¬ (281474976710656 < Builtin.nextslicecap (sLen + n) sCap * te.bytes) := by have := growslice_fits hgrow hby; omega
  have hfo := hold w.drew rfl
  rcases hs with ⟨d, hu, hd, hlen, hfc⟩ | ⟨k, k', hu, rfl, hnn, hb, hnews⟩
  · have hni : (d matches .int _) = false := by cases d <;> first | rfl | exact absurd rfl (hd _)
    have hfn := hfc w.drew rfl
    cases base <;> simp [Builtin.append_, h0, h1, run_underlying ht, he.run_size, run_underlying hu, hlen, hn, h63, h48, he.run_info, he.bytes, he.run_zero, Question.forced, hfo, hfn, newRow, grownCap] <;>
      (congr 2; apply Array.ext'; simp [List.append_assoc])
  · have hw := wrap_small hnn
    have hbn : ¬ (281474976710656 < (n : Int) * (te.bytes : Int)) := by
      have : ((n * te.bytes : Nat) : Int) ≤ 281474976710656 := by omega
      rw [Int.natCast_mul] at this
      omega
    have hn0 : ¬ ((n : Int) < 0) := by omega
    have h00 : n ≠ 0 := by omega
    have hnz : ¬ (n * te.size = 0) := by
      intro h; rcases Nat.mul_eq_zero.1 h with h | h <;> omega
    have hnl : news = (Builtin.zeroCells z.cells n).toList := by rw [← hnews]
    subst hnl
    cases base <;> simp [Builtin.append_, h0, h1, run_underlying ht, he.run_size, run_underlying hu, asInt, asIntOf, he.run_info, he.bytes, he.run_zero, hn, h63, h48, hw, hbn, hn0, hnz, h00, Nat.ne_of_gt hz, Question.forced, hfo, newRow, grownCap] <;>
      (congr 2; apply Array.ext'; simp [List.append_assoc])

end

end Go.Proofs.Ytnkicnhjllmmjaa.Sx
