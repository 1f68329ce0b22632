/- The evaluator's operations are the model's, all of them. -/
import Derived.Test.YtnkicnhjllmmjaaSx15
namespace Go.Proofs.Ytnkicnhjllmmjaa.Sx
open Go
set_option linter.unusedVariables false
set_option linter.unusedSimpArgs false

section
variable {P : Program} {E : Env} {tm : Tm} {s s' : St} {x : SNext}

theorem i64_is {φ : Asg} {v : SV} (h : isI64 v = true) {V : Value} (hv : VRel φ v V) : ∃ n, V = .int .i64 n := by
  unfold isI64 at h
  split at h
  · simp only [VRel] at hv; exact ⟨_, hv⟩
  · simp only [VRel] at hv; exact ⟨_, hv⟩
  · simp at h

theorem maxS_run {q : Bool} {a b c : SV} (h : maxS E q a b = some c) {φ : Asg} (hs : SymOk E φ) {A B : Value} (hA : VRel φ a A) (hB : VRel φ b B) (w : World) :
    ∃ C, ((if q then Builtin.max2 A B else Builtin.min2 A B)).run P w = .ok C w ∧ VRel φ c C := by
  unfold maxS at h
  split at h
  · rename_i j p k r
    split at h
    · rename_i hjk
      subst hjk
      simp only [VRel] at hA hB
      subst hA hB
      simp only [Option.some.injEq] at h
      subst h
      refine ⟨.int j (if q then (if r > p then r else p) else (if r < p then r else p)), by cases q <;> simp [Builtin.max2, Builtin.min2], ?_⟩
      simp only [VRel, iLt_eq]
      cases q
      · by_cases hc : r < p <;> simp [hc]
      · by_cases hc : p < r <;> simp [hc]
    · simp at h
  · split at h
    · rename_i h64
      simp only [Bool.and_eq_true] at h64
      obtain ⟨p, rfl⟩ := i64_is h64.1 hA
      obtain ⟨r, rfl⟩ := i64_is h64.2 hB
      split at h
      · split at h
        · rename_i hl
          have := symLt_is hs hl hA hB
          simp at this
          simp only [Option.some.injEq] at h; subst h
          exact ⟨.int .i64 r, by simp [Builtin.max2, this], hB⟩
        · rename_i hl
          have := symLt_is hs hl hA hB
          simp at this
          simp only [Option.some.injEq] at h; subst h
          exact ⟨.int .i64 p, by simp [Builtin.max2]; intro h; omega, hA⟩
        · simp at h
      · split at h
        · rename_i hl
          have := symLt_is hs hl hB hA
          simp at this
          simp only [Option.some.injEq] at h; subst h
          exact ⟨.int .i64 r, by simp [Builtin.min2, this], hB⟩
        · rename_i hl
          have := symLt_is hs hl hB hA
          simp at this
          simp only [Option.some.injEq] at h; subst h
          exact ⟨.int .i64 p, by simp [Builtin.min2]; intro h; omega, hA⟩
        · simp at h
    · simp at h

theorem maxsS_run {q : Bool} {φ : Asg} (hs : SymOk E φ) (w : World) : ∀ {l : List SV} {vs : List Value} {a c : SV} {A : Value}, maxsS E q a l = some c → VRel φ a A → VRels φ l vs →
    ∃ C, (vs.foldlM (fun A B => if q then Builtin.max2 A B else Builtin.min2 A B) A).run P w = .ok C w ∧ VRel φ c C
  | [], [], a, c, A, h, hA, _ => by
    simp only [maxsS, Option.some.injEq] at h
    subst h
    exact ⟨A, by simp, hA⟩
  | b :: l, B :: vs, a, c, A, h, hA, hv => by
    simp only [maxsS] at h
    simp only [VRels] at hv
    split at h
    · rename_i d hd
      obtain ⟨D, hD, hd'⟩ := maxS_run (P := P) hd hs hA hv.1 w
      obtain ⟨C, hC, hc⟩ := maxsS_run (q := q) hs w h hd' hv.2
      refine ⟨C, ?_, hc⟩
      simp only [List.foldlM_cons, Sem.run_bind, hD, Result.andThen_ok, hC]
    · simp at h
  | [], _ :: _, _, _, _, _, _, hv => by simp [VRels] at hv
  | _ :: _, [], _, _, _, _, _, hv => by simp [VRels] at hv

theorem max_ok {ts : Array TypeId} {a b v : SV} {l : List SV} (h : maxsS E true a (b :: l) = some v) : BltOk P E .max ts (a :: b :: l) s (.val v) s :=
  .still fun φ w as ty consts hs hf ha => by
    obtain ⟨L⟩ := as
    match L, ha with
    | A :: L, ha =>
      simp only [VRels] at ha
      obtain ⟨C, hC, hc⟩ := maxsS_run (P := P) (q := true) hs w h ha.1 ha.2
      exact ⟨C, by simp only [if_true] at hC; simp only [builtin, Builtin.max_]; simp [hC], hc⟩
    | [], ha => simp [VRels] at ha

theorem min_ok {ts : Array TypeId} {a b v : SV} {l : List SV} (h : maxsS E false a (b :: l) = some v) : BltOk P E .min ts (a :: b :: l) s (.val v) s :=
  .still fun φ w as ty consts hs hf ha => by
    obtain ⟨L⟩ := as
    match L, ha with
    | A :: L, ha =>
      simp only [VRels] at ha
      obtain ⟨C, hC, hc⟩ := maxsS_run (P := P) (q := false) hs w h ha.1 ha.2
      exact ⟨C, by simp only [Bool.false_eq_true, if_false] at hC; simp only [builtin, Builtin.min_]; simp [hC], hc⟩
    | [], ha => simp [VRels] at ha

theorem builtin_ok (hE : EnvOk P E) {b : Builtin} {ts : Array TypeId} {args : List SV} (h : builtinS E b ts.toList args s = some (x, s')) : BltOk P E b ts args s x s' := by
  unfold builtinS at h
  split at h
  · rename_i t r a ht
    exact len_ok hE ht (by rw [builtinS]; exact h)
  · rename_i t r a ht
    exact cap_ok hE ht (by rw [builtinS]; exact h)
  · rename_i t u r a y ht
    exact append_blt hE ht (by rw [builtinS]; exact h)
  · rename_i t r a y ht
    exact copy_ok hE ht (by rw [builtinS]; exact h)
  · rename_i t r a ht
    exact clear_ok hE ht (by rw [builtinS]; exact h)
  · split at h
    · rename_i v hv
      simp only [retV, Option.some.injEq, Prod.mk.injEq] at h
      obtain ⟨rfl, rfl⟩ := h
      exact max_ok hv
    · simp at h
  · split at h
    · rename_i v hv
      simp only [retV, Option.some.injEq, Prod.mk.injEq] at h
      obtain ⟨rfl, rfl⟩ := h
      exact min_ok hv
    · simp at h
  · simp at h

/-! #### Calls -/
theorem goTo_ok (hE : EnvOk P E) {f : Nat} {args : List SV} (h : goTo E f args s = some (x, s')) : Eff s s' ∧ ∀ (φ : Asg) (w : World) (as : Array Value), Fits φ s.heap w → VRels φ args as.toList → Out P φ s s' w ((callFunc f as).run P w) x := by
  unfold goTo at h
  split at h
  · rename_i e he
    split at h
    · rename_i v hv
      simp only [Option.some.injEq, Prod.mk.injEq] at h
      obtain ⟨rfl, rfl⟩ := h
      refine ⟨.refl _, fun φ w as hf ha => ?_⟩
      obtain ⟨V, hr, hV⟩ := hE.ext _ _ he φ args v as w hv ha
      exact ⟨_, w, φ, hr, hf, .refl _ _ _ _, V, rfl, hV⟩
    · simp at h
  · split at h
    · rename_i fn hfn
      split at h
      · rename_i c hc
        simp only [Option.some.injEq, Prod.mk.injEq] at h
        obtain ⟨rfl, rfl⟩ := h
        obtain ⟨h1, h2⟩ := hE.fn _ _ hfn
        refine ⟨.refl _, fun φ w as hf ha => ?_⟩
        exact ⟨.enter f as, w, φ, by simp only [beq_eq_false_iff_ne, ne_eq] at h2; simp [callFunc, h1, h2, hc], hf, .refl _ _ _ _, as, rfl, ha⟩
      · simp at h
    · simp at h

theorem ok_call (hE : EnvOk P E) {c : Call} (h : callS E tm c s = some (x, s')) : OpOk P E tm (.call c) s x s' := by
  unfold callS at h
  split at h
  · simp at h
  rename_i args hargs
  split at h
  · rename_i b hb
    obtain ⟨k1, k2⟩ := builtin_ok hE h
    refine ⟨k1, fun φ ρ w o hs hρ hf hfr ho => ?_⟩
    have ha := evals_sees hρ hargs
    have e : ∃ q, (execOp ρ o).run P w = (builtin b c.argTypes o.type q (c.args.map ρ)).run P w := ⟨_, by simp [execOp, ho, resolve, hb, invoke]; rfl⟩
    obtain ⟨q, e⟩ := e
    rw [e]
    exact k2 φ w (c.args.map ρ) o.type q hs hf hfr (by simpa using ha)
  · rename_i f hfc
    split at h
    · rename_i g first cap hg
      rw [appL_eq, appL_eq] at h
      obtain ⟨k1, k2⟩ := goTo_ok hE h
      refine ⟨k1, fun φ ρ w o hs hρ hf hfr ho => ?_⟩
      have ha := evals_sees hρ hargs
      have hfv := hρ _ _ hg
      simp only [VRel] at hfv
      obtain ⟨as, bs, hv, h1, h2⟩ := hfv
      have := k2 φ w (as ++ c.args.map ρ ++ bs) hf (by
        simp only [Array.toList_append, Array.toList_map, List.append_assoc]
        exact h1.append (ha.append h2))
      simpa [execOp, ho, resolve, hfc, Deferred.ofValue, hv, invoke] using this
    · simp at h
  · rename_i r name hr
    split at h
    · rename_i t v hv
      split at h
      · rename_i g hg
        obtain ⟨k1, k2⟩ := goTo_ok hE h
        refine ⟨k1, fun φ ρ w o hs hρ hf hfr ho => ?_⟩
        have ha := evals_sees hρ hargs
        have hfv := hρ _ _ hv
        simp only [VRel] at hfv
        obtain ⟨u, hu, h1⟩ := hfv
        have := k2 φ w (#[u] ++ c.args.map ρ) hf (by simpa [VRels] using ⟨h1, ha⟩)
        have e0 : (#[Value.iface t u] ++ Array.map ρ c.args)[0]? = some (.iface t u) := by
          rw [← Array.getElem?_toList, Array.toList_append]; rfl
        have e1 : (#[Value.iface t u] ++ Array.map ρ c.args).extract 1 (#[Value.iface t u] ++ Array.map ρ c.args).size = Array.map ρ c.args := by
          apply Array.ext'
          simp [List.take_of_length_le]
        simp only [execOp, ho, resolve, hr, hu, Sem.run_bind, Sem.run_pure, Result.andThen_ok, invoke, e0, e1, callMethod]
        have hm := hE.meth _ _ _ hg
        simpa [hm] using this
      · simp at h
    · simp at h

theorem sop_ok (hE : EnvOk P E) {op : Op} (h : sop E tm op s = some (x, s')) : OpOk P E tm op s x s' := by
  unfold sop at h
  split at h
  · -- move
    rename_i y
    split at h
    · rename_i v hv
      simp only [retV, Option.some.injEq, Prod.mk.injEq] at h
      obtain ⟨rfl, rfl⟩ := h
      exact ok_move hv
    · simp at h
  · split at h
    · rename_i v hv
      simp only [retV, Option.some.injEq, Prod.mk.injEq] at h
      obtain ⟨rfl, rfl⟩ := h
      exact ok_assign hv
    · simp at h
  · split at h
    · rename_i hc
      split at h
      · rename_i v hv
        simp only [retV, Option.some.injEq, Prod.mk.injEq] at h
        obtain ⟨rfl, rfl⟩ := h
        exact ok_pick hc (by simpa using hv)
      · simp at h
    · rename_i hc
      split at h
      · rename_i v hv
        simp only [retV, Option.some.injEq, Prod.mk.injEq] at h
        obtain ⟨rfl, rfl⟩ := h
        exact ok_pick hc (by simpa using hv)
      · simp at h
    · simp at h
  · split at h
    · rename_i ty ht
      obtain ⟨s1, hk, hn, hw, hg, _⟩ := new_out h
      simp only [Option.some.injEq, Prod.mk.injEq] at hk
      obtain ⟨rfl, rfl⟩ := hk
      exact ok_alloc hE ht hn hw hg
    · simp at h
  · split at h
    · rename_i v hv
      obtain ⟨s1, hk, hn, hw, hg, _⟩ := new_out h
      simp only [Option.some.injEq, Prod.mk.injEq] at hk
      obtain ⟨rfl, rfl⟩ := hk
      exact ok_box hv hn hw hg
    · simp at h
  · split at h
    · rename_i l hl
      exact ok_build hE hl h
    · simp at h
  · split at h
    · rename_i l hl
      exact ok_buildSlice hE hl h
    · simp at h
  · split at h
    · rename_i i o ha
      split at h
      · rename_i v hv
        simp only [retV, Option.some.injEq, Prod.mk.injEq] at h
        obtain ⟨rfl, rfl⟩ := h
        exact ok_load hE ha hv
      · simp at h
    · simp at h
  · split at h
    · rename_i i o v ha hv
      exact ok_store hE ha hv h
    · simp at h
  · split at h
    · rename_i i o hv
      simp only [retV, Option.some.injEq, Prod.mk.injEq] at h
      obtain ⟨rfl, rfl⟩ := h
      exact ok_nilCheck hv (.inl ⟨_, _, rfl⟩)
    · rename_i f a b hv
      simp only [retV, Option.some.injEq, Prod.mk.injEq] at h
      obtain ⟨rfl, rfl⟩ := h
      exact ok_nilCheck hv (.inr (.inl ⟨_, _, _, rfl⟩))
    · rename_i t v hv
      simp only [retV, Option.some.injEq, Prod.mk.injEq] at h
      obtain ⟨rfl, rfl⟩ := h
      exact ok_nilCheck hv (.inr (.inr ⟨_, _, rfl⟩))
    · simp at h
  · split at h
    · rename_i a b ha hb
      exact ok_binOp hE ha hb h
    · simp at h
  · split at h
    · rename_i a ha
      exact ok_unOp ha h
    · simp at h
  · split at h
    · rename_i a ha
      exact ok_convert hE ha h
    · simp at h
  · split at h
    · rename_i v ty hv ht
      split at h
      · simp at h
      · simp at h
      · rename_i h1 h2
        simp only [retV, Option.some.injEq, Prod.mk.injEq] at h
        obtain ⟨rfl, rfl⟩ := h
        exact ok_makeInterface hE hv ht h1 h2
    · simp at h
  · split at h
    · rename_i a b ha hb
      simp only [retV, Option.some.injEq, Prod.mk.injEq] at h
      obtain ⟨rfl, rfl⟩ := h
      exact ok_makeFunc ha hb
    · simp at h
  · split at h
    · rename_i a b ha hb
      exact ok_makeSlice hE ha hb h
    · simp at h
  · split at h
    · rename_i v lo hi mx h1 h2 h3 h4
      exact ok_slice hE h1 h2 h3 h4 h
    · simp at h
  · split at h
    · rename_i v hv
      exact ok_fieldAddr hE hv h
    · simp at h
  · split at h
    · rename_i v hv
      exact ok_field hE hv h
    · simp at h
  · split at h
    · rename_i a b ha hb
      exact ok_indexAddr hE ha hb h
    · simp at h
  · split at h
    · rename_i a b ha hb
      exact ok_index hE ha hb h
    · simp at h
  · split at h
    · rename_i v hv
      exact ok_typeAssert hE hv h
    · simp at h
  · split at h
    · rename_i vs hv
      split at h
      · rename_i v hi
        simp only [retV, Option.some.injEq, Prod.mk.injEq] at h
        obtain ⟨rfl, rfl⟩ := h
        exact ok_extract hv hi
      · simp at h
    · simp at h
  · exact ok_call hE h
  · simp at h

end

end Go.Proofs.Ytnkicnhjllmmjaa.Sx
