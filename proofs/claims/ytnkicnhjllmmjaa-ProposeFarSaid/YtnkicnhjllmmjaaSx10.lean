/- The evaluator's operations are the model's: operators, conversions, assertions. -/
import Derived.Test.YtnkicnhjllmmjaaSx9
namespace Go.Proofs.Ytnkicnhjllmmjaa.Sx
open Go
set_option linter.unusedVariables false

section
variable {P : Program} {E : Env} {tm : Tm} {s s' : St} {x : SNext}

theorem ok_unOp {op : UnOp} {t : TypeId} {y : Operand} {v : SV} (hy : evalS tm y = some v) (h : unS op v s = some (x, s')) : OpOk P E tm (.unOp op t y) s x s' := by
  unfold unS at h
  split at h
  · rename_i k n
    simp only [retI, forceInt_eq, Option.some.injEq, Prod.mk.injEq] at h
    obtain ⟨rfl, rfl⟩ := h
    refine .still fun φ ρ w op _ hρ _ ho => ?_
    have hv := hρ _ _ hy
    simp only [VRel] at hv
    exact ⟨.int k (k.wrap (0 - n)), by simp [execOp, ho, hv, Op.unary, Op.intArith], by simp only [VRel, wrapK_eq]⟩
  · rename_i k n
    split at h
    · rename_i m hm
      simp only [retI, forceInt_eq, Option.some.injEq, Prod.mk.injEq] at h
      obtain ⟨rfl, rfl⟩ := h
      rw [bitsK_eq] at hm
      refine .still fun φ ρ w op _ hρ _ ho => ?_
      have hv := hρ _ _ hy
      simp only [VRel] at hv
      exact ⟨.int k m, by simp [execOp, ho, hv, Op.unary, run_bitsSlow w _ _ _ _ _ hm], by simp only [VRel]⟩
    · simp at h
  · rename_i b
    have h' : x = .val (.bool !b) ∧ s' = s := by
      cases b <;> simp [retB] at h <;> exact ⟨h.1.symm, h.2.symm⟩
    obtain ⟨rfl, rfl⟩ := h'
    refine .still fun φ ρ w op _ hρ _ ho => ?_
    have hv := hρ _ _ hy
    simp only [VRel] at hv
    exact ⟨.bool !b, by simp [execOp, ho, hv, Op.unary], by simp only [VRel]⟩
  · simp at h

theorem retB_is {b : Bool} (h : retB b s = some (x, s')) : x = .val (.bool b) ∧ s' = s := by
  cases b <;> simp [retB] at h <;> exact ⟨h.1.symm, h.2.symm⟩

theorem retO_is {b : Option Bool} (h : retO b s = some (x, s')) : ∃ q, b = some q ∧ x = .val (.bool q) ∧ s' = s := by
  cases b with
  | none => simp [retO] at h
  | some q => obtain ⟨h1, h2⟩ := retB_is h; exact ⟨q, rfl, h1, h2⟩

theorem retI_is {k : IntKind} {n : Int} (h : retI k n s = some (x, s')) : x = .val (.int k n) ∧ s' = s := by
  simp only [retI, forceInt_eq, Option.some.injEq, Prod.mk.injEq] at h
  exact ⟨h.1.symm, h.2.symm⟩

theorem retS_is {l : List Nat} (h : retS l s = some (x, s')) : x = .val (.str l) ∧ s' = s := by
  simp only [retS, forceNats_eq, Option.some.injEq, Prod.mk.injEq] at h
  exact ⟨h.1.symm, h.2.symm⟩

theorem retV_is {v : SV} (h : retV v s = some (x, s')) : x = .val v ∧ s' = s := by
  simp only [retV, Option.some.injEq, Prod.mk.injEq] at h
  exact ⟨h.1.symm, h.2.symm⟩

/-! #### Numbers that aren't known -/
theorem range_is {φ : Asg} (hs : SymOk E φ) {v : SV} {a b : Int} (h : rangeOf E v = some (a, b)) {k : IntKind} {n : Int} (hv : VRel φ v (.int k n)) : a ≤ n ∧ n ≤ b := by
  cases v <;> simp only [rangeOf, Option.some.injEq, Prod.mk.injEq] at h <;> try (simp at h; done)
  · simp only [VRel, Value.int.injEq] at hv
    omega
  · rename_i i c
    simp only [VRel, Value.int.injEq] at hv
    have := hs i
    omega

theorem symLt_is {φ : Asg} (hs : SymOk E φ) {u v : SV} {r : Bool} (h : symLt E u v = some r) {j k : IntKind} {p q : Int} (hu : VRel φ u (.int j p)) (hv : VRel φ v (.int k q)) : r = decide (p < q) := by
  unfold symLt at h
  split at h
  · rename_i a b c d h1 h2
    have b1 := range_is hs h1 hu
    have b2 := range_is hs h2 hv
    split at h
    · rename_i hlt
      rw [iLt_eq] at hlt
      simp only [decide_eq_true_eq] at hlt
      simp only [Option.some.injEq] at h
      rw [← h, eq_comm, decide_eq_true_eq]; omega
    · rename_i hlt hlt2
      rw [iLt_eq] at hlt hlt2
      simp only [decide_eq_false_iff_not] at hlt hlt2
      simp only [Option.some.injEq] at h
      rw [← h, eq_comm, decide_eq_false_iff_not]; omega
    · split at h
      · split at h
        · rename_i i p' j' q' heq hij
          have hij' : i = j' := by simpa [beq_eq] using hij
          subst hij'
          simp only [VRel, Value.int.injEq] at hu hv
          simp only [Option.some.injEq] at h
          rw [← h, iLt_eq, Bool.eq_iff_iff]
          simp only [decide_eq_true_eq]; omega
        · simp at h
      · simp at h
  · simp at h

theorem symEq_is {φ : Asg} (hs : SymOk E φ) {u v : SV} {r : Bool} (h : symEq E u v = some r) {j k : IntKind} {p q : Int} (hu : VRel φ u (.int j p)) (hv : VRel φ v (.int k q)) : r = decide (p = q) := by
  unfold symEq at h
  split at h
  · rename_i a b c d h1 h2
    have b1 := range_is hs h1 hu
    have b2 := range_is hs h2 hv
    split at h
    · rename_i hlt
      simp only [Bool.or_eq_true, iLt_eq, decide_eq_true_eq] at hlt
      simp only [Option.some.injEq] at h
      rw [← h, eq_comm, decide_eq_false_iff_not]; omega
    · split at h
      · split at h
        · rename_i i p' j' q' heq hij
          have hij' : i = j' := by simpa [beq_eq] using hij
          subst hij'
          simp only [VRel, Value.int.injEq] at hu hv
          simp only [Option.some.injEq] at h
          rw [← h, iEq_eq, Bool.eq_iff_iff]
          simp only [decide_eq_true_eq]; omega
        · simp at h
      · simp at h
  · simp at h

theorem notO_is {b : Option Bool} {r : Bool} (h : notO b = some r) : b = some !r := by
  cases b with
  | none => simp [notO] at h
  | some q => cases q <;> simp [notO] at h <;> subst h <;> rfl

theorem symCmp_run {φ : Asg} (hs : SymOk E φ) {op : BinOp} {u v : SV} {r : Bool} (h : symCmp E op u v = some r) {k : IntKind} {p q : Int} (hu : VRel φ u (.int k p)) (hv : VRel φ v (.int k q)) (t : TypeId) (w : World) :
    (binOp op t (.int k p) (.int k q)).run P w = .ok (.bool r) w := by
  unfold symCmp at h
  cases op <;> simp only at h <;> try (simp at h; done)
  · rw [symEq_is hs h hu hv]; simp [binOp, Op.intCmp]; rw [Bool.eq_iff_iff]; simp
  · have := symEq_is hs (notO_is h) hu hv
    have e : r = !decide (p = q) := by rw [← this]; simp
    rw [e]; simp [binOp, Op.intCmp]; rw [Bool.eq_iff_iff]; simp
  · rw [symLt_is hs h hu hv]; simp [binOp, Op.intCmp]
  · have := symLt_is hs (notO_is h) hv hu
    have e : r = !decide (q < p) := by rw [← this]; simp
    rw [e]; simp [binOp, Op.intCmp]; rw [Bool.eq_iff_iff]; simp
  · rw [symLt_is hs h hv hu]; simp [binOp, Op.intCmp]
  · have := symLt_is hs (notO_is h) hu hv
    have e : r = !decide (p < q) := by rw [← this]; simp
    rw [e]; simp [binOp, Op.intCmp]; rw [Bool.eq_iff_iff]; simp

theorem symAdd_is {i : Nat} {c : Int} (h : symAdd E i c s = some (x, s')) : inI64 E i c = true ∧ x = .val (.symI i c) ∧ s' = s := by
  unfold symAdd at h
  split at h
  · rename_i hi
    simp only [forceInt_eq, Option.some.injEq, Prod.mk.injEq] at h
    exact ⟨hi, h.1.symm, h.2.symm⟩
  · simp at h

theorem inI64_is {φ : Asg} (hs : SymOk E φ) {i : Nat} {c : Int} (h : inI64 E i c = true) : IntKind.i64.wrap (φ.num i + c) = φ.num i + c := by
  unfold inI64 at h
  simp only [Bool.and_eq_true, Bool.not_eq_true', iLt_eq, decide_eq_true_eq, decide_eq_false_iff_not] at h
  have := hs i
  exact IntWalk.i64_in _ (by omega)

/-! #### Texts -/
theorem bytes_toList (l : List Nat) : (bytesOf l).toList = l.map Nat.toUInt8 := by simp [bytesOf]

theorem u8_inj {a b : Nat} (ha : a < 256) (hb : b < 256) : Nat.toUInt8 a = Nat.toUInt8 b ↔ a = b := by
  refine ⟨fun h => ?_, fun h => by rw [h]⟩
  have := congrArg UInt8.toNat h
  rwa [toUInt8_toNat a ha, toUInt8_toNat b hb] at this

theorem bytes_eq : ∀ {a b : List Nat}, (∀ x ∈ a, x < 256) → (∀ x ∈ b, x < 256) → ((a.map Nat.toUInt8 == b.map Nat.toUInt8) = eqNats a b)
  | [], [], _, _ => rfl
  | x :: xs, y :: ys, ha, hb => by
    have ih := bytes_eq (a := xs) (b := ys) (fun z hz => ha z (by simp [hz])) (fun z hz => hb z (by simp [hz]))
    simp only [List.map_cons, eqNats, beq_eq]
    have he : (Nat.toUInt8 x == Nat.toUInt8 y) = decide (x = y) := by
      rw [Bool.eq_iff_iff]; simp [u8_inj (ha x (by simp)) (hb y (by simp))]
    show ((Nat.toUInt8 x == Nat.toUInt8 y) && (xs.map Nat.toUInt8 == ys.map Nat.toUInt8)) = _
    rw [he, ih]
    by_cases h : x = y <;> simp [h]
  | [], _ :: _, _, _ => rfl
  | _ :: _, [], _, _ => rfl

theorem bytes_lt : ∀ {a b : List Nat}, (∀ x ∈ a, x < 256) → (∀ x ∈ b, x < 256) → Op.bytesLess (a.map Nat.toUInt8) (b.map Nat.toUInt8) = ltNats a b
  | a, [], _, _ => by cases a <;> rfl
  | [], y :: ys, _, _ => rfl
  | x :: xs, y :: ys, ha, hb => by
    have ih := bytes_lt (a := xs) (b := ys) (fun z hz => ha z (by simp [hz])) (fun z hz => hb z (by simp [hz]))
    have hx := ha x (by simp)
    have hy := hb y (by simp)
    simp only [List.map_cons, Op.bytesLess, ltNats, beq_eq, ih, blt_eq]
    have he : (Nat.toUInt8 x == Nat.toUInt8 y) = decide (x = y) := by
      rw [Bool.eq_iff_iff]; simp [u8_inj hx hy]
    have hl : (decide (Nat.toUInt8 x < Nat.toUInt8 y)) = decide (x < y) := by
      rw [Bool.eq_iff_iff]; simp [UInt8.lt_iff_toNat_lt, toUInt8_toNat x hx, toUInt8_toNat y hy]
    rw [he, hl]
    by_cases h : x = y
    · subst h; simp
    · simp [h]

theorem bytes_append (a b : List Nat) : bytesOf a ++ bytesOf b = bytesOf (a ++ b) := by
  apply ByteArray.ext
  rw [ByteArray.data_append]
  simp [bytesOf]

/-! #### Structs -/
theorem eqCell_run {φ : Asg} {sh : Sh} {u v : SV} {r : Bool} (h : eqCell sh u v = some r) {t : Nat} {d : TypeDesc} (hu : P.underlying t = some d) (hd : shOf d = sh) {U V : Value} (h1 : VRel φ u U) (h2 : VRel φ v V) (D : Nat) (w : World) :
    (Op.equalIn (D + 1) t U V).run P w = .ok r w := by
  unfold eqCell at h
  split at h
  · obtain rfl := shOf_bool hd
    simp only [VRel] at h1 h2
    simp only [Option.some.injEq] at h
    subst h1 h2 h
    exact run_equalIn_bool' w D t _ _ hu
  · obtain rfl := shOf_int hd
    simp only [VRel] at h1 h2
    split at h
    · rename_i hk
      simp only [Option.some.injEq] at h
      subst h1 h2 h hk
      rw [iEq_beq]
      exact run_equalIn_int w D t _ _ _ _ hu
    · simp at h
  · obtain rfl := shOf_int hd
    simp only [VRel] at h1 h2
    split at h
    · rename_i hk
      simp only [Option.some.injEq] at h
      subst h1 h2 h hk
      rw [run_equalIn_int w D t _ _ _ _ hu, iEq_beq]
      congr 1
      rw [Bool.eq_iff_iff]; simp
    · simp at h
  · obtain rfl := shOf_str hd
    simp only [VRel] at h1 h2
    simp only [Option.some.injEq] at h
    rw [h1.1, h2.1, run_equalIn_string w D t _ _ hu, bytes_toList, bytes_toList, bytes_eq h1.2 h2.2, h]
  · obtain rfl := shOf_str hd
    simp only [VRel] at h1 h2
    split at h
    · rename_i hk
      simp only [Option.some.injEq] at h
      subst h1 h2 h hk
      rw [run_equalIn_string w D t _ _ hu]
      simp
    · simp at h
  · obtain rfl := shOf_ptr hd
    simp only [VRel] at h1 h2
    simp only [Option.some.injEq] at h
    subst h1 h2 h
    simp [Op.equalIn, run_underlying hu]
  · obtain rfl := shOf_ptr hd
    simp only [VRel] at h1 h2
    obtain ⟨_, _, _, _, rfl⟩ := h2
    simp only [Option.some.injEq] at h
    subst h1 h
    simp [Op.equalIn, run_underlying hu]
  · obtain rfl := shOf_ptr hd
    simp only [VRel] at h1 h2
    obtain ⟨_, _, _, _, rfl⟩ := h1
    simp only [Option.some.injEq] at h
    subst h2 h
    simp [Op.equalIn, run_underlying hu]
  · simp at h

theorem eqFs_run {eq : Nat → SV → SV → Option Bool} {D : Nat} {φ : Asg} (w : World) (hE : EnvOk P E)
    (heq : ∀ t u v r U V, eq t u v = some r → VRel φ u U → VRel φ v V → (Op.equalIn D t U V).run P w = .ok r w) {xs ys : List SV} {us vs : Array Value} (h1 : VRels φ xs us.toList) (h2 : VRels φ ys vs.toList) :
    ∀ {gs : List Field} {r : Bool}, eqFs E eq xs ys (gs.map fun f => (f.offset, f.type, f.name == "_")) = some r → (Op.eqFields D us vs gs).run P w = .ok r w
  | [], r, h => by simp [eqFs] at h; subst h; simp [Op.eqFields]
  | g :: gs, r, h => by
    simp only [List.map_cons, eqFs] at h
    simp only [Op.eqFields]
    split at h
    · rename_i hb
      have hb' : g.name = "_" := by simpa using hb
      rw [if_neg (by simp [hb'])]
      exact eqFs_run w hE heq h1 h2 h
    · rename_i hb
      have hb' : g.name ≠ "_" := by simpa using hb
      rw [if_pos hb']
      split at h
      · rename_i a b ha hb2
        obtain ⟨A, hA, ra⟩ := part_run hE ha h1 w
        obtain ⟨B, hB, rb⟩ := part_run hE hb2 h2 w
        simp only [Sem.run_bind, hA, hB, Result.andThen_ok]
        split at h
        · rename_i hq
          rw [heq _ _ _ _ _ _ hq ra rb]
          simpa using eqFs_run w hE heq h1 h2 h
        · rename_i hq
          rw [heq _ _ _ _ _ _ hq ra rb]
          simp only [Option.some.injEq] at h
          subst h
          simp
        · simp at h
      · simp at h

theorem eqTy_run (hE : EnvOk P E) {φ : Asg} (w : World) : ∀ (d : Nat) (D : Nat), d ≤ D → ∀ t u v r U V, eqTy E d t u v = some r → VRel φ u U → VRel φ v V → (Op.equalIn D t U V).run P w = .ok r w
  | 0, _, _, t, u, v, r, U, V, h, _, _ => by simp [eqTy] at h
  | d + 1, 0, hD, t, u, v, r, U, V, h, h1, h2 => by omega
  | d + 1, D + 1, hD, t, u, v, r, U, V, h, h1, h2 => by
    simp only [eqTy] at h
    split at h
    · rename_i ty hty
      obtain ⟨ti, td, tz, hi⟩ := tyOf_is (hE.ty _ _ hty)
      split at h
      · rename_i fs hsh
        obtain ⟨gs, rfl, rfl⟩ := shOf_struct (hi.sh.trans hsh)
        split at h
        · rename_i xs ys heq
          simp only [VRel] at h1 h2
          obtain ⟨us, rfl, r1⟩ := h1
          obtain ⟨vs, rfl, r2⟩ := h2
          have hfo : P.underlying t = some (.struct (P.fieldsOf t)) := by simp [Program.fieldsOf, hi.under]
          rw [run_equalIn_struct w D t us vs hfo (hi.eqs heq).1]
          have : P.fieldsOf t = gs := by simp [Program.fieldsOf, hi.under]
          rw [this]
          exact eqFs_run w hE (fun t u v r U V hq hu hv => eqTy_run hE w d D (by omega) t u v r U V hq hu hv) r1 r2 h
        · simp at h
      · exact eqCell_run h hi.under hi.sh h1 h2 D w
    · simp at h
end

end Go.Proofs.Ytnkicnhjllmmjaa.Sx
