/- The evaluator's operations are the model's: rows that are made, slices of slices, assertions, conversions. -/
import Derived.Test.YtnkicnhjllmmjaaSx8
namespace Go.Proofs.Ytnkicnhjllmmjaa.Sx
open Go
set_option linter.unusedVariables false

theorem repL_get {α : Type} (z : List α) : ∀ (n : Nat), (repL n z).length = n * z.length ∧ ∀ k, k < n * z.length → (repL n z)[k]? = z[k % z.length]?
  | 0 => ⟨by simp [repL], fun k hk => by simp at hk⟩
  | n + 1 => by
    obtain ⟨h1, h2⟩ := repL_get z n
    simp only [repL, appL_eq]
    refine ⟨by rw [List.length_append, h1, Nat.succ_mul, Nat.add_comm], fun k hk => ?_⟩
    by_cases hlt : k < z.length
    · rw [List.getElem?_append_left hlt, Nat.mod_eq_of_lt hlt]
    · rw [List.getElem?_append_right (by omega), h2 _ (by rw [Nat.succ_mul] at hk; omega)]
      congr 1
      have hz : 0 < z.length := by
        rcases Nat.eq_zero_or_pos z.length with h | h
        · rw [h] at hk; simp at hk
        · exact h
      conv => rhs; rw [show k = (k - z.length) + z.length by omega, Nat.add_mod_right]

theorem rep_rel {φ : Asg} {zs : List SV} {Z : Array Value} (hz : VRels φ zs Z.toList) (n m : Nat) (hm : m = n * zs.length) : VRels φ (repL n zs) ((Array.range m).map (Z[· % Z.size]!)).toList := by
  obtain ⟨h1, h2⟩ := repL_get zs n
  have hl := hz.length
  rw [Array.length_toList] at hl
  refine VRels.of_get (by simp [h1, hm]) fun k y u hy hu => ?_
  have hk : k < n * zs.length := by rw [← h1]; exact (List.getElem?_eq_some_iff.1 hy).1
  rw [h2 k hk] at hy
  obtain ⟨U, hU, hr⟩ := hz.get _ _ hy
  have hlt : k % zs.length < Z.size := by rw [hl]; exact (List.getElem?_eq_some_iff.1 hy).1
  have hu2 : ((Array.range m).map (Z[· % Z.size]!))[k]? = some u := by rw [← Array.getElem?_toList]; exact hu
  rw [Array.getElem?_map, Array.getElem?_range] at hu2
  rw [if_pos (by omega)] at hu2
  simp only [Option.map_some, Option.some.injEq] at hu2
  rw [hl, getElem!_pos Z _ hlt] at hu2
  rw [Array.getElem?_toList, Array.getElem?_eq_getElem hlt] at hU
  cases hU
  rw [← hu2]
  exact hr

section
variable {P : Program} {E : Env} {tm : Tm} {s s' : St} {x : SNext}

theorem ok_buildSlice (hE : EnvOk P E) {t len : Nat} {ps : Array (Nat × Operand)} {l : List (Nat × SV)} (hl : evalParts tm ps.toList = some l) (h : buildSliceS E t len l s = some (x, s')) : OpOk P E tm (.buildSlice t len ps) s x s' := by
  unfold buildSliceS at h
  split at h
  · simp at h
  · rename_i ty hty
    obtain ⟨ti, d, zv, hi⟩ := tyOf_is (hE.ty _ _ hty)
    split at h
    · rename_i e hsh
      split at h
      · rename_i te hte
        obtain ⟨tei, de, ze, he⟩ := tyOf_is (hE.ty _ _ hte)
        obtain rfl := shOf_slice (hi.sh.trans hsh)
        split at h
        · rename_i k hbig hsz
          split at h
          · rename_i cs hcs
            obtain ⟨s1, hk, hn, hwr, hg, hsc⟩ := new_out h
            simp only [Option.some.injEq, Prod.mk.injEq] at hk
            obtain ⟨rfl, rfl⟩ := hk
            refine .makes hn hwr hg fun φ ρ w op _ hρ _ ho => ?_
            obtain ⟨e1, e2⟩ := parts_sees hρ hl
            have hz := rep_rel (he.zeros φ) len (len * te.size) (by rw [he.len])
            obtain ⟨us, hus, hr⟩ := fill_rel (pl' := fun i => some (i * te.size, te.size)) (fun i q hq => hq) (parts := l) (ps := ps.toList.map fun p => (p.1, ρ p.2)) (by simpa [Function.comp_def] using e1) (by simpa [Function.comp_def] using e2) hcs hz
            have hul := hr.length
            rw [Array.length_toList] at hul
            refine ⟨.slice (some ⟨w.heap.size, 0, none⟩) len len, _, us, (0, 0), cs.length, ?_, rfl, .alloc w _, hul, fun _ => rfl, Nat.le_refl _, ?_, .inl (Nat.le_refl _), ?_⟩
            · have hb : ¬ (2 ^ 24 < len * te.size) := by
                simp only [ble_eq, decide_eq_true_eq] at hbig
                have : (2 : Nat) ^ 24 = 16777216 := by decide
                omega
              have h16 : ¬ (16777216 < len * te.size) := by
                have : (2 : Nat) ^ 24 = 16777216 := by decide
                omega
              by_cases h0 : len * te.size = 0
              · rw [h0] at hus
                simp only [Array.range_zero', List.map_toArray, List.map_nil] at hus
                simp only [execOp, ho, Instr.buildSlice, Sem.run_bind, hi.run_under, Result.andThen_ok, he.run_size]
                simp [h0, Array.range_zero', hus, newRow]
              · simp only [execOp, ho, Instr.buildSlice, Sem.run_bind, hi.run_under, Result.andThen_ok, he.run_size]
                simp [h16, h0, he.run_zero, hus, newRow]
            · rw [take_all _ _ (by simp [hul])]
              exact hr
            · simp only [VRel]
              exact ⟨w.heap.size, 0, cs.length, len, by simp [Asg.set], rfl, rfl, Nat.le_refl _⟩
          · simp at h
        · simp at h
      · simp at h
    · simp at h

theorem ok_makeSlice (hE : EnvOk P E) {t : Nat} {y u : Operand} {a b : SV} (hy : evalS tm y = some a) (hu : evalS tm u = some b) (h : makeSliceS E t a b s = some (x, s')) : OpOk P E tm (.makeSlice t y u) s x s' := by
  unfold makeSliceS at h
  split at h
  · simp at h
  · rename_i ty hty
    obtain ⟨ti, d, zv, hi⟩ := tyOf_is (hE.ty _ _ hty)
    split at h
    · rename_i e kl l kc c hsh
      split at h
      · rename_i te hte
        obtain ⟨tei, de, ze, he⟩ := tyOf_is (hE.ty _ _ hte)
        obtain rfl := shOf_slice (hi.sh.trans hsh)
        split at h
        · rename_i k hlc hb hsm hsz
          rw [forceL_eq] at h
          obtain ⟨s1, hk, hn, hwr, hg, hsc⟩ := new_out h
          simp only [Option.some.injEq, Prod.mk.injEq] at hk
          obtain ⟨rfl, rfl⟩ := hk
          simp only [ble_eq, small, blt_eq, decide_eq_true_eq] at hlc hb hsm
          refine .makes hn hwr hg fun φ ρ w op _ hρ _ ho => ?_
          have h1 := hρ _ _ hy
          have h2 := hρ _ _ hu
          simp only [VRel] at h1 h2
          have hz := rep_rel (he.zeros φ) c (c * te.size) (by rw [he.len])
          have h9 : (tei.bytes : Int) * (c : Int) ≤ 281474976710656 := by
            have h8 : ((te.bytes * c : Nat) : Int) ≤ 281474976710656 := by omega
            rw [he.bytes]
            rwa [Int.natCast_mul] at h8
          have hr := run_make (P := P) w t e tei ze hi.under he.info he.zero kl kc l c (by omega) (by omega) h9 (by omega)
          have hcl : (repL c te.zero).length = c * te.size := by rw [(repL_get te.zero c).1, he.len]
          refine ⟨.slice (some ⟨w.heap.size, 0, none⟩) l c, _, madeCells ze.cells (c * te.size), (0, 0), c * te.size, ?_, rfl, .alloc w _, size_madeCells _ _, fun _ => hcl, by rw [hcl]; exact Nat.le_refl _, ?_, .inl (Nat.le_refl _), ?_⟩
          · rw [he.size] at hr
            simp only [Int.toNat_natCast] at hr
            simp [execOp, ho, h1, h2, hr]
          · rw [take_all _ _ (by simp [size_madeCells, hcl])]
            exact hz
          · simp only [VRel]
            exact ⟨w.heap.size, 0, c * te.size, c, by simp [Asg.set], rfl, rfl, hlc⟩
        · simp at h
      · simp at h
    · simp at h

/-! #### Slices of slices -/
theorem idx_is {v : SV} {most m : Nat} (h : idx v most = some m) : ∃ k, v = .int k (m : Int) ∧ m ≤ most := by
  unfold idx at h
  split at h
  · split at h
    · rename_i hle
      simp only [Option.some.injEq] at h
      subst h
      exact ⟨_, rfl, by simpa [ble_eq] using hle⟩
    · simp at h
  · simp at h

theorem bound_run {φ : Asg} {v : SV} {V : Value} {most m Y : Nat} {code : BoundsCode} (h : idx v most = some m) (hv : VRel φ v V) (hY : most ≤ Y) (w : World) : (Instr.sliceBound V Y code).run P w = .ok m w := by
  obtain ⟨k, rfl, hm⟩ := idx_is h
  simp only [VRel] at hv
  subst hv
  rw [run_sliceBound w k m Y code (by omega) (by omega)]
  simp

theorem sliceBounds_run {isSlice : Bool} {len C m h l : Nat} {LO HI MX : Option Value} (w : World)
    (hm : match MX with | none => m = C | some v => ∀ code, (Instr.sliceBound v C code).run P w = .ok m w)
    (hh : match HI with | none => MX = none ∧ h = len | some v => ∀ code, (Instr.sliceBound v m code).run P w = .ok h w)
    (hl : match LO with | none => l = 0 | some v => ∀ code, (Instr.sliceBound v h code).run P w = .ok l w) :
    (Instr.sliceBounds isSlice len C LO HI MX).run P w = .ok (l, h, m) w := by
  cases MX <;> cases HI <;> cases LO <;> simp_all [Instr.sliceBounds]

/-- The bounds of a slice expression are the model's. -/
theorem bounds_run {φ : Asg} {len sure C : Nat} {cap : Option Nat} {lo hi mx : Option SV} {LO HI MX : Option Value} {l h : Nat} {m : Option Nat} (hb : boundsS len sure cap lo hi mx = some (l, h, m))
    (hlo : VRelO φ lo LO) (hhi : VRelO φ hi HI) (hmx : VRelO φ mx MX) (hcap : ∀ c, cap = some c → C = c) (hsure : sure ≤ C) (hlen : len ≤ C) (isSlice : Bool) (w : World) :
    (Instr.sliceBounds isSlice len C LO HI MX).run P w = .ok (l, h, m.getD C) w ∧ l ≤ h ∧ h ≤ m.getD C ∧ (m = none → cap = none ∧ mx = none ∧ (h ≤ sure ∨ h = len)) ∧ (∀ q, m = some q → q ≤ C) := by
  unfold boundsS at hb
  split at hb
  · simp at hb
  · rename_i mm hmm
    split at hb
    · simp at hb
    · rename_i H hH
      split at hb
      · simp at hb
      · rename_i L hL
        simp only [Option.some.injEq, Prod.mk.injEq] at hb
        obtain ⟨rfl, rfl, rfl⟩ := hb
        have hcs : cap.getD sure ≤ C := by
          cases cap with
          | none => exact hsure
          | some c => rw [hcap c rfl]; exact Nat.le_refl _
        have m1 : (match (generalizing := false) MX with | none => mm.getD C = C | some v => ∀ code, (Instr.sliceBound v C code).run P w = .ok (mm.getD C) w) ∧ (mx = none → mm = cap) ∧ (mx ≠ none → ∃ q, mm = some q) ∧ (∀ q, mm = some q → q ≤ C) := by
          unfold mostS at hmm
          cases mx with
          | none =>
            cases MX with
            | some _ => simp [VRelO] at hmx
            | none =>
              simp only [Option.some.injEq] at hmm
              subst hmm
              refine ⟨?_, fun _ => rfl, fun h => absurd rfl h, fun q hq => by rw [hcap q hq]; exact Nat.le_refl _⟩
              cases cap with
              | none => rfl
              | some c => rw [hcap c rfl]; rfl
          | some v =>
            cases MX with
            | none => simp [VRelO] at hmx
            | some V =>
              simp only [VRelO] at hmx
              dsimp only at hmm
              split at hmm
              · rename_i q hq
                simp only [Option.some.injEq] at hmm
                subst hmm
                obtain ⟨_, _, hle⟩ := idx_is hq
                exact ⟨fun code => bound_run hq hmx hcs w, fun h => (by cases h), fun _ => ⟨q, rfl⟩, fun q' hq' => by cases hq'; omega⟩
              · simp at hmm
        obtain ⟨m1, m2, m3, m4⟩ := m1
        have hsm : mm.getD sure ≤ mm.getD C := by
          cases mm with
          | none => exact hsure
          | some q => exact Nat.le_refl _
        have h1 : (match (generalizing := false) HI with | none => MX = none ∧ H = len | some v => ∀ code, (Instr.sliceBound v (mm.getD C) code).run P w = .ok H w) ∧ (mm = none → H ≤ sure ∨ H = len) ∧ (H ≤ mm.getD C ∨ (H = len ∧ mx = none)) := by
          unfold hiS at hH
          cases hi with
          | none =>
            cases HI with
            | some _ => simp [VRelO] at hhi
            | none =>
              cases mx with
              | some _ => simp at hH
              | none =>
                cases MX with
                | some _ => simp [VRelO] at hmx
                | none =>
                  simp only [Option.some.injEq] at hH
                  subst hH
                  exact ⟨⟨rfl, rfl⟩, fun _ => .inr rfl, .inr ⟨rfl, rfl⟩⟩
          | some v =>
            cases HI with
            | none => simp [VRelO] at hhi
            | some V =>
              simp only [VRelO] at hhi
              dsimp only at hH
              obtain ⟨_, _, hle⟩ := idx_is hH
              exact ⟨fun code => bound_run hH hhi hsm w, fun e => .inl (by subst e; exact hle), .inl (by omega)⟩
        obtain ⟨h1, h2, h3⟩ := h1
        have l1 : (match (generalizing := false) LO with | none => L = 0 | some v => ∀ code, (Instr.sliceBound v H code).run P w = .ok L w) ∧ L ≤ H := by
          unfold loS at hL
          cases lo with
          | none =>
            cases LO with
            | some _ => simp [VRelO] at hlo
            | none =>
              simp only [Option.some.injEq] at hL
              subst hL
              exact ⟨rfl, Nat.zero_le _⟩
          | some v =>
            cases LO with
            | none => simp [VRelO] at hlo
            | some V =>
              simp only [VRelO] at hlo
              dsimp only at hL
              obtain ⟨_, _, hle⟩ := idx_is hL
              exact ⟨fun code => bound_run hL hlo (Nat.le_refl _) w, hle⟩
        have hmC : mx = none → mm.getD C = C := by
          intro e
          rw [m2 e]
          cases cap with
          | none => rfl
          | some c => rw [hcap c rfl]; rfl
        refine ⟨sliceBounds_run w m1 h1 l1.1, l1.2, ?_, fun e => ?_, m4⟩
        · rcases h3 with h3 | ⟨h3, e⟩
          · exact h3
          · rw [hmC e]; omega
        · have hmx' : mx = none := by
            cases mx with
            | none => rfl
            | some v => obtain ⟨q, hq⟩ := m3 (by simp); rw [hq] at e; cases e
          exact ⟨by rw [← m2 hmx', e], hmx', h2 e⟩

theorem bytes_extract (l : List Nat) (a b : Nat) : (bytesOf l).extract a b = bytesOf ((l.drop a).take (b - a)) := by
  unfold bytesOf
  apply ByteArray.ext
  rw [ByteArray.data_extract]
  apply Array.ext'
  rw [Array.toList_extract, List.extract_eq_take_drop]
  simp [List.map_take, List.map_drop]

theorem evalO_rel {φ : Asg} {ρ : Operand → Value} (hρ : Sees φ tm ρ) {o : Option Operand} {v : Option SV} (h : evalO tm o = some v) : VRelO φ v (o.map ρ) := by
  cases o with
  | none => simp [evalO] at h; subst h; trivial
  | some y =>
    simp only [evalO] at h
    split at h
    · rename_i u hu
      simp only [Option.some.injEq] at h
      subst h
      exact hρ y u hu
    · simp at h

theorem run_sliceAt_row (w : World) {t e : TypeId} {te : Ty} {ei : TypeInfo} {ed : TypeDesc} {ez : Value} (hu : P.underlying t = some (.slice e)) (he : TyIs P e te ei ed ez) {a : Option Addr} {n C l h m : Nat} {LO HI MX : Option Value}
    (hb : (Instr.sliceBounds true n C LO HI MX).run P w = .ok (l, h, m) w) :
    (Instr.sliceAt t (.slice a n C) LO HI MX).run P w = .ok (.slice (if m = l then a else a.map (·.add (l * te.size))) (h - l) (m - l)) w := by
  simp only [Instr.sliceAt, Sem.run_bind, run_underlying hu, Result.andThen_ok, Instr.slice, hb, he.run_size, Sem.run_pure]

theorem run_sliceAt_str (w : World) {t : Nat} (hu : P.underlying t = some .string) {S : ByteArray} {l h m : Nat} {LO HI : Option Value}
    (hb : (Instr.sliceBounds false S.size S.size LO HI none).run P w = .ok (l, h, m) w) : (Instr.sliceAt t (.string S) LO HI none).run P w = .ok (.string (S.extract l h)) w := by
  simp [Instr.sliceAt, run_underlying hu, Instr.slice, hb]

theorem ok_slice (hE : EnvOk P E) {t : Nat} {y : Operand} {ol oh om : Option Operand} {v : SV} {lo hi mx : Option SV} (hy : evalS tm y = some v) (h1 : evalO tm ol = some lo) (h2 : evalO tm oh = some hi) (h3 : evalO tm om = some mx)
    (h : sliceS E t v lo hi mx s = some (x, s')) : OpOk P E tm (.slice t y ol oh om) s x s' := by
  unfold sliceS at h
  split at h
  · simp at h
  · rename_i ty hty
    obtain ⟨ti, d, zv, hi'⟩ := tyOf_is (hE.ty _ _ hty)
    split at h
    · -- an array's
      rename_i n e i o hsh
      obtain rfl := shOf_arr (hi'.sh.trans hsh)
      split at h
      · rename_i te l hh m hte hbs
        obtain ⟨tei, de, ze, he⟩ := tyOf_is (hE.ty _ _ hte)
        have base : ∀ (φ : Asg) (ρ : Operand → Value) (w : World) (op : Oper), Sees φ tm ρ → op.op = .slice t y ol oh om → ∃ b β z, φ.blk i = some (b, β, z) ∧ l ≤ hh ∧ hh ≤ m ∧
            (execOp ρ op).run P w = .ok (.value (.slice (some (if m = l then ⟨b, β + o, none⟩ else ⟨b, β + o + l * te.size, none⟩)) (hh - l) (m - l))) w := by
          intro φ ρ w op hρ ho
          have hv := hρ _ _ hy
          simp only [VRel] at hv
          obtain ⟨b, β, z, hb, e1⟩ := hv
          obtain ⟨r1, r2, r3, _, _⟩ := bounds_run (P := P) hbs (evalO_rel hρ h1) (evalO_rel hρ h2) (evalO_rel hρ h3) (C := n) (fun c hc => by simpa using hc) (Nat.le_refl _) (Nat.le_refl _) false w
          refine ⟨b, β, z, hb, r2, r3, ?_⟩
          simp only [Option.getD_some] at r1
          simp only [execOp, ho, Sem.run_bind, Instr.sliceAt, hi'.run_under, Result.andThen_ok, e1, Instr.sureAddr, Sem.run_pure, r1, he.run_size, Addr.add_lit]
        split at h
        · rename_i hml
          simp only [retV, Option.some.injEq, Prod.mk.injEq] at h
          obtain ⟨rfl, rfl⟩ := h
          refine .still fun φ ρ w op _ hρ _ ho => ?_
          obtain ⟨b, β, z, hb, r2, r3, r4⟩ := base φ ρ w op hρ ho
          have hml' : m = l := by simpa [beq_eq] using hml
          refine ⟨_, r4, ?_⟩
          simp only [VRel]
          exact ⟨_, m - l, by rw [show hh - l = 0 by omega], fun k hk => by simp at hk; omega⟩
        · rename_i hml
          simp only [retV, Option.some.injEq, Prod.mk.injEq] at h
          obtain ⟨rfl, rfl⟩ := h
          refine .still fun φ ρ w op _ hρ _ ho => ?_
          obtain ⟨b, β, z, hb, r2, r3, r4⟩ := base φ ρ w op hρ ho
          have hml' : ¬ m = l := by simpa [beq_eq] using hml
          refine ⟨_, r4, ?_⟩
          simp only [VRel]
          exact ⟨b, β, z, m - l, hb, by rw [if_neg hml', Nat.add_assoc], rfl, by omega⟩
      · simp at h
    · -- a text's
      rename_i l hsh
      obtain rfl := shOf_str (hi'.sh.trans hsh)
      split at h
      · rename_i a b c hbs
        split at h
        · rename_i r hr
          split at h
          · rename_i q hq
            simp only [retS, forceNats_eq, Option.some.injEq, Prod.mk.injEq] at h
            obtain ⟨rfl, rfl⟩ := h
            refine .still fun φ ρ w op _ hρ _ ho => ?_
            have hv := hρ _ _ hy
            simp only [VRel] at hv
            have h3' := evalO_rel hρ h3
            cases hom : om.map ρ with
            | some _ => rw [hom] at h3'; simp [VRelO] at h3'
            | none =>
              obtain ⟨r1, r2, r3, _, _⟩ := bounds_run (P := P) hbs (evalO_rel hρ h1) (evalO_rel hρ h2) (MX := none) trivial (C := l.length) (fun c hc => by simpa using hc) (Nat.le_refl _) (Nat.le_refl _) false w
              obtain ⟨d1, d2⟩ := dropN_eq _ _ _ hr
              obtain ⟨d3, d4⟩ := takeN_eq _ _ _ hq
              subst d1 d3
              refine ⟨.string (bytesOf ((l.drop a).take (b - a))), ?_, by simp only [VRel]; exact ⟨trivial, fun x hx => hv.2 x (List.mem_of_mem_drop (List.mem_of_mem_take hx))⟩⟩
              rw [← bytes_size l] at r1
              simp only [execOp, ho, Sem.run_bind, hv.1, hom, run_sliceAt_str w hi'.under r1, Result.andThen_ok, Sem.run_pure, bytes_extract]
          · simp at h
        · simp at h
      · simp at h
    · -- nil
      rename_i e hsh
      obtain rfl := shOf_slice (hi'.sh.trans hsh)
      split at h
      · rename_i te hte
        obtain ⟨tei, de, ze, he⟩ := tyOf_is (hE.ty _ _ hte)
        split at h
        · rename_i p hbs
          obtain ⟨l, hh, m⟩ := p
          simp only [retV, Option.some.injEq, Prod.mk.injEq] at h
          obtain ⟨rfl, rfl⟩ := h
          refine .still fun φ ρ w op _ hρ _ ho => ?_
          have hv := hρ _ _ hy
          simp only [VRel] at hv
          obtain ⟨r1, r2, r3, r4, r5⟩ := bounds_run (P := P) hbs (evalO_rel hρ h1) (evalO_rel hρ h2) (evalO_rel hρ h3) (C := 0) (fun c hc => by simpa using hc) (Nat.le_refl _) (Nat.le_refl _) true w
          have hm : m.getD 0 = 0 := by
            cases m with
            | none => rfl
            | some q => have := r5 q rfl; simpa using this
          rw [hm] at r1 r3
          have rr := run_sliceAt_row w hi'.under he (a := none) r1
          refine ⟨.slice none 0 0, ?_, by simp only [VRel]⟩
          have hl0 : l = 0 := by omega
          have hh0 : hh = 0 := by omega
          subst hl0 hh0
          simp only [execOp, ho, Sem.run_bind, hv, rr, Result.andThen_ok, Sem.run_pure]
          simp
        · simp at h
      · simp at h
    · -- somewhere, without an element
      rename_i e oc hsh
      obtain rfl := shOf_slice (hi'.sh.trans hsh)
      split at h
      · rename_i te hte
        obtain ⟨tei, de, ze, he⟩ := tyOf_is (hE.ty _ _ hte)
        split at h
        · rename_i l hh om' hbs
          have base : ∀ (φ : Asg) (ρ : Operand → Value) (w : World) (op : Oper), Sees φ tm ρ → op.op = .slice t y ol oh om → hh = 0 → ∃ a C, (∀ k, oc = some k → C = k) ∧ (∀ q, om' = some q → q ≤ C) ∧
              (execOp ρ op).run P w = .ok (.value (.slice (some a) 0 (om'.getD C))) w := by
            intro φ ρ w op hρ ho h0
            have hv := hρ _ _ hy
            simp only [VRel] at hv
            obtain ⟨a, C, e1, hC⟩ := hv
            obtain ⟨r1, r2, r3, r4, r5⟩ := bounds_run (P := P) hbs (evalO_rel hρ h1) (evalO_rel hρ h2) (evalO_rel hρ h3) (C := C) hC (Nat.zero_le _) (Nat.zero_le _) true w
            have rr := run_sliceAt_row w hi'.under he (a := some a) r1
            have hl0 : l = 0 := by omega
            subst hl0 h0
            refine ⟨a, C, hC, r5, ?_⟩
            simp only [execOp, ho, Sem.run_bind, e1, rr, Result.andThen_ok, Sem.run_pure]
            congr 3
            · split <;> simp [Addr.add]
          split at h
          · rename_i m
            simp only [retV, Option.some.injEq, Prod.mk.injEq] at h
            obtain ⟨rfl, rfl⟩ := h
            refine .still fun φ ρ w op _ hρ _ ho => ?_
            obtain ⟨a, C, _, _, r⟩ := base φ ρ w op hρ ho rfl
            exact ⟨_, r, by simp only [VRel]; exact ⟨a, _, rfl, fun k hk => by simpa using hk⟩⟩
          · simp only [retV, Option.some.injEq, Prod.mk.injEq] at h
            obtain ⟨rfl, rfl⟩ := h
            refine .still fun φ ρ w op _ hρ _ ho => ?_
            obtain ⟨a, C, _, _, r⟩ := base φ ρ w op hρ ho rfl
            exact ⟨_, r, by simp only [VRel]; exact ⟨a, _, rfl, fun k hk => by cases hk⟩⟩
          · simp at h
        · simp at h
      · simp at h
    · -- at the end of what is known
      rename_i e i o es hsh
      obtain rfl := shOf_slice (hi'.sh.trans hsh)
      split at h
      · rename_i te hte
        obtain ⟨tei, de, ze, he⟩ := tyOf_is (hE.ty _ _ hte)
        split at h
        · rename_i l hbs
          simp only [retV, Option.some.injEq, Prod.mk.injEq] at h
          obtain ⟨rfl, rfl⟩ := h
          refine .still fun φ ρ w op _ hρ _ ho => ?_
          have hv := hρ _ _ hy
          have hv' := hv
          simp only [VRel] at hv
          obtain ⟨b, β, z, a, C, hb, e1, g1, g2, g3⟩ := hv
          obtain ⟨r1, r2, r3, r4, r5⟩ := bounds_run (P := P) hbs (evalO_rel hρ h1) (evalO_rel hρ h2) (evalO_rel hρ h3) (C := C) (fun c hc => by cases hc) (Nat.zero_le _) (Nat.zero_le _) true w
          have rr := run_sliceAt_row w hi'.under he (a := some a) r1
          have hl0 : l = 0 := by omega
          subst hl0
          refine ⟨ρ y, ?_, hv'⟩
          simp only [execOp, ho, Sem.run_bind, e1, rr, Result.andThen_ok, Sem.run_pure]
          congr 3
          split <;> simp [Addr.add]
        · rename_i l hbs
          simp only [retV, Option.some.injEq, Prod.mk.injEq] at h
          obtain ⟨rfl, rfl⟩ := h
          refine .still fun φ ρ w op _ hρ _ ho => ?_
          have hv := hρ _ _ hy
          simp only [VRel] at hv
          obtain ⟨b, β, z, a, C, hb, e1, g1, g2, g3⟩ := hv
          obtain ⟨r1, r2, r3, r4, r5⟩ := bounds_run (P := P) hbs (evalO_rel hρ h1) (evalO_rel hρ h2) (evalO_rel hρ h3) (C := C) (fun c hc => by cases hc) (Nat.zero_le _) (Nat.zero_le _) true w
          have rr := run_sliceAt_row w hi'.under he (a := some a) r1
          have hl0 : l = 0 := by omega
          subst hl0
          refine ⟨.slice (some a) 0 0, ?_, by simp only [VRel]; exact ⟨a, 0, rfl, fun k hk => by simpa using hk⟩⟩
          simp only [execOp, ho, Sem.run_bind, e1, rr, Result.andThen_ok, Sem.run_pure]
          simp
        · simp at h
      · simp at h
    · -- just so many
      rename_i e i o n c hsh
      obtain rfl := shOf_slice (hi'.sh.trans hsh)
      split at h
      · rename_i te l hh m hte hbs
        obtain ⟨tei, de, ze, he⟩ := tyOf_is (hE.ty _ _ hte)
        have base : ∀ (φ : Asg) (ρ : Operand → Value) (w : World) (op : Oper), Sees φ tm ρ → op.op = .slice t y ol oh om → ∃ b β z, φ.blk i = some (b, β, z) ∧ l ≤ hh ∧ hh ≤ m ∧
            (execOp ρ op).run P w = .ok (.value (.slice (if m = l then some ⟨b, β + o, none⟩ else some ⟨b, β + o + l * te.size, none⟩) (hh - l) (m - l))) w := by
          intro φ ρ w op hρ ho
          have hv := hρ _ _ hy
          simp only [VRel] at hv
          obtain ⟨b, β, z, C, hb, e1, hC, hle⟩ := hv
          subst hC
          obtain ⟨r1, r2, r3, r4, r5⟩ := bounds_run (P := P) hbs (evalO_rel hρ h1) (evalO_rel hρ h2) (evalO_rel hρ h3) (C := C) (fun c hc => by simpa using hc) (Nat.le_refl _) hle true w
          have rr := run_sliceAt_row w hi'.under he (a := some ⟨b, β + o, none⟩) r1
          refine ⟨b, β, z, hb, r2, r3, ?_⟩
          simp only [execOp, ho, Sem.run_bind, e1, rr, Result.andThen_ok, Sem.run_pure, Option.map_some, Addr.add_lit, Option.getD_some]
        split at h
        · rename_i hml
          simp only [retV, Option.some.injEq, Prod.mk.injEq] at h
          obtain ⟨rfl, rfl⟩ := h
          refine .still fun φ ρ w op _ hρ _ ho => ?_
          obtain ⟨b, β, z, hb, r2, r3, r4⟩ := base φ ρ w op hρ ho
          have hml' : m = l := by simpa [beq_eq] using hml
          refine ⟨_, r4, ?_⟩
          simp only [VRel]
          exact ⟨⟨b, β + o, none⟩, m - l, by rw [if_pos hml', show hh - l = 0 by omega], fun k hk => by simp at hk; omega⟩
        · rename_i hml
          simp only [retV, Option.some.injEq, Prod.mk.injEq] at h
          obtain ⟨rfl, rfl⟩ := h
          refine .still fun φ ρ w op _ hρ _ ho => ?_
          obtain ⟨b, β, z, hb, r2, r3, r4⟩ := base φ ρ w op hρ ho
          have hml' : ¬ m = l := by simpa [beq_eq] using hml
          refine ⟨_, r4, ?_⟩
          simp only [VRel]
          exact ⟨b, β, z, m - l, hb, by rw [if_neg hml', Nat.add_assoc], rfl, by omega⟩
      · simp at h
    · -- to the end of its block
      rename_i e i o n es hsh
      obtain rfl := shOf_slice (hi'.sh.trans hsh)
      split at h
      · rename_i te hte
        obtain ⟨tei, de, ze, he⟩ := tyOf_is (hE.ty _ _ hte)
        split at h
        · rename_i hes
          have hes' : te.size = es := by simpa [beq_eq] using hes
          -- what any of the ways comes to
          have base : ∀ (sure l hh : Nat) (m : Option Nat), boundsS n sure none lo hi mx = some (l, hh, m) → ∀ (φ : Asg) (ρ : Operand → Value) (w : World) (op : Oper), Sees φ tm ρ → op.op = .slice t y ol oh om →
              (∀ b β z c, φ.blk i = some (b, β, z) → n ≤ c → 0 < es → o + c * es = z → sure ≤ c) →
              ∃ b β z C, φ.blk i = some (b, β, z) ∧ 0 < es ∧ n ≤ C ∧ o + C * es = z ∧ l ≤ hh ∧ hh ≤ m.getD C ∧ (m = none → hh ≤ sure ∨ hh = n) ∧ (∀ q, m = some q → q ≤ C) ∧ sure ≤ C ∧
              (execOp ρ op).run P w = .ok (.value (.slice (if m.getD C = l then some ⟨b, β + o, none⟩ else some ⟨b, β + o + l * es, none⟩) (hh - l) (m.getD C - l))) w := by
            intro sure l hh m hbs φ ρ w op hρ ho hsure
            have hv := hρ _ _ hy
            simp only [VRel] at hv
            obtain ⟨b, β, z, C, hb, e1, g1, g2, g3⟩ := hv
            have hsC := hsure b β z C hb g2 g1 g3
            obtain ⟨r1, r2, r3, r4, r5⟩ := bounds_run (P := P) hbs (evalO_rel hρ h1) (evalO_rel hρ h2) (evalO_rel hρ h3) (C := C) (fun c hc => by cases hc) hsC g2 true w
            have rr := run_sliceAt_row w hi'.under he (a := some ⟨b, β + o, none⟩) r1
            refine ⟨b, β, z, C, hb, g1, g2, g3, r2, r3, fun e => (r4 e).2.2, r5, hsC, ?_⟩
            rw [← hes']
            simp only [execOp, ho, Sem.run_bind, e1, rr, Result.andThen_ok, Sem.run_pure, Option.map_some, Addr.add_lit]
          split at h
          · -- a most is given
            rename_i l hh m hbs
            have hb0 := fun φ ρ w op hρ ho => base n l hh (some m) hbs φ ρ w op hρ ho (fun b β z c _ hn _ _ => hn)
            split at h
            · rename_i hml
              simp only [retV, Option.some.injEq, Prod.mk.injEq] at h
              obtain ⟨rfl, rfl⟩ := h
              refine .still fun φ ρ w op _ hρ _ ho => ?_
              obtain ⟨b, β, z, C, hb, g1, g2, g3, r2, r3, r4, r5, r6, r7⟩ := hb0 φ ρ w op hρ ho
              have hml' : m = l := by simpa [beq_eq] using hml
              simp only [Option.getD_some] at r3 r7
              refine ⟨_, r7, ?_⟩
              simp only [VRel]
              exact ⟨⟨b, β + o, none⟩, m - l, by rw [if_pos hml', show hh - l = 0 by omega], fun k hk => by simp at hk; omega⟩
            · rename_i hml
              simp only [retV, Option.some.injEq, Prod.mk.injEq] at h
              obtain ⟨rfl, rfl⟩ := h
              refine .still fun φ ρ w op _ hρ _ ho => ?_
              obtain ⟨b, β, z, C, hb, g1, g2, g3, r2, r3, r4, r5, r6, r7⟩ := hb0 φ ρ w op hρ ho
              have hml' : ¬ m = l := by simpa [beq_eq] using hml
              simp only [Option.getD_some] at r3 r7
              refine ⟨_, r7, ?_⟩
              simp only [VRel]
              exact ⟨b, β, z, m - l, hb, by rw [if_neg hml', Nat.add_assoc], rfl, by omega⟩
          · -- none is
            rename_i l hh hbs
            have hb0 := fun φ ρ w op hρ ho => base n l hh none hbs φ ρ w op hρ ho (fun b β z c _ hn _ _ => hn)
            split at h
            · rename_i hln
              simp only [retV, Option.some.injEq, Prod.mk.injEq] at h
              obtain ⟨rfl, rfl⟩ := h
              refine .still fun φ ρ w op _ hρ _ ho => ?_
              obtain ⟨b, β, z, C, hb, g1, g2, g3, r2, r3, r4, r5, r6, r7⟩ := hb0 φ ρ w op hρ ho
              have hln' : l < n := by simpa [blt_eq] using hln
              simp only [Option.getD_none] at r3 r7
              refine ⟨_, r7, ?_⟩
              simp only [VRel]
              refine ⟨b, β, z, C - l, hb, by rw [if_neg (by omega), Nat.add_assoc], g1, by omega, ?_⟩
              rw [Nat.add_assoc, ← Nat.add_mul, show l + (C - l) = C by omega]
              exact g3
            · rename_i hln
              have hln' : ¬ l < n := by simpa [blt_eq] using hln
              split at h
              · simp only [retV, Option.some.injEq, Prod.mk.injEq] at h
                obtain ⟨rfl, rfl⟩ := h
                refine .still fun φ ρ w op _ hρ _ ho => ?_
                obtain ⟨b, β, z, C, hb, g1, g2, g3, r2, r3, r4, r5, r6, r7⟩ := hb0 φ ρ w op hρ ho
                simp only [Option.getD_none] at r3 r7
                have h4 := r4 rfl
                refine ⟨_, r7, ?_⟩
                simp only [VRel]
                exact ⟨b, β, z, C - 0, hb, by rw [show hh - 0 = 0 by omega]; split <;> simp, g1, by omega, by simpa using g3⟩
              · rename_i hl0
                simp only [retV, Option.some.injEq, Prod.mk.injEq] at h
                obtain ⟨rfl, rfl⟩ := h
                refine .still fun φ ρ w op _ hρ _ ho => ?_
                obtain ⟨b, β, z, C, hb, g1, g2, g3, r2, r3, r4, r5, r6, r7⟩ := hb0 φ ρ w op hρ ho
                simp only [Option.getD_none] at r3 r7
                have h4 := r4 rfl
                have hln2 : l = n := by omega
                refine ⟨_, r7, ?_⟩
                simp only [VRel]
                by_cases hC : C = l
                · refine ⟨b, β, z, ⟨b, β + o, none⟩, C - l, hb, by rw [if_pos hC, show hh - l = 0 by omega], g1, ?_, fun h => by omega⟩
                  rw [Nat.add_assoc, ← Nat.add_mul, show n + (C - l) = C by omega]
                  exact g3
                · refine ⟨b, β, z, ⟨b, β + o + l * es, none⟩, C - l, hb, by rw [if_neg hC, show hh - l = 0 by omega], g1, ?_, fun h => by rw [hln2, Nat.add_assoc]⟩
                  rw [Nat.add_assoc, ← Nat.add_mul, show n + (C - l) = C by omega]
                  exact g3
          · -- beyond the length, by what is known of the block
            split at h
            · rename_i l hh hbs
              split at h
              · rename_i hlk
                simp only [retV, Option.some.injEq, Prod.mk.injEq] at h
                obtain ⟨rfl, rfl⟩ := h
                refine .still fun φ ρ w op _ hρ hf ho => ?_
                have hlk' : l < (known s i - o) / es := by simpa [blt_eq] using hlk
                obtain ⟨b, β, z, C, hb, g1, g2, g3, r2, r3, r4, r5, r6, r7⟩ := base _ l hh none hbs φ ρ w op hρ ho (by
                  intro b β z c hb hn h0 hz
                  have hk : known s i ≤ z := by
                    unfold known
                    split
                    · rename_i B hB
                      obtain ⟨b', β', z', hb', cc, fr, _, _, _, hle, _⟩ := hf.blk i B hB
                      rw [hb] at hb'
                      cases hb'
                      exact hle
                    · exact Nat.zero_le _
                  rw [Nat.div_le_iff_le_mul_add_pred h0]
                  have : c * es = es * c := Nat.mul_comm _ _
                  omega)
                simp only [Option.getD_none] at r3 r7
                refine ⟨_, r7, ?_⟩
                simp only [VRel]
                refine ⟨b, β, z, C - l, hb, by rw [if_neg (by omega), Nat.add_assoc], g1, by omega, ?_⟩
                rw [Nat.add_assoc, ← Nat.add_mul, show l + (C - l) = C by omega]
                exact g3
              · simp at h
            · simp at h
        · simp at h
      · simp at h
    · simp at h
end

end Go.Proofs.Ytnkicnhjllmmjaa.Sx
