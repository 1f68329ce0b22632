/- The evaluator's operations are the model's: places, parts, slices, conversions. -/
import Derived.Test.YtnkicnhjllmmjaaSx7
import Derived.Laws.MakeOwn
import Derived.Laws.IdiomStrings
import Derived.Laws.Tables
import Derived.Laws.Slices
import Derived.Laws.Strings
namespace Go.Proofs.Ytnkicnhjllmmjaa.Sx
open Go
set_option linter.unusedVariables false

/-- Two lists of values, one of the evaluator's. -/
def VRelO (φ : Asg) : Option SV → Option Value → Prop
  | none, none => True
  | some x, some v => VRel φ x v
  | _, _ => False

section
variable {P : Program} {E : Env} {tm : Tm} {s s' : St} {x : SNext}

theorem field_is (hE : EnvOk P E) {t f off ft : Nat} (h : fieldOf E t f = some (off, ft)) : ∃ (gs : Array Field) (g : Field), P.underlying t = some (.struct gs) ∧ gs[f]? = some g ∧ g.offset = off ∧ g.type = ft := by
  unfold fieldOf at h
  split at h
  · rename_i ty hty
    obtain ⟨i, d, z, hi⟩ := tyOf_is (hE.ty _ _ hty)
    split at h
    · rename_i fs hfs
      split at h
      · rename_i a b c hat
        simp only [Option.some.injEq, Prod.mk.injEq] at h
        obtain ⟨rfl, rfl⟩ := h
        obtain ⟨gs, rfl, hgs⟩ := shOf_struct (hi.sh.trans hfs)
        rw [atN_eq, hgs] at hat
        simp only [List.getElem?_map, Option.map_eq_some_iff] at hat
        obtain ⟨g, hg, he⟩ := hat
        simp only [Prod.mk.injEq] at he
        exact ⟨gs, g, hi.under, by simpa using hg, he.1, he.2.1⟩
      · simp at h
    · simp at h
  · simp at h

theorem ok_fieldAddr (hE : EnvOk P E) {t f : Nat} {y : Operand} {v : SV} (hy : evalS tm y = some v) (h : fieldAddrS E t v f s = some (x, s')) : OpOk P E tm (.fieldAddr t y f) s x s' := by
  unfold fieldAddrS at h
  split at h
  · rename_i off ft i o hf
    split at h
    · rename_i ty hty
      split at h
      · simp at h
      · rename_i k hk
        rw [forceNat_eq] at h
        simp only [Option.some.injEq, Prod.mk.injEq] at h
        obtain ⟨rfl, rfl⟩ := h
        refine .still fun φ ρ w op _ hρ _ ho => ?_
        have h1 := hρ _ _ hy
        simp only [VRel] at h1
        obtain ⟨b, β, z, hb, e⟩ := h1
        obtain ⟨gs, g, hu, hg, rfl, rfl⟩ := field_is hE hf
        obtain ⟨ti, d, zv, hi⟩ := tyOf_is (hE.ty _ _ hty)
        refine ⟨.pointer (some ⟨b, β + o + g.offset, none⟩), ?_, by simp only [VRel]; exact ⟨b, β, z, hb, by rw [Nat.add_assoc]⟩⟩
        simp [execOp, ho, Instr.fieldAt, run_underlying hu, hg, Instr.sureAddr, e, fieldPlace, hi.run_size, hk, Addr.add_lit]
    · simp at h
  · simp at h

theorem ok_field (hE : EnvOk P E) {t f : Nat} {y : Operand} {v : SV} (hy : evalS tm y = some v) (h : fieldS E t v f s = some (x, s')) : OpOk P E tm (.field t y f) s x s' := by
  unfold fieldS at h
  split at h
  · rename_i off ft cs hf
    split at h
    · rename_i u hu
      simp only [retV, Option.some.injEq, Prod.mk.injEq] at h
      obtain ⟨rfl, rfl⟩ := h
      refine .still fun φ ρ w op _ hρ _ ho => ?_
      have h1 := hρ _ _ hy
      simp only [VRel] at h1
      obtain ⟨vs, e, hr⟩ := h1
      obtain ⟨gs, g, hu', hg, rfl, rfl⟩ := field_is hE hf
      obtain ⟨V, hV, hv⟩ := part_run hE hu hr w
      exact ⟨V, by simp [execOp, ho, Instr.field, run_underlying hu', hg, e, asAgg, hV], hv⟩
    · simp at h
  · simp at h

theorem bytes_size (l : List Nat) : (bytesOf l).size = l.length := by
  show (bytesOf l).data.size = l.length
  simp [bytesOf]

theorem bytes_get (l : List Nat) (m : Nat) : (bytesOf l)[m]? = (l[m]?).map Nat.toUInt8 := by
  by_cases h : m < (bytesOf l).size
  · rw [ByteArray.getElem?_lt' _ _ h]
    rw [bytes_size] at h
    rw [List.getElem?_eq_getElem h]
    simp only [Option.map_some, Option.some.injEq]
    show (bytesOf l).data[m]'_ = _
    simp [bytesOf]
  · rw [ByteArray.getElem?_ge' _ _ h]
    rw [bytes_size] at h
    rw [List.getElem?_eq_none (by omega)]
    rfl

theorem toUInt8_toNat (b : Nat) (h : b < 256) : (Nat.toUInt8 b).toNat = b := by
  simp [Nat.toUInt8, UInt8.toNat_ofNat', Nat.mod_eq_of_lt h]

theorem ok_index (hE : EnvOk P E) {t : Nat} {y u : Operand} {a b : SV} (hy : evalS tm y = some a) (hu : evalS tm u = some b) (h : indexS E t a b s = some (x, s')) : OpOk P E tm (.index t y u) s x s' := by
  unfold indexS at h
  split at h
  · simp at h
  · rename_i ty hty
    obtain ⟨ti, d, zv, hi⟩ := tyOf_is (hE.ty _ _ hty)
    split at h
    · rename_i l k m hsh
      split at h
      · rename_i q hq
        simp only [Option.some.injEq, Prod.mk.injEq] at h
        obtain ⟨rfl, rfl⟩ := h
        refine .still fun φ ρ w op _ hρ _ ho => ?_
        have h1 := hρ _ _ hy
        have h2 := hρ _ _ hu
        simp only [VRel] at h1 h2
        obtain rfl := shOf_str (hi.sh.trans hsh)
        rw [atN_eq] at hq
        have hlt := h1.2 q (List.mem_of_getElem? hq)
        refine ⟨.int .u8 q, ?_, by simp only [VRel]; rfl⟩
        simp [execOp, ho, Instr.index, h2, asIntOf, hi.run_under, h1.1, bytes_get, hq, toUInt8_toNat q hlt]
      · simp at h
    · rename_i n e cs k m hsh
      split at h
      · rename_i te hte hlt
        split at h
        · rename_i v hv
          simp only [retV, Option.some.injEq, Prod.mk.injEq] at h
          obtain ⟨rfl, rfl⟩ := h
          refine .still fun φ ρ w op _ hρ _ ho => ?_
          have h1 := hρ _ _ hy
          have h2 := hρ _ _ hu
          simp only [VRel] at h1 h2
          obtain ⟨vs, e1, hr⟩ := h1
          obtain rfl := shOf_arr (hi.sh.trans hsh)
          obtain ⟨tei, de, ze, he⟩ := tyOf_is (hE.ty _ _ hte)
          obtain ⟨V, hV, hvr⟩ := part_run hE hv hr w
          have hmn : m < n := by simpa [blt_eq] using hlt
          refine ⟨V, ?_, hvr⟩
          simp [execOp, ho, Instr.index, h2, asIntOf, hi.run_under, e1, hmn, he.run_size, hV]
        · simp at h
      · simp at h
    · simp at h

theorem ok_indexAddr (hE : EnvOk P E) {t : Nat} {y u : Operand} {a b : SV} (hy : evalS tm y = some a) (hu : evalS tm u = some b) (h : indexAddrS E t a b s = some (x, s')) : OpOk P E tm (.indexAddr t y u) s x s' := by
  unfold indexAddrS at h
  split at h
  · simp at h
  · rename_i ty hty
    obtain ⟨ti, d, zv, hi⟩ := tyOf_is (hE.ty _ _ hty)
    split at h
    · rename_i n e i o k m hsh
      split at h
      · rename_i te hte hlt
        rw [forceNat_eq] at h
        simp only [Option.some.injEq, Prod.mk.injEq] at h
        obtain ⟨rfl, rfl⟩ := h
        refine .still fun φ ρ w op _ hρ _ ho => ?_
        have h1 := hρ _ _ hy
        have h2 := hρ _ _ hu
        simp only [VRel] at h1 h2
        obtain ⟨b, β, z, hb, e1⟩ := h1
        obtain rfl := shOf_arr (hi.sh.trans hsh)
        obtain ⟨tei, de, ze, he⟩ := tyOf_is (hE.ty _ _ hte)
        have hmn : m < n := by simpa [blt_eq] using hlt
        refine ⟨.pointer (some ⟨b, β + o + m * te.size, none⟩), ?_, by simp only [VRel]; exact ⟨b, β, z, hb, by rw [Nat.add_assoc]⟩⟩
        simp [execOp, ho, Instr.indexAt, h2, asIntOf, hi.run_under, e1, Instr.sureAddr, hmn, he.run_size, Addr.add_lit]
      · simp at h
    · rename_i e i o n cap k m hsh
      split at h
      · rename_i te hte hlt
        rw [forceNat_eq] at h
        simp only [Option.some.injEq, Prod.mk.injEq] at h
        obtain ⟨rfl, rfl⟩ := h
        refine .still fun φ ρ w op _ hρ _ ho => ?_
        have h1 := hρ _ _ hy
        have h2 := hρ _ _ hu
        simp only [VRel] at h1 h2
        obtain ⟨b, β, z, c, hb, e1, _⟩ := h1
        obtain rfl := shOf_slice (hi.sh.trans hsh)
        obtain ⟨tei, de, ze, he⟩ := tyOf_is (hE.ty _ _ hte)
        have hmn : m < n := by simpa [blt_eq] using hlt
        refine ⟨.pointer (some ⟨b, β + o + m * te.size, none⟩), ?_, by simp only [VRel]; exact ⟨b, β, z, hb, by rw [Nat.add_assoc]⟩⟩
        simp [execOp, ho, Instr.indexAt, h2, asIntOf, hi.run_under, e1, hmn, he.run_size, Addr.add_lit]
      · simp at h
    · simp at h

/-! #### Aggregates -/
theorem foldl_put (off : Nat) : ∀ (vs : List Value) (j : Nat) (cells : Array Value), ((vs.zipIdx j).foldl (fun cs (p : Value × Nat) => cs.setIfInBounds (off + p.2) p.1) cells).size = cells.size ∧
    ∀ k, ((vs.zipIdx j).foldl (fun cs (p : Value × Nat) => cs.setIfInBounds (off + p.2) p.1) cells)[k]? = if off + j ≤ k ∧ k < off + j + vs.length ∧ k < cells.size then vs[k - (off + j)]? else cells[k]?
  | [], j, cells => ⟨rfl, fun k => by rw [if_neg (by simp; omega)]; rfl⟩
  | v :: vs, j, cells => by
    simp only [List.zipIdx_cons, List.foldl_cons]
    obtain ⟨h1, h2⟩ := foldl_put off vs (j + 1) (cells.setIfInBounds (off + j) v)
    refine ⟨by rw [h1]; simp, fun k => ?_⟩
    rw [h2]
    simp only [Array.size_setIfInBounds, List.length_cons]
    by_cases he : k = off + j
    · subst he
      rw [if_neg (by omega)]
      by_cases hlt : off + j < cells.size
      · rw [if_pos (by omega)]; simp [hlt]
      · rw [if_neg (by omega), Array.getElem?_eq_none (by simp; omega), Array.getElem?_eq_none (by omega)]
    · by_cases hk : off + (j + 1) ≤ k ∧ k < off + (j + 1) + vs.length ∧ k < cells.size
      · rw [if_pos hk, if_pos (by omega)]
        obtain ⟨d, hd⟩ : ∃ d, k - (off + j) = d + 1 := ⟨k - (off + j) - 1, by omega⟩
        rw [show k - (off + (j + 1)) = d by omega, hd]
        simp
      · rw [if_neg hk, if_neg (by omega), Array.getElem?_setIfInBounds_ne (by omega)]

theorem fill_rel {φ : Asg} {pl pl' : Nat → Option (Nat × Nat)} (hpl : ∀ i q, pl i = some q → pl' i = some q) : ∀ {parts : List (Nat × SV)} {ps : List (Nat × Value)} {cells cs : List SV} {vs : Array Value},
    parts.map (·.1) = ps.map (·.1) → VRels φ (parts.map (·.2)) (ps.map (·.2)) → fillS pl cells parts = some cs → VRels φ cells vs.toList →
    ∃ us, Instr.fill pl' vs ps = some us ∧ VRels φ cs us.toList
  | [], [], cells, cs, vs, _, _, h, hv => by
    simp only [fillS, Option.some.injEq] at h
    subst h
    exact ⟨vs, rfl, hv⟩
  | (i, a) :: parts, (j, A) :: ps, cells, cs, vs, he, hp, h, hv => by
    simp only [List.map_cons, List.cons.injEq] at he
    obtain ⟨rfl, he⟩ := he
    simp only [List.map_cons, VRels] at hp
    simp only [fillS] at h
    split at h
    · rename_i off size hpi
      split at h
      · rename_i cs1 hsz hput
        obtain ⟨p1, p2, p3⟩ := putL_eq _ _ _ _ hput
        have hc := cells_rel hp.1
        have hcl := hc.length
        rw [Array.length_toList] at hcl
        have hvl := hv.length
        rw [Array.length_toList] at hvl
        have hsz' : (cellsOf a).length = size := by simpa [beq_eq] using hsz
        obtain ⟨f1, f2⟩ := foldl_put off A.cells.toList 0 vs
        have hnew : VRels φ cs1 (A.cells.zipIdx.foldl (fun cs (p : Value × Nat) => cs.setIfInBounds (off + p.2) p.1) vs).toList := by
          rw [← Array.foldl_toList, Array.toList_zipIdx]
          refine VRels.of_get (by rw [Array.length_toList, f1, hvl, p1]) fun k y u hy hu => ?_
          rw [Array.getElem?_toList, f2] at hu
          rw [p3] at hy
          simp only [Nat.add_zero, Array.length_toList] at hu
          have hk : k < vs.size := by
            rw [← p3] at hy
            have := (List.getElem?_eq_some_iff.1 hy).1
            omega
          by_cases hin : off ≤ k ∧ k < off + (cellsOf a).length
          · rw [if_pos hin] at hy
            rw [if_pos (by omega)] at hu
            obtain ⟨u', hu', hr⟩ := hc.get _ _ hy
            rw [hu'] at hu
            cases hu
            exact hr
          · rw [if_neg hin] at hy
            rw [if_neg (by omega)] at hu
            obtain ⟨u', hu', hr⟩ := hv.get _ _ hy
            rw [Array.getElem?_toList, hu] at hu'
            cases hu'
            exact hr
        obtain ⟨us, hus, hr⟩ := fill_rel hpl he hp.2 h hnew
        refine ⟨us, ?_, hr⟩
        simp only [Instr.fill, hpl _ _ hpi]
        rw [if_neg (by simp; omega)]
        exact hus
      · simp at h
    · simp at h
  | [], _ :: _, _, _, _, he, _, _, _ => by simp at he
  | _ :: _, [], _, _, _, he, _, _, _ => by simp at he

theorem places_is (hE : EnvOk P E) : ∀ {gs : List Field} {ps : List (Nat × Nat)}, placesS E (gs.map fun f => (f.offset, f.type, f.name == "_")) = some ps →
    gs.mapM (fun f => (P.info? f.type).map fun i => (f.offset, i.size)) = some ps
  | [], ps, h => by simp [placesS] at h; subst h; rfl
  | g :: gs, ps, h => by
    simp only [List.map_cons, placesS] at h
    split at h
    · rename_i tf l htf hl
      simp only [Option.some.injEq] at h
      subst h
      obtain ⟨ti, d, zv, hi⟩ := tyOf_is (hE.ty _ _ htf)
      simp [List.mapM_cons, hi.info, hi.size, places_is hE hl]
    · simp at h

theorem ok_build (hE : EnvOk P E) {t : Nat} {ps : Array (Nat × Operand)} {l : List (Nat × SV)} (hl : evalParts tm ps.toList = some l) (h : buildS E t l s = some (x, s')) : OpOk P E tm (.build t ps) s x s' := by
  unfold buildS at h
  split at h
  · simp at h
  · rename_i ty hty
    obtain ⟨ti, d, zv, hi⟩ := tyOf_is (hE.ty _ _ hty)
    split at h
    · rename_i fs hsh
      split at h
      · rename_i pl hpl
        split at h
        · rename_i cs hcs
          simp only [retV, Option.some.injEq, Prod.mk.injEq] at h
          obtain ⟨rfl, rfl⟩ := h
          refine .still fun φ ρ w op _ hρ _ ho => ?_
          obtain ⟨gs, rfl, rfl⟩ := shOf_struct (hi.sh.trans hsh)
          obtain ⟨e1, e2⟩ := parts_sees hρ hl
          obtain ⟨us, hus, hr⟩ := fill_rel (pl' := (pl.toArray[·]?)) (fun i q hq => by rw [atN_eq] at hq; simpa using hq) (parts := l) (ps := ps.toList.map fun p => (p.1, ρ p.2)) (by simpa [Function.comp_def] using e1) (by simpa [Function.comp_def] using e2) hcs (hi.zeros φ)
          refine ⟨.agg us, ?_, by simp only [VRel]; exact ⟨us, rfl, hr⟩⟩
          have hb : P.built t (ps.map fun (i, x) => (i, ρ x)).toList = some us := by
            simp only [Program.built, hi.info, hi.under, hi.zero, places_is hE hpl, Array.toList_map]
            exact hus
          simp only [execOp, ho, Sem.run_bind, run_build w t _ us hb, Result.andThen_ok, Sem.run_pure]
        · simp at h
      · simp at h
    · rename_i n e hsh
      split at h
      · rename_i te hte
        split at h
        · rename_i cs hcs
          simp only [retV, Option.some.injEq, Prod.mk.injEq] at h
          obtain ⟨rfl, rfl⟩ := h
          refine .still fun φ ρ w op _ hρ _ ho => ?_
          obtain rfl := shOf_arr (hi.sh.trans hsh)
          obtain ⟨tei, de, ze, he⟩ := tyOf_is (hE.ty _ _ hte)
          obtain ⟨e1, e2⟩ := parts_sees hρ hl
          obtain ⟨us, hus, hr⟩ := fill_rel (pl' := fun i => some (i * te.size, te.size)) (fun i q hq => hq) (parts := l) (ps := ps.toList.map fun p => (p.1, ρ p.2)) (by simpa [Function.comp_def] using e1) (by simpa [Function.comp_def] using e2) hcs (hi.zeros φ)
          refine ⟨.agg us, ?_, by simp only [VRel]; exact ⟨us, rfl, hr⟩⟩
          have hb : P.built t (ps.map fun (i, x) => (i, ρ x)).toList = some us := by
            simp only [Program.built, hi.info, hi.under, hi.zero, he.info, he.size, Array.toList_map]
            exact hus
          simp only [execOp, ho, Sem.run_bind, run_build w t _ us hb, Result.andThen_ok, Sem.run_pure]
        · simp at h
      · simp at h
    · simp at h
end

end Go.Proofs.Ytnkicnhjllmmjaa.Sx
