/- The evaluator's builtins are the model's. -/
import Derived.Test.YtnkicnhjllmmjaaSx14
namespace Go.Proofs.Ytnkicnhjllmmjaa.Sx
open Go
set_option linter.unusedVariables false
set_option linter.unusedSimpArgs false

section
variable {P : Program} {E : Env} {tm : Tm} {s s' : St} {x : SNext}

/-- What the run of a builtin has to be. -/
def BltOk (P : Program) (E : Env) (b : Builtin) (ts : Array TypeId) (args : List SV) (s : St) (x : SNext) (s' : St) : Prop :=
  Eff s s' ∧ ∀ (φ : Asg) (w : World) (as : Array Value) (ty : TypeId) (consts : Array Bool), SymOk E φ → Fits φ s.heap w → (∀ i, s.next ≤ i → i < s'.next → φ.blk i = none) → VRels φ args as.toList →
    Out P φ s s' w ((builtin b ts ty consts as).run P w) x

theorem one_arg {φ : Asg} {a : SV} {as : Array Value} (h : VRels φ [a] as.toList) : ∃ A, as = #[A] ∧ VRel φ a A := by
  obtain ⟨l⟩ := as
  match l, h with
  | [A], h => exact ⟨A, rfl, by simpa [VRels] using h⟩
  | [], h => simp [VRels] at h
  | _ :: _ :: _, h => simp [VRels] at h

theorem two_args {φ : Asg} {a b : SV} {as : Array Value} (h : VRels φ [a, b] as.toList) : ∃ A B, as = #[A, B] ∧ VRel φ a A ∧ VRel φ b B := by
  obtain ⟨l⟩ := as
  match l, h with
  | [A, B], h => exact ⟨A, B, rfl, by simpa [VRels] using h⟩
  | [], h => simp [VRels] at h
  | [_], h => simp [VRels] at h
  | _ :: _ :: _ :: _, h => simp [VRels] at h

theorem BltOk.still {b : Builtin} {ts : Array TypeId} {args : List SV} {v : SV}
    (h : ∀ (φ : Asg) (w : World) (as : Array Value) (ty : TypeId) (consts : Array Bool), SymOk E φ → Fits φ s.heap w → VRels φ args as.toList → ∃ V, (builtin b ts ty consts as).run P w = .ok (.value V) w ∧ VRel φ v V) : BltOk P E b ts args s (.val v) s :=
  ⟨.refl _, fun φ w as ty consts hs hf _ ha => by
    obtain ⟨V, hr, hv⟩ := h φ w as ty consts hs hf ha
    exact ⟨_, w, φ, hr, hf, .refl _ _ _ _, V, rfl, hv⟩⟩

theorem ts_at {ts : Array TypeId} {t : Nat} {r : List Nat} (h : ts.toList = t :: r) : ts[0]? = some t := by
  rw [← Array.getElem?_toList, h]; rfl
theorem ts_at1 {ts : Array TypeId} {t u : Nat} {r : List Nat} (h : ts.toList = t :: u :: r) : ts[1]? = some u := by
  rw [← Array.getElem?_toList, h]; rfl

theorem len_ok (hE : EnvOk P E) {ts : Array TypeId} {t : Nat} {r : List Nat} {a : SV} (ht : ts.toList = t :: r) (h : builtinS E .len (t :: r) [a] s = some (x, s')) : BltOk P E .len ts [a] s x s' := by
  simp only [builtinS] at h
  split at h
  · rename_i ty hty
    obtain ⟨ti, d, z, hi⟩ := tyOf_is (hE.ty _ _ hty)
    have hu := hi.under
    have hsh := hi.sh
    have h0 := ts_at ht
    split at h <;> rename_i hs <;> (try rw [forceNat_eq] at h) <;> (try simp only [Option.some.injEq, Prod.mk.injEq] at h) <;> (try (obtain ⟨rfl, rfl⟩ := h))
    · refine .still fun φ w as ty' consts _ _ ha => ?_
      obtain ⟨A, rfl, hA⟩ := one_arg ha
      simp only [VRel] at hA
      obtain ⟨rfl, _⟩ := hA
      rw [hs] at hsh
      rw [shOf_str hsh] at hu
      exact ⟨.int .i64 (bytesOf _).size, by simp [builtin, Builtin.len_, h0, run_underlying hu, goInt]; rfl, by simp only [VRel, bytes_size]; rfl⟩
    · refine .still fun φ w as ty' consts _ _ ha => ?_
      obtain ⟨A, rfl, hA⟩ := one_arg ha
      simp only [VRel] at hA
      subst hA
      rw [hs] at hsh
      rw [shOf_slice hsh] at hu
      exact ⟨_, by simp [builtin, Builtin.len_, h0, run_underlying hu, goInt]; rfl, by simp [VRel]⟩
    · refine .still fun φ w as ty' consts _ _ ha => ?_
      obtain ⟨A, rfl, hA⟩ := one_arg ha
      simp only [VRel] at hA
      obtain ⟨_, _, rfl, _⟩ := hA
      rw [hs] at hsh
      rw [shOf_slice hsh] at hu
      exact ⟨_, by simp [builtin, Builtin.len_, h0, run_underlying hu, goInt]; rfl, by simp [VRel]⟩
    · refine .still fun φ w as ty' consts _ _ ha => ?_
      obtain ⟨A, rfl, hA⟩ := one_arg ha
      simp only [VRel] at hA
      obtain ⟨_, _, _, _, _, _, rfl, _⟩ := hA
      rw [hs] at hsh
      rw [shOf_slice hsh] at hu
      exact ⟨_, by simp [builtin, Builtin.len_, h0, run_underlying hu, goInt]; rfl, by simp [VRel]⟩
    · refine .still fun φ w as ty' consts _ _ ha => ?_
      obtain ⟨A, rfl, hA⟩ := one_arg ha
      simp only [VRel] at hA
      obtain ⟨_, _, _, _, _, rfl, _⟩ := hA
      rw [hs] at hsh
      rw [shOf_slice hsh] at hu
      exact ⟨_, by simp [builtin, Builtin.len_, h0, run_underlying hu, goInt]; rfl, by simp [VRel]⟩
    · refine .still fun φ w as ty' consts _ _ ha => ?_
      obtain ⟨A, rfl, hA⟩ := one_arg ha
      rw [hs] at hsh
      rw [shOf_arr hsh] at hu
      exact ⟨_, by simp [builtin, Builtin.len_, h0, run_underlying hu, goInt]; rfl, by simp [VRel]⟩
  · simp at h

theorem cap_ok (hE : EnvOk P E) {ts : Array TypeId} {t : Nat} {r : List Nat} {a : SV} (ht : ts.toList = t :: r) (h : builtinS E .cap (t :: r) [a] s = some (x, s')) : BltOk P E .cap ts [a] s x s' := by
  simp only [builtinS] at h
  split at h
  · rename_i ty hty
    obtain ⟨ti, d, z, hi⟩ := tyOf_is (hE.ty _ _ hty)
    have hu := hi.under
    have hsh := hi.sh
    have h0 := ts_at ht
    split at h <;> rename_i hs <;> (try simp only [Option.some.injEq, Prod.mk.injEq] at h) <;> (try (obtain ⟨rfl, rfl⟩ := h))
    · refine .still fun φ w as ty' consts _ _ ha => ?_
      obtain ⟨A, rfl, hA⟩ := one_arg ha
      simp only [VRel] at hA
      subst hA
      rw [hs] at hsh
      rw [shOf_slice hsh] at hu
      exact ⟨_, by simp [builtin, Builtin.cap_, h0, run_underlying hu, goInt]; rfl, by simp [VRel]⟩
    · refine .still fun φ w as ty' consts _ _ ha => ?_
      obtain ⟨A, rfl, hA⟩ := one_arg ha
      simp only [VRel] at hA
      obtain ⟨_, c, rfl, hc⟩ := hA
      obtain rfl := hc _ rfl
      rw [hs] at hsh
      rw [shOf_slice hsh] at hu
      exact ⟨_, by simp [builtin, Builtin.cap_, h0, run_underlying hu, goInt]; rfl, by simp [VRel]⟩
    · refine .still fun φ w as ty' consts _ _ ha => ?_
      obtain ⟨A, rfl, hA⟩ := one_arg ha
      simp only [VRel, CapOk] at hA
      obtain ⟨_, _, _, _, _, rfl, rfl, _⟩ := hA
      rw [hs] at hsh
      rw [shOf_slice hsh] at hu
      exact ⟨_, by simp [builtin, Builtin.cap_, h0, run_underlying hu, goInt]; rfl, by simp [VRel]⟩
  · simp at h

theorem zero_cells (z : Array Value) (n : Nat) : Builtin.zeroCells z n = (Array.range (n * z.size)).map (z[· % z.size]!) := rfl

theorem append_blt (hE : EnvOk P E) {ts : Array TypeId} {t u : Nat} {r : List Nat} {a y : SV} (ht : ts.toList = t :: u :: r) (h : builtinS E .append (t :: u :: r) [a, y] s = some (x, s')) : BltOk P E .append ts [a, y] s x s' := by
  simp only [builtinS] at h
  have h0 := ts_at ht
  have h1 := ts_at1 ht
  split at h
  · rename_i ty tu hty htu
    obtain ⟨ti, d, z, hi⟩ := tyOf_is (hE.ty _ _ hty)
    obtain ⟨ui, ud, uz, hui⟩ := tyOf_is (hE.ty _ _ htu)
    split at h
    · rename_i e hs
      split at h
      · rename_i te hte
        obtain ⟨ei, ed, ez, he⟩ := tyOf_is (hE.ty _ _ hte)
        have hu := hi.under
        have hsh := hi.sh
        rw [hs] at hsh
        rw [shOf_slice hsh] at hu
        have fin : ∀ {n : Nat} {cs : List SV}, appendS e te a n cs s = some (x, s') → cs.length = n * te.size →
            (∀ (φ : Asg) (w : World) (Y : Value), Fits φ s.heap w → VRel φ y Y → ∃ news, VRels φ cs news ∧ SrcIs P e u te ez Y n news w) → BltOk P E .append ts [a, y] s x s' := by
          intro n cs h hcl hsrc
          obtain ⟨k1, v, rfl, k2⟩ := append_ok he h hcl
          refine ⟨k1, fun φ w as ty' consts _ hf hfr ha => ?_⟩
          obtain ⟨A, B, rfl, hA, hB⟩ := two_args ha
          obtain ⟨news, hn, hsr⟩ := hsrc φ w B hf hB
          obtain ⟨V, w', φ', r1, r2, r3, r4⟩ := k2 φ w A B news ts t u ty' hf hfr hA hn hsr h0 h1 hu
          exact ⟨_, w', φ', by simp [builtin, r1], r2, r3, V, rfl, r4⟩
        split at h
        · rename_i k hk
          split at h
          · rename_i j n
            split at h
            · rename_i hsm hby
              have hush := hui.sh
              rw [hk] at hush
              have huu := hui.under
              rw [shOf_int hush] at huu
              refine fin h (by rw [(repL_get te.zero n).1, he.len]) fun φ w Y hf hY => ?_
              simp only [VRel] at hY
              refine ⟨(Builtin.zeroCells ez.cells n).toList, ?_, .inr ⟨k, j, huu, hY, by simpa [small, blt_eq] using hsm, by simpa [ble_eq] using hby, by simp⟩⟩
              rw [zero_cells]
              exact rep_rel (he.zeros φ) n _ (by rw [he.zsize, he.len])
            · simp at h
          · simp at h
        · rename_i hk
          split at h
          · rename_i n cs hsrc
            obtain ⟨vs0, hcl⟩ : ∃ k : Unit, cs.length = n * te.size := by
              refine ⟨(), ?_⟩
              unfold srcS at hsrc
              split at hsrc
              · simp only [Option.some.injEq, Prod.mk.injEq] at hsrc; obtain ⟨rfl, rfl⟩ := hsrc; simp
              · simp only [Option.some.injEq, Prod.mk.injEq] at hsrc; obtain ⟨rfl, rfl⟩ := hsrc; simp
              · simp only [Option.some.injEq, Prod.mk.injEq] at hsrc; obtain ⟨rfl, rfl⟩ := hsrc; simp
              · split at hsrc
                · rename_i hr
                  simp only [Option.some.injEq, Prod.mk.injEq] at hsrc; obtain ⟨rfl, rfl⟩ := hsrc
                  obtain ⟨B, _, rfl, hl⟩ := rd_out hr
                  simp; omega
                · simp at hsrc
              · split at hsrc
                · rename_i hes
                  simp only [Option.some.injEq, Prod.mk.injEq] at hsrc; obtain ⟨rfl, rfl⟩ := hsrc
                  simp [byteCells_eq, hes]
                · simp at hsrc
              · simp at hsrc
            refine fin h hcl fun φ w Y hf hY => ?_
            obtain ⟨vs, hv, _, hl, hfc⟩ := src_rel (P := P) hsrc hf hY
            refine ⟨vs, hv, .inl ⟨ud, hui.under, fun k hud => hk k ?_, hl, hfc⟩⟩
            rw [← hui.sh, hud]; rfl
          · simp at h
      · simp at h
    · simp at h
  · simp at h

theorem run_first {es n : Nat} {cs : List SV} {v : SV} (h : srcS es v s = some (n, cs)) (hes : 0 < es) {φ : Asg} {w : World} (hf : Fits φ s.heap w) {X : Value} (hX : VRel φ v X) {m : Nat} (hm : m ≤ n) {cs' : List SV} (hc : takeN (m * es) cs = some cs') :
    ∃ vs, VRels φ cs' vs ∧ (Builtin.firstCells es m X).run P w = .ok vs.toArray w := by
  obtain ⟨rfl, hlc⟩ := takeN_eq _ _ _ hc
  unfold srcS at h
  split at h
  · simp only [Option.some.injEq, Prod.mk.injEq] at h
    obtain ⟨rfl, rfl⟩ := h
    simp only [VRel] at hX
    subst hX
    obtain rfl : m = 0 := by omega
    exact ⟨[], by simp [VRels], rfl⟩
  · simp only [Option.some.injEq, Prod.mk.injEq] at h
    obtain ⟨rfl, rfl⟩ := h
    simp only [VRel] at hX
    obtain ⟨a, c, rfl, _⟩ := hX
    obtain rfl : m = 0 := by omega
    exact ⟨[], by simp [VRels], first_zero w _ _ _⟩
  · simp only [Option.some.injEq, Prod.mk.injEq] at h
    obtain ⟨rfl, rfl⟩ := h
    simp only [VRel] at hX
    obtain ⟨_, _, _, a, c, _, rfl, _⟩ := hX
    obtain rfl : m = 0 := by omega
    exact ⟨[], by simp [VRels], first_zero w _ _ _⟩
  · rename_i i o k cap
    split at h
    · rename_i r hr
      simp only [Option.some.injEq, Prod.mk.injEq] at h
      obtain ⟨rfl, rfl⟩ := h
      simp only [VRel] at hX
      obtain ⟨b, β, z, c, hb, rfl, _⟩ := hX
      obtain ⟨b', β', z', vs, hb2, hcl, hrel, hvl, hce⟩ := rd_rel hf hr
      rw [hb] at hb2
      simp only [Option.some.injEq, Prod.mk.injEq] at hb2
      obtain ⟨rfl, rfl, rfl⟩ := hb2
      have hmm : m * es ≤ k * es := Nat.mul_le_mul_right _ hm
      refine ⟨vs.take (m * es), hrel.take _, ?_⟩
      have hc' : ∀ j v, (vs.take (m * es))[j]? = some v → w.cell? ((⟨b, β + o, none⟩ : Addr).add j) = some v := fun j v hj => by
        rw [List.getElem?_take] at hj
        split at hj
        · exact hce j v hj
        · cases hj
      have := run_loadCells_list (P := P) w ⟨b, β + o, none⟩ _ hc'
      rw [show (vs.take (m * es)).length = m * es by simp; omega] at this
      simpa [Builtin.firstCells] using this
    · simp at h
  · rename_i l
    split at h
    · simp only [Option.some.injEq, Prod.mk.injEq] at h
      obtain ⟨rfl, rfl⟩ := h
      simp only [VRel] at hX
      obtain ⟨rfl, hl⟩ := hX
      have hlt : ∀ x ∈ l.take m, x < 256 := fun x hx => hl x (List.mem_of_mem_take hx)
      refine ⟨((bytesOf (l.take m)).data.map fun b => Value.int .u8 b.toNat).toList, ?_, ?_⟩
      · have := byteCells_rel (φ := φ) hlt
        rw [byteCells_eq] at this ⊢
        simpa [List.map_take] using this
      · have hx : (bytesOf l).extract 0 m = bytesOf (l.take m) := by rw [bytes_extract]; simp
        simp [Builtin.firstCells, hx]
        apply Array.ext'; simp
    · simp at h
  · simp at h

theorem copy_ok (hE : EnvOk P E) {ts : Array TypeId} {t : Nat} {r : List Nat} {a y : SV} (ht : ts.toList = t :: r) (h : builtinS E .copy (t :: r) [a, y] s = some (x, s')) : BltOk P E .copy ts [a, y] s x s' := by
  simp only [builtinS] at h
  have h0 := ts_at ht
  split at h
  · rename_i ty hty
    obtain ⟨ti, d, z, hi⟩ := tyOf_is (hE.ty _ _ hty)
    split at h
    · rename_i e hs
      split at h
      · rename_i te hte
        obtain ⟨ei, ed, ez, he⟩ := tyOf_is (hE.ty _ _ hte)
        have hu := hi.under
        have hsh := hi.sh
        rw [hs] at hsh
        rw [shOf_slice hsh] at hu
        split at h
        · rename_i es n cs hes hsrc
          have hz : 0 < te.size := by omega
          have hes' : es + 1 = te.size := hes.symm
          simp only [hes'] at h
          have hmin : ∀ (k m : Nat), Nat.min k m = minN k m := fun k m => by rw [minN_eq]
          have zero : ∀ {A : Value} {φ : Asg} {w : World} {B : Value} {ty' : TypeId} {consts : Array Bool} {base : Option Addr} {c : Nat}, Fits φ s.heap w → VRel φ y B → 
              (builtin .copy ts ty' consts #[.slice base 0 c, B]).run P w = .ok (.value (.int .i64 0)) w := by
            intro A φ w B ty' consts base c hf hB
            obtain ⟨_, _, _, hl, _⟩ := src_rel (P := P) hsrc hf hB
            obtain ⟨vs, hv, hfr⟩ := run_first (P := P) hsrc hz hf hB (m := 0) (by omega) (cs' := []) (by simp [takeN])
            have : vs = [] := by simpa using hv.length
            subst this
            cases base <;> simp [builtin, Builtin.copy_, h0, run_underlying hu, hl, he.run_size, hfr, goInt, storeCells, Nat.min]
          split at h
          · simp only [Option.some.injEq, Prod.mk.injEq] at h
            obtain ⟨rfl, rfl⟩ := h
            refine .still fun φ w as ty' consts _ hf ha => ?_
            obtain ⟨A, B, rfl, hA, hB⟩ := two_args ha
            simp only [VRel] at hA
            subst hA
            exact ⟨_, zero (A := .nilIface) hf hB, by simp [VRel]⟩
          · simp only [Option.some.injEq, Prod.mk.injEq] at h
            obtain ⟨rfl, rfl⟩ := h
            refine .still fun φ w as ty' consts _ hf ha => ?_
            obtain ⟨A, B, rfl, hA, hB⟩ := two_args ha
            simp only [VRel] at hA
            obtain ⟨_, _, rfl, _⟩ := hA
            exact ⟨_, zero (A := .nilIface) hf hB, by simp [VRel]⟩
          · simp only [Option.some.injEq, Prod.mk.injEq] at h
            obtain ⟨rfl, rfl⟩ := h
            refine .still fun φ w as ty' consts _ hf ha => ?_
            obtain ⟨A, B, rfl, hA, hB⟩ := two_args ha
            simp only [VRel] at hA
            obtain ⟨_, _, _, _, _, _, rfl, _⟩ := hA
            exact ⟨_, zero (A := .nilIface) hf hB, by simp [VRel]⟩
          · rename_i i o m cap
            split at h
            · rename_i cs' hcs'
              obtain ⟨B', cs2, s1, hB', hp, hk, hn, hwr, hg, hsc⟩ := wrt_out h
              simp only [Option.some.injEq, Prod.mk.injEq] at hk
              obtain ⟨rfl, rfl⟩ := hk
              refine ⟨.set hB' hn hwr hg, fun φ w as ty' consts _ hf hfr ha => ?_⟩
              obtain ⟨A, B, rfl, hA, hB⟩ := two_args ha
              simp only [VRel] at hA
              obtain ⟨b, β, z', c', hb, rfl, hc⟩ := hA
              obtain ⟨_, _, _, hl, _⟩ := src_rel (P := P) hsrc hf hB
              obtain ⟨vs, hv, hfc⟩ := run_first (P := P) hsrc hz hf hB (m := minN n m) (by rw [minN_eq]; omega) hcs'
              obtain ⟨w', hr, hf', hg'⟩ := wrt_run P hf hB' hp hn hg hb hv (hv.one hsc)
              refine ⟨.value (.int .i64 (.ofNat (minN n m))), w', φ, ?_, hf', hg', _, rfl, by simp only [VRel]⟩
              simp only [builtin, Builtin.copy_, h0]
              simp [run_underlying hu, hl, he.run_size, hmin, hfc, goInt, hr]
            · simp at h
          · simp at h
        · simp at h
      · simp at h
    · simp at h
  · simp at h

theorem clear_ok (hE : EnvOk P E) {ts : Array TypeId} {t : Nat} {r : List Nat} {a : SV} (ht : ts.toList = t :: r) (h : builtinS E .clear (t :: r) [a] s = some (x, s')) : BltOk P E .clear ts [a] s x s' := by
  simp only [builtinS] at h
  have h0 := ts_at ht
  split at h
  · rename_i ty hty
    obtain ⟨ti, d, z, hi⟩ := tyOf_is (hE.ty _ _ hty)
    split at h
    · rename_i e hs
      split at h
      · rename_i te hte
        obtain ⟨ei, ed, ez, he⟩ := tyOf_is (hE.ty _ _ hte)
        have hu := hi.under
        have hsh := hi.sh
        rw [hs] at hsh
        rw [shOf_slice hsh] at hu
        have zero : ∀ {φ : Asg} {w : World} {ty' : TypeId} {consts : Array Bool} {base : Option Addr} {c : Nat}, 
            ∃ V, (builtin .clear ts ty' consts #[.slice base 0 c]).run P w = .ok (.value V) w ∧ VRel φ .undef V := by
          intro φ w ty' consts base c
          refine ⟨.tuple #[], ?_, by simp [SV.undef, VRel, VRels]⟩
          cases base <;> simp [builtin, Builtin.clear_, h0, run_underlying hu]
        split at h
        · simp only [Option.some.injEq, Prod.mk.injEq] at h
          obtain ⟨rfl, rfl⟩ := h
          refine .still fun φ w as ty' consts _ hf ha => ?_
          obtain ⟨A, rfl, hA⟩ := one_arg ha
          simp only [VRel] at hA
          subst hA
          exact zero
        · simp only [Option.some.injEq, Prod.mk.injEq] at h
          obtain ⟨rfl, rfl⟩ := h
          refine .still fun φ w as ty' consts _ hf ha => ?_
          obtain ⟨A, rfl, hA⟩ := one_arg ha
          simp only [VRel] at hA
          obtain ⟨_, _, rfl, _⟩ := hA
          exact zero
        · simp only [Option.some.injEq, Prod.mk.injEq] at h
          obtain ⟨rfl, rfl⟩ := h
          refine .still fun φ w as ty' consts _ hf ha => ?_
          obtain ⟨A, rfl, hA⟩ := one_arg ha
          simp only [VRel] at hA
          obtain ⟨_, _, _, _, _, _, rfl, _⟩ := hA
          exact zero
        · rename_i i o m cap
          split at h
          · simp only [Option.some.injEq, Prod.mk.injEq] at h
            obtain ⟨rfl, rfl⟩ := h
            refine .still fun φ w as ty' consts _ hf ha => ?_
            obtain ⟨A, rfl, hA⟩ := one_arg ha
            simp only [VRel] at hA
            obtain ⟨_, _, _, _, _, rfl, _⟩ := hA
            exact zero
          · rename_i m
            obtain ⟨B', cs2, s1, hB', hp, hk, hn, hwr, hg, hsc⟩ := wrt_out h
            simp only [Option.some.injEq, Prod.mk.injEq] at hk
            obtain ⟨rfl, rfl⟩ := hk
            refine ⟨.set hB' hn hwr hg, fun φ w as ty' consts _ hf hfr ha => ?_⟩
            obtain ⟨A, rfl, hA⟩ := one_arg ha
            simp only [VRel] at hA
            obtain ⟨b, β, z', c', hb, rfl, hc⟩ := hA
            have hv : VRels φ (repL (m + 1) te.zero) (Builtin.zeroCells ez.cells (m + 1)).toList := by
              rw [zero_cells]
              exact rep_rel (he.zeros φ) (m + 1) _ (by rw [he.zsize, he.len])
            obtain ⟨w', hr, hf', hg'⟩ := wrt_run P hf hB' hp hn hg hb hv (hv.one hsc)
            refine ⟨_, w', φ, ?_, hf', hg', .tuple #[], rfl, by simp [SV.undef, VRel, VRels]⟩
            simp [builtin, Builtin.clear_, h0, run_underlying hu, he.run_zero, hr]
        · simp at h
      · simp at h
    · simp at h
  · simp at h

end

end Go.Proofs.Ytnkicnhjllmmjaa.Sx
