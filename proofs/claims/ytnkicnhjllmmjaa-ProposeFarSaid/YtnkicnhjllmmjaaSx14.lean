/- The evaluator's append is the model's. -/
import Derived.Test.YtnkicnhjllmmjaaSx13
import Derived.Laws.AppendOwn
namespace Go.Proofs.Ytnkicnhjllmmjaa.Sx
open Go
set_option linter.unusedVariables false
set_option linter.unusedSimpArgs false

section
variable {P : Program} {E : Env} {tm : Tm} {s s' : St} {x : SNext}

/-- A new row that may have room behind it. -/
theorem grow_ok {e m es : Nat} {cells : List SV} (h : growS e m es cells s = some (x, s')) (hm : cells.length = m * es) (hes : 0 < es) :
    Eff s s' ∧ x = .val (.sl s.next 0 m (.tail es)) ∧ s'.next = s.next + 1 ∧ ∀ (φ : Asg) (w : World) (vs : List Value) (rest : Array Value) (cap : Nat), Fits φ s.heap w → φ.blk s.next = none → VRels φ cells vs → m ≤ cap → rest.size = (cap - m) * es →
      ∃ φ', Fits φ' s'.heap (w.drew.alloc (.cells (vs.toArray ++ rest) e)) ∧ Goes φ s.heap s.next w φ' s'.heap s'.next (w.drew.alloc (.cells (vs.toArray ++ rest) e)) ∧
        VRel φ' (.sl s.next 0 m (.tail es)) (.slice (some ⟨w.heap.size, 0, none⟩) m cap) := by
  unfold growS at h
  obtain ⟨s1, hk, hn, hw, hg, hsc⟩ := new_out h
  simp only [Option.some.injEq, Prod.mk.injEq] at hk
  obtain ⟨rfl, rfl⟩ := hk
  refine ⟨.new hn hw hg, rfl, hn, fun φ w vs rest cap hf hnone hv hcap hrest => ?_⟩
  have hl := hv.length
  have hsz : (vs.toArray ++ rest).size = cap * es := by
    have : (cap - m) * es + m * es = cap * es := by rw [← Nat.add_mul, Nat.sub_add_cancel hcap]
    simp only [Array.size_append, List.size_toArray]; omega
  have hle : m * es ≤ cap * es := Nat.mul_le_mul_right _ hcap
  obtain ⟨h1, h2⟩ := hf.new (n := s.next) (n' := s1.next) (B := ⟨e, cells, false⟩) (w' := w.drew.alloc (.cells (vs.toArray ++ rest) e)) (c := vs.toArray ++ rest) (fr := (0, 0)) (z := cap * es) hnone (Nat.le_refl _) (by omega) hg rfl
    (.trans (.drew w) (.alloc _ _)) hsz (by simp) (by show cells.length ≤ cap * es; omega) (by
      show VRels φ cells (((vs.toArray ++ rest).toList).take cells.length)
      simp only [Array.toList_append]
      rw [List.take_append_of_le_length (by omega), List.take_of_length_le (by omega)]
      exact hv) (.inl (Nat.le_refl _))
  refine ⟨_, h1, h2, ?_⟩
  simp only [VRel]
  exact ⟨w.heap.size, 0, cap * es, cap, by simp [Asg.set], rfl, hes, hcap, by omega⟩

/-- What was known of a row, and more behind it, under a new number. -/
theorem move_run {s1 : St} {φ : Asg} {w : World} (P : Program) (hf : Fits φ s.heap w) {i o k b β z : Nat} {B : Blk} (hB : s.heap.get i = some B) (hb : φ.blk i = some (b, β, z)) (hnone : φ.blk s.next = none)
    {xs : List SV} {vs : List Value} (hok : k = 0 ∨ o + k ≤ B.cells.length) (hv : VRels φ xs vs) (h1 : ∀ v ∈ vs, v.oneCell' = true) (hk : o + k + xs.length ≤ z) (hn : s1.next = s.next + 1)
    (hg : ∀ j, s1.heap.get j = if j = s.next then some ⟨B.elem, (B.cells.drop o).take k ++ xs, false⟩ else if j = i then none else s.heap.get j) :
    ∃ w', (storeCells ⟨b, β + o + k, none⟩ vs).run P w = .ok () w' ∧ Fits (φ.set s.next (b, β + o, z - o)) s1.heap w' ∧ Goes φ s.heap s.next w (φ.set s.next (b, β + o, z - o)) s1.heap s1.next w' := by
  obtain ⟨b', β', z', c, fr, hb', hw, hz, hx, hl, hr, hfr⟩ := hf.cells hB
  rw [hb] at hb'
  simp only [Option.some.injEq, Prod.mk.injEq] at hb'
  obtain ⟨rfl, rfl, rfl⟩ := hb'
  have hvl := hv.length
  obtain ⟨c', hs', hr', hg'⟩ := run_storeCells_free P b (β + o + k) B.elem fr vs 0 c w hw hfr (by omega) h1
  refine ⟨_, hr', ?_⟩
  have hold : ((B.cells.drop o).take k).length = k := by simp; omega
  refine hf.move (B' := ⟨B.elem, (B.cells.drop o).take k ++ xs, false⟩) hB hb hnone (Nat.le_refl _) (by omega) hg (fun j hj => setRow_heap_ne w b j c' hj) (by simp) (calm_setRow w b c') ?_
  refine ⟨c', fr, setRow_heap w b c c' B.elem fr hw, by omega, by simp, by simp only [List.length_append, hold]; omega, ?_, by omega⟩
  simp only [List.length_append, hold]
  refine VRels.of_get (by simp; omega) fun j x v hj hv' => ?_
  simp only [List.getElem?_take, List.getElem?_drop, Array.getElem?_toList] at hv'
  have hjl : j < k + xs.length := by
    have := (List.getElem?_eq_some_iff.1 hj).1
    simp only [List.length_append, hold] at this; exact this
  rw [if_pos hjl] at hv'
  rw [hg'] at hv'
  by_cases hjk : j < k
  · rw [if_neg (by omega)] at hv'
    rw [List.getElem?_append_left (by omega), List.getElem?_take, if_pos hjk, List.getElem?_drop] at hj
    obtain ⟨u, hu, hxu⟩ := hr.get _ _ hj
    simp only [List.getElem?_take, List.getElem?_drop, Array.getElem?_toList] at hu
    rw [if_pos (by omega), ← Nat.add_assoc, hv'] at hu
    cases hu
    exact hxu
  · rw [if_pos (by omega), show β + o + j - (β + o + k + 0) = j - k by omega] at hv'
    rw [List.getElem?_append_right (by omega), hold] at hj
    obtain ⟨u, hu, hxu⟩ := hv.get _ _ hj
    rw [hv'] at hu
    cases hu
    exact hxu

/-- What the run of an append has to be. -/
def AppOk (P : Program) (s s' : St) (e : Nat) (te : Ty) (z : Value) (x v : SV) (n : Nat) (cs : List SV) : Prop :=
  ∀ (φ : Asg) (w : World) (X Y : Value) (news : List Value) (ts : Array TypeId) (t u ty : TypeId), Fits φ s.heap w → (∀ i, s.next ≤ i → i < s'.next → φ.blk i = none) → VRel φ x X → VRels φ cs news →
    SrcIs P e u te z Y n news w → ts[0]? = some t → ts[1]? = some u → P.underlying t = some (.slice e) →
    ∃ V w' φ', (Builtin.append_ ts ty #[X, Y]).run P w = .ok V w' ∧ Fits φ' s'.heap w' ∧ Goes φ s.heap s.next w φ' s'.heap s'.next w' ∧ VRel φ' v V

theorem first_none (w : World) (es c : Nat) : (Builtin.firstCells es 0 (.slice none 0 c)).run P w = .ok #[] w := rfl
theorem first_zero (w : World) (es c : Nat) (a : Addr) : (Builtin.firstCells es 0 (.slice (some a) 0 c)).run P w = .ok #[] w := by simp [Builtin.firstCells, loadCells, loadCellsFrom]

/-- The append of nothing to no element. -/
theorem app_nothing {e : Nat} {te : Ty} {ei : TypeInfo} {ed : TypeDesc} {z : Value} (he : TyIs P e te ei ed z) (hz : 0 < te.size) {x : SV} (hx : x = .nilSl ∨ (∃ k, x = .emp k) ∨ ∃ i o f, x = .etl i o f) :
    AppOk P s s e te z x x 0 [] := by
  intro φ w X Y news ts t u ty hf _ hX hn hs h0 h1 ht
  have hnil : news = [] := by simpa using hn.length
  subst hnil
  rcases hx with rfl | ⟨k, rfl⟩ | ⟨i, o, f, rfl⟩
  · have hX' := hX
    simp only [VRel] at hX'
    subst hX'
    refine ⟨_, w, φ, run_append_in (ty := ty) h0 h1 ht he hs hz (base := none) (sLen := 0) (sCap := 0) (Nat.le_refl _), hf, .refl _ _ _ _, hX⟩
  · have hX' := hX
    simp only [VRel] at hX'
    obtain ⟨a, c, rfl, _⟩ := hX'
    refine ⟨.slice (some a) 0 c, w, φ, ?_, hf, .refl _ _ _ _, hX⟩
    rw [run_append_in (ty := ty) h0 h1 ht he hs hz (base := some a) (sLen := 0) (sCap := c) (Nat.zero_le _)]
    simp [storeCells]
  · have hX' := hX
    simp only [VRel] at hX'
    obtain ⟨b, β, z', a, c, _, rfl, _⟩ := hX'
    refine ⟨.slice (some a) 0 c, w, φ, ?_, hf, .refl _ _ _ _, hX⟩
    rw [run_append_in (ty := ty) h0 h1 ht he hs hz (base := some a) (sLen := 0) (sCap := c) (Nat.zero_le _)]
    simp [storeCells]

theorem zeros_size {e : Nat} {te : Ty} {ei : TypeInfo} {ed : TypeDesc} {z : Value} (he : TyIs P e te ei ed z) (n : Nat) : (Builtin.zeroCells z.cells n).size = n * te.size := by
  rw [size_zeroCells, he.zsize]

/-- An append to what has no room. -/
theorem app_grow {e : Nat} {te : Ty} {ei : TypeInfo} {ed : TypeDesc} {z : Value} (he : TyIs P e te ei ed z) (hz : 0 < te.size) {m n : Nat} {cells : List SV} {v : SNext}
    (h : growS e (m + n) te.size cells s = some (v, s')) (hm : cells.length = (m + n) * te.size) (hsm : small (m + n) = true) (hby : Nat.ble ((m + n) * te.bytes) 140737488355328 = true) :
    Eff s s' ∧ v = .val (.sl s.next 0 (m + n) (.tail te.size)) ∧ s'.next = s.next + 1 ∧
    ∀ (φ : Asg) (w : World) (base : Option Addr) (c : Nat) (Y : Value) (olds news : List Value) (ts : Array TypeId) (t u ty : TypeId), Fits φ s.heap w → φ.blk s.next = none → VRels φ cells (olds ++ news) →
      SrcIs P e u te z Y n news w → ts[0]? = some t → ts[1]? = some u → P.underlying t = some (.slice e) → 0 < n → c < m + n →
      (∀ w' : World, w'.heap = w.heap → (Builtin.firstCells te.size m (.slice base m c)).run P w' = .ok olds.toArray w') →
      ∃ V w' φ', (Builtin.append_ ts ty #[.slice base m c, Y]).run P w = .ok V w' ∧ Fits φ' s'.heap w' ∧ Goes φ s.heap s.next w φ' s'.heap s'.next w' ∧ VRel φ' (.sl s.next 0 (m + n) (.tail te.size)) V := by
  obtain ⟨g1, g2, g3, g4⟩ := grow_ok h hm hz
  refine ⟨g1, g2, g3, fun φ w base c Y olds news ts t u ty hf hnone hv hs h0 h1 ht hn0 hc hold => ?_⟩
  have hr := run_append_up (ty := ty) h0 h1 ht he hs hz hn0 hc (by simpa [small, blt_eq] using hsm) (by simpa [ble_eq] using hby) hold
  have hge := grownCap_ge w (m + n) c e
  obtain ⟨φ', k1, k2, k3⟩ := g4 φ w (olds ++ news) (Builtin.zeroCells z.cells (grownCap w (m + n) c e - (m + n))) (grownCap w (m + n) c e) hf hnone hv hge (zeros_size he _)
  refine ⟨_, _, φ', hr, ?_, ?_, k3⟩ <;> simpa [List.append_toArray] using (by first | exact k1 | exact k2)

theorem rd_old {φ : Asg} {w : World} (hf : Fits φ s.heap w) {i o k b β z es m c : Nat} {old : List SV} (h : rd s i o k = some old) (hb : φ.blk i = some (b, β, z)) (hk : k = m * es) :
    ∃ vs, VRels φ old vs ∧ ∀ w' : World, w'.heap = w.heap → (Builtin.firstCells es m (.slice (some ⟨b, β + o, none⟩) m c)).run P w' = .ok vs.toArray w' := by
  obtain ⟨b', β', z', vs, hb2, hcl, hrel, hvl, hc⟩ := rd_rel hf h
  rw [hb] at hb2
  simp only [Option.some.injEq, Prod.mk.injEq] at hb2
  obtain ⟨rfl, rfl, rfl⟩ := hb2
  refine ⟨vs, hrel, fun w' hw' => ?_⟩
  have hc' : ∀ j v, vs[j]? = some v → w'.cell? ((⟨b, β + o, none⟩ : Addr).add j) = some v := fun j v hj => by
    have := hc j v hj
    simpa [World.cell?, hw'] using this
  have := run_loadCells_list (P := P) w' ⟨b, β + o, none⟩ vs hc'
  rw [hvl] at this
  simpa [Builtin.firstCells, hk] using this

theorem append_ok {e : Nat} {te : Ty} {ei : TypeInfo} {ed : TypeDesc} {z : Value} (he : TyIs P e te ei ed z) {y : SV} {n : Nat} {cs : List SV} (h : appendS e te y n cs s = some (x, s')) (hcl : cs.length = n * te.size) :
    Eff s s' ∧ ∃ v, x = .val v ∧ AppOk P s s' e te z y v n cs := by
  unfold appendS at h
  split at h
  · simp at h
  rename_i es hes
  have hz : 0 < te.size := by omega
  have hes' : es + 1 = te.size := hes.symm
  simp only [hes'] at h
  split at h
  · -- nil
    split at h
    · simp only [retV, Option.some.injEq, Prod.mk.injEq] at h
      obtain ⟨rfl, rfl⟩ := h
      have : cs = [] := by simpa using hcl
      subst this
      exact ⟨.refl _, _, rfl, app_nothing he hz (.inl rfl)⟩
    · rename_i n
      split at h
      · rename_i h1 h2
        obtain ⟨k1, k2, k3, k4⟩ := app_grow (m := 0) (n := n + 1) he hz (by simpa using h) (by simpa using hcl) (by simpa using h1) (by simpa using h2)
        refine ⟨k1, _, k2, fun φ w X Y news ts t u ty hf hfr hX hn hs h0 h1' ht => ?_⟩
        simp only [VRel] at hX
        subst hX
        have := k4 φ w none 0 Y [] news ts t u ty hf (hfr _ (Nat.le_refl _) (by omega)) (by simpa using hn) hs h0 h1' ht (by omega) (by omega) (fun w' _ => first_none w' _ _)
        simpa using this
      · simp at h
  · -- no element
    split at h
    · simp only [retV, Option.some.injEq, Prod.mk.injEq] at h
      obtain ⟨rfl, rfl⟩ := h
      have : cs = [] := by simpa using hcl
      subst this
      exact ⟨.refl _, _, rfl, app_nothing he hz (.inr (.inl ⟨_, rfl⟩))⟩
    · rename_i n
      split at h
      · rename_i h1 h2
        obtain ⟨k1, k2, k3, k4⟩ := app_grow (m := 0) (n := n + 1) he hz (by simpa using h) (by simpa using hcl) (by simpa using h1) (by simpa using h2)
        refine ⟨k1, _, k2, fun φ w X Y news ts t u ty hf hfr hX hn hs h0 h1' ht => ?_⟩
        simp only [VRel] at hX
        obtain ⟨a, c, rfl, hc⟩ := hX
        have hc0 := hc 0 rfl
        have := k4 φ w (some a) c Y [] news ts t u ty hf (hfr _ (Nat.le_refl _) (by omega)) (by simpa using hn) hs h0 h1' ht (by omega) (by omega) (fun w' _ => first_zero w' _ _ _)
        simpa using this
      · simp at h
  · -- just so much room
    rename_i i o m c
    split at h
    · rename_i hle
      simp only [ble_eq, decide_eq_true_eq] at hle
      obtain ⟨B, cs', s1, hB, hp, hk, hn, hwr, hg, hsc⟩ := wrt_out h
      simp only [Option.some.injEq, Prod.mk.injEq] at hk
      obtain ⟨rfl, rfl⟩ := hk
      refine ⟨.set hB hn hwr hg, _, rfl, fun φ w X Y news ts t u ty hf hfr hX hnr hs h0 h1 ht => ?_⟩
      simp only [VRel] at hX
      obtain ⟨b, β, z', c', hb, rfl, hc1, hc2⟩ := hX
      obtain ⟨w', hr, hf', hg'⟩ := wrt_run P hf hB hp hn hg hb hnr (hnr.one hsc)
      refine ⟨.slice (some ⟨b, β + o, none⟩) (m + n) c', w', φ, ?_, hf', hg', ?_⟩
      · rw [run_append_in (ty := ty) h0 h1 ht he hs hz (base := some ⟨b, β + o, none⟩) (by omega)]
        rw [← Nat.add_assoc] at hr
        simp [Addr.add_lit, hr]
      · simp only [VRel]
        exact ⟨b, β, z', c', hb, rfl, hc1, hle⟩
    · rename_i hle
      simp only [ble_eq, decide_eq_false_iff_not] at hle
      split at h
      · rename_i old h1 h2 h3
        rw [forceL_eq, appL_eq] at h
        obtain ⟨B, hB, ho, hol⟩ := rd_out h1
        have holl : old.length = m * te.size := by rw [ho]; simp; omega
        obtain ⟨k1, k2, k3, k4⟩ := app_grow (m := m) (n := n) he hz h (by simp [holl, hcl, Nat.add_mul]) h2 h3
        refine ⟨k1, _, k2, fun φ w X Y news ts t u ty hf hfr hX hn hs h0 h1' ht => ?_⟩
        simp only [VRel] at hX
        obtain ⟨b, β, z', c', hb, rfl, hc1, hc2⟩ := hX
        obtain ⟨ovs, hov, hof⟩ := rd_old (P := P) (c := c') hf h1 hb rfl
        exact k4 φ w _ c' Y ovs news ts t u ty hf (hfr _ (Nat.le_refl _) (by omega)) (hov.append hn) hs h0 h1' ht (by omega) (by omega) hof
      · simp at h
  · -- room to the end of the block
    rename_i i o m fs
    split at h
    · rename_i B hfs hB
      simp only [beq_eq, decide_eq_true_eq] at hfs
      subst hfs
      split at h
      · rename_i hle
        simp only [ble_eq, decide_eq_true_eq] at hle
        obtain ⟨B', cs', s1, hB', hp, hk, hn, hwr, hg, hsc⟩ := wrt_out h
        simp only [Option.some.injEq, Prod.mk.injEq] at hk
        obtain ⟨rfl, rfl⟩ := hk
        refine ⟨.set hB' hn hwr hg, _, rfl, fun φ w X Y news ts t u ty hf hfr hX hnr hs h0 h1 ht => ?_⟩
        simp only [VRel] at hX
        obtain ⟨b, β, z', c', hb, rfl, hc1, hc2, hc3⟩ := hX
        obtain ⟨w', hr, hf', hg'⟩ := wrt_run P hf hB' hp hn hg hb hnr (hnr.one hsc)
        obtain ⟨b2, β2, z2, c2, fr2, hb2, hw2, hz2, hx2, hl2, _⟩ := hf.cells hB
        rw [hb] at hb2
        simp only [Option.some.injEq, Prod.mk.injEq] at hb2
        obtain ⟨rfl, rfl, rfl⟩ := hb2
        have hroom : m + n ≤ c' := Nat.le_of_mul_le_mul_right (show (m + n) * te.size ≤ c' * te.size by omega) hz
        refine ⟨.slice (some ⟨b, β + o, none⟩) (m + n) c', w', φ, ?_, hf', hg', ?_⟩
        · rw [run_append_in (ty := ty) h0 h1 ht he hs hz (base := some ⟨b, β + o, none⟩) hroom]
          rw [← Nat.add_assoc] at hr
          simp [Addr.add_lit, hr]
        · simp only [VRel]
          exact ⟨b, β, z', c', hb, rfl, hz, hroom, hc3⟩
      · rename_i hle
        simp only [ble_eq, decide_eq_false_iff_not] at hle
        split at h
        · rename_i old h1 h2 h3
          obtain ⟨B', hB', ho, hol⟩ := rd_out h1
          rw [hB] at hB'
          cases hB'
          have hn0 : 0 < n := by
            rcases Nat.eq_zero_or_pos n with rfl | h0
            · simp only [Nat.add_zero] at hle; omega
            · exact h0
          have holl : old.length = m * te.size := by rw [ho]; simp; omega
          split at h
          · rename_i hex
            rw [forceL_eq, appL_eq] at h
            obtain ⟨k1, k2, k3, k4⟩ := app_grow (m := m) (n := n) he hz h (by simp [holl, hcl, Nat.add_mul]) h2 h3
            refine ⟨k1, _, k2, fun φ w X Y news ts t u ty hf hfr hX hn hs h0 h1' ht => ?_⟩
            simp only [VRel] at hX
            obtain ⟨b, β, z', c', hb, rfl, hc1, hc2, hc3⟩ := hX
            obtain ⟨b2, β2, z2, c2, fr2, hb2, hw2, hz2, hx2, hl2, _⟩ := hf.cells hB
            rw [hb] at hb2
            simp only [Option.some.injEq, Prod.mk.injEq] at hb2
            obtain ⟨rfl, rfl, rfl⟩ := hb2
            have hlt : c' < m + n := Nat.lt_of_mul_lt_mul_right (a := te.size) (by have := (hx2 hex).1; omega)
            obtain ⟨ovs, hov, hof⟩ := rd_old (P := P) (c := c') hf h1 hb rfl
            exact k4 φ w _ c' Y ovs news ts t u ty hf (hfr _ (Nat.le_refl _) (by omega)) (hov.append hn) hs h0 h1' ht hn0 hlt hof
          · rename_i hex
            split at h
            · rename_i hel
              simp only [beq_eq, decide_eq_true_eq] at hel
              rw [forceL_eq, appL_eq] at h
              obtain ⟨s1, hk, hkn, hkw, hkg⟩ := kill_out h
              obtain ⟨s2, hk2, hn2, hw2, hg2, hsc2⟩ := new_out (show new s1 ⟨e, old ++ cs, false⟩ _ = _ from hk)
              obtain ⟨k1, k2, k3, k4⟩ := app_grow (m := m) (n := n) he hz hk (by simp [holl, hcl, Nat.add_mul]) h2 h3
              simp only [Option.some.injEq, Prod.mk.injEq] at hk2
              obtain ⟨_, rfl⟩ := hk2
              refine ⟨(Eff.kill hkn hkw hkg).trans k1, _, k2, fun φ w X Y news ts t u ty hf hfr hX hn hs h0 h1' ht => ?_⟩
              simp only [VRel] at hX
              obtain ⟨b, β, z', c', hb, rfl, hc1, hc2, hc3⟩ := hX
              obtain ⟨b2, β2, z2, c2, fr2, hb2, hw2', hz2, hx2, hl2, _⟩ := hf.cells hB
              rw [hb] at hb2
              simp only [Option.some.injEq, Prod.mk.injEq] at hb2
              obtain ⟨rfl, rfl, rfl⟩ := hb2
              have hnone := hfr _ (Nat.le_refl _) (by omega)
              obtain ⟨ovs, hov, hof⟩ := rd_old (P := P) (c := c') hf h1 hb rfl
              by_cases hroom : m + n ≤ c'
              · have hrm : (m + n) * te.size ≤ c' * te.size := Nat.mul_le_mul_right _ hroom
                have hmn : (m + n) * te.size = m * te.size + n * te.size := Nat.add_mul _ _ _
                have hsc : ∀ v ∈ cs, scalar v = true := fun v hv => hsc2 v (by simp [hv])
                obtain ⟨w', hr, hf', hg'⟩ := move_run (s1 := s2) (o := o) (k := m * te.size) P hf hB hb hnone (.inr hol) hn (hn.one hsc) (by omega) (by omega) (fun j => by
                  rw [hg2, hkg, hkn, ← hel, ← ho])
                refine ⟨.slice (some ⟨b, β + o, none⟩) (m + n) c', w', _, ?_, hf', hg', ?_⟩
                · rw [run_append_in (ty := ty) h0 h1' ht he hs hz (base := some ⟨b, β + o, none⟩) hroom]
                  simp [Addr.add_lit, hr]
                · simp only [VRel]
                  refine ⟨b, β + o, z' - o, c', by simp [Asg.set, hkn], by simp, hz, hroom, by omega⟩
              · obtain ⟨f1, f2⟩ := hf.kill (n := s.next) hkg
                obtain ⟨V, w', φ', r1, r2, r3, r4⟩ := k4 φ w _ c' Y ovs news ts t u ty f1 (by rw [hkn]; exact hnone) (hov.append hn) hs h0 h1' ht (by omega) (by omega) hof
                rw [hkn] at r3
                exact ⟨V, w', φ', r1, r2, f2.trans r3, r4⟩
            · simp at h
        · simp at h
    · simp at h
  · -- no element, at the end of what is known
    rename_i i o fs
    split at h
    · simp only [retV, Option.some.injEq, Prod.mk.injEq] at h
      obtain ⟨rfl, rfl⟩ := h
      have : cs = [] := by simpa using hcl
      subst this
      exact ⟨.refl _, _, rfl, app_nothing he hz (.inr (.inr ⟨_, _, _, rfl⟩))⟩
    · rename_i n
      split at h
      · rename_i B hfs hB h1 h2
        simp only [beq_eq, decide_eq_true_eq] at hfs
        subst hfs
        split at h
        · rename_i hex hel
          simp only [beq_eq, decide_eq_true_eq] at hel
          obtain ⟨s1, hk, hkn, hkw, hkg⟩ := kill_out h
          obtain ⟨s2, hk2, hn2, hw2, hg2, hsc2⟩ := new_out (show new s1 ⟨e, cs, false⟩ _ = _ from hk)
          obtain ⟨k1, k2, k3, k4⟩ := app_grow (m := 0) (n := n + 1) he hz (by simpa using hk) (by simpa using hcl) (by simpa using h1) (by simpa using h2)
          simp only [Option.some.injEq, Prod.mk.injEq] at hk2
          obtain ⟨_, rfl⟩ := hk2
          refine ⟨(Eff.kill hkn hkw hkg).trans k1, _, k2, fun φ w X Y news ts t u ty hf hfr hX hn hs h0 h1' ht => ?_⟩
          simp only [VRel] at hX
          obtain ⟨b, β, z', a, c', hb, rfl, hc1, hc2, hc3⟩ := hX
          obtain ⟨b2, β2, z2, c2, fr2, hb2, hw2', hz2, hx2, hl2, _⟩ := hf.cells hB
          rw [hb] at hb2
          simp only [Option.some.injEq, Prod.mk.injEq] at hb2
          obtain ⟨rfl, rfl, rfl⟩ := hb2
          have hnone := hfr _ (Nat.le_refl _) (by omega)
          by_cases hroom : n + 1 ≤ c'
          · have hrm : (n + 1) * te.size ≤ c' * te.size := Nat.mul_le_mul_right _ hroom
            have hcl' : cs.length = (n + 1) * te.size := hcl
            obtain rfl := hc3 (by omega)
            have hsc : ∀ v ∈ cs, scalar v = true := fun v hv => hsc2 v (by simpa using hv)
            obtain ⟨w', hr, hf', hg'⟩ := move_run (s1 := s2) (o := o) (k := 0) P hf hB hb hnone (.inl rfl) hn (hn.one hsc) (by omega) (by omega) (fun j => by
              rw [hg2, hkg, hkn, ← hel]; simp)
            refine ⟨.slice (some ⟨b, β + o, none⟩) (n + 1) c', w', _, ?_, hf', hg', ?_⟩
            · rw [run_append_in (ty := ty) h0 h1' ht he hs hz (base := some ⟨b, β + o, none⟩) (sLen := 0) (by omega)]
              simp only [Nat.add_zero] at hr
              simp [Addr.add_lit, hr]
            · simp only [VRel]
              refine ⟨b, β + o, z' - o, c', by simp [Asg.set, hkn], by simp, hz, by omega, by omega⟩
          · obtain ⟨f1, f2⟩ := hf.kill (n := s.next) hkg
            obtain ⟨V, w', φ', r1, r2, r3, r4⟩ := k4 φ w (some a) c' Y [] news ts t u ty f1 (by rw [hkn]; exact hnone) (by simpa using hn) hs h0 h1' ht (by omega) (by omega) (fun w' _ => first_zero w' _ _ _)
            rw [hkn] at r3
            exact ⟨V, w', φ', by simpa using r1, r2, f2.trans r3, by simpa using r4⟩
        · rename_i q hex
          split at h
          · rename_i ho
            simp only [beq_eq, decide_eq_true_eq] at ho
            obtain ⟨k1, k2, k3, k4⟩ := app_grow (m := 0) (n := n + 1) he hz (by simpa using h) (by simpa using hcl) (by simpa using h1) (by simpa using h2)
            refine ⟨k1, _, k2, fun φ w X Y news ts t u ty hf hfr hX hn hs h0 h1' ht => ?_⟩
            simp only [VRel] at hX
            obtain ⟨b, β, z', a, c', hb, rfl, hc1, hc2, hc3⟩ := hX
            obtain ⟨b2, β2, z2, c2, fr2, hb2, hw2', hz2, hx2, hl2, _⟩ := hf.cells hB
            rw [hb] at hb2
            simp only [Option.some.injEq, Prod.mk.injEq] at hb2
            obtain ⟨rfl, rfl, rfl⟩ := hb2
            have hc0 : c' = 0 := by
              have := (hx2 hex).1
              have : c' * te.size = 0 := by omega
              rcases Nat.mul_eq_zero.1 this with h | h <;> omega
            subst hc0
            have := k4 φ w (some a) 0 Y [] news ts t u ty hf (hfr _ (Nat.le_refl _) (by omega)) (by simpa using hn) hs h0 h1' ht (by omega) (by omega) (fun w' _ => first_zero w' _ _ _)
            simpa using this
          · simp at h
        · simp at h
      · simp at h
  · simp at h

end

end Go.Proofs.Ytnkicnhjllmmjaa.Sx
