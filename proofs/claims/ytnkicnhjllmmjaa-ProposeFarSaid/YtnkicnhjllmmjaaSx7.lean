/- The evaluator's operations are the model's: what they share, and those that are no operators. -/
import Derived.Test.YtnkicnhjllmmjaaSx6
namespace Go.Proofs.Ytnkicnhjllmmjaa.Sx
open Go
set_option linter.unusedVariables false

/-- A function without a body answers so. -/
def ExtOk (P : Program) (f : Nat) (e : List SV → Option SV) : Prop :=
  ∀ (φ : Asg) (args : List SV) (v : SV) (as : Array Value) (w : World), e args = some v → VRels φ args as.toList →
    ∃ V, (callFunc f as).run P w = .ok (.value V) w ∧ VRel φ v V

def SymOk (E : Env) (φ : Asg) : Prop := ∀ i, E.lo i ≤ φ.num i ∧ φ.num i ≤ E.hi i

/-- What a call from the evaluator's state to another one says. -/
def CallOk (P : Program) (E : Env) (f : Nat) (args : List SV) (s : St) (v : SV) (s' : St) : Prop :=
  Eff s s' ∧ ∀ (φ : Asg) (as : Array Value) (w : World), SymOk E φ → VRels φ args as.toList → Fits φ s.heap w → (∀ i, s.next ≤ i → i < s'.next → φ.blk i = none) →
    Calls P f as w fun e w' => ∃ V φ', e = .returned V ∧ VRel φ' v V ∧ Fits φ' s'.heap w' ∧ Goes φ s.heap s.next w φ' s'.heap s'.next w'

structure EnvOk (P : Program) (E : Env) : Prop where
  ty : ∀ t ty, E.types.get t = some ty → tyOf P t = some ty
  fn : ∀ f fn, E.funcs.get f = some fn → P.funcs[f]? = some fn ∧ (fn.name == "runtime.NumGoroutine") = false
  ext : ∀ f e, E.exts.get f = some e → ExtOk P f e
  meth : ∀ t m f, findMethod E.methods t m = some f → ∀ v w, (method (P.types.size + Made.depth) t v m).run P w = .ok (f, v) w
  mixed : P.follows .mixedOrders = true


theorem SymOk.le {E : Env} {φ ψ : Asg} (h : SymOk E φ) (k : φ.Le ψ) : SymOk E ψ := fun i => by rw [k.num]; exact h i

/-! ### Types -/
structure TyIs (P : Program) (t : Nat) (ty : Ty) (i : TypeInfo) (d : TypeDesc) (z : Value) : Prop where
  info : P.info? t = some i
  under : P.underlying t = some d
  zero : i.zero = some z
  sh : shOf d = ty.sh
  size : i.size = ty.size
  bytes : i.bytes = ty.bytes
  cells : ofConsts z.cells.toList = some ty.zero
  len : ty.zero.length = ty.size
  zagg : isAggV z = ty.sh.isAgg
  eqs : ty.eqs = true → P.stoodInHeld t = false ∧ P.eqGuardType P.depth t = false

theorem tyOf_is {P : Program} {t : Nat} {ty : Ty} (h : tyOf P t = some ty) : ∃ i d z, TyIs P t ty i d z := by
  unfold tyOf at h
  split at h
  · rename_i i d hi hd
    split at h
    · rename_i z hz
      split at h
      · rename_i l hl
        split at h
        · rename_i hb
          simp only [Option.some.injEq] at h
          subst h
          simp only [Bool.and_eq_true, beq_eq, decide_eq_true_eq, beq_iff_eq] at hb
          refine ⟨i, d, z, hi, hd, hz, rfl, rfl, rfl, hl, hb.1, hb.2, fun he => ?_⟩
          dsimp only at he
          split at he
          · simpa using he
          · simp at he
        · simp at h
      · simp at h
    · simp at h
  · simp at h

section
variable {P : Program} {t : Nat} {ty : Ty} {i : TypeInfo} {d : TypeDesc} {z : Value}
theorem TyIs.run_under (h : TyIs P t ty i d z) (w : World) : (underlying t).run P w = .ok d w := run_underlying h.under w
theorem TyIs.run_info (h : TyIs P t ty i d z) (w : World) : (typeInfo t).run P w = .ok i w := by simp [typeInfo, h.info]
theorem TyIs.run_size (h : TyIs P t ty i d z) (w : World) : (sizeOf t).run P w = .ok ty.size w := by simp [sizeOf, typeInfo, h.info, h.size]
theorem TyIs.run_zero (h : TyIs P t ty i d z) (w : World) : (zeroValue t).run P w = .ok z w := by simp [zeroValue, typeInfo, h.info, h.zero]
theorem TyIs.run_agg (h : TyIs P t ty i d z) (w : World) : (isAgg t).run P w = .ok ty.sh.isAgg w := by
  unfold isAgg
  rw [Sem.run_bind, h.run_under, Result.andThen_ok, ← h.sh]
  cases d <;> simp [shOf, Sh.isAgg]
theorem TyIs.zeros (h : TyIs P t ty i d z) (φ : Asg) : VRels φ ty.zero z.cells.toList := ofConsts_rel h.cells
theorem TyIs.zsize (h : TyIs P t ty i d z) : z.cells.size = ty.size := by have := (h.zeros ⟨fun _ => none, fun _ => 0, fun _ => default⟩).length; rw [Array.length_toList, h.len] at this; exact this
end

theorem TyIs.zero_rel {P : Program} {t : Nat} {ty : Ty} {i : TypeInfo} {d : TypeDesc} {z : Value} (h : TyIs P t ty i d z) (φ : Asg) : VRel φ (zeroS ty) z := by
  have hz := h.zeros φ
  have ha := h.zagg
  unfold zeroS
  split
  · rename_i hs
    rw [hs] at ha
    cases z <;> simp [isAggV] at ha
    simp only [VRel]
    exact ⟨_, rfl, by simpa [Value.cells] using hz⟩
  · rename_i hs
    rw [hs] at ha
    have hc : z.cells = #[z] := by cases z <;> simp_all [Value.cells, isAggV]
    rw [hc] at hz
    split
    · rename_i h0; rw [h0] at hz; simp [VRels] at hz
    · rename_i x l h0
      rw [h0] at hz
      simp only [VRels] at hz
      exact hz.1

theorem shOf_int {d : TypeDesc} {k : IntKind} (h : shOf d = .int k) : d = .int k := by cases d <;> simp_all [shOf]
theorem shOf_bool {d : TypeDesc} (h : shOf d = .bool) : d = .bool := by cases d <;> simp_all [shOf]
theorem shOf_str {d : TypeDesc} (h : shOf d = .str) : d = .string := by cases d <;> simp_all [shOf]
theorem shOf_ptr {d : TypeDesc} {e : Nat} (h : shOf d = .ptr e) : d = .pointer e := by cases d <;> simp_all [shOf]
theorem shOf_slice {d : TypeDesc} {e : Nat} (h : shOf d = .slice e) : d = .slice e := by cases d <;> simp_all [shOf]
theorem shOf_arr {d : TypeDesc} {n e : Nat} (h : shOf d = .arr n e) : d = .array n e := by cases d <;> simp_all [shOf]
theorem shOf_uptr {d : TypeDesc} (h : shOf d = .uptr) : d = .unsafePointer := by cases d <;> simp_all [shOf]
theorem shOf_iface {d : TypeDesc} (h : shOf d = .iface) : ∃ ms, d = .interface ms := by cases d <;> simp_all [shOf]
theorem shOf_struct {d : TypeDesc} {fs : List (Nat × Nat × Bool)} (h : shOf d = .struct fs) : ∃ gs : Array Field, d = .struct gs ∧ fs = gs.toList.map fun f => (f.offset, f.type, f.name == "_") := by
  cases d <;> simp_all [shOf]

/-! ### What an operation comes to -/
def NRel (φ : Asg) : SNext → Next → Prop
  | .val v, R => ∃ V, R = .value V ∧ VRel φ v V
  | .skip, R => R = .skip
  | .enter f args, R => ∃ as : Array Value, R = .enter f as ∧ VRels φ args as.toList

def Out (P : Program) (φ : Asg) (s s' : St) (w : World) (r : Result Next) (x : SNext) : Prop :=
  ∃ R w' φ', r = .ok R w' ∧ Fits φ' s'.heap w' ∧ Goes φ s.heap s.next w φ' s'.heap s'.next w' ∧ NRel φ' x R

/-- The slots that the evaluator has are those of the run. -/
def Sees (φ : Asg) (tm : Tm) (ρ : Operand → Value) : Prop := ∀ y v, evalS tm y = some v → VRel φ v (ρ y)

def OpOk (P : Program) (E : Env) (tm : Tm) (op : Op) (s : St) (x : SNext) (s' : St) : Prop :=
  Eff s s' ∧ ∀ (φ : Asg) (ρ : Operand → Value) (w : World) (o : Oper), SymOk E φ → Sees φ tm ρ → Fits φ s.heap w → (∀ i, s.next ≤ i → i < s'.next → φ.blk i = none) → o.op = op →
    Out P φ s s' w ((execOp ρ o).run P w) x

/-- An operation that leaves the world as it is. -/
theorem OpOk.still {P : Program} {E : Env} {tm : Tm} {op : Op} {s : St} {v : SV}
    (h : ∀ (φ : Asg) (ρ : Operand → Value) (w : World) (o : Oper), SymOk E φ → Sees φ tm ρ → Fits φ s.heap w → o.op = op → ∃ V, (execOp ρ o).run P w = .ok (.value V) w ∧ VRel φ v V) : OpOk P E tm op s (.val v) s :=
  ⟨.refl _, fun φ ρ w o hs hρ hf _ ho => by
    obtain ⟨V, hr, hv⟩ := h φ ρ w o hs hρ hf ho
    exact ⟨_, w, φ, hr, hf, .refl _ _ _ _, V, rfl, hv⟩⟩

/-- One that makes a block. -/
theorem OpOk.makes {P : Program} {E : Env} {tm : Tm} {op : Op} {s s1 : St} {B : Blk} {v : SV}
    (hn : s1.next = s.next + 1) (hwr : s1.wr = s.wr) (hg : ∀ j, s1.heap.get j = if j = s.next then some B else s.heap.get j)
    (h : ∀ (φ : Asg) (ρ : Operand → Value) (w : World) (o : Oper), SymOk E φ → Sees φ tm ρ → Fits φ s.heap w → o.op = op →
      ∃ V w' c fr z, (execOp ρ o).run P w = .ok (.value V) w' ∧ w'.heap = w.heap.push (.cells c B.elem fr) ∧ Calm w w' ∧ c.size = z ∧ (B.exact = true → B.cells.length = z) ∧ B.cells.length ≤ z ∧
        VRels φ B.cells (c.toList.take B.cells.length) ∧ (fr.2 ≤ fr.1 ∨ c.size ≤ fr.1) ∧ VRel (φ.set s.next (w.heap.size, 0, z)) v V) : OpOk P E tm op s (.val v) s1 :=
  ⟨.new hn hwr hg, fun φ ρ w o hs hρ hf hfr ho => by
    obtain ⟨V, w', c, fr, z, hr, hw, hc, hz, hx, hl, hrel, hmark, hv⟩ := h φ ρ w o hs hρ hf ho
    have hnone := hfr s.next (Nat.le_refl _) (by omega)
    obtain ⟨h1, h2⟩ := hf.new hnone (Nat.le_refl s.next) (show s.next < s1.next by omega) hg hw hc hz hx hl hrel hmark
    exact ⟨_, w', _, hr, h1, h2, V, rfl, hv⟩⟩

section
variable {P : Program} {E : Env} {tm : Tm} {s s' : St} {x : SNext}

theorem evals_sees {φ : Asg} {ρ : Operand → Value} (hρ : Sees φ tm ρ) : ∀ {l : List Operand} {vs : List SV}, evalsS tm l = some vs → VRels φ vs (l.map ρ)
  | [], vs, h => by simp [evalsS] at h; subst h; simp [VRels]
  | y :: l, vs, h => by
    simp only [evalsS] at h
    split at h
    · rename_i v us h1 h2
      simp only [Option.some.injEq] at h
      subst h
      simp only [List.map_cons, VRels]
      exact ⟨hρ y v h1, evals_sees hρ h2⟩
    · simp at h

theorem parts_sees {φ : Asg} {ρ : Operand → Value} (hρ : Sees φ tm ρ) : ∀ {l : List (Nat × Operand)} {vs : List (Nat × SV)}, evalParts tm l = some vs →
    vs.map (·.1) = l.map (·.1) ∧ VRels φ (vs.map (·.2)) (l.map fun p => ρ p.2)
  | [], vs, h => by simp [evalParts] at h; subst h; simp [VRels]
  | (i, y) :: l, vs, h => by
    simp only [evalParts] at h
    split at h
    · rename_i v us h1 h2
      simp only [Option.some.injEq] at h
      subst h
      obtain ⟨e1, e2⟩ := parts_sees hρ h2
      simp only [List.map_cons, VRels]
      exact ⟨by rw [e1], hρ y v h1, e2⟩
    · simp at h

theorem part_run (hE : EnvOk P E) {t : Nat} {cs : List SV} {off : Nat} {v : SV} (h : partS E t cs off = some v) {φ : Asg} {vs : Array Value} (hv : VRels φ cs vs.toList) (w : World) :
    ∃ V, (part t vs off).run P w = .ok V w ∧ VRel φ v V := by
  unfold partS at h
  split at h
  · rename_i ty hty
    obtain ⟨i, d, z, hi⟩ := tyOf_is (hE.ty _ _ hty)
    unfold part
    rw [Sem.run_bind, hi.run_agg, Result.andThen_ok]
    split at h
    · rename_i ha
      rw [ha]
      split at h
      · rename_i l hl
        split at h
        · rename_i r hr
          simp only [Option.some.injEq] at h
          subst h
          obtain ⟨h1, h2⟩ := dropN_eq _ _ _ hl
          obtain ⟨h3, h4⟩ := takeN_eq _ _ _ hr
          subst h1 h3
          refine ⟨.agg (vs.extract off (off + ty.size)), by simp [hi.run_size], ?_⟩
          simp only [VRel]
          refine ⟨_, rfl, ?_⟩
          have := (hv.drop off).take ty.size
          rwa [Array.toList_extract, List.extract_eq_take_drop, Nat.add_sub_cancel_left]
        · simp at h
      · simp at h
    · rename_i ha
      rw [ha]
      rw [atN_eq] at h
      obtain ⟨V, h1, h2⟩ := hv.get _ _ h
      refine ⟨V, ?_, h2⟩
      have : vs[off]? = some V := by simpa using h1
      simp [this]
  · simp at h

/-! #### Moves -/
theorem ok_move {y : Operand} {v : SV} (h : evalS tm y = some v) : OpOk P E tm (.move y) s (.val v) s :=
  .still fun φ ρ w o _ hρ _ ho => ⟨ρ y, by simp [execOp, ho], hρ _ _ h⟩
theorem ok_assign {y : Operand} {v : SV} (h : evalS tm y = some v) : OpOk P E tm (.assign y) s (.val v) s :=
  .still fun φ ρ w o _ hρ _ ho => ⟨ρ y, by simp [execOp, ho], hρ _ _ h⟩
theorem ok_pick {c a b : Operand} {q : Bool} {v : SV} (hc : evalS tm c = some (.bool q)) (h : evalS tm (if q then a else b) = some v) : OpOk P E tm (.pick c a b) s (.val v) s :=
  .still fun φ ρ w o _ hρ _ ho => by
    have h1 := hρ _ _ hc
    simp only [VRel] at h1
    refine ⟨ρ (if q then a else b), ?_, hρ _ _ h⟩
    cases q <;> simp [execOp, ho, h1, asBool]

theorem ok_makeFunc {fn : Fn} {first cap : Array Operand} {a b : List SV} (h1 : evalsS tm first.toList = some a) (h2 : evalsS tm cap.toList = some b) : OpOk P E tm (.makeFunc fn first cap) s (.val (.fn fn a b)) s :=
  .still fun φ ρ w o _ hρ _ ho => by
    refine ⟨.func fn (first.map ρ) (cap.map ρ), by simp [execOp, ho, Instr.makeFunc], ?_⟩
    simp only [VRel]
    exact ⟨_, _, rfl, by simpa using evals_sees hρ h1, by simpa using evals_sees hρ h2⟩

theorem ok_extract {y : Operand} {i : Nat} {vs : List SV} {v : SV} (h : evalS tm y = some (.tup vs)) (hi : atN i vs = some v) : OpOk P E tm (.extract y i) s (.val v) s :=
  .still fun φ ρ w o _ hρ _ ho => by
    have h1 := hρ _ _ h
    simp only [VRel] at h1
    obtain ⟨us, hu, hr⟩ := h1
    rw [atN_eq] at hi
    obtain ⟨V, hV, hv⟩ := hr.get _ _ hi
    have hV' : us[i]? = some V := by simpa using hV
    exact ⟨V, by simp [execOp, ho, Instr.extract, hu, hV'], hv⟩

theorem ok_nilCheck {y : Operand} {v : SV} (h : evalS tm y = some v) (hv : (∃ i o, v = .ptr i o) ∨ (∃ f a b, v = .fn (.func f) a b) ∨ ∃ t u, v = .iface t u) : OpOk P E tm (.nilCheck y) s (.val v) s :=
  .still fun φ ρ w o _ hρ _ ho => by
    have h1 := hρ _ _ h
    refine ⟨ρ y, ?_, h1⟩
    rcases hv with ⟨i, o', rfl⟩ | ⟨f, a, b, rfl⟩ | ⟨t, u, rfl⟩ <;> simp only [VRel] at h1
    · obtain ⟨_, _, _, _, e⟩ := h1
      simp [execOp, ho, e]
    · obtain ⟨_, _, e, _⟩ := h1
      simp [execOp, ho, e]
    · obtain ⟨_, e, _⟩ := h1
      simp [execOp, ho, e]

theorem ok_makeInterface (hE : EnvOk P E) {t : Nat} {y : Operand} {v : SV} {ty : Ty} (h : evalS tm y = some v) (ht : E.types.get t = some ty) (h1 : ty.sh ≠ .iface) (h2 : ty.sh ≠ .other) : OpOk P E tm (.makeInterface t y) s (.val (.iface t v)) s :=
  .still fun φ ρ w o _ hρ _ ho => by
    obtain ⟨i, d, z, hi⟩ := tyOf_is (hE.ty _ _ ht)
    refine ⟨.iface t (ρ y), ?_, by simp only [VRel]; exact ⟨_, rfl, hρ _ _ h⟩⟩
    simp only [execOp, ho, Instr.makeInterface, Sem.run_bind, hi.run_under, Result.andThen_ok]
    rw [← hi.sh] at h1
    cases d <;> simp_all [shOf]

/-! #### Blocks -/
theorem take_all {α : Type} (l : List α) (n : Nat) (h : n = l.length) : l.take n = l := by subst h; simp

theorem ok_alloc (hE : EnvOk P E) {t : Nat} {ty : Ty} (ht : E.types.get t = some ty) {s1 : St} (hn : s1.next = s.next + 1) (hwr : s1.wr = s.wr) (hg : ∀ j, s1.heap.get j = if j = s.next then some ⟨t, ty.zero, true⟩ else s.heap.get j) :
    OpOk P E tm (.alloc t) s (.val (.ptr s.next 0)) s1 :=
  .makes hn hwr hg fun φ ρ w o _ hρ _ ho => by
    obtain ⟨i, d, z, hi⟩ := tyOf_is (hE.ty _ _ ht)
    refine ⟨.pointer (some ⟨w.heap.size, 0, none⟩), _, z.cells, (0, 0), ty.size, ?_, rfl, .alloc w _, hi.zsize, fun _ => hi.len, by rw [hi.len]; exact Nat.le_refl _, ?_, .inl (Nat.le_refl _), ?_⟩
    · simp [execOp, ho, Instr.alloc, hi.run_zero, newVar, newRow]
    · rw [take_all _ _ (by simp [hi.zsize, hi.len])]
      exact hi.zeros φ
    · simp only [VRel]
      exact ⟨w.heap.size, 0, ty.size, by simp [Asg.set], rfl⟩

theorem ok_box {t : Nat} {y : Operand} {v : SV} (h : evalS tm y = some v) {s1 : St} (hn : s1.next = s.next + 1) (hwr : s1.wr = s.wr) (hg : ∀ j, s1.heap.get j = if j = s.next then some ⟨t, cellsOf v, true⟩ else s.heap.get j) :
    OpOk P E tm (.box t y) s (.val (.ptr s.next 0)) s1 :=
  .makes hn hwr hg fun φ ρ w o _ hρ _ ho => by
    have hc := cells_rel (hρ _ _ h)
    have hl := hc.length
    rw [Array.length_toList] at hl
    refine ⟨.pointer (some ⟨w.heap.size, 0, none⟩), _, (ρ y).cells, (0, 0), (cellsOf v).length, ?_, rfl, .alloc w _, hl, fun _ => rfl, Nat.le_refl _, ?_, .inl (Nat.le_refl _), ?_⟩
    · simp [execOp, ho, Instr.box, newVar, newRow]
    · rw [take_all _ _ (by simp [hl])]
      exact hc
    · simp only [VRel]
      exact ⟨w.heap.size, 0, (cellsOf v).length, by simp [Asg.set], rfl⟩

theorem load_run (hE : EnvOk P E) {t i o : Nat} {v : SV} (h : loadS E t i o s = some v) {φ : Asg} {w : World} (hf : Fits φ s.heap w) :
    ∃ b β z V, φ.blk i = some (b, β, z) ∧ (loadVar t ⟨b, β + o, none⟩).run P w = .ok V w ∧ VRel φ v V := by
  unfold loadS at h
  split at h
  · rename_i ty hty
    obtain ⟨ti, d, zv, hi⟩ := tyOf_is (hE.ty _ _ hty)
    split at h
    · rename_i ha
      split at h
      · rename_i cs hcs
        simp only [Option.some.injEq] at h
        subst h
        obtain ⟨b, β, z, vs, hb, hl, hr, hvl, hc⟩ := rd_rel hf hcs
        refine ⟨b, β, z, .agg vs.toArray, hb, ?_, by simp only [VRel]; exact ⟨_, rfl, by simpa using hr⟩⟩
        have := run_loadCells_list (P := P) w ⟨b, β + o, none⟩ vs hc
        rw [hvl] at this
        simp [loadVar, hi.run_agg, ha, hi.run_size, this]
      · simp at h
    · rename_i ha
      split at h
      · rename_i u us hcs
        simp only [Option.some.injEq] at h
        subst h
        obtain ⟨b, β, z, vs, hb, hl, hr, hvl, hc⟩ := rd_rel hf hcs
        obtain ⟨V, hV, hv⟩ := hr.get 0 _ rfl
        refine ⟨b, β, z, V, hb, ?_, hv⟩
        have h0 := hc 0 V hV
        rw [Addr.add_lit, Nat.add_zero] at h0
        simp [loadVar, hi.run_agg, ha, h0]
      · simp at h
  · simp at h

theorem ok_load (hE : EnvOk P E) {t i o : Nat} {y : Operand} {v : SV} (h : evalS tm y = some (.ptr i o)) (hl : loadS E t i o s = some v) : OpOk P E tm (.load t y) s (.val v) s :=
  .still fun φ ρ w op _ hρ hf ho => by
    have h1 := hρ _ _ h
    simp only [VRel] at h1
    obtain ⟨b, β, z, hb, e⟩ := h1
    obtain ⟨b', β', z', V, hb', hr, hv⟩ := load_run hE hl hf
    rw [hb] at hb'
    cases hb'
    exact ⟨V, by simp [execOp, ho, Instr.loadAt, Instr.sureAddr, e, hr], hv⟩

theorem ok_store (hE : EnvOk P E) {t i o : Nat} {y u : Operand} {v : SV} (hy : evalS tm y = some (.ptr i o)) (hu : evalS tm u = some v) (h : storeS E t i o v s = some (x, s')) : OpOk P E tm (.store t y u) s x s' := by
  unfold storeS at h
  split at h
  · rename_i ty hty
    split at h
    · rename_i hlen
      obtain ⟨B, cs, s1, hB, hp, hk, hn, hwr, hg, hsc⟩ := wrt_out h
      simp only [Option.some.injEq, Prod.mk.injEq] at hk
      obtain ⟨rfl, rfl⟩ := hk
      refine ⟨.set hB hn hwr hg, fun φ ρ w op hs hρ hf _ ho => ?_⟩
      obtain ⟨ti, d, zv, hi⟩ := tyOf_is (hE.ty _ _ hty)
      have h1 := hρ _ _ hy
      simp only [VRel] at h1
      obtain ⟨b, β, z, hb, e⟩ := h1
      have hc := cells_rel (hρ _ _ hu)
      have hcl := hc.length
      rw [Array.length_toList] at hcl
      obtain ⟨w', hr, hf', hg'⟩ := wrt_run P hf hB hp hn hg hb hc (hc.one hsc)
      have hlen' : (cellsOf v).length = ty.size := by simpa [beq_eq] using hlen
      refine ⟨.skip, w', φ, ?_, hf', hg', rfl⟩
      simp [execOp, ho, Instr.storeAt, Instr.sureAddr, e, storeVar, hi.run_size, hcl, hlen', hr]
    · simp at h
  · simp at h
end

end Go.Proofs.Ytnkicnhjllmmjaa.Sx
