/- Regions whose order is open: each order comes to what the order of the text comes to. -/
import Derived.Test.YtnkicnhjllmmjaaSx20
namespace Go.Proofs.Ytnkicnhjllmmjaa.Sx
open Go
set_option linter.unusedVariables false
set_option linter.unusedSimpArgs false

/-! ### An operation looks at its operands alone -/
theorem evalsS_congr {tm tm' : Tm} : ∀ {l : List Operand}, (∀ y ∈ l, evalS tm y = evalS tm' y) → evalsS tm l = evalsS tm' l
  | [], _ => rfl
  | y :: l, h => by simp only [evalsS]; rw [h y (by simp), evalsS_congr fun z hz => h z (by simp [hz])]

theorem evalParts_congr {tm tm' : Tm} : ∀ {l : List (Nat × Operand)}, (∀ y ∈ l.map (·.2), evalS tm y = evalS tm' y) → evalParts tm l = evalParts tm' l
  | [], _ => rfl
  | (i, y) :: l, h => by simp only [evalParts]; rw [h y (by simp), evalParts_congr fun z hz => h z (by simp only [List.map_cons, List.mem_cons]; exact .inr hz)]

theorem evalO_congr {tm tm' : Tm} {o : Option Operand} (h : ∀ y ∈ o, evalS tm y = evalS tm' y) : evalO tm o = evalO tm' o := by
  cases o with
  | none => rfl
  | some y => simp only [evalO]; rw [h y (by simp)]

theorem sop_congr {E : Env} {tm tm' : Tm} {op : Op} {s : St} (h : ∀ y ∈ op.operands, evalS tm y = evalS tm' y) : sop E tm op s = sop E tm' op s := by
  cases op <;> simp only [Op.operands] at h <;> simp only [sop]
  case build t ps => rw [evalParts_congr fun y hy => h y (by simpa using hy)]
  case buildSlice t n ps => rw [evalParts_congr fun y hy => h y (by simpa using hy)]
  case makeFunc fn first captured => rw [evalsS_congr (l := first.toList) fun y hy => h y (by simp at hy ⊢; exact .inl hy), evalsS_congr (l := captured.toList) fun y hy => h y (by simp at hy ⊢; exact .inr hy)]
  case slice t x lo hi mx =>
    rw [h x (by simp), evalO_congr (o := lo) fun y hy => h y (by simp_all), evalO_congr (o := hi) fun y hy => h y (by simp_all), evalO_congr (o := mx) fun y hy => h y (by simp_all)]
  case call c =>
    unfold callS
    rw [evalsS_congr (l := c.args.toList) fun y hy => h y (by simp [Call.operands] at hy ⊢; first | exact .inr hy | exact .inl hy | skip)]
    cases hc : c.callee with
    | value f => simp only []; rw [h f (by simp [Call.operands, hc])]
    | invoke r m => simp only []; rw [h r (by simp [Call.operands, hc])]
    | builtin b => rfl
  case pick c a b => rw [h c (by simp), h a (by simp), h b (by simp)]
  all_goals first
    | rfl
    | (rename_i x; rw [h x (by simp)]; done)
    | (rename_i x _; rw [h x (by simp)]; done)
    | (rename_i x _ _; rw [h x (by simp)]; done)
    | (rename_i x _ _ _; rw [h x (by simp)]; done)
    | (rename_i x y; rw [h x (by simp), h y (by simp)]; done)
    | (rename_i x y _; rw [h x (by simp), h y (by simp)]; done)

def SeesOp (φ : Asg) (tm : Tm) (op : Op) (ρ : Operand → Value) : Prop := ∀ y ∈ op.operands, ∀ v, evalS tm y = some v → VRel φ v (ρ y)

section
variable {P : Program} {E : Env} {call : CallF}

theorem sop_select {tm : Tm} {cs : Array SelectCase} {b : Bool} {s : St} : sop E tm (.select cs b) s = none := rfl

open Classical in
theorem sop_ok' (hE : EnvOk P E) {tm : Tm} {op : Op} {s s' : St} {x : SNext} (h : sop E tm op s = some (x, s')) :
    Eff s s' ∧ ∀ (φ : Asg) (ρ : Operand → Value) (w : World) (o : Oper), SymOk E φ → SeesOp φ tm op ρ → Fits φ s.heap w → (∀ i, s.next ≤ i → i < s'.next → φ.blk i = none) → o.op = op →
      Out P φ s s' w ((execOp ρ o).run P w) x := by
  let tm' : Tm := ⟨tm.t.filt fun t => decide (Operand.tmp t ∈ op.operands), tm.size⟩
  have hat : ∀ t, tm'.at t = if Operand.tmp t ∈ op.operands then tm.at t else .undef := by
    intro t
    simp only [Tm.at, tm', Tree.get_filt, decide_eq_true_eq]
    by_cases ht : Operand.tmp t ∈ op.operands <;> simp [ht]
  have hsame : ∀ y ∈ op.operands, evalS tm y = evalS tm' y := by
    intro y hy
    cases y with
    | tmp t => simp only [evalS]; rw [hat, if_pos hy]
    | _ => rfl
  rw [sop_congr hsame] at h
  obtain ⟨k1, k2⟩ := sop_ok hE h
  refine ⟨k1, fun φ ρ w o hs hρ hf hfr ho => ?_⟩
  let ρ' : Operand → Value := fun y => if y ∈ op.operands then ρ y else match (generalizing := false) y with
    | .tmp _ => undef
    | .const v => v
    | .global g => .pointer (some ⟨g, 0, none⟩)
    | .func f => .func (.func f) #[] #[]
  have hsees : Sees φ tm' ρ' := by
    intro y v hy
    by_cases hm : y ∈ op.operands
    · have : ρ' y = ρ y := if_pos hm
      rw [this]
      exact hρ y hm v (by rw [hsame y hm]; exact hy)
    · have : ρ' y = match (generalizing := false) y with
        | .tmp _ => undef
        | .const v => v
        | .global g => .pointer (some ⟨g, 0, none⟩)
        | .func f => .func (.func f) #[] #[] := if_neg hm
      rw [this]
      cases y with
      | tmp t =>
        simp only [evalS, Option.some.injEq] at hy
        rw [hat, if_neg hm] at hy
        subst hy
        exact undef_rel φ
      | const c => exact ofConst_rel hy
      | global g => simp [evalS] at hy
      | func f =>
        simp only [evalS, Option.some.injEq] at hy
        subst hy
        simp only [VRel]
        exact ⟨_, _, rfl, by simp [VRels], by simp [VRels]⟩
  have he : execOp ρ o = execOp ρ' o := by
    refine execOp_congr o (fun cs b hsel => ?_) fun y hy => ?_
    · rw [ho] at hsel
      rw [hsel, sop_select] at h
      cases h
    · rw [ho] at hy
      exact (if_pos hy).symm
  rw [he]
  exact k2 φ ρ' w o hs hsees hf hfr ho

theorem valS_ok' (hE : EnvOk P E) (hC : CallFOk P E call) {tm : Tm} {o : Oper} {s s' : St} {v : SV} (h : valS E call tm o s = some (v, s')) :
    Eff s s' ∧ ∀ (φ : Asg) (a : Act) (w : World) (K : Act → World → Prop) (Q : Exit → Act → World → Prop), SymOk E φ → SeesOp φ tm o.op a.eval → Fits φ s.heap w → (∀ i, s.next ≤ i → i < s'.next → φ.blk i = none) →
      (∀ φ' w' V, VRel φ' v V → Fits φ' s'.heap w' → Goes φ s.heap s.next w φ' s'.heap s'.next w' → K (a.put o.dst V) w') → o.wp P a w K Q := by
  unfold valS at h
  split at h
  · rename_i v' s1 hop
    simp only [Option.some.injEq, Prod.mk.injEq] at h
    obtain ⟨rfl, rfl⟩ := h
    obtain ⟨k1, k2⟩ := sop_ok' hE hop
    refine ⟨k1, fun φ a w K Q hs ht hf hfr hK => ?_⟩
    obtain ⟨R, w', φ', hr, hf', hg', V, rfl, hV⟩ := k2 φ a.eval w o hs ht hf hfr rfl
    simp only [Oper.wp, hr, Oper.upon]
    exact hK φ' w' V hV hf' hg'
  · rename_i s1 hop
    simp only [Option.some.injEq, Prod.mk.injEq] at h
    obtain ⟨rfl, rfl⟩ := h
    obtain ⟨k1, k2⟩ := sop_ok' hE hop
    refine ⟨k1, fun φ a w K Q hs ht hf hfr hK => ?_⟩
    obtain ⟨R, w', φ', hr, hf', hg', rfl⟩ := k2 φ a.eval w o hs ht hf hfr rfl
    simp only [Oper.wp, hr, Oper.upon]
    exact hK φ' w' undef (undef_rel φ') hf' hg'
  · rename_i f args s1 hop
    obtain ⟨k1, k2⟩ := sop_ok' hE hop
    obtain ⟨c1, c2⟩ := hC _ _ _ _ _ h
    have hn := k1.next
    have hn' := c1.next
    refine ⟨k1.trans c1, fun φ a w K Q hs ht hf hfr hK => ?_⟩
    obtain ⟨R, w', φ', hr, hf', hg', as, rfl, has⟩ := k2 φ a.eval w o hs ht hf (fun i h1 h2 => hfr i h1 (by omega)) rfl
    simp only [Oper.wp, hr, Oper.upon]
    refine (c2 φ' as w' (hs.le hg'.le) has hf' (fun i h1 h2 => hg'.fresh hfr i h1 h2)).mono fun e w'' he => ?_
    obtain ⟨V, φ'', rfl, hV, hf'', hg''⟩ := he
    exact hK φ'' w'' V hV hf'' (hg'.trans hg'')
  · simp at h

/-! ### Counting what is done -/
def cnt (D : Nat → Bool) : Nat → Nat
  | 0 => 0
  | k + 1 => cnt D k + if D k then 1 else 0

theorem cnt_le (D : Nat → Bool) : ∀ n, cnt D n ≤ n
  | 0 => Nat.le_refl _
  | n + 1 => by have := cnt_le D n; simp only [cnt]; split <;> omega

theorem cnt_all {D : Nat → Bool} : ∀ {n : Nat}, cnt D n = n → ∀ i, i < n → D i = true
  | 0, _, i, hi => by omega
  | n + 1, h, i, hi => by
    have h0 := cnt_le D n
    simp only [cnt] at h
    split at h
    · rename_i hd
      by_cases hin : i = n
      · subst hin; exact hd
      · exact cnt_all (n := n) (by omega) i (by omega)
    · omega

theorem cnt_set {D D' : Nat → Bool} {i : Nat} (hD : D i = false) (hD' : ∀ j, D' j = (D j || j == i)) : ∀ n, cnt D' n = cnt D n + if i < n then 1 else 0
  | 0 => by simp [cnt]
  | n + 1 => by
    simp only [cnt]
    rw [cnt_set hD hD' n, hD' n]
    by_cases h1 : n = i
    · subst h1
      simp [hD]
    · have : (n == i) = false := by simpa using h1
      rw [this, Bool.or_false]
      by_cases h2 : i < n
      · have h3 : i < n + 1 := by omega
        rw [if_pos h2, if_pos h3]
        split <;> omega
      · have h3 : ¬ i < n + 1 := by omega
        rw [if_neg h2, if_neg h3]
        split <;> omega

/-- Is it wanted? It looks at one slot for that. -/
theorem wanted_eq' {φ : Asg} {tm : Tm} {a : Act} {ops : Array Oper} (o : Oper) (ht : ∀ d ∈ o.looksAt ops, VRel φ (tm.at d) (a.tmps.getD d undef)) : wantedS ops.toList tm o = Region.wanted o (yielded ops a.tmps) := by
  unfold wantedS Region.wanted
  cases hg : o.guard with
  | none => rfl
  | some gw =>
    obtain ⟨j, want⟩ := gw
    simp only [atN_eq, Array.getElem?_toList, yielded]
    cases hj : ops[j]? with
    | none => simp
    | some oj =>
      simp only [Option.bind_some]
      cases hd : oj.dst with
      | none => simp
      | some d =>
        simp only [Option.bind_some]
        have h := ht d (by simp [Oper.looksAt, hg, hj, hd])
        cases hv : a.tmps[d]? with
        | none =>
          have : a.tmps.getD d undef = undef := by simp [Array.getD_eq_getD_getElem?, hv]
          rw [this] at h
          cases hx : tm.at d <;> simp only [] <;> try (simp; done)
          rw [hx] at h
          simp [VRel, undef] at h
        | some V =>
          have : a.tmps.getD d undef = V := by simp [Array.getD_eq_getD_getElem?, hv]
          rw [this] at h
          cases V
          case bool b => rw [rel_bool h]; cases b <;> cases want <;> rfl
          all_goals cases hx : tm.at d <;> first | rfl | (rw [hx] at h; simp [VRel] at h)
end

end Go.Proofs.Ytnkicnhjllmmjaa.Sx
