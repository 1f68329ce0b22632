/- The evaluator's code is the model's: regions in the order of the text, code, calls. -/
import Derived.Test.YtnkicnhjllmmjaaSx16
import Derived.LoopN
namespace Go.Proofs.Ytnkicnhjllmmjaa.Sx
open Go
set_option linter.unusedVariables false
set_option linter.unusedSimpArgs false

/-- The slots. -/
structure TmOk (φ : Asg) (tm : Tm) (tmps : Array Value) : Prop where
  size : tmps.size = tm.size
  at_ : ∀ d, VRel φ (tm.at d) (tmps.getD d undef)

theorem undef_rel (φ : Asg) : VRel φ .undef undef := by simp [SV.undef, VRel, VRels, undef]

theorem TmOk.mono {φ ψ : Asg} (h : φ.Le ψ) {tm : Tm} {a : Array Value} (k : TmOk φ tm a) : TmOk ψ tm a := ⟨k.size, fun d => (k.at_ d).mono h⟩

theorem TmOk.sees {φ : Asg} {tm : Tm} {a : Act} (h : TmOk φ tm a.tmps) : Sees φ tm a.eval := by
  intro y v hy
  cases y with
  | tmp t => simp only [evalS, Option.some.injEq] at hy; subst hy; exact h.at_ t
  | const c => exact ofConst_rel hy
  | global g => simp [evalS] at hy
  | func f =>
    simp only [evalS, Option.some.injEq] at hy
    subst hy
    simp only [VRel, Act.eval]
    exact ⟨_, _, rfl, by simp [VRels], by simp [VRels]⟩

theorem at_put {t : Tree SV} {n d : Nat} {v : SV} {t' : Tree SV} (h : ∀ m, t'.get m = if m = d then some v else t.get m) (m : Nat) : (Tm.mk t' n).at m = if m = d then v else (Tm.mk t n).at m := by
  simp only [Tm.at, h]
  by_cases hm : m = d <;> simp [hm]

theorem putT_out {β : Type} {tm : Tm} {dst : Option Nat} {v : SV} {K : Tm → Option β} {r : β} (h : putT tm dst v K = some r) :
    ∃ tm', K tm' = some r ∧ tm'.size = tm.size ∧ ∀ φ a V, TmOk φ tm a.tmps → VRel φ v V → TmOk φ tm' (Act.put a dst V).tmps := by
  unfold putT at h
  split at h
  · exact ⟨tm, h, rfl, fun φ a V ht hv => ht⟩
  · rename_i d
    split at h
    · rename_i hd
      rw [blt_eq] at hd
      simp only [decide_eq_true_eq] at hd
      obtain ⟨t', hk, hg⟩ := Tree.put_some _ _ _ _ _ _ h
      refine ⟨_, hk, rfl, fun φ a V ht hv => ⟨by simpa [Act.put] using ht.size, fun m => ?_⟩⟩
      rw [at_put hg m]
      simp only [Act.put]
      by_cases hm : m = d
      · subst hm
        have hs := ht.size
        have : (a.tmps.setIfInBounds m V).getD m undef = V := by simp [Array.getD_eq_getD_getElem?, hs, hd]
        rw [this]; simpa using hv
      · have : (a.tmps.setIfInBounds d V).getD m undef = a.tmps.getD m undef := by simp [Array.getD_eq_getD_getElem?, Array.getElem?_setIfInBounds_ne (Ne.symm hm)]
        rw [this, if_neg hm]
        exact ht.at_ m
    · simp at h

theorem rel_bool {φ : Asg} {x : SV} {b : Bool} (h : VRel φ x (.bool b)) : x = .bool b := by
  cases x <;> simp only [VRel] at h <;> first
    | (cases h; rfl)
    | (cases h; done)
    | (obtain ⟨_, h⟩ := h; first | (cases h; done) | (obtain ⟨_, h⟩ := h; first | (cases h; done) | (obtain ⟨_, h⟩ := h; first | (cases h; done) | skip)))
    | skip
  all_goals try (simp at h; done)
  all_goals try (obtain ⟨h, _⟩ := h; simp at h; done)
  all_goals try (obtain ⟨_, _, _, _, h, _⟩ := h; simp at h; done)
  all_goals simp_all

theorem wanted_eq {φ : Asg} {tm : Tm} {a : Act} {ops : Array Oper} (ht : TmOk φ tm a.tmps) (o : Oper) : wantedS ops.toList tm o = Region.wanted o (yielded ops a.tmps) := by
  unfold wantedS Region.wanted
  cases hg : o.guard with
  | none => rfl
  | some gw =>
    obtain ⟨j, want⟩ := gw
    simp only [atN_eq, Array.getElem?_toList, yielded]
    cases hj : ops[j]? with
    | none => simp
    | some oj =>
      simp only [Option.bind_some]
      cases hd : oj.dst with
      | none => simp
      | some d =>
        simp only [Option.bind_some]
        have h := ht.at_ d
        cases hv : a.tmps[d]? with
        | none =>
          have : a.tmps.getD d undef = undef := by simp [Array.getD_eq_getD_getElem?, hv]
          rw [this] at h
          cases hx : tm.at d <;> simp only [] <;> try (simp; done)
          rw [hx] at h
          simp [VRel, undef] at h
        | some V =>
          have : a.tmps.getD d undef = V := by simp [Array.getD_eq_getD_getElem?, hv]
          rw [this] at h
          cases V
          case bool b => rw [rel_bool h]; cases b <;> cases want <;> rfl
          all_goals cases hx : tm.at d <;> first | rfl | (rw [hx] at h; simp [VRel] at h)

theorem Goes.fresh {φ φ' : Asg} {h h' : Tree Blk} {n n' m : Nat} {w w' : World} (g : Goes φ h n w φ' h' n' w') (hf : ∀ i, n ≤ i → i < m → φ.blk i = none) : ∀ i, n' ≤ i → i < m → φ'.blk i = none := by
  intro i h1 h2
  have := g.nn
  cases hc : φ'.blk i with
  | none => rfl
  | some x =>
    rcases g.dom i (by simp [hc]) with h3 | h3
    · exact absurd (hf i (by omega) h2) h3
    · omega

/-- Hooks are as good as the functions. -/
def HooksOk (P : Program) (E : Env) : Prop := ∀ f k, E.hooks.get f = some k → ∀ args s v s', k args s = some (v, s') → CallOk P E f args s v s'

def CallFOk (P : Program) (E : Env) (call : CallF) : Prop := ∀ f args s v s', call f args s = some (v, s') → CallOk P E f args s v s'

section
variable {P : Program} {E : Env} {call : CallF}

theorem valS_ok (hE : EnvOk P E) (hC : CallFOk P E call) {tm : Tm} {o : Oper} {s s' : St} {v : SV} (h : valS E call tm o s = some (v, s')) :
    Eff s s' ∧ ∀ (φ : Asg) (a : Act) (w : World) (K : Act → World → Prop) (Q : Exit → Act → World → Prop), SymOk E φ → TmOk φ tm a.tmps → Fits φ s.heap w → (∀ i, s.next ≤ i → i < s'.next → φ.blk i = none) →
      (∀ φ' w' V, VRel φ' v V → Fits φ' s'.heap w' → Goes φ s.heap s.next w φ' s'.heap s'.next w' → K (a.put o.dst V) w') → o.wp P a w K Q := by
  unfold valS at h
  split at h
  · rename_i v' s1 hop
    simp only [Option.some.injEq, Prod.mk.injEq] at h
    obtain ⟨rfl, rfl⟩ := h
    obtain ⟨k1, k2⟩ := sop_ok hE hop
    refine ⟨k1, fun φ a w K Q hs ht hf hfr hK => ?_⟩
    obtain ⟨R, w', φ', hr, hf', hg', V, rfl, hV⟩ := k2 φ a.eval w o hs ht.sees hf hfr rfl
    simp only [Oper.wp, hr, Oper.upon]
    exact hK φ' w' V hV hf' hg'
  · rename_i s1 hop
    simp only [Option.some.injEq, Prod.mk.injEq] at h
    obtain ⟨rfl, rfl⟩ := h
    obtain ⟨k1, k2⟩ := sop_ok hE hop
    refine ⟨k1, fun φ a w K Q hs ht hf hfr hK => ?_⟩
    obtain ⟨R, w', φ', hr, hf', hg', rfl⟩ := k2 φ a.eval w o hs ht.sees hf hfr rfl
    simp only [Oper.wp, hr, Oper.upon]
    exact hK φ' w' undef (undef_rel φ') hf' hg'
  · rename_i f args s1 hop
    obtain ⟨k1, k2⟩ := sop_ok hE hop
    obtain ⟨c1, c2⟩ := hC _ _ _ _ _ h
    have hn := k1.next
    have hn' := c1.next
    refine ⟨k1.trans c1, fun φ a w K Q hs ht hf hfr hK => ?_⟩
    obtain ⟨R, w', φ', hr, hf', hg', as, rfl, has⟩ := k2 φ a.eval w o hs ht.sees hf (fun i h1 h2 => hfr i h1 (by omega)) rfl
    simp only [Oper.wp, hr, Oper.upon]
    refine (c2 φ' as w' (hs.le hg'.le) has hf' (fun i h1 h2 => hg'.fresh hfr i h1 h2)).mono fun e w'' he => ?_
    obtain ⟨V, φ'', rfl, hV, hf'', hg''⟩ := he
    exact hK φ'' w'' V hV hf'' (hg'.trans hg'')
  · simp at h

theorem runOps_ok (hE : EnvOk P E) (hC : CallFOk P E call) {ops : Array Oper} {tm' : Tm} {s' : St} : ∀ (rest : List Oper) (k : Nat) (tm : Tm) (s : St), rest = ops.toList.drop k → runOps E call ops.toList rest tm s = some (tm', s') →
    Eff s s' ∧ tm'.size = tm.size ∧ ∀ (φ : Asg) (a : Act) (w : World) (Q : Exit → Act → World → Prop), SymOk E φ → TmOk φ tm a.tmps → Fits φ s.heap w → (∀ i, s.next ≤ i → i < s'.next → φ.blk i = none) →
      (∀ φ' a' w', TmOk φ' tm' a'.tmps → Fits φ' s'.heap w' → Goes φ s.heap s.next w φ' s'.heap s'.next w' → a'.defers = a.defers → Q .normal a' w') → wpOps P ops Q (List.range' k rest.length) a w
  | [], k, tm, s, hk, h => by
    simp only [runOps, Option.some.injEq, Prod.mk.injEq] at h
    obtain ⟨rfl, rfl⟩ := h
    exact ⟨.refl _, rfl, fun φ a w Q hs ht hf _ hQ => by simpa [wpOps] using hQ φ a w ht hf (.refl _ _ _ _) rfl⟩
  | o :: rest, k, tm, s, hk, h => by
    have hkl : k < ops.toList.length := by
      rcases Nat.lt_or_ge k ops.toList.length with h1 | h1
      · exact h1
      · rw [List.drop_eq_nil_of_le h1] at hk; cases hk
    rw [List.drop_eq_getElem_cons hkl] at hk
    injection hk with ho hrest
    have hok : ops[k]? = some o := by
      rw [← Array.getElem?_toList, List.getElem?_eq_getElem hkl, ← ho]
    simp only [runOps] at h
    split at h
    · rename_i hw
      split at h
      · rename_i v s1 hv
        obtain ⟨tm1, hk1, hsz, hput⟩ := putT_out h
        obtain ⟨e1, v1⟩ := valS_ok hE hC hv
        obtain ⟨e2, hsz2, v2⟩ := runOps_ok hE hC rest (k + 1) tm1 s1 hrest hk1
        have hn1 := e1.next
        have hn2 := e2.next
        refine ⟨e1.trans e2, hsz2.trans hsz, fun φ a w Q hs ht hf hfr hQ => ?_⟩
        simp only [List.length_cons, List.range'_succ, wpOps, hok]
        rw [← wanted_eq ht o, hw]
        refine .inl (v1 φ a w _ Q hs ht hf (fun i h1 h2 => hfr i h1 (by omega)) fun φ' w' V hV hf' hg' => ?_)
        refine v2 φ' (a.put o.dst V) w' Q (hs.le hg'.le) (hput φ' a V (ht.mono hg'.le) hV) hf' (fun i h1 h2 => hg'.fresh hfr i h1 h2) fun φ'' a' w'' ht'' hf'' hg'' hd => ?_
        refine hQ φ'' a' w'' ht'' hf'' (hg'.trans hg'') (hd.trans ?_)
        cases o.dst <;> rfl
      · simp at h
    · rename_i hw
      obtain ⟨tm1, hk1, hsz, hput⟩ := putT_out h
      obtain ⟨e2, hsz2, v2⟩ := runOps_ok hE hC rest (k + 1) tm1 s hrest hk1
      refine ⟨e2, hsz2.trans hsz, fun φ a w Q hs ht hf hfr hQ => ?_⟩
      simp only [List.length_cons, List.range'_succ, wpOps, hok]
      rw [← wanted_eq ht o, hw]
      refine v2 φ (a.put o.dst undef) w Q hs (hput φ a undef ht (undef_rel φ)) hf hfr fun φ'' a' w'' ht'' hf'' hg'' hd => ?_
      refine hQ φ'' a' w'' ht'' hf'' hg'' (hd.trans ?_)
      cases o.dst <;> rfl
end

end Go.Proofs.Ytnkicnhjllmmjaa.Sx
