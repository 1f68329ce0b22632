/- The evaluator's code is the model's: all code, calls. -/
import Derived.Test.YtnkicnhjllmmjaaSx17
import Derived.Below
namespace Go.Proofs.Ytnkicnhjllmmjaa.Sx
open Go
set_option linter.unusedVariables false
set_option linter.unusedSimpArgs false

def toExit : SExit → Exit
  | .normal => .normal
  | .exit id => .exit id
  | .ret => .ret

/-- What a run of code has to be. -/
def Post (φ : Asg) (s s' : St) (w : World) (ex : SExit) (tm' : Tm) (ds : List Deferred) (e : Exit) (a' : Act) (w' : World) : Prop :=
  e = toExit ex ∧ ∃ φ', TmOk φ' tm' a'.tmps ∧ Fits φ' s'.heap w' ∧ Goes φ s.heap s.next w φ' s'.heap s'.next w' ∧ a'.defers = ds

def CodeOk (P : Program) (E : Env) (c : Code) (tm : Tm) (s : St) (ex : SExit) (tm' : Tm) (s' : St) : Prop :=
  Eff s s' ∧ ∀ (φ : Asg) (a : Act) (w : World), SymOk E φ → TmOk φ tm a.tmps → Fits φ s.heap w → (∀ i, s.next ≤ i → i < s'.next → φ.blk i = none) → c.wp P (Post φ s s' w ex tm' a.defers) a w

/-- Regions whose order is open. -/
def DrawsOk (P : Program) (E : Env) : Prop :=
  ∀ (call : CallF), CallFOk P E call → ∀ (id : Nat) (ops : Array Oper) (tm : Tm) (s : St) (tm' : Tm) (s' : St), drawOk ops.toList = true → drawOps E call ops.toList (predsOf ops.toList) ops.toList 0 [] tm s = some (tm', s') →
    CodeOk P E (.region id ops true) tm s .normal tm' s'

theorem initTm_out {β : Type} : ∀ (args : List SV) (i : Nat) (t : Tree SV) (K : Tree SV → Option β) (r : β), initTm args i t K = some r → ∃ t', K t' = some r ∧ ∀ m, t'.get m = if i ≤ m ∧ m < i + args.length then args[m - i]? else t.get m
  | [], i, t, K, r, h => ⟨t, h, fun m => by rw [if_neg (by simp)]⟩
  | v :: vs, i, t, K, r, h => by
    simp only [initTm] at h
    obtain ⟨t1, hk, hg⟩ := Tree.put_some _ _ _ _ _ _ h
    obtain ⟨t2, hk2, hg2⟩ := initTm_out vs (i + 1) t1 K r hk
    refine ⟨t2, hk2, fun m => ?_⟩
    rw [hg2, hg]
    simp only [List.length_cons]
    by_cases h1 : m = i
    · subst h1
      rw [if_neg (by omega), if_pos rfl, if_pos (by omega)]
      simp
    · by_cases h2 : i + 1 ≤ m ∧ m < i + 1 + vs.length
      · rw [if_pos h2, if_pos (by omega)]
        obtain ⟨d, hd⟩ : ∃ d, m - i = d + 1 := ⟨m - i - 1, by omega⟩
        rw [hd, show m - (i + 1) = d by omega]
        simp
      · rw [if_neg h2, if_neg h1, if_neg (by omega)]

section
variable {P : Program} {E : Env}

theorem get_vals {φ : Asg} {vs : List SV} {as : List Value} (h : VRels φ vs as) (n d : Nat) :
    VRel φ ((vs[d]?).getD .undef) ((as ++ List.replicate n undef)[d]?.getD undef) := by
  have hl := h.length
  by_cases hd : d < vs.length
  · obtain ⟨V, hV, hr⟩ := h.get d vs[d] (List.getElem?_eq_getElem hd)
    rw [List.getElem?_append_left (by omega), hV, List.getElem?_eq_getElem hd]
    exact hr
  · rw [List.getElem?_eq_none (by omega), List.getElem?_append_right (by omega), List.getElem?_replicate]
    split <;> exact undef_rel φ

theorem resS_run (hE : EnvOk P E) {tm : Tm} {s : St} {φ : Asg} {tmps : Array Value} {w : World} (ht : TmOk φ tm tmps) (hf : Fits φ s.heap w) : ∀ (l : List ResultVar) (r : List SV), resS E tm s l = some r →
    ∃ vs, (l.mapM fun (x : ResultVar) => match x with
      | .tmp t => (pure (tmps.getD t undef) : Sem Value)
      | .cell a t => do loadVar t (← asAddr (tmps.getD a undef))).run P w = .ok vs w ∧ VRels φ r vs
  | [], r, h => by
    simp only [resS, Option.some.injEq] at h
    subst h
    exact ⟨[], by simp, by simp [VRels]⟩
  | .tmp t :: l, r, h => by
    simp only [resS] at h
    split at h
    · rename_i l' hl
      simp only [Option.some.injEq] at h
      subst h
      obtain ⟨vs, h1, h2⟩ := resS_run hE ht hf l l' hl
      refine ⟨tmps.getD t undef :: vs, ?_, by simp only [VRels]; exact ⟨ht.at_ t, h2⟩⟩
      simp only [List.mapM_cons, Sem.run_bind, Sem.run_pure, Result.andThen_ok, h1]
    · simp at h
  | .cell a t :: l, r, h => by
    simp only [resS] at h
    split at h
    · rename_i i o hp
      split at h
      · rename_i v l' hv hl
        simp only [Option.some.injEq] at h
        subst h
        obtain ⟨vs, h1, h2⟩ := resS_run hE ht hf l l' hl
        obtain ⟨b, β, z, V, hb, hr, hV⟩ := load_run hE hv hf
        have ha := ht.at_ a
        rw [hp] at ha
        simp only [VRel] at ha
        obtain ⟨b', β', z', hb', ha⟩ := ha
        rw [hb] at hb'
        cases hb'
        refine ⟨V :: vs, ?_, by simp only [VRels]; exact ⟨hV, h2⟩⟩
        have hasA : (asAddr (tmps.getD a undef)).run P w = .ok ⟨b, β + o, none⟩ w := by rw [ha]; rfl
        simp only [List.mapM_cons, Sem.run_bind, hasA, Result.andThen_ok, hr, h1, Sem.run_pure]
      · simp at h
    · simp at h

theorem resultS_run (hE : EnvOk P E) {fn : Func} {tm : Tm} {s : St} {φ : Asg} {tmps : Array Value} {w : World} {v : SV} (h : resultS E fn tm s = some v) (ht : TmOk φ tm tmps) (hf : Fits φ s.heap w) :
    ∃ V, (results fn tmps).run P w = .ok V w ∧ VRel φ v V := by
  unfold resultS at h
  have key : ∀ r, resS E tm s fn.results.toList = some r → ∃ vs : List Value, VRels φ r vs ∧ (results fn tmps).run P w = .ok (if h : vs.toArray.size = 1 then vs.toArray[0] else .tuple vs.toArray) w := by
    intro r hr
    obtain ⟨vs, h1, h2⟩ := resS_run hE ht hf _ _ hr
    refine ⟨vs, h2, ?_⟩
    unfold results
    obtain ⟨L⟩ : ∃ L : Array ResultVar, L = fn.results := ⟨_, rfl⟩
    rename_i hL
    rw [← hL] at h1
    rw [← hL]
    obtain ⟨L⟩ := L
    rw [List.mapM_toArray]
    change Sem.run P (List.mapM _ L) w = Result.ok vs w at h1
    simp only [map_eq_pure_bind, Sem.run_bind, Sem.run_pure]
    erw [h1]
    rfl
  split at h
  · rename_i x hx
    simp only [Option.some.injEq] at h
    subst h
    obtain ⟨vs, h1, h2⟩ := key _ hx
    match vs, h1, h2 with
    | [V], h1, h2 => exact ⟨V, by simpa using h2, by simpa [VRels] using h1⟩
    | [], h1, _ => simp [VRels] at h1
    | _ :: _ :: _, h1, _ => simp [VRels] at h1
  · rename_i l hl hx
    simp only [Option.some.injEq] at h
    subst h
    obtain ⟨vs, h1, h2⟩ := key _ hx
    have hlen := h1.length
    have hne : ¬ vs.toArray.size = 1 := by
      intro h3
      simp only [List.size_toArray] at h3
      rw [hlen] at h3
      obtain ⟨y, hy⟩ := List.length_eq_one_iff.1 h3
      exact hl y hy
    rw [dif_neg hne] at h2
    exact ⟨_, h2, by simp only [VRel]; exact ⟨_, rfl, by simpa using h1⟩⟩
  · simp at h

theorem enterF_ok (hE : EnvOk P E) (hH : HooksOk P E) {ex : Code → Tm → St → Option (SExit × Tm × St)} (hX : ∀ c tm s r tm' s', ex c tm s = some (r, tm', s') → CodeOk P E c tm s r tm' s') : CallFOk P E (enterF E ex) := by
  intro f args s v s' h
  unfold enterF at h
  split at h
  · rename_i k hk
    exact hH f k hk args s v s' h
  · split at h
    · simp at h
    rename_i fn hfn
    obtain ⟨hf, _⟩ := hE.fn _ _ hfn
    split at h
    · simp at h
    rename_i c hc
    split at h
    · simp at h
    rename_i hle
    simp only [ble_eq, decide_eq_true_eq] at hle
    obtain ⟨t, hk, ht⟩ := initTm_out _ _ _ _ _ h
    have init : ∀ (φ : Asg) (as : Array Value), VRels φ args as.toList → TmOk φ ⟨t, fn.ntmps⟩ (as ++ Array.replicate (fn.ntmps - as.size) undef) := by
      intro φ as ha
      have hl := ha.length
      rw [Array.length_toList] at hl
      refine ⟨by simp; omega, fun d => ?_⟩
      have e1 : (Tm.mk t fn.ntmps).at d = (args[d]?).getD .undef := by
        simp only [Tm.at, ht d, Tree.get_leaf]
        by_cases hd : d < args.length
        · rw [if_pos (by omega)]; simp [hd]
        · rw [if_neg (by omega)]; simp [List.getElem?_eq_none (Nat.le_of_not_lt hd)]
      rw [e1, Array.getD_eq_getD_getElem?, ← Array.getElem?_toList, Array.toList_append, Array.toList_replicate]
      exact get_vals ha _ d
    have fin : ∀ {r : SExit} {tm' : Tm} {s1 : St}, ex c ⟨t, fn.ntmps⟩ s = some (r, tm', s1) → (r = .normal ∨ r = .ret) → resultS E fn tm' s1 = some v → s1 = s' → CallOk P E f args s v s' := by
      intro r tm' s1 hx hr hres hs1
      subst hs1
      obtain ⟨e1, x1⟩ := hX _ _ _ _ _ _ hx
      refine ⟨e1, fun φ as w hs ha hfit hfr => ?_⟩
      refine calls_of_wp hf hc (wp_mono (x1 φ _ w hs (init φ as ha) hfit hfr) fun e a' w' hp => ?_)
      obtain ⟨rfl, φ', h1, h2, h3, h4⟩ := hp
      obtain ⟨V, hV, hv⟩ := resultS_run hE hres h1 h2
      rcases hr with rfl | rfl <;> exact ⟨h4, V, hV, V, φ', rfl, hv, h2, h3⟩
    split at hk
    · rename_i tm' s1 hx
      split at hk
      · rename_i v' hv
        simp only [Option.some.injEq, Prod.mk.injEq] at hk
        obtain ⟨rfl, rfl⟩ := hk
        exact fin hx (.inl rfl) hv rfl
      · simp at hk
    · rename_i tm' s1 hx
      split at hk
      · rename_i v' hv
        simp only [Option.some.injEq, Prod.mk.injEq] at hk
        obtain ⟨rfl, rfl⟩ := hk
        exact fin hx (.inr rfl) hv rfl
      · simp at hk
    · simp at hk

theorem CodeOk.mk' {c : Code} {tm tm' : Tm} {s s' : St} {ex : SExit} (h1 : Eff s s') (h2 : ∀ (φ : Asg) (a : Act) (w : World), SymOk E φ → TmOk φ tm a.tmps → Fits φ s.heap w → (∀ i, s.next ≤ i → i < s'.next → φ.blk i = none) → c.wp P (Post φ s s' w ex tm' a.defers) a w) : CodeOk P E c tm s ex tm' s' := ⟨h1, h2⟩

theorem rounds_mono {b : Code} {Q Q' : Exit → Act → World → Prop} : ∀ (k : Nat), (∀ e a w, Q e a w → Q' e a w) → ∀ a w, Code.rounds P b Q k a w → Code.rounds P b Q' k a w
  | 0, _, _, _, h => h
  | k + 1, hq, a, w, h => by
    rw [rounds_succ] at h ⊢
    refine wp_mono h fun e a w he => ?_
    cases e <;> first | exact rounds_mono k hq a w he | exact hq _ _ _ he

/-- One run behind another. -/
theorem CodeOk.chain {c d : Code} {tm tm1 tm2 : Tm} {s s1 s2 : St} {x y : SExit} (h1 : CodeOk P E c tm s x tm1 s1) (h2 : CodeOk P E d tm1 s1 y tm2 s2) {φ : Asg} {a : Act} {w : World}
    (hs : SymOk E φ) (ht : TmOk φ tm a.tmps) (hf : Fits φ s.heap w) (hfr : ∀ i, s.next ≤ i → i < s2.next → φ.blk i = none) :
    c.wp P (fun e a' w' => e = toExit x ∧ d.wp P (Post φ s s2 w y tm2 a.defers) a' w') a w := by
  have n1 := h1.1.next
  have n2 := h2.1.next
  refine wp_mono (h1.2 φ a w hs ht hf fun i p q => hfr i p (by omega)) fun e a' w' hp => ?_
  obtain ⟨rfl, φ', k1, k2, k3, k4⟩ := hp
  refine ⟨rfl, wp_mono (h2.2 φ' a' w' (hs.le k3.le) k1 k2 fun i p q => k3.fresh hfr i p q) fun e a'' w'' hp => ?_⟩
  obtain ⟨rfl, φ'', m1, m2, m3, m4⟩ := hp
  exact ⟨rfl, φ'', m1, m2, k3.trans m3, m4.trans k4⟩

theorem loop_ok {N : Nat} (hX : ∀ m, m < N → ∀ (c : Code) (tm : Tm) (s : St) (r : SExit) (tm' : Tm) (s' : St), exec E m c tm s = some (r, tm', s') → CodeOk P E c tm s r tm' s') :
    ∀ (n : Nat), n ≤ N → ∀ (b : Code) (tm : Tm) (s : St) (r : SExit) (tm' : Tm) (s' : St), exec E n (.loop b) tm s = some (r, tm', s') →
      Eff s s' ∧ ∃ k, ∀ (φ : Asg) (a : Act) (w : World), SymOk E φ → TmOk φ tm a.tmps → Fits φ s.heap w → (∀ i, s.next ≤ i → i < s'.next → φ.blk i = none) → Code.rounds P b (Post φ s s' w r tm' a.defers) k a w
  | 0, _, b, tm, s, r, tm', s', h => by simp [exec] at h
  | n + 1, hn, b, tm, s, r, tm', s', h => by
    unfold exec at h
    simp only at h
    split at h
    · rename_i tm1 s1 h1
      have c1 := hX n (by omega) _ _ _ _ _ _ h1
      obtain ⟨e2, k, c2⟩ := loop_ok hX n (by omega) b tm1 s1 r tm' s' h
      have n1 := c1.1.next
      have n2 := e2.next
      refine ⟨c1.1.trans e2, k + 1, fun φ a w hs ht hf hfr => ?_⟩
      rw [rounds_succ]
      refine wp_mono (c1.2 φ a w hs ht hf fun i p q => hfr i p (by omega)) fun e a' w' hp => ?_
      obtain ⟨rfl, φ', k1, k2, k3, k4⟩ := hp
      have := c2 φ' a' w' (hs.le k3.le) k1 k2 fun i p q => k3.fresh hfr i p q
      refine rounds_mono k ?_ a' w' this
      intro e a'' w'' hp
      obtain ⟨rfl, φ'', m1, m2, m3, m4⟩ := hp
      exact ⟨rfl, φ'', m1, m2, k3.trans m3, m4.trans k4⟩
    · rename_i h1
      have c1 := hX n (by omega) _ _ _ _ _ _ h
      refine ⟨c1.1, 1, fun φ a w hs ht hf hfr => ?_⟩
      rw [rounds_succ]
      refine wp_mono (c1.2 φ a w hs ht hf hfr) fun e a' w' hp => ?_
      obtain ⟨rfl, hp⟩ := hp
      cases r with
      | normal => exact absurd h (h1 _ _)
      | exit id => exact ⟨rfl, hp⟩
      | ret => exact ⟨rfl, hp⟩

theorem exec_ok (hE : EnvOk P E) (hH : HooksOk P E) (hD : DrawsOk P E) (n : Nat) : ∀ (c : Code) (tm : Tm) (s : St) (r : SExit) (tm' : Tm) (s' : St), exec E n c tm s = some (r, tm', s') → CodeOk P E c tm s r tm' s' := by
  induction n using Nat.strongRecOn with
  | _ n ihs =>
  intro c tm s r tm' s' h
  cases n with
  | zero => simp [exec] at h
  | succ n =>
    have ih := ihs n (by omega)
    have h0 := h
    have hC : CallFOk P E (enterF E (exec E n)) := enterF_ok hE hH ih
    unfold exec at h
    split at h
    · simp only [Option.some.injEq, Prod.mk.injEq] at h
      obtain ⟨rfl, rfl, rfl⟩ := h
      exact ⟨.refl _, fun φ a w hs ht hf _ => wp_skip ⟨rfl, φ, ht, hf, .refl _ _ _ _, rfl⟩⟩
    · rename_i id ops draw
      split at h
      · split at h
        · rename_i tm1 s1 hr
          simp only [Option.some.injEq, Prod.mk.injEq] at h
          obtain ⟨rfl, rfl, rfl⟩ := h
          obtain ⟨e1, _, v1⟩ := runOps_ok hE hC ops.toList 0 tm s rfl hr
          refine ⟨e1, fun φ a w hs ht hf hfr => wp_region ?_⟩
          have := v1 φ a w (Post φ s s1 w .normal tm1 a.defers) hs ht hf hfr fun φ' a' w' h1 h2 h3 h4 => ⟨rfl, φ', h1, h2, h3, h4⟩
          rwa [List.range_eq_range', ← Array.length_toList]
        · simp at h
      · split at h
        · rename_i hd
          split at h
          · rename_i tm1 s1 hr
            simp only [Option.some.injEq, Prod.mk.injEq] at h
            obtain ⟨rfl, rfl, rfl⟩ := h
            exact hD _ hC id ops tm s tm1 s1 hd hr
          · simp at h
        · simp at h
    · rename_i x y
      split at h
      · rename_i tm1 s1 h1
        have c1 := ih _ _ _ _ _ _ h1
        have c2 := ih _ _ _ _ _ _ h
        refine ⟨c1.1.trans c2.1, fun φ a w hs ht hf hfr => wp_seq (wp_mono (c1.chain c2 hs ht hf hfr) fun e a' w' hp => ?_)⟩
        obtain ⟨rfl, hp⟩ := hp
        exact hp
      · rename_i h1
        have c1 := ih _ _ _ _ _ _ h
        refine ⟨c1.1, fun φ a w hs ht hf hfr => wp_seq (wp_mono (c1.2 φ a w hs ht hf hfr) fun e a' w' hp => ?_)⟩
        obtain ⟨rfl, hp⟩ := hp
        cases r with
        | normal => exact absurd h (h1 _ _)
        | exit id => exact ⟨rfl, hp⟩
        | ret => exact ⟨rfl, hp⟩
    · rename_i cd x y
      split at h
      · rename_i hv
        have c1 := ih _ _ _ _ _ _ h
        refine ⟨c1.1, fun φ a w hs ht hf hfr => wp_cond_true ?_ (c1.2 φ a w hs ht hf hfr)⟩
        have := ht.sees _ _ hv
        simpa [VRel] using this
      · rename_i hv
        have c1 := ih _ _ _ _ _ _ h
        refine ⟨c1.1, fun φ a w hs ht hf hfr => wp_cond_false ?_ (c1.2 φ a w hs ht hf hfr)⟩
        have := ht.sees _ _ hv
        simpa [VRel] using this
      · simp at h
    · rename_i id b
      split at h
      · rename_i id' tm1 s1 h1
        have c1 := ih _ _ _ _ _ _ h1
        split at h
        · rename_i hid
          simp only [beq_eq, decide_eq_true_eq] at hid
          simp only [Option.some.injEq, Prod.mk.injEq] at h
          obtain ⟨rfl, rfl, rfl⟩ := h
          refine ⟨c1.1, fun φ a w hs ht hf hfr => wp_block (wp_mono (c1.2 φ a w hs ht hf hfr) fun e a' w' hp => ?_)⟩
          obtain ⟨rfl, hp⟩ := hp
          simp only [toExit, Exit.inBlock, hid, if_true]
          exact ⟨rfl, hp⟩
        · rename_i hid
          simp only [beq_eq, decide_eq_false_iff_not] at hid
          simp only [Option.some.injEq, Prod.mk.injEq] at h
          obtain ⟨rfl, rfl, rfl⟩ := h
          refine ⟨c1.1, fun φ a w hs ht hf hfr => wp_block (wp_mono (c1.2 φ a w hs ht hf hfr) fun e a' w' hp => ?_)⟩
          obtain ⟨rfl, hp⟩ := hp
          simp only [toExit, Exit.inBlock, hid, if_false]
          exact ⟨rfl, hp⟩
      · rename_i h1
        have c1 := ih _ _ _ _ _ _ h
        refine ⟨c1.1, fun φ a w hs ht hf hfr => wp_block (wp_mono (c1.2 φ a w hs ht hf hfr) fun e a' w' hp => ?_)⟩
        obtain ⟨rfl, hp⟩ := hp
        cases r with
        | normal => exact ⟨rfl, hp⟩
        | exit id' => exact absurd h (h1 _ _ _)
        | ret => exact ⟨rfl, hp⟩
    · rename_i b
      obtain ⟨e1, k, c1⟩ := loop_ok (N := n + 1) ihs (n + 1) (Nat.le_refl _) b tm s r tm' s' h0
      exact ⟨e1, fun φ a w hs ht hf hfr => wp_loop_rounds k (c1 φ a w hs ht hf hfr)⟩
    · simp only [Option.some.injEq, Prod.mk.injEq] at h
      obtain ⟨rfl, rfl, rfl⟩ := h
      exact ⟨.refl _, fun φ a w hs ht hf _ => wp_exit ⟨rfl, φ, ht, hf, .refl _ _ _ _, rfl⟩⟩
    · simp only [Option.some.injEq, Prod.mk.injEq] at h
      obtain ⟨rfl, rfl, rfl⟩ := h
      exact ⟨.refl _, fun φ a w hs ht hf _ => wp_ret ⟨rfl, φ, ht, hf, .refl _ _ _ _, rfl⟩⟩
    · simp at h
end

end Go.Proofs.Ytnkicnhjllmmjaa.Sx
