/- Regions whose order is open: the theorem. And the evaluator as a whole. -/
import Derived.Test.YtnkicnhjllmmjaaSx21
namespace Go.Proofs.Ytnkicnhjllmmjaa.Sx
open Go
set_option linter.unusedVariables false
set_option linter.unusedSimpArgs false

theorem StepOk.eff {E : Env} {call : CallF} {all : List Oper} {pre : List Nat} {rc : Nat → Rc} {R : Rc} {i : Nat} {o : Oper} {tm tm1 : Tm} {s s1 : St} (h : StepOk E call all pre rc R i o tm tm1 s s1) : Eff s s1 where
  next := h.le
  wr := ⟨R.ow, h.wrs, fun b hb hn => by rw [h.heap, if_neg]; rintro (h1 | h1); exact hn h1; omega⟩
  dom b hb := by
    rw [h.heap] at hb
    by_cases hc : b ∈ R.ow ∨ (s.next ≤ b ∧ b < s1.next)
    · rcases hc with h1 | h1
      · left
        have := (h.ow b h1).1
        cases hx : R.hin.get b with
        | none => exact absurd hx this
        | some B => rw [h.inn b B hx]; simp
      · exact .inr h1
    · rw [if_neg hc] at hb; exact .inl hb

theorem Goes.congr {φ φ' : Asg} {h h' h'' : Tree Blk} {n n' : Nat} {w w' : World} (g : Goes φ h n w φ' h' n' w') (he : ∀ b, h''.get b = h'.get b) : Goes φ h n w φ' h'' n' w' :=
  ⟨g.le, g.nn, g.dom, g.keep, fun i b z hi hz hb => g.old i b z (by rw [← he]; exact hi) hz hb, g.size, g.os, g.tape, g.output⟩

def Tree.All {α : Type} (p : Nat → α → Prop) : Tree α → Prop
  | .leaf => True
  | .node l v r => l.All (fun m x => p (2 * m + 1) x) ∧ (match v with | none => True | some x => p 0 x) ∧ r.All fun m x => p (2 * m + 2) x

theorem Tree.All.get {α : Type} : ∀ {t : Tree α} {p : Nat → α → Prop}, t.All p → ∀ n v, t.get n = some v → p n v
  | .leaf, p, _, n, v, h => by simp [Tree.get_leaf] at h
  | .node l x r, p, ha, n, v, h => by
    obtain ⟨h1, h2, h3⟩ := ha
    cases n with
    | zero => rw [Tree.get_node0] at h; subst h; exact h2
    | succ m =>
      rw [Tree.get_node1] at h
      by_cases hm : m % 2 = 0
      · rw [if_pos hm] at h
        have := Tree.All.get h1 _ _ h
        rwa [show 2 * (m / 2) + 1 = m + 1 by omega] at this
      · rw [if_neg hm] at h
        have := Tree.All.get h3 _ _ h
        rwa [show 2 * (m / 2) + 2 = m + 1 by omega] at this

section
variable {P : Program} {E : Env}

open Classical in
theorem draws_ok (hE : EnvOk P E) : DrawsOk P E := by
  intro call hC id ops tm s tm' s' hd h
  obtain ⟨rc, tms, ss, -, ht0, hs0, htn, hsn, hst⟩ := draw_trace hE hC ops.toList 0 [] tm s (fun _ => ⟨false, tm, .leaf, .undef, .leaf, 0, 0, []⟩) h ⟨fun j hj => absurd hj (by omega), by simp⟩
  simp only [Nat.zero_add, Array.length_toList, Array.getElem?_toList] at htn hsn hst
  generalize hn : ops.size = n at htn hsn
  generalize hpre : predsOf ops.toList = pre at hst
  simp only [drawOk, Bool.and_eq_true] at hd
  obtain ⟨hedge, hapart⟩ := hd
  rw [hpre] at hapart
  have opAt : ∀ i, i < n → ∃ o, ops[i]? = some o := fun i hi => ⟨ops[i], Array.getElem?_eq_getElem (by omega)⟩
  have ltOf : ∀ {i o}, ops[i]? = some o → i < n := fun {i o} ho => by
    have := (Array.getElem?_eq_some_iff.1 ho).1
    omega
  -- the chain of the text's order
  have mono : ∀ k i, i + k ≤ n → (ss i).next ≤ (ss (i + k)).next := by
    intro k
    induction k with
    | zero => intro i _; exact Nat.le_refl _
    | succ k ih =>
      intro i hi
      obtain ⟨o, ho⟩ := opAt (i + k) (by omega)
      have := (hst _ _ ho).le
      have := ih i (by omega)
      rw [← Nat.add_assoc]
      omega
  have mono' : ∀ i j, i ≤ j → j ≤ n → (ss i).next ≤ (ss j).next := fun i j h1 h2 => by
    have := mono (j - i) i (by omega)
    rwa [show i + (j - i) = j by omega] at this
  have effs : ∀ k, k ≤ n → Eff s (ss k) := by
    intro k
    induction k with
    | zero => intro _; rw [hs0]; exact .refl s
    | succ k ih =>
      intro hk
      obtain ⟨o, ho⟩ := opAt k (by omega)
      exact (ih (by omega)).trans (hst _ _ ho).eff
  have sizes : ∀ k, k ≤ n → (tms k).size = tm.size := by
    intro k
    induction k with
    | zero => intro _; rw [ht0]
    | succ k ih =>
      intro hk
      obtain ⟨o, ho⟩ := opAt k (by omega)
      rw [(hst _ _ ho).size]
      exact ih (by omega)
  have heff : Eff s s' := by have := effs n (Nat.le_refl _); rwa [hsn] at this
  refine ⟨heff, fun φ0 a0 w0 hsym ht hf hfr => ?_⟩
  have n0 : ∀ i, i ≤ n → s.next ≤ (ss i).next := fun i hi => by have := mono' 0 i (by omega) hi; rwa [hs0] at this
  have n1 : ∀ i, i ≤ n → (ss i).next ≤ s'.next := fun i hi => by have := mono' i n hi (Nat.le_refl _); rwa [hsn] at this
  -- slots and blocks as what is overwritten
  let W1 : Nat → Nat → Prop := fun j d => ∃ o, ops[j]? = some o ∧ o.dst = some d
  let o1 : Nat → Nat → SV := fun j _ => (rc j).v
  let x1 : Nat → SV := fun d => tm.at d
  let W2 : Nat → Nat → Prop := fun j b => b ∈ (rc j).ow ∨ ((ss j).next ≤ b ∧ b < (ss (j + 1)).next)
  let o2 : Nat → Nat → Option Blk := fun j b => (rc j).hout.get b
  let x2 : Nat → Option Blk := fun b => s.heap.get b
  have T1 : ∀ k, k ≤ n → ∀ d, (tms k).at d = ov (fun _ => True) W1 o1 x1 k d := by
    intro k
    induction k with
    | zero => intro _ d; rw [ht0]; rfl
    | succ k ih =>
      intro hk d
      obtain ⟨o, ho⟩ := opAt k (by omega)
      rw [(hst _ _ ho).slot, ih (by omega)]
      simp only [ov]
      by_cases hdd : o.dst = some d
      · rw [if_pos hdd, if_pos ⟨trivial, o, ho, hdd⟩]
      · rw [if_neg hdd, if_neg]
        rintro ⟨_, q, hq, hqd⟩
        rw [ho] at hq
        cases hq
        exact hdd hqd
  have T2 : ∀ k, k ≤ n → ∀ b, (ss k).heap.get b = ov (fun _ => True) W2 o2 x2 k b := by
    intro k
    induction k with
    | zero => intro _ d; rw [hs0]; rfl
    | succ k ih =>
      intro hk b
      obtain ⟨o, ho⟩ := opAt k (by omega)
      rw [(hst _ _ ho).heap, ih (by omega)]
      simp only [ov]
      by_cases hdd : b ∈ (rc k).ow ∨ ((ss k).next ≤ b ∧ b < (ss (k + 1)).next)
      · rw [if_pos hdd, if_pos ⟨trivial, hdd⟩]
      · rw [if_neg hdd, if_neg (fun x => hdd x.2)]
  have hids : ∀ b, s.heap.get b ≠ none → ¬ (s.next ≤ b ∧ b < s'.next) := by
    intro b hb hr
    cases hc : s.heap.get b with
    | none => exact hb hc
    | some B =>
      obtain ⟨k, β, z, hk, _⟩ := hf.blk b B hc
      rw [hfr b hr.1 hr.2] at hk
      cases hk
  -- what an operation looked at is older than what a later one made
  have old : ∀ {i o}, ops[i]? = some o → ∀ b, (rc i).hin.get b ≠ none → ∀ j, i ≤ j → j < n → ¬ ((ss j).next ≤ b ∧ b < (ss (j + 1)).next) := by
    intro i o ho b hb j hij hj hr
    have hi := ltOf ho
    have hb' : (ss i).heap.get b ≠ none := by
      cases hc : (rc i).hin.get b with
      | none => exact absurd hc hb
      | some B => rw [(hst _ _ ho).inn b B hc]; simp
    have a1 := n0 j (by omega)
    have a2 := n1 (j + 1) (by omega)
    rcases (effs i (by omega)).dom b hb' with h1 | h1
    · exact hids b h1 (by omega)
    · have := mono' i j hij (by omega)
      omega
  have binds_lt : ∀ {i o}, ops[i]? = some o → ∀ e ∈ o.after.toList, Region.binds .any e = true → e.on < i := by
    intro i o ho e he hb
    have := edges_back ops.toList 0 hedge i o (by simpa using ho) e he hb
    omega
  have apartOf : ∀ {i j oi oj}, ops[i]? = some oi → ops[j]? = some oj → i < j → (pre.getD j 0).testBit i = true ∨ Oper.apart ops oi oj = true := by
    intro i j oi oj hi hj hij
    have := apartOk_is ops.toList 0 hapart j oj (by simpa using hj) i oi (by simpa using hi)
    simp only [Nat.zero_add, Array.toArray_toList] at this
    rcases this with h | h | h
    · omega
    · exact .inl h
    · exact .inr h
  -- the order
  have closedPre : ∀ (D : Nat → Prop), (∀ i o, ops[i]? = some o → D i → ∀ e ∈ o.after.toList, Region.binds .any e = true → D e.on) →
      ∀ i, i < n → D i → ∀ j, (pre.getD i 0).testBit j = true → D j := by
    intro D hcl i
    induction i using Nat.strongRecOn with
    | _ i ih =>
      intro hi hDi j hj
      obtain ⟨o, ho⟩ := opAt i hi
      rw [← hpre] at hj
      obtain ⟨e, he, hb, hx⟩ := preds_spec (by simpa using ho) hj
      have hlt := binds_lt ho e he hb
      have hDe := hcl i o ho hDi e he hb
      rcases hx with rfl | hx
      · exact hDe
      · rw [hpre] at hx
        exact ih e.on hlt (by omega) hDe j hx
  have main : ∀ (fuel : Nat) (listed : Array Bool) (a : Act) (w : World) (φ : Asg) (hp : Tree Blk), listed.size = n → cnt (fun j => listed.getD j false) n + fuel = n →
      (∀ i o, ops[i]? = some o → listed.getD i false = true → ∀ e ∈ o.after.toList, Region.binds .any e = true → listed.getD e.on false = true) →
      a.tmps.size = tm.size → (∀ d, VRel φ (ov (fun j => listed.getD j false = true) W1 o1 x1 n d) (a.tmps.getD d undef)) →
      (∀ b, hp.get b = ov (fun j => listed.getD j false = true) W2 o2 x2 n b) → Fits φ hp w → Goes φ0 s.heap s.next w0 φ hp s'.next w →
      (∀ b, φ.blk b ≠ none → φ0.blk b ≠ none ∨ ∃ j, j < n ∧ listed.getD j false = true ∧ (ss j).next ≤ b ∧ b < (ss (j + 1)).next) → a.defers = a0.defers →
      wpAny P .any ops (Post φ0 s s' w0 .normal tm' a0.defers) fuel listed a w := by
    intro fuel
    induction fuel with
    | zero =>
      intro listed a w φ hp hls hcnt hcl hsz htm hhp hfit hgo hfresh hdef
      have hall := cnt_all (D := fun j => listed.getD j false) (n := n) (by omega)
      have hready : Region.ready .any ops listed = [] := by
        unfold Region.ready
        rw [List.filter_eq_nil_iff]
        intro i hi
        have hi' : i < n := by rw [← hn]; simpa using hi
        have hgi := hall i hi'
        have : listed.getD i true = true := by
          simp only [Array.getD_eq_getD_getElem?] at hgi ⊢
          rw [Array.getElem?_eq_getElem (by omega)] at hgi ⊢
          exact hgi
        simp [this]
      refine ⟨hready, rfl, φ, ⟨?_, fun d => ?_⟩, ?_, ?_, hdef⟩
      · rw [hsz, ← htn, sizes n (Nat.le_refl _)]
      · rw [← htn, T1 n (Nat.le_refl _), ← ov_upto (D := fun j => listed.getD j false = true) (i := n) (fun j hj _ => hall j hj) n (Nat.le_refl _)]
        exact htm d
      · refine hfit.same fun b B hb => ?_
        rw [hhp, ov_upto (i := n) (fun j hj _ => hall j hj) n (Nat.le_refl _), ← T2 n (Nat.le_refl _), hsn]
        exact hb
      · refine hgo.congr fun b => ?_
        rw [hhp, ov_upto (i := n) (fun j hj _ => hall j hj) n (Nat.le_refl _), ← T2 n (Nat.le_refl _), hsn]
    | succ fuel ih =>
      intro listed a w φ hp hls hcnt hcl hsz htm hhp hfit hgo hfresh hdef
      have hcp := closedPre (fun j => listed.getD j false = true) hcl
      refine ⟨fun hready => ?_, fun i hi => ?_⟩
      · -- nothing is ready: all is done
        exfalso
        have hall : ∀ i, i < n → listed.getD i false = true := by
          intro i
          induction i using Nat.strongRecOn with
          | _ i ihi =>
            intro hi
            obtain ⟨o, ho⟩ := opAt i hi
            cases hg : listed.getD i false with
            | true => rfl
            | false =>
              exfalso
              have hm : i ∈ Region.ready .any ops listed := by
                unfold Region.ready
                rw [List.mem_filter]
                have hgt : listed.getD i true = false := by
                  simp only [Array.getD_eq_getD_getElem?] at hg ⊢
                  rw [Array.getElem?_eq_getElem (by omega)] at hg ⊢
                  exact hg
                refine ⟨by simp; omega, ?_⟩
                rw [hgt, ho]
                simp only [Bool.not_false, Bool.true_and, Option.map_some, Option.getD_some]
                rw [Array.all_eq_true_iff_forall_mem]
                intro e he
                cases hb : Region.binds .any e with
                | false => simp
                | true =>
                  have hlt := binds_lt ho e (by simpa using he) hb
                  rw [ihi e.on hlt (by omega)]
                  simp
              rw [hready] at hm
              cases hm
        have hc : ∀ k, k ≤ n → cnt (fun j => listed.getD j false) k = k := by
          intro k
          induction k with
          | zero => intro _; rfl
          | succ k ihk => intro hk; simp only [cnt]; rw [ihk (by omega), if_pos (hall k (by omega))]
        have := hc n (Nat.le_refl _)
        omega
      · -- one of those that are ready
        unfold Region.ready at hi
        rw [List.mem_filter] at hi
        obtain ⟨hi, hir⟩ := hi
        have hin : i < n := by rw [← hn]; simpa using hi
        obtain ⟨o, ho⟩ := opAt i hin
        rw [ho] at hir
        simp only [Bool.and_eq_true, Bool.not_eq_true', Option.map_some, Option.getD_some, Array.all_eq_true_iff_forall_mem, Bool.or_eq_true] at hir
        obtain ⟨hnl, hedges⟩ := hir
        have hDi : listed.getD i false = false := by
          simp only [Array.getD_eq_getD_getElem?] at hnl ⊢
          rw [Array.getElem?_eq_getElem (by omega)] at hnl ⊢
          exact hnl
        have hDi' : ¬ (listed.getD i false = true) := by rw [hDi]; simp
        have hedges' : ∀ e ∈ o.after.toList, Region.binds .any e = true → listed.getD e.on false = true := by
          intro e he hb
          rcases hedges e (by simpa using he) with h1 | h1
          · rw [hb] at h1; cases h1
          · exact h1
        have hpi : ∀ j, (pre.getD i 0).testBit j = true → listed.getD j false = true := by
          intro j hj
          rw [← hpre] at hj
          obtain ⟨e, he, hb, hx⟩ := preds_spec (by simpa using ho) hj
          have hlt := binds_lt ho e he hb
          have hDe := hedges' e he hb
          rcases hx with rfl | hx
          · exact hDe
          · rw [hpre] at hx
            exact hcp e.on (by omega) hDe j hx
        have st := hst i o ho
        -- later ones that come behind it aren't done
        have later : ∀ j, j < n → (pre.getD j 0).testBit i = true → ¬ (listed.getD j false = true) := fun j hj hb hDj => hDi' (hcp j hj hDj i hb)
        have ltW1 : ∀ {j d}, W1 j d → j < n := fun {j d} hw => by obtain ⟨q, hq, _⟩ := hw; exact ltOf hq
        -- slots
        have slotA : ∀ d ∈ o.looksAt ops, ov (fun j => listed.getD j false = true) W1 o1 x1 n d = (tms i).at d := by
          intro d hd
          rw [T1 i (by omega)]
          refine ov_sees (by omega) (fun j hj hw => ?_) (fun j hj hw => ?_)
          · obtain ⟨q, hq, hqd⟩ := hw
            rcases apartOf hq ho hj with hb | hb
            · exact hpi j hb
            · exact absurd hd ((Oper.apart_spec hb).1 d hqd)
          · by_cases hji : j = i
            · subst hji; exact hDi'
            · obtain ⟨q, hq, hqd⟩ := hw
              rcases apartOf ho hq (by omega) with hb | hb
              · exact later j (ltOf hq) hb
              · exact absurd hd ((Oper.apart_spec hb).2.2 d hqd)
        have slotLate : ∀ d j, i < j → W1 j d → W1 i d → ¬ (listed.getD j false = true) := by
          intro d j hij hw hwi
          obtain ⟨q, hq, hqd⟩ := hw
          obtain ⟨q', hq', hqd'⟩ := hwi
          rw [ho] at hq'
          cases hq'
          rcases apartOf ho hq hij with hb | hb
          · exact later j (ltOf hq) hb
          · exact absurd hqd ((Oper.apart_spec hb).2.1 d hqd')
        -- blocks
        have heapA : ∀ b, (rc i).hin.get b ≠ none → ov (fun j => listed.getD j false = true) W2 o2 x2 n b = (ss i).heap.get b := by
          intro b hb
          have key : ∀ m, i ≤ m → m ≤ n → ov (fun j => listed.getD j false = true) W2 o2 x2 m b = ov (fun _ => True) W2 o2 x2 i b := by
            intro m
            induction m with
            | zero =>
              intro h1 _
              have h0 : i = 0 := by omega
              rw [h0]
              rfl
            | succ m ihm =>
              intro h1 h2
              by_cases hmi : i = m + 1
              · rw [hmi]
                refine ov_upto (fun j hj hw => ?_) _ (Nat.le_refl _)
                have hji : j < i := by omega
                cases hbit : (pre.getD i 0).testBit j with
                | true => exact hpi j hbit
                | false =>
                  have hs := (st.sep j hji hbit).1 b hb
                  obtain ⟨q, hq⟩ := opAt j (by omega)
                  have stj := hst j q hq
                  rcases hw with hw | hw
                  · exact absurd hw hs.1
                  · exact absurd (by rw [stj.lo, stj.hi]; exact hw) hs.2
              · simp only [ov]
                rw [if_neg, ihm (by omega) (by omega)]
                rintro ⟨hD, hw⟩
                by_cases hmi2 : m = i
                · subst hmi2; exact hDi' hD
                · obtain ⟨q, hq⟩ := opAt m (by omega)
                  have stm := hst m q hq
                  cases hbit : (pre.getD m 0).testBit i with
                  | true => exact later m (by omega) hbit hD
                  | false =>
                    rcases hw with hw | hw
                    · exact hb ((stm.sep i (by omega) hbit).2 b hw)
                    · exact old ho b hb m (by omega) (by omega) hw
          rw [key n (by omega) (Nat.le_refl _), ← T2 i (by omega)]
        have heapB : ∀ b, ov (fun j => listed.getD j false = true ∨ j = i) W2 o2 x2 n b = if W2 i b then o2 i b else ov (fun j => listed.getD j false = true) W2 o2 x2 n b := by
          intro b
          by_cases hwi : W2 i b
          · rw [if_pos hwi]
            have key : ∀ m, i < m → m ≤ n → ov (fun j => listed.getD j false = true ∨ j = i) W2 o2 x2 m b = o2 i b := by
              intro m
              induction m with
              | zero => intro h1 _; omega
              | succ m ihm =>
                intro h1 h2
                simp only [ov]
                by_cases hmi : m = i
                · subst hmi
                  rw [if_pos ⟨.inr rfl, hwi⟩]
                · rw [if_neg, ihm (by omega) (by omega)]
                  rintro ⟨hD, hw⟩
                  rcases hD with hD | hD
                  · obtain ⟨q, hq⟩ := opAt m (by omega)
                    have stm := hst m q hq
                    cases hbit : (pre.getD m 0).testBit i with
                    | true => exact later m (by omega) hbit hD
                    | false =>
                      have hm1 := mono' (i + 1) m (by omega) (by omega)
                      have hm0 := mono' i m (by omega) (by omega)
                      rcases hw with hw | hw
                      · have := (stm.sep i (by omega) hbit).1 b (stm.ow b hw).1
                        rw [st.lo, st.hi] at this
                        rcases hwi with hwi | hwi
                        · exact this.1 hwi
                        · exact this.2 hwi
                      · rcases hwi with hwi | hwi
                        · have := (st.ow b hwi).2
                          omega
                        · omega
                  · exact hmi hD
            exact key n hin (Nat.le_refl _)
          · rw [if_neg hwi]
            refine ov_same (fun j hj => ⟨fun h => h.elim (fun h => h) (fun h => absurd (h ▸ hj) hwi), .inl⟩) n
        have slotB : ∀ d, ov (fun j => listed.getD j false = true ∨ j = i) W1 o1 x1 n d = if o.dst = some d then (rc i).v else ov (fun j => listed.getD j false = true) W1 o1 x1 n d := by
          intro d
          have hiff : W1 i d ↔ o.dst = some d := by
            constructor
            · rintro ⟨q, hq, hqd⟩
              rw [ho] at hq
              cases hq
              exact hqd
            · exact fun h => ⟨o, ho, h⟩
          rw [ov_put (D := fun j => listed.getD j false = true) hin (fun j => Iff.rfl) (fun j hij hw hwi => slotLate d j hij hw hwi)]
          by_cases hdd : o.dst = some d
          · rw [if_pos hdd, if_pos (hiff.2 hdd)]
          · rw [if_neg hdd, if_neg (fun x => hdd (hiff.1 x))]
        -- what is done then
        have hset : ∀ j, (listed.setIfInBounds i true).getD j false = (listed.getD j false || j == i) := by
          intro j
          simp only [Array.getD_eq_getD_getElem?, Array.getElem?_setIfInBounds]
          by_cases hji : i = j
          · subst hji
            rw [if_pos rfl, if_pos (by omega)]
            simp
          · rw [if_neg hji]
            have : (j == i) = false := by simpa using Ne.symm hji
            simp [this]
        have hset' : (fun j => (listed.setIfInBounds i true).getD j false = true) = fun j => listed.getD j false = true ∨ j = i := by
          funext j
          rw [hset]
          simp
        have looks : ∀ d ∈ o.looksAt ops, VRel φ ((tms i).at d) (a.tmps.getD d undef) := fun d hd => by rw [← slotA d hd]; exact htm d
        have hwant : Region.wanted o (yielded ops a.tmps) = (rc i).w := by rw [st.wanted]; exact (wanted_eq' o looks).symm
        -- how it goes on
        have goOn : ∀ (φ' : Asg) (w' : World) (V : Value) (hp' : Tree Blk), VRel φ' (rc i).v V → φ.Le φ' → (∀ b, hp'.get b = if W2 i b then o2 i b else hp.get b) → Fits φ' hp' w' → Goes φ0 s.heap s.next w0 φ' hp' s'.next w' →
            (∀ b, φ'.blk b ≠ none → φ.blk b ≠ none ∨ ((ss i).next ≤ b ∧ b < (ss (i + 1)).next)) → wpAny P .any ops (Post φ0 s s' w0 .normal tm' a0.defers) fuel (listed.setIfInBounds i true) (a.put o.dst V) w' := by
          intro φ' w' V hp' hV hle hhp' hfit' hgo' hdom'
          refine ih (listed.setIfInBounds i true) (a.put o.dst V) w' φ' hp' (by simpa using hls) ?_ ?_ ?_ ?_ ?_ hfit' hgo' ?_ ?_
          · have := cnt_set (D := fun j => listed.getD j false) (D' := fun j => (listed.setIfInBounds i true).getD j false) (i := i) hDi hset n
            rw [this, if_pos hin]
            omega
          · intro j q hq hDj e he hb
            rw [hset] at hDj ⊢
            simp only [Bool.or_eq_true, beq_iff_eq] at hDj ⊢
            rcases hDj with hDj | rfl
            · exact .inl (hcl j q hq hDj e he hb)
            · rw [ho] at hq
              cases hq
              exact .inl (hedges' e he hb)
          · cases hdd : o.dst with
            | none => exact hsz
            | some d => simpa [Act.put] using hsz
          · intro d
            rw [hset', slotB d]
            by_cases hdd : o.dst = some d
            · rw [if_pos hdd]
              have hlt := st.room d hdd
              rw [sizes i (by omega)] at hlt
              have : (a.put o.dst V).tmps.getD d undef = V := by
                rw [hdd]
                simp [Act.put, Array.getD_eq_getD_getElem?, hsz, hlt]
              rw [this]
              exact hV
            · rw [if_neg hdd]
              have : (a.put o.dst V).tmps.getD d undef = a.tmps.getD d undef := by
                cases hd2 : o.dst with
                | none => rfl
                | some e =>
                  have hne : e ≠ d := fun h => hdd (by rw [hd2, h])
                  simp [Act.put, Array.getD_eq_getD_getElem?, Array.getElem?_setIfInBounds_ne hne]
              rw [this]
              exact (htm d).mono hle
          · intro b
            rw [hset', heapB b, hhp']
            by_cases hwi : W2 i b
            · rw [if_pos hwi, if_pos hwi]
            · rw [if_neg hwi, if_neg hwi, hhp]
          · intro b hb
            rcases hdom' b hb with h1 | h1
            · rcases hfresh b h1 with h2 | ⟨j, hj, hDj, hr⟩
              · exact .inl h2
              · exact .inr ⟨j, hj, by rw [hset, hDj]; rfl, hr⟩
            · exact .inr ⟨i, hin, by rw [hset]; simp, h1⟩
          · rw [← hdef]
            cases o.dst <;> rfl
        unfold wpOp
        simp only [ho, hwant]
        cases hw : (rc i).w with
        | false =>
          simp only [Bool.false_eq_true, if_false]
          obtain ⟨hv, hin0, how, hnx⟩ := st.idle hw
          refine goOn φ w undef hp (by rw [hv]; exact undef_rel φ) (.refl φ) (fun b => ?_) hfit hgo (fun b hb => .inl hb)
          rw [if_neg]
          rintro (h1 | h1)
          · rw [how] at h1; cases h1
          · omega
        | true =>
          simp only [if_true]
          obtain ⟨wr, hrun⟩ := st.run hw
          obtain ⟨e1, v1⟩ := valS_ok' hE hC hrun
          have hsub : ∀ b B, (rc i).hin.get b = some B → hp.get b = some B := by
            intro b B hb
            rw [hhp, heapA b (by simp [hb])]
            exact st.inn b B hb
          have hfresh' : ∀ b, (ss i).next ≤ b → b < (ss (i + 1)).next → φ.blk b = none := by
            intro b h1 h2
            cases hc : φ.blk b with
            | none => rfl
            | some z =>
              exfalso
              have a1 := n0 i (by omega)
              have a2 := n1 (i + 1) (by omega)
              rcases hfresh b (by simp [hc]) with h3 | ⟨j, hj, hDj, h3, h4⟩
              · exact h3 (hfr b (by omega) (by omega))
              · rcases Nat.lt_trichotomy j i with h5 | h5 | h5
                · have := mono' (j + 1) i (by omega) (by omega)
                  omega
                · subst h5; exact hDi' hDj
                · have := mono' (i + 1) j (by omega) (by omega)
                  omega
          have hsees : SeesOp φ (tms i) o.op a.eval := by
            intro y hy v hv
            cases y with
            | tmp t =>
              simp only [evalS, Option.some.injEq] at hv
              subst hv
              refine looks t ?_
              unfold Oper.looksAt
              refine List.mem_append_left _ (List.mem_filterMap.2 ⟨.tmp t, by simpa using hy, rfl⟩)
            | const c => exact ofConst_rel hv
            | global g => simp [evalS] at hv
            | func f =>
              simp only [evalS, Option.some.injEq] at hv
              subst hv
              simp only [VRel, Act.eval]
              exact ⟨_, _, rfl, by simp [VRels], by simp [VRels]⟩
          refine .inl (v1 φ a w _ _ (hsym.le hgo.le) hsees (hfit.same hsub) hfresh' fun φ' w' V hV hf' hg' => ?_)
          have hmix : ∀ b, (Tree.mix (fun b => decide ((rc i).hin.get b ≠ none ∨ ((ss i).next ≤ b ∧ b < (ss (i + 1)).next))) (rc i).hout hp).get b =
              if (rc i).hin.get b ≠ none ∨ ((ss i).next ≤ b ∧ b < (ss (i + 1)).next) then (rc i).hout.get b else hp.get b := by
            intro b
            rw [Tree.get_mix]
            simp only [decide_eq_true_eq]
          obtain ⟨k1, k2⟩ := hfit.frame hsub hf' hg' (fun b hb => e1.dom b hb) hfresh' hmix
          refine goOn φ' w' V _ hV hg'.le (fun b => ?_) k1 (hgo.step k2 (n0 i (by omega)) (n1 (i + 1) (by omega))) (fun b hb => hg'.dom b hb)
          rw [hmix]
          by_cases hwi : W2 i b
          · rw [if_pos hwi, if_pos]
            rcases hwi with h1 | h1
            · exact .inl (st.ow b h1).1
            · exact .inr h1
          · rw [if_neg hwi]
            by_cases hpb : (rc i).hin.get b ≠ none ∨ ((ss i).next ≤ b ∧ b < (ss (i + 1)).next)
            · rw [if_pos hpb]
              have hwi' : b ∉ (rc i).ow ∧ ¬ ((ss i).next ≤ b ∧ b < (ss (i + 1)).next) := ⟨fun h => hwi (.inl h), fun h => hwi (.inr h)⟩
              rw [st.stay b hwi'.2 hwi'.1]
              cases hc : (rc i).hin.get b with
              | none =>
                rcases hpb with h1 | h1
                · exact absurd hc h1
                · exact absurd h1 hwi'.2
              | some B => rw [hsub b B hc]
            · rw [if_neg hpb]
  -- the start
  have hnone : ∀ j, (Array.replicate n false).getD j false = false := by
    intro j
    simp only [Array.getD_eq_getD_getElem?, Array.getElem?_replicate]
    split <;> rfl
  refine wp_region_any hE.mixed ?_
  rw [hn]
  have hov : ∀ {Val : Type} (W : Nat → Nat → Prop) (o : Nat → Nat → Val) (x : Nat → Val) (k l : Nat), ov (fun j => (Array.replicate n false).getD j false = true) W o x k l = x l := by
    intro Val W o x k
    induction k with
    | zero => intro l; rfl
    | succ k ih => intro l; simp only [ov]; rw [ih l, if_neg]; rintro ⟨h1, _⟩; rw [hnone] at h1; cases h1
  have hcnt0 : ∀ k, cnt (fun j => (Array.replicate n false).getD j false) k = 0 := by
    intro k
    induction k with
    | zero => rfl
    | succ k ih => simp only [cnt]; rw [ih, if_neg (by rw [hnone]; simp)]
  refine main n (Array.replicate n false) a0 { w0 with drawn := w0.drawn + 1 } φ0 s.heap (by simp) (by rw [hcnt0]; omega) ?_ ht.size (fun d => ?_) (fun b => ?_) (hf.heap rfl) ?_ (fun b hb => .inl hb) rfl
  · intro i o _ hi
    rw [hnone] at hi
    cases hi
  · rw [hov]; exact ht.at_ d
  · rw [hov]
  · have hc : Calm w0 { w0 with drawn := w0.drawn + 1 } := ⟨rfl, rfl, rfl⟩
    have := Goes.heap (φ := φ0) (h := s.heap) (n := s.next) (w := w0) (w' := { w0 with drawn := w0.drawn + 1 }) rfl hc
    exact ⟨this.le, heff.next, fun i hi => .inl hi, this.keep, this.old, this.size, this.os, this.tape, this.output⟩

/-- The evaluator is right. -/
theorem call_ok (hE : EnvOk P E) (hH : HooksOk P E) (n : Nat) : CallFOk P E (enterF E (exec E n)) := enterF_ok hE hH (exec_ok hE hH (draws_ok hE) n)
end

end Go.Proofs.Ytnkicnhjllmmjaa.Sx
