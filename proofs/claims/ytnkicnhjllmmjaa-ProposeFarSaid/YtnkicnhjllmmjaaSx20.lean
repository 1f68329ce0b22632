/- Regions whose order is open: what the proof needs of trees, slots, orders. -/
import Derived.Test.YtnkicnhjllmmjaaSx19
namespace Go.Proofs.Ytnkicnhjllmmjaa.Sx
open Go
set_option linter.unusedVariables false
set_option linter.unusedSimpArgs false

/-! ### Trees -/
def Tree.filt {α : Type} (p : Nat → Bool) : Tree α → Tree α
  | .leaf => .leaf
  | .node l v r => .node (l.filt fun m => p (2 * m + 1)) (if p 0 then v else none) (r.filt fun m => p (2 * m + 2))

theorem Tree.get_filt {α : Type} : ∀ (t : Tree α) (p : Nat → Bool) (n : Nat), (t.filt p).get n = if p n then t.get n else none
  | .leaf, p, n => by simp [Tree.filt, Tree.get_leaf]
  | .node l v r, p, n => by
    simp only [Tree.filt]
    cases n with
    | zero => simp [Tree.get_node0]
    | succ m =>
      rw [Tree.get_node1, Tree.get_node1]
      by_cases hm : m % 2 = 0
      · rw [if_pos hm, if_pos hm, Tree.get_filt l, show 2 * (m / 2) + 1 = m + 1 by omega]
      · rw [if_neg hm, if_neg hm, Tree.get_filt r, show 2 * (m / 2) + 2 = m + 1 by omega]

def Tree.mix {α : Type} (p : Nat → Bool) : Tree α → Tree α → Tree α
  | .leaf, t => t.filt fun n => !p n
  | .node l v r, .leaf => (Tree.node l v r).filt p
  | .node l v r, .node l' v' r' => .node (Tree.mix (fun m => p (2 * m + 1)) l l') (if p 0 then v else v') (Tree.mix (fun m => p (2 * m + 2)) r r')

theorem Tree.get_mix {α : Type} : ∀ (t u : Tree α) (p : Nat → Bool) (n : Nat), (Tree.mix p t u).get n = if p n then t.get n else u.get n
  | .leaf, t, p, n => by simp only [Tree.mix, Tree.get_filt, Tree.get_leaf]; cases p n <;> simp
  | .node l v r, .leaf, p, n => by simp only [Tree.mix, Tree.get_filt, Tree.get_leaf]
  | .node l v r, .node l' v' r', p, n => by
    simp only [Tree.mix]
    cases n with
    | zero => simp [Tree.get_node0]
    | succ m =>
      rw [Tree.get_node1, Tree.get_node1, Tree.get_node1]
      by_cases hm : m % 2 = 0
      · rw [if_pos hm, if_pos hm, if_pos hm, Tree.get_mix l, show 2 * (m / 2) + 1 = m + 1 by omega]
      · rw [if_neg hm, if_neg hm, if_neg hm, Tree.get_mix r, show 2 * (m / 2) + 2 = m + 1 by omega]

/-! ### Memory that a step doesn't look at -/
theorem Fits.frame {φ φ' : Asg} {h hin hout h' : Tree Blk} {w w' : World} {n n' : Nat} (hf : Fits φ h w) (hsub : ∀ b B, hin.get b = some B → h.get b = some B) (hf' : Fits φ' hout w') (g : Goes φ hin n w φ' hout n' w')
    (hdom : ∀ b, hout.get b ≠ none → hin.get b ≠ none ∨ (n ≤ b ∧ b < n')) (hfr : ∀ b, n ≤ b → b < n' → φ.blk b = none)
    (hg : ∀ b, h'.get b = if hin.get b ≠ none ∨ (n ≤ b ∧ b < n') then hout.get b else h.get b) : Fits φ' h' w' ∧ Goes φ h n w φ' h' n' w' := by
  have hsub' : ∀ b, hin.get b ≠ none → h.get b ≠ none := by
    intro b hb
    cases hc : hin.get b with
    | none => exact absurd hc hb
    | some B => rw [hsub b B hc]; simp
  -- what is of the frame lies where it lay
  have lies : ∀ b B, h.get b = some B → hin.get b = none → ∃ k β z, φ.blk b = some (k, β, z) ∧ φ'.blk b = some (k, β, z) ∧ k < w.heap.size ∧ BlkRel φ B w.heap[k]? β z ∧ w'.heap[k]? = w.heap[k]? ∧ ∀ i z', hin.get i ≠ none → φ.blk i ≠ some (k, z') := by
    intro b B hb hn
    obtain ⟨k, β, z, hk, hB⟩ := hf.blk b B hb
    have hlt := hf.lt b k _ hk
    have hnot : ∀ i z', hin.get i ≠ none → φ.blk i ≠ some (k, z') := by
      intro i z' hi hz
      have := hf.inj i b k z' _ (hsub' i hi) (by simp [hb]) hz hk
      subst this
      exact hi hn
    exact ⟨k, β, z, hk, g.le.blk _ _ hk, hlt, hB, g.keep k hlt hnot, hnot⟩
  have inFrame : ∀ b B, h'.get b = some B → ¬ (hin.get b ≠ none ∨ (n ≤ b ∧ b < n')) → h.get b = some B ∧ hin.get b = none := by
    intro b B hb hno
    rw [hg, if_neg hno] at hb
    simp only [not_or] at hno
    exact ⟨hb, Classical.not_not.1 hno.1⟩
  have inOut : ∀ b B, h'.get b = some B → (hin.get b ≠ none ∨ (n ≤ b ∧ b < n')) → hout.get b = some B := by
    intro b B hb hyes
    rw [hg, if_pos hyes] at hb
    exact hb
  have apart : ∀ i j k y z B, h'.get i ≠ none → (hin.get i ≠ none ∨ (n ≤ i ∧ i < n')) → h.get j = some B → hin.get j = none → φ'.blk i = some (k, y) → φ'.blk j = some (k, z) → False := by
    intro i j k y z B hi hyes hj hjn hik hjk
    obtain ⟨k', β, z', e1, e2, e3, _, _, e5⟩ := lies j B hj hjn
    rw [e2] at hjk
    simp only [Option.some.injEq, Prod.mk.injEq] at hjk
    obtain ⟨rfl, _⟩ := hjk
    have hio : hout.get i ≠ none := by
      cases hc : h'.get i with
      | none => exact absurd hc hi
      | some C => rw [inOut i C hc hyes]; simp
    obtain ⟨q, y', hq, hqk⟩ := g.old i _ _ hio hik e3
    exact e5 q y' hq hqk
  refine ⟨⟨fun b B hb => ?_, fun i j k y z hi hj hik hjk => ?_, fun i k z hk => hf'.lt i k z hk⟩, ⟨g.le, g.nn, g.dom, fun k hk hno => g.keep k hk fun i z hi => hno i z (hsub' i hi), fun i k z hi hik hk => ?_, g.size, g.os, g.tape, g.output⟩⟩
  · by_cases hyes : hin.get b ≠ none ∨ (n ≤ b ∧ b < n')
    · exact hf'.blk b B (inOut b B hb hyes)
    · obtain ⟨h1, h2⟩ := inFrame b B hb hyes
      obtain ⟨k, β, z, e1, e2, e3, e4, e5, _⟩ := lies b B h1 h2
      refine ⟨k, β, z, e2, ?_⟩
      rw [e5]
      exact e4.mono g.le
  · by_cases h1 : hin.get i ≠ none ∨ (n ≤ i ∧ i < n') <;> by_cases h2 : hin.get j ≠ none ∨ (n ≤ j ∧ j < n')
    · refine hf'.inj i j k y z ?_ ?_ hik hjk
      · rw [hg, if_pos h1] at hi; exact hi
      · rw [hg, if_pos h2] at hj; exact hj
    · cases hc : h'.get j with
      | none => exact absurd hc hj
      | some B =>
        obtain ⟨e1, e2⟩ := inFrame j B hc h2
        exact (apart i j k y z B hi h1 e1 e2 hik hjk).elim
    · cases hc : h'.get i with
      | none => exact absurd hc hi
      | some B =>
        obtain ⟨e1, e2⟩ := inFrame i B hc h1
        exact (apart j i k z y B hj h2 e1 e2 hjk hik).elim
    · cases hc : h'.get i with
      | none => exact absurd hc hi
      | some B =>
        cases hd : h'.get j with
        | none => exact absurd hd hj
        | some C =>
          obtain ⟨e1, e2⟩ := inFrame i B hc h1
          obtain ⟨f1, f2⟩ := inFrame j C hd h2
          obtain ⟨k1, β, z1, a1, a2, _⟩ := lies i B e1 e2
          obtain ⟨k2, γ, z2, b1, b2, _⟩ := lies j C f1 f2
          rw [a2] at hik
          rw [b2] at hjk
          exact hf.inj i j k y z (by simp [e1]) (by simp [f1]) (a1.trans hik) (b1.trans hjk)
  · by_cases h1 : hin.get i ≠ none ∨ (n ≤ i ∧ i < n')
    · have hio : hout.get i ≠ none := by rw [hg, if_pos h1] at hi; exact hi
      obtain ⟨q, y', hq, hqk⟩ := g.old i k z hio hik hk
      exact ⟨q, y', hsub' q hq, hqk⟩
    · cases hc : h'.get i with
      | none => exact absurd hc hi
      | some B =>
        obtain ⟨e1, e2⟩ := inFrame i B hc h1
        obtain ⟨k1, β, z1, a1, a2, _⟩ := lies i B e1 e2
        rw [a2] at hik
        exact ⟨i, z, by simp [e1], a1.trans hik⟩

theorem Goes.step {φ φ' φ'' : Asg} {h h' h'' : Tree Blk} {n n' m m' : Nat} {w w' w'' : World} (a : Goes φ h n w φ' h' n' w') (b : Goes φ' h' m w' φ'' h'' m' w'') (h1 : n ≤ m) (h2 : m' ≤ n') : Goes φ h n w φ'' h'' n' w'' where
  le := a.le.trans b.le
  nn := a.nn
  dom i hi := by
    rcases b.dom i hi with h | h
    · exact a.dom i h
    · exact .inr (by omega)
  keep k hk hn := by
    have h1 := a.size
    rw [b.keep k (by omega) (fun i z hi hz => by
      obtain ⟨j, y, hj, hy⟩ := a.old i k z hi hz hk
      exact hn j y hj hy)]
    exact a.keep k hk hn
  old i k z hi hz hk := by
    have h1 := a.size
    obtain ⟨j, y, hj, hy⟩ := b.old i k z hi hz (by omega)
    exact a.old j k y hj hy hk
  size := Nat.le_trans a.size b.size
  os := b.os.trans a.os
  tape := b.tape.trans a.tape
  output := b.output.trans a.output

/-! ### Overwriting, some of it -/
section
variable {Loc Val : Type}
open Classical in
/-- What a place has behind those of the first k that are in D. -/
noncomputable def ov (D : Nat → Prop) (W : Nat → Loc → Prop) (out : Nat → Loc → Val) (x0 : Loc → Val) : Nat → Loc → Val
  | 0, l => x0 l
  | k + 1, l => if D k ∧ W k l then out k l else ov D W out x0 k l

variable {D : Nat → Prop} {W : Nat → Loc → Prop} {out : Nat → Loc → Val} {x0 : Loc → Val} {n i : Nat} {l : Loc}

theorem ov_upto (h : ∀ j, j < i → W j l → D j) : ∀ k, k ≤ i → ov D W out x0 k l = ov (fun _ => True) W out x0 k l
  | 0, _ => rfl
  | k + 1, hk => by
    simp only [ov]
    rw [ov_upto h k (by omega)]
    by_cases hw : W k l
    · rw [if_pos ⟨h k (by omega) hw, hw⟩, if_pos ⟨trivial, hw⟩]
    · rw [if_neg (fun x => hw x.2), if_neg (fun x => hw x.2)]

theorem ov_from (h : ∀ j, i ≤ j → W j l → ¬ D j) : ∀ k, ov D W out x0 (i + k) l = ov D W out x0 i l
  | 0 => rfl
  | k + 1 => by
    rw [← Nat.add_assoc]
    simp only [ov]
    rw [ov_from h k, if_neg (fun x => h (i + k) (by omega) x.2 x.1)]

/-- What an operation sees is what it saw in the order of the text. -/
theorem ov_sees (hin : i ≤ n) (h1 : ∀ j, j < i → W j l → D j) (h2 : ∀ j, i ≤ j → W j l → ¬ D j) : ov D W out x0 n l = ov (fun _ => True) W out x0 i l := by
  obtain ⟨k, rfl⟩ : ∃ k, n = i + k := ⟨n - i, by omega⟩
  rw [ov_from h2 k, ov_upto h1 i (Nat.le_refl _)]

theorem ov_same {D' : Nat → Prop} (h : ∀ j, W j l → (D' j ↔ D j)) : ∀ k, ov D' W out x0 k l = ov D W out x0 k l
  | 0 => rfl
  | k + 1 => by
    simp only [ov]
    rw [ov_same h k]
    by_cases hw : W k l
    · by_cases hd : D k
      · rw [if_pos ⟨(h k hw).2 hd, hw⟩, if_pos ⟨hd, hw⟩]
      · rw [if_neg (fun x => hd ((h k hw).1 x.1)), if_neg (fun x => hd x.1)]
    · rw [if_neg (fun x => hw x.2), if_neg (fun x => hw x.2)]

theorem ov_put {D' : Nat → Prop} (hin : i < n) (hD : ∀ j, D' j ↔ D j ∨ j = i) (hlate : ∀ j, i < j → W j l → W i l → ¬ D j) [Decidable (W i l)] : ov D' W out x0 n l = if W i l then out i l else ov D W out x0 n l := by
  by_cases hw : W i l
  · rw [if_pos hw]
    obtain ⟨k, rfl⟩ : ∃ k, n = i + 1 + k := ⟨n - (i + 1), by omega⟩
    rw [ov_from (i := i + 1) (fun j hj hjw => by rw [hD]; rintro (h | h); exact hlate j (by omega) hjw hw h; omega) k]
    simp only [ov]
    rw [if_pos ⟨(hD i).2 (.inr rfl), hw⟩]
  · rw [if_neg hw]
    refine ov_same (fun j hj => ?_) n
    rw [hD]
    exact ⟨fun h => h.elim id (fun h => absurd (h ▸ hj) hw), .inl⟩
end

/-! ### Orders -/
theorem fold_bits (acc : List Nat) (j : Nat) : ∀ (l : List Edge) (s0 : Nat), (l.foldl (fun s e => match Region.binds .any e with
      | true => Nat.lor s (Nat.lor (2 ^ e.on) (acc.getD e.on 0))
      | false => s) s0).testBit j = true → s0.testBit j = true ∨ ∃ e ∈ l, Region.binds .any e = true ∧ (e.on = j ∨ (acc.getD e.on 0).testBit j = true)
  | [], s0, h => .inl h
  | e :: l, s0, h => by
    simp only [List.foldl_cons] at h
    rcases fold_bits acc j l _ h with h | ⟨e', he, h⟩
    · split at h
      · rename_i hb
        have h' : (s0 ||| (2 ^ e.on ||| acc.getD e.on 0)).testBit j = true := h
        rw [Nat.testBit_or, Nat.testBit_or, Bool.or_eq_true, Bool.or_eq_true] at h'
        rcases h' with h' | h' | h'
        · exact .inl h'
        · refine .inr ⟨e, by simp, hb, .inl ?_⟩
          simpa [Nat.testBit_two_pow] using h'
        · exact .inr ⟨e, by simp, hb, .inr h'⟩
      · exact .inl h
    · exact .inr ⟨e', by simp [he], h⟩

theorem predsGo_spec : ∀ (ops : List Oper) (acc : List Nat), ∃ l, predsGo ops acc = acc ++ l ∧ l.length = ops.length ∧ ∀ i o, ops[i]? = some o → ∀ j, (l.getD i 0).testBit j = true →
    ∃ e ∈ o.after.toList, Region.binds .any e = true ∧ (e.on = j ∨ ((acc ++ l).getD e.on 0).testBit j = true)
  | [], acc => ⟨[], by simp [predsGo], rfl, fun i o h => by simp at h⟩
  | o :: ops, acc => by
    simp only [predsGo]
    generalize hm : (o.after.toList.foldl (fun s e =>
      match Region.binds .any e with
      | true => Nat.lor s (Nat.lor (2 ^ e.on) (acc.getD e.on 0))
      | false => s) 0) = m
    obtain ⟨l, h1, h2, h3⟩ := predsGo_spec ops (acc ++ [m])
    refine ⟨m :: l, by rw [h1]; simp, by simp [h2], fun i q hq j hj => ?_⟩
    cases i with
    | zero =>
      simp only [List.getElem?_cons_zero, Option.some.injEq] at hq
      subst hq
      simp only [List.getD_cons_zero] at hj
      rw [← hm] at hj
      rcases fold_bits acc j _ _ hj with h | ⟨e, he, hb, h⟩
      · simp at h
      · refine ⟨e, he, hb, h.imp id fun h => ?_⟩
        by_cases hlt : e.on < acc.length
        · rw [List.getD_eq_getElem?_getD, List.getElem?_append_left hlt, ← List.getD_eq_getElem?_getD]; exact h
        · rw [List.getD_eq_getElem?_getD, List.getElem?_eq_none (by omega)] at h; simp at h
    | succ i =>
      simp only [List.getElem?_cons_succ] at hq
      simp only [List.getD_cons_succ] at hj
      obtain ⟨e, he, hb, h⟩ := h3 i q hq j hj
      exact ⟨e, he, hb, by simpa using h⟩

theorem preds_spec {ops : List Oper} {i : Nat} {o : Oper} (h : ops[i]? = some o) {j : Nat} (hj : ((predsOf ops).getD i 0).testBit j = true) :
    ∃ e ∈ o.after.toList, Region.binds .any e = true ∧ (e.on = j ∨ ((predsOf ops).getD e.on 0).testBit j = true) := by
  obtain ⟨l, h1, h2, h3⟩ := predsGo_spec ops []
  simp only [List.nil_append] at h1 h3
  unfold predsOf at hj ⊢
  rw [h1] at hj ⊢
  exact h3 i o h j hj

theorem edges_back {all : List Oper} : ∀ (ops : List Oper) (k : Nat), edgesOk all k ops = true → ∀ i o, ops[i]? = some o → ∀ e ∈ o.after.toList, Region.binds .any e = true → e.on < k + i
  | [], k, _, i, o, h => by simp at h
  | q :: ops, k, hok, i, o, h => by
    simp only [edgesOk, Bool.and_eq_true, List.all_eq_true, Bool.or_eq_true, Bool.not_eq_true', blt_eq, decide_eq_true_eq] at hok
    cases i with
    | zero =>
      simp only [List.getElem?_cons_zero, Option.some.injEq] at h
      subst h
      intro e he hb
      rcases hok.1 e he with h | h
      · rw [hb] at h; cases h
      · omega
    | succ i =>
      simp only [List.getElem?_cons_succ] at h
      intro e he hb
      have := edges_back ops (k + 1) hok.2 i o h e he hb
      omega

theorem apartAll_is {all : List Oper} {pre : List Nat} {j : Nat} {oj : Oper} : ∀ (ops : List Oper) (k : Nat), apartAll all pre j oj k ops = true → ∀ i o, ops[i]? = some o → j ≤ k + i ∨ (pre.getD j 0).testBit (k + i) = true ∨ Oper.apart all.toArray o oj = true
  | [], k, _, i, o, h => by simp at h
  | q :: ops, k, hok, i, o, h => by
    simp only [apartAll, Bool.and_eq_true, Bool.or_eq_true, ble_eq, decide_eq_true_eq] at hok
    cases i with
    | zero =>
      simp only [List.getElem?_cons_zero, Option.some.injEq] at h
      subst h
      simp only [Nat.add_zero]
      rcases hok.1 with (h | h) | h
      · exact .inl h
      · exact .inr (.inl h)
      · exact .inr (.inr h)
    | succ i =>
      simp only [List.getElem?_cons_succ] at h
      have := apartAll_is ops (k + 1) hok.2 i o h
      rwa [show k + 1 + i = k + (i + 1) by omega] at this

theorem apartOk_is {all : List Oper} {pre : List Nat} : ∀ (ops : List Oper) (k : Nat), apartOk all pre k ops = true → ∀ j oj, ops[j]? = some oj → ∀ i o, all[i]? = some o → k + j ≤ i ∨ (pre.getD (k + j) 0).testBit i = true ∨ Oper.apart all.toArray o oj = true
  | [], k, _, j, oj, h => by simp at h
  | q :: ops, k, hok, j, oj, h => by
    simp only [apartOk, Bool.and_eq_true] at hok
    cases j with
    | zero =>
      simp only [List.getElem?_cons_zero, Option.some.injEq] at h
      subst h
      intro i o hi
      have := apartAll_is all 0 hok.1 i o hi
      simpa using this
    | succ j =>
      simp only [List.getElem?_cons_succ] at h
      have := apartOk_is ops (k + 1) hok.2 j oj h
      rwa [show k + 1 + j = k + (j + 1) by omega] at this

end Go.Proofs.Ytnkicnhjllmmjaa.Sx
