/- Regions whose order is open: what the evaluator did there, operation by operation. -/
import Derived.Test.YtnkicnhjllmmjaaSx18
import Derived.Orders
namespace Go.Proofs.Ytnkicnhjllmmjaa.Sx
open Go
set_option linter.unusedVariables false
set_option linter.unusedSimpArgs false

/-- What an operation of an open region did. -/
structure Rc where
  w : Bool
  tm : Tm
  hin : Tree Blk
  v : SV
  hout : Tree Blk
  lo : Nat
  hi : Nat
  ow : List Nat

structure StepOk (E : Env) (call : CallF) (all : List Oper) (pre : List Nat) (rc : Nat → Rc) (R : Rc) (i : Nat) (o : Oper) (tm tm1 : Tm) (s s1 : St) : Prop where
  wanted : R.w = wantedS all tm o
  tmEq : R.tm = tm
  lo : R.lo = s.next
  hi : R.hi = s1.next
  le : s.next ≤ s1.next
  run : R.w = true → ∃ wr, valS E call tm o ⟨R.hin, s.next, []⟩ = some (R.v, ⟨R.hout, s1.next, wr⟩)
  idle : R.w = false → R.v = .undef ∧ (∀ b, R.hin.get b = none) ∧ R.ow = [] ∧ s1.next = s.next
  slot : ∀ d, tm1.at d = if o.dst = some d then R.v else tm.at d
  size : tm1.size = tm.size
  room : ∀ d, o.dst = some d → d < tm.size
  heap : ∀ b, s1.heap.get b = if b ∈ R.ow ∨ (s.next ≤ b ∧ b < s1.next) then R.hout.get b else s.heap.get b
  inn : ∀ b B, R.hin.get b = some B → s.heap.get b = some B
  ow : ∀ b ∈ R.ow, R.hin.get b ≠ none ∧ b < s.next
  stay : ∀ b, ¬ (s.next ≤ b ∧ b < s1.next) → b ∉ R.ow → R.hout.get b = R.hin.get b
  sep : ∀ j, j < i → (pre.getD i 0).testBit j = false → (∀ b, R.hin.get b ≠ none → b ∉ (rc j).ow ∧ ¬ ((rc j).lo ≤ b ∧ b < (rc j).hi)) ∧ (∀ b ∈ R.ow, (rc j).hin.get b = none)
  wrs : s1.wr = R.ow ++ s.wr

/-- The evaluator's notes are right. -/
def RecsOk (rc : Nat → Rc) (i : Nat) (recs : List Rec) (next : Nat) : Prop :=
  (∀ j, j < i → ((rc j).ow = [] ∧ (rc j).lo = (rc j).hi ∧ ∀ b, (rc j).hin.get b = none) ∨
    ∃ r ∈ recs, r.i = j ∧ r.lo = (rc j).lo ∧ r.hi = (rc j).hi ∧ r.ow = (rc j).ow ∧ ∀ l, r.dom = some l → ∀ b, (rc j).hin.get b ≠ none → b ∈ l) ∧
  ∀ r ∈ recs, r.hi ≤ next ∧ ∀ b ∈ r.ow, b < next

def upd (rc : Nat → Rc) (i : Nat) (R : Rc) : Nat → Rc := fun j => if j = i then R else rc j

theorem putT_at {β : Type} {tm : Tm} {dst : Option Nat} {v : SV} {K : Tm → Option β} {r : β} (h : putT tm dst v K = some r) :
    ∃ tm', K tm' = some r ∧ (tm'.size = tm.size ∧ ∀ d, dst = some d → d < tm.size) ∧ ∀ d, tm'.at d = if dst = some d then v else tm.at d := by
  unfold putT at h
  split at h
  · exact ⟨tm, h, ⟨rfl, by simp⟩, fun d => by simp⟩
  · rename_i d
    split at h
    · rename_i hd
      simp only [blt_eq, decide_eq_true_eq] at hd
      obtain ⟨t', hk, hg⟩ := Tree.put_some _ _ _ _ _ _ h
      refine ⟨_, hk, ⟨rfl, fun e he => by simp only [Option.some.injEq] at he; subst he; exact hd⟩, fun m => ?_⟩
      rw [at_put hg m]
      by_cases hm : m = d
      · simp [hm]
      · rw [if_neg hm, if_neg (by simpa using Ne.symm hm)]
    · simp at h

theorem memN_iff (i : Nat) : ∀ (l : List Nat), memN i l = true ↔ i ∈ l
  | [] => by simp [memN]
  | j :: l => by
    simp only [memN, List.mem_cons]
    split
    · rename_i h; simp only [beq_eq, decide_eq_true_eq] at h; simp [h]
    · rename_i h; simp only [beq_eq, decide_eq_false_iff_not] at h; rw [memN_iff i l]; simp [h]

theorem mem_rangeN : ∀ (n lo b : Nat), b ∈ rangeN lo n ↔ lo ≤ b ∧ b < lo + n
  | 0, lo, b => by simp [rangeN]
  | n + 1, lo, b => by simp only [rangeN, List.mem_cons, mem_rangeN n]; omega

theorem mem_excl : ∀ (u : List Rec) (b : Nat), b ∈ exclOf u ↔ ∃ r ∈ u, (r.lo ≤ b ∧ b < r.hi) ∨ b ∈ r.ow
  | [], b => by simp [exclOf]
  | r :: u, b => by
    simp only [exclOf, appL_eq, List.mem_append, mem_rangeN, mem_excl u b, List.mem_cons, exists_eq_or_imp]
    refine or_congr (or_congr ?_ Iff.rfl) Iff.rfl
    omega

theorem mem_unordered (pre : Nat) : ∀ (u : List Rec) (r : Rec), r ∈ unordered pre u ↔ r ∈ u ∧ pre.testBit r.i = false
  | [], r => by simp [unordered]
  | q :: u, r => by
    simp only [unordered]
    split
    · rename_i h
      rw [mem_unordered pre u r]
      simp only [List.mem_cons]
      constructor
      · rintro ⟨h1, h2⟩; exact ⟨.inr h1, h2⟩
      · rintro ⟨rfl | h1, h2⟩
        · rw [h] at h2; cases h2
        · exact ⟨h1, h2⟩
    · rename_i h
      simp only [List.mem_cons, mem_unordered pre u r]
      constructor
      · rintro (rfl | ⟨h1, h2⟩)
        · exact ⟨.inl rfl, h⟩
        · exact ⟨.inr h1, h2⟩
      · rintro ⟨rfl | h1, h2⟩
        · exact .inl rfl
        · exact .inr ⟨h1, h2⟩

theorem apartN_iff : ∀ (x l : List Nat), apartN x l = true ↔ ∀ b ∈ x, b ∉ l
  | [], l => by simp [apartN]
  | i :: x, l => by
    simp only [apartN]
    split
    · rename_i h; rw [memN_iff] at h; simp [h]
    · rename_i h
      have : i ∉ l := fun hm => by rw [(memN_iff i l).2 hm] at h; cases h
      rw [apartN_iff x l]; simp [this]

theorem noneLooks_is {ow : List Nat} : ∀ {u : List Rec}, noneLooks ow u = true → ∀ r ∈ u, ∃ l, r.dom = some l ∧ ∀ b ∈ ow, b ∉ l
  | [], _, r, hr => by simp at hr
  | q :: u, h, r, hr => by
    simp only [noneLooks] at h
    split at h
    · simp at h
    · rename_i l hl
      split at h
      · rename_i ha
        rcases List.mem_cons.1 hr with rfl | hr
        · exact ⟨l, hl, (apartN_iff _ _).1 ha⟩
        · exact noneLooks_is h r hr
      · simp at h

theorem oldOf_is {n m : Nat} : ∀ {l r : List Nat}, oldOf n m l = some r → (∀ b ∈ l, b < m) ∧ ∀ b, b ∈ r ↔ b ∈ l ∧ b < n
  | [], r, h => by simp only [oldOf, Option.some.injEq] at h; subst h; simp
  | i :: l, r, h => by
    simp only [oldOf] at h
    split at h
    · rename_i r' hm hr
      simp only [blt_eq, decide_eq_true_eq] at hm
      obtain ⟨k1, k2⟩ := oldOf_is hr
      refine ⟨fun b hb => ?_, fun b => ?_⟩
      · rcases List.mem_cons.1 hb with rfl | hb
        · exact hm
        · exact k1 b hb
      · split at h
        · rename_i hn
          simp only [blt_eq, decide_eq_true_eq] at hn
          simp only [Option.some.injEq] at h
          subst h
          simp only [List.mem_cons, k2]
          constructor
          · rintro (rfl | ⟨h1, h2⟩)
            · exact ⟨.inl rfl, hn⟩
            · exact ⟨.inr h1, h2⟩
          · rintro ⟨rfl | h1, h2⟩
            · exact .inl rfl
            · exact .inr ⟨h1, h2⟩
        · rename_i hn
          simp only [blt_eq, decide_eq_false_iff_not] at hn
          simp only [Option.some.injEq] at h
          subst h
          simp only [k2, List.mem_cons]
          constructor
          · rintro ⟨h1, h2⟩; exact ⟨.inr h1, h2⟩
          · rintro ⟨rfl | h1, h2⟩
            · exact absurd h2 hn
            · exact ⟨h1, h2⟩
    · simp at h

theorem allIn_is {h : Tree Blk} : ∀ {l : List Nat}, allIn h l = true → ∀ b ∈ l, h.get b ≠ none
  | [], _, b, hb => by simp at hb
  | i :: l, hh, b, hb => by
    simp only [allIn] at hh
    split at hh
    · rename_i B hB
      rcases List.mem_cons.1 hb with rfl | hb
      · simp [hB]
      · exact allIn_is hh b hb
    · simp at hh

theorem without_out {β : Type} : ∀ (is : List Nat) (h : Tree Blk) (out : List (Nat × Blk)) (K : Tree Blk → List (Nat × Blk) → Option β) (r : β), without h is out K = some r →
    ∃ h' out', K h' out' = some r ∧ (∀ b, h'.get b = if b ∈ is then none else h.get b) ∧ (∀ b B, (b, B) ∈ out' ↔ (b, B) ∈ out ∨ (b ∈ is ∧ h.get b = some B))
  | [], h, out, K, r, hh => ⟨h, out, hh, fun b => by simp, fun b B => by simp⟩
  | i :: is, h, out, K, r, hh => by
    simp only [without] at hh
    split at hh
    · rename_i B0 hB0
      obtain ⟨t, hk, hg⟩ := Tree.put_some _ _ _ _ _ _ hh
      obtain ⟨h', out', k1, k2, k3⟩ := without_out is t _ K r hk
      refine ⟨h', out', k1, fun b => ?_, fun b B => ?_⟩
      · rw [k2, hg]
        by_cases hb : b = i <;> by_cases hb2 : b ∈ is <;> simp [hb, hb2]
      · rw [k3, hg]
        simp only [List.mem_cons, Prod.mk.injEq]
        by_cases hb : b = i
        · subst hb
          simp only [true_and, if_true, hB0, Option.some.injEq, true_or, true_and]
          constructor
          · rintro ((rfl | h1) | ⟨_, h1⟩)
            · exact .inr rfl
            · exact .inl h1
            · cases h1
          · rintro (h1 | rfl)
            · exact .inl (.inr h1)
            · exact .inl (.inl rfl)
        · simp [hb]
    · rename_i hB0
      obtain ⟨h', out', k1, k2, k3⟩ := without_out is h out K r hh
      refine ⟨h', out', k1, fun b => ?_, fun b B => ?_⟩
      · rw [k2]
        by_cases hb : b = i
        · subst hb; simp [hB0]
        · simp [hb]
      · rw [k3]
        by_cases hb : b = i
        · subst hb; simp [hB0]
        · simp [hb]

theorem back_out {β : Type} : ∀ (out : List (Nat × Blk)) (h : Tree Blk) (K : Tree Blk → Option β) (r : β), back h out K = some r →
    ∃ h', K h' = some r ∧ ∀ b, (∃ B, (b, B) ∈ out ∧ h'.get b = some B) ∨ ((∀ B, (b, B) ∉ out) ∧ h'.get b = h.get b)
  | [], h, K, r, hh => ⟨h, hh, fun b => .inr ⟨by simp, rfl⟩⟩
  | (i, B0) :: out, h, K, r, hh => by
    simp only [back] at hh
    obtain ⟨t, hk, hg⟩ := Tree.put_some _ _ _ _ _ _ hh
    obtain ⟨h', k1, k2⟩ := back_out out t K r hk
    refine ⟨h', k1, fun b => ?_⟩
    rcases k2 b with ⟨B, h1, h2⟩ | ⟨h1, h2⟩
    · exact .inl ⟨B, List.mem_cons_of_mem _ h1, h2⟩
    · by_cases hb : b = i
      · subst hb
        refine .inl ⟨B0, by simp, ?_⟩
        rw [h2, hg, if_pos rfl]
      · refine .inr ⟨fun B hm => ?_, ?_⟩
        · rcases List.mem_cons.1 hm with hm | hm
          · exact hb (by simpa using congrArg Prod.fst hm)
          · exact h1 B hm
        · rw [h2, hg, if_neg hb]

theorem recs_keep {rc : Nat → Rc} {R : Rc} {i n m : Nat} {recs : List Rec} (h : RecsOk rc i recs n) (hnm : n ≤ m) (h1 : R.ow = []) (h2 : R.lo = R.hi) (h3 : ∀ b, R.hin.get b = none) : RecsOk (upd rc i R) (i + 1) recs m := by
  refine ⟨fun j hj => ?_, fun r hr => ⟨Nat.le_trans (h.2 r hr).1 hnm, fun b hb => Nat.lt_of_lt_of_le ((h.2 r hr).2 b hb) hnm⟩⟩
  by_cases hji : j = i
  · subst hji
    simp only [upd, if_true]
    exact .inl ⟨h1, h2, h3⟩
  · simp only [upd, hji, if_false]
    exact h.1 j (by omega)

theorem recs_add {rc : Nat → Rc} {R : Rc} {i n m : Nat} {recs : List Rec} (h : RecsOk rc i recs n) (hnm : n ≤ m) {r : Rec} (h0 : r.i = i) (h1 : r.lo = R.lo) (h2 : r.hi = R.hi) (h3 : r.ow = R.ow)
    (h4 : ∀ l, r.dom = some l → ∀ b, R.hin.get b ≠ none → b ∈ l) (h5 : r.hi ≤ m) (h6 : ∀ b ∈ r.ow, b < m) : RecsOk (upd rc i R) (i + 1) (r :: recs) m := by
  refine ⟨fun j hj => ?_, fun q hq => ?_⟩
  · by_cases hji : j = i
    · subst hji
      simp only [upd, if_true]
      exact .inr ⟨r, by simp, h0, h1, h2, h3, h4⟩
    · simp only [upd, hji, if_false]
      rcases h.1 j (by omega) with h | ⟨q, hq, k⟩
      · exact .inl h
      · exact .inr ⟨q, by simp [hq], k⟩
  · rcases List.mem_cons.1 hq with rfl | hq
    · exact ⟨h5, h6⟩
    · exact ⟨Nat.le_trans (h.2 q hq).1 hnm, fun b hb => Nat.lt_of_lt_of_le ((h.2 q hq).2 b hb) hnm⟩

/-- What isn't excluded isn't touched by what is unordered. -/
theorem sep_in {rc : Nat → Rc} {i n pre : Nat} {recs : List Rec} (h : RecsOk rc i recs n) {j : Nat} (hj : j < i) (hp : pre.testBit j = false) {b : Nat} (hb : b ∉ exclOf (unordered pre recs)) :
    b ∉ (rc j).ow ∧ ¬ ((rc j).lo ≤ b ∧ b < (rc j).hi) := by
  rcases h.1 j hj with ⟨h1, h2, _⟩ | ⟨r, hr, h0, h1, h2, h3, _⟩
  · refine ⟨by simp [h1], by omega⟩
  · have hu : r ∈ unordered pre recs := (mem_unordered _ _ _).2 ⟨hr, by rw [h0]; exact hp⟩
    refine ⟨fun hm => hb ((mem_excl _ _).2 ⟨r, hu, .inr (by rw [h3]; exact hm)⟩), fun hm => hb ((mem_excl _ _).2 ⟨r, hu, .inl (by rw [h1, h2]; exact hm)⟩)⟩

theorem sep_ow {rc : Nat → Rc} {i n pre : Nat} {recs : List Rec} (h : RecsOk rc i recs n) {ow : List Nat} (hn : noneLooks ow (unordered pre recs) = true) {j : Nat} (hj : j < i) (hp : pre.testBit j = false) : ∀ b ∈ ow, (rc j).hin.get b = none := by
  intro b hb
  rcases h.1 j hj with ⟨_, _, h3⟩ | ⟨r, hr, h0, _, _, _, h4⟩
  · exact h3 b
  · have hu : r ∈ unordered pre recs := (mem_unordered _ _ _).2 ⟨hr, by rw [h0]; exact hp⟩
    obtain ⟨l, hl, hd⟩ := noneLooks_is hn r hu
    cases hc : (rc j).hin.get b with
    | none => rfl
    | some B => exact absurd (h4 l hl b (by simp [hc])) (hd b hb)

section
variable {P : Program} {E : Env} {call : CallF}

theorem draw_step (hE : EnvOk P E) (hC : CallFOk P E call) {all : List Oper} {pre : List Nat} {o : Oper} {rest : List Oper} {i : Nat} {recs : List Rec} {tm : Tm} {s : St} {r : Tm × St} {rc : Nat → Rc}
    (h : drawOps E call all pre (o :: rest) i recs tm s = some r) (hR : RecsOk rc i recs s.next) :
    ∃ R tm1 s1 recs1, drawOps E call all pre rest (i + 1) recs1 tm1 s1 = some r ∧ StepOk E call all pre rc R i o tm tm1 s s1 ∧ RecsOk (upd rc i R) (i + 1) recs1 s1.next := by
  simp only [drawOps] at h
  split at h
  · -- not wanted
    rename_i hw
    obtain ⟨tm1, hk, hsz, hat⟩ := putT_at h
    refine ⟨⟨false, tm, .leaf, .undef, .leaf, s.next, s.next, []⟩, tm1, s, recs, hk, ⟨hw.symm, rfl, rfl, rfl, Nat.le_refl _, by simp, fun _ => ⟨rfl, fun b => Tree.get_leaf b, rfl, rfl⟩, hat, hsz.1, hsz.2, fun b => ?_, fun b B hb => by simp [Tree.get_leaf] at hb, by simp, fun _ _ _ => rfl, fun j hj hp => ⟨fun b hb => absurd (Tree.get_leaf b) hb, by simp⟩, rfl⟩,
      recs_keep hR (Nat.le_refl _) rfl rfl (fun b => Tree.get_leaf b)⟩
    rw [if_neg (by simp only [List.not_mem_nil, false_or]; omega)]
  · rename_i hw
    split at h
    · -- pure
      split at h
      · rename_i v s1 hop
        split at h
        · rename_i hn
          simp only [beq_eq, decide_eq_true_eq] at hn
          obtain ⟨tm1, hk, hsz, hat⟩ := putT_at h
          have he := (sop_ok hE hop).1
          refine ⟨⟨true, tm, .leaf, v, s1.heap, s.next, s.next, []⟩, tm1, s, recs, hk, ⟨hw.symm, rfl, rfl, rfl, Nat.le_refl _, fun _ => ⟨s1.wr, by simp only [valS, hop]; rw [← hn]⟩, by simp, hat, hsz.1, hsz.2, fun b => ?_, fun b B hb => by simp [Tree.get_leaf] at hb, by simp, fun b hb _ => ?_, fun j hj hp => ⟨fun b hb => absurd (Tree.get_leaf b) hb, by simp⟩, rfl⟩,
            recs_keep hR (Nat.le_refl _) rfl rfl (fun b => Tree.get_leaf b)⟩
          · rw [if_neg (by simp only [List.not_mem_nil, false_or]; omega)]
          · show s1.heap.get b = Tree.leaf.get b
            rw [Tree.get_leaf]
            cases hc : s1.heap.get b with
            | none => rfl
            | some B =>
              have := he.dom b (by simp [hc])
              simp only [Tree.get_leaf, ne_eq, not_true, false_or] at this
              omega
        · simp at h
      · simp at h
    · -- it makes a block
      split at h
      · rename_i v s1 hop
        split at h
        · rename_i B hn hwr hB
          simp only [beq_eq, decide_eq_true_eq] at hn
          obtain ⟨hp1, hk1, hg⟩ := Tree.put_some _ _ _ _ _ _ h
          obtain ⟨tm1, hk, hsz, hat⟩ := putT_at hk1
          have he := (sop_ok hE hop).1
          refine ⟨⟨true, tm, .leaf, v, s1.heap, s.next, s1.next, []⟩, tm1, ⟨hp1, s1.next, s.wr⟩, _, hk, ⟨hw.symm, rfl, rfl, rfl, by simp only; omega, fun _ => ⟨s1.wr, by simp only [valS, hop]⟩, by simp, hat, hsz.1, hsz.2, fun b => ?_, fun b B hb => by simp [Tree.get_leaf] at hb, by simp, fun b hb _ => ?_, fun j hj hp => ⟨fun b hb => absurd (Tree.get_leaf b) hb, by simp⟩, rfl⟩,
            recs_add hR (by simp only; omega) rfl rfl rfl rfl (fun l hl b hb => absurd (Tree.get_leaf b) hb) (Nat.le_refl _) (by simp)⟩
          · show hp1.get b = _
            rw [hg]
            by_cases hb : b = s.next
            · subst hb
              rw [if_pos rfl, if_pos (.inr (by simp only; omega))]
              exact hB.symm
            · rw [if_neg hb, if_neg (by simp only [List.not_mem_nil, false_or]; omega)]
          · show s1.heap.get b = Tree.leaf.get b
            rw [Tree.get_leaf]
            cases hc : s1.heap.get b with
            | none => rfl
            | some B =>
              have := he.dom b (by simp [hc])
              simp only [Tree.get_leaf, ne_eq, not_true, false_or] at this
              exact absurd this hb
        · simp at h
      · simp at h
    · -- one block
      rename_i b hcls
      split at h
      · rename_i B hB
        split at h
        · simp at h
        · simp at h
        rename_i hex hbn
        simp only [blt_eq, decide_eq_true_eq] at hbn
        have hex' : b ∉ exclOf (unordered (pre.getD i 0) recs) := fun hm => by rw [(memN_iff _ _).2 hm] at hex; cases hex
        obtain ⟨h1, hk1, hg1⟩ := Tree.put_some _ _ _ _ _ _ h
        split at hk1
        · rename_i q s1 hop
          split at hk1
          · rename_i v hn hq
            simp only [beq_eq, decide_eq_true_eq] at hn
            have he := (sop_ok hE hop).1
            have hrun : ∃ wr, valS E call tm o ⟨h1, s.next, []⟩ = some (v, ⟨s1.heap, s.next, wr⟩) := by
              refine ⟨s1.wr, ?_⟩
              simp only [valS, hop]
              cases q with
              | val u => simp only [Option.some.injEq] at hq; subst hq; simp only; rw [← hn]
              | skip => simp only [Option.some.injEq] at hq; subst hq; simp only; rw [← hn]
              | enter f a => simp at hq
            have hin : ∀ c C, h1.get c = some C → c = b ∧ C = B := by
              intro c C hc
              rw [hg1] at hc
              by_cases hcb : c = b
              · simp only [hcb, if_true, Option.some.injEq] at hc; exact ⟨hcb, hc.symm⟩
              · simp [hcb, Tree.get_leaf] at hc
            have hinn : ∀ c C, h1.get c = some C → s.heap.get c = some C := by
              intro c C hc
              obtain ⟨rfl, rfl⟩ := hin c C hc
              exact hB
            have hne : ∀ c, h1.get c ≠ none → c = b := by
              intro c hc
              cases hcc : h1.get c with
              | none => exact absurd hcc hc
              | some C => exact (hin c C hcc).1
            split at hk1
            · rename_i hwr
              obtain ⟨tm1, hk, hsz, hat⟩ := putT_at hk1
              refine ⟨⟨true, tm, h1, v, s1.heap, s.next, s.next, []⟩, tm1, s, _, hk, ⟨hw.symm, rfl, rfl, rfl, Nat.le_refl _, fun _ => hrun, by simp, hat, hsz.1, hsz.2, fun c => ?_, hinn, by simp, fun c hc _ => ?_, fun j hj hp => ⟨fun c hc => ?_, by simp⟩, rfl⟩,
                recs_add hR (Nat.le_refl _) rfl rfl rfl rfl (fun l hl c hc => ?_) (Nat.le_refl _) (by simp)⟩
              · rw [if_neg (by simp only [List.not_mem_nil, false_or]; omega)]
              · obtain ⟨l, hl, hle⟩ := he.wr
                have : l = [] := by
                  have := hl.symm.trans hwr
                  simpa using this
                exact hle c (by simp only [hn]; omega) (by simp [this])
              · have := hne c hc
                subst this
                exact sep_in hR hj hp hex'
              · simp only [Option.some.injEq] at hl
                subst hl
                simp [hne c hc]
            · rename_i c hwr
              split at hk1
              · rename_i hcb hnl
                simp only [beq_eq, decide_eq_true_eq] at hcb
                subst hcb
                obtain ⟨h2, hk2, hg2⟩ := Tree.put_some _ _ _ _ _ _ hk1
                obtain ⟨tm1, hk, hsz, hat⟩ := putT_at hk2
                refine ⟨⟨true, tm, h1, v, s1.heap, s.next, s.next, [c]⟩, tm1, ⟨h2, s.next, c :: s.wr⟩, _, hk, ⟨hw.symm, rfl, rfl, rfl, Nat.le_refl _, fun _ => hrun, by simp, hat, hsz.1, hsz.2, fun d => ?_, hinn, fun d hd => ?_, fun d hd hdn => ?_, fun j hj hp => ⟨fun d hd => ?_, sep_ow hR hnl hj hp⟩, rfl⟩,
                  recs_add hR (Nat.le_refl _) rfl rfl rfl rfl (fun l hl d hd => ?_) (Nat.le_refl _) (by simpa using hbn)⟩
                · show h2.get d = _
                  rw [hg2]
                  by_cases hd : d = c
                  · subst hd; simp
                  · rw [if_neg hd, if_neg (by simp [hd])]
                · simp only [List.mem_singleton] at hd
                  subst hd
                  refine ⟨?_, hbn⟩
                  show h1.get d ≠ none
                  rw [hg1]; simp
                · obtain ⟨l, hl, hle⟩ := he.wr
                  have : l = [c] := by
                    have := hl.symm.trans hwr
                    simpa using this
                  exact hle d (by simp only [hn]; omega) (by rw [this]; exact hdn)
                · have := hne d hd
                  subst this
                  exact sep_in hR hj hp hex'
                · simp only [Option.some.injEq] at hl
                  subst hl
                  simp [hne d hd]
              · simp at hk1
            · simp at hk1
          · simp at hk1
        · simp at hk1
      · simp at h
    · -- any block
      split at h
      · rename_i hu
        split at h
        · rename_i v s1 hv
          split at h
          · simp at h
          rename_i ow how
          split at h
          · rename_i hall
            obtain ⟨tm1, hk, hsz, hat⟩ := putT_at h
            have he := (valS_ok hE hC hv).1
            obtain ⟨k1, k2⟩ := oldOf_is how
            have hle := he.next
            have hstay : ∀ b, ¬ (s.next ≤ b ∧ b < s1.next) → b ∉ ow → s1.heap.get b = s.heap.get b := by
              intro b hb hbo
              obtain ⟨l, hl, hsame⟩ := he.wr
              refine hsame b (by simp only at hle ⊢; omega) fun hm => ?_
              have hbw : b ∈ s1.wr := by rw [hl]; simpa using hm
              exact hbo ((k2 b).2 ⟨hbw, by have := k1 b hbw; simp only at hle; omega⟩)
            refine ⟨⟨true, tm, s.heap, v, s1.heap, s.next, s1.next, ow⟩, tm1, ⟨s1.heap, s1.next, appL ow s.wr⟩, _, hk, ⟨hw.symm, rfl, rfl, rfl, hle, fun _ => ⟨s1.wr, hv⟩, by simp, hat, hsz.1, hsz.2, fun b => ?_, fun _ _ hb => hb, fun b hb => ⟨allIn_is hall b hb, ((k2 b).1 hb).2⟩, hstay, fun j hj hp => ⟨fun b hb => ?_, ?_⟩, appL_eq _ _⟩,
              recs_add hR hle rfl rfl rfl rfl (by simp) (Nat.le_refl _) (fun b hb => Nat.lt_of_lt_of_le ((k2 b).1 hb).2 hle)⟩
            · by_cases hb : b ∈ ow ∨ (s.next ≤ b ∧ b < s1.next)
              · rw [if_pos hb]
              · rw [if_neg hb]
                simp only [not_or] at hb
                exact hstay b hb.2 hb.1
            · exact sep_in hR hj hp (by rw [hu]; simp [exclOf])
            · exact sep_ow hR (by rw [hu]; simp [noneLooks]) hj hp
          · simp at h
        · simp at h
      · rename_i u hu
        obtain ⟨h1, out, hk1, hg1, hout⟩ := without_out _ _ _ _ _ h
        split at hk1
        · rename_i v s1 hv
          split at hk1
          · simp at hk1
          rename_i ow how
          split at hk1
          · rename_i hall hnl
            obtain ⟨h2, hk2, hg2⟩ := back_out _ _ _ _ hk1
            obtain ⟨tm1, hk, hsz, hat⟩ := putT_at hk2
            have he := (valS_ok hE hC hv).1
            obtain ⟨k1, k2⟩ := oldOf_is how
            have hle := he.next
            have hstay : ∀ b, ¬ (s.next ≤ b ∧ b < s1.next) → b ∉ ow → s1.heap.get b = h1.get b := by
              intro b hb hbo
              obtain ⟨l, hl, hsame⟩ := he.wr
              refine hsame b (by simp only at hle ⊢; omega) fun hm => ?_
              have hbw : b ∈ s1.wr := by rw [hl]; simpa using hm
              exact hbo ((k2 b).2 ⟨hbw, by have := k1 b hbw; simp only at hle; omega⟩)
            have hsepow : ∀ j, j < i → (pre.getD i 0).testBit j = false → ∀ b ∈ ow, (rc j).hin.get b = none := by
              cases ow with
              | nil => intro j _ _ b hb; cases hb
              | cons c l => exact fun j hj hp => sep_ow hR hnl hj hp
            have hexl : ∀ b, b ∈ exclOf (unordered (pre.getD i 0) recs) → b < s.next := by
              intro b hb
              obtain ⟨r, hr, h3⟩ := (mem_excl _ _).1 hb
              have hr' := ((mem_unordered _ _ _).1 hr).1
              obtain ⟨h4, h5⟩ := hR.2 r hr'
              rcases h3 with h3 | h3
              · omega
              · exact h5 b h3
            have hinn : ∀ b B, h1.get b = some B → b ∉ exclOf (unordered (pre.getD i 0) recs) ∧ s.heap.get b = some B := by
              intro b B hb
              rw [hg1] at hb
              by_cases hm : b ∈ exclOf (unordered (pre.getD i 0) recs)
              · rw [if_pos hm] at hb; cases hb
              · rw [if_neg hm] at hb; exact ⟨hm, hb⟩
            refine ⟨⟨true, tm, h1, v, s1.heap, s.next, s1.next, ow⟩, tm1, ⟨h2, s1.next, appL ow s.wr⟩, _, hk, ⟨hw.symm, rfl, rfl, rfl, hle, fun _ => ⟨s1.wr, hv⟩, by simp, hat, hsz.1, hsz.2, fun b => ?_, fun b B hb => (hinn b B hb).2, fun b hb => ⟨allIn_is hall b hb, ((k2 b).1 hb).2⟩, hstay, fun j hj hp => ⟨fun b hb => ?_, hsepow j hj hp⟩, appL_eq _ _⟩,
              recs_add hR hle rfl rfl rfl rfl (by simp) (Nat.le_refl _) (fun b hb => Nat.lt_of_lt_of_le ((k2 b).1 hb).2 hle)⟩
            · show h2.get b = _
              rcases hg2 b with ⟨B, hm, hb⟩ | ⟨hm, hb⟩
              · have hx := (hout b B).1 hm
                simp only [List.not_mem_nil, false_or] at hx
                have hnot : ¬ (b ∈ ow ∨ (s.next ≤ b ∧ b < s1.next)) := by
                  rintro (h3 | h3)
                  · have h4 := allIn_is hall b h3
                    rw [hg1, if_pos hx.1] at h4
                    exact h4 rfl
                  · have := hexl b hx.1
                    omega
                show h2.get b = if b ∈ ow ∨ (s.next ≤ b ∧ b < s1.next) then _ else _
                rw [hb, if_neg hnot, hx.2]
              · rw [hb]
                by_cases hbo : b ∈ ow ∨ (s.next ≤ b ∧ b < s1.next)
                · rw [if_pos hbo]
                · rw [if_neg hbo]
                  simp only [not_or] at hbo
                  rw [hstay b hbo.2 hbo.1, hg1]
                  by_cases hm2 : b ∈ exclOf (unordered (pre.getD i 0) recs)
                  · rw [if_pos hm2]
                    cases hc : s.heap.get b with
                    | none => rfl
                    | some B => exact absurd ((hout b B).2 (.inr ⟨hm2, hc⟩)) (hm B)
                  · rw [if_neg hm2]
            · cases hc : h1.get b with
              | none => exact absurd hc hb
              | some B => exact sep_in hR hj hp (hinn b B hc).1
          · simp at hk1
        · simp at hk1

theorem StepOk.congr {all : List Oper} {pre : List Nat} {o : Oper} {i : Nat} {tm tm1 : Tm} {s s1 : St} {rc rc' : Nat → Rc} {R : Rc} (h : StepOk E call all pre rc R i o tm tm1 s s1) (hr : ∀ j, j < i → rc' j = rc j) :
    StepOk E call all pre rc' R i o tm tm1 s s1 :=
  ⟨h.wanted, h.tmEq, h.lo, h.hi, h.le, h.run, h.idle, h.slot, h.size, h.room, h.heap, h.inn, h.ow, h.stay, fun j hj hp => by rw [hr j hj]; exact h.sep j hj hp, h.wrs⟩

theorem draw_trace (hE : EnvOk P E) (hC : CallFOk P E call) {all : List Oper} {pre : List Nat} {tm' : Tm} {s' : St} : ∀ (rest : List Oper) (i : Nat) (recs : List Rec) (tm : Tm) (s : St) (rc : Nat → Rc), drawOps E call all pre rest i recs tm s = some (tm', s') → RecsOk rc i recs s.next →
    ∃ (rc' : Nat → Rc) (tms : Nat → Tm) (ss : Nat → St), (∀ j, j < i → rc' j = rc j) ∧ tms i = tm ∧ ss i = s ∧ tms (i + rest.length) = tm' ∧ ss (i + rest.length) = s' ∧
      ∀ k o, rest[k]? = some o → StepOk E call all pre rc' (rc' (i + k)) (i + k) o (tms (i + k)) (tms (i + k + 1)) (ss (i + k)) (ss (i + k + 1))
  | [], i, recs, tm, s, rc, h, hR => by
    simp only [drawOps, Option.some.injEq, Prod.mk.injEq] at h
    obtain ⟨rfl, rfl⟩ := h
    exact ⟨rc, fun _ => tm, fun _ => s, fun _ _ => rfl, rfl, rfl, rfl, rfl, fun k o hk => by simp at hk⟩
  | o :: rest, i, recs, tm, s, rc, h, hR => by
    obtain ⟨R, tm1, s1, recs1, h1, hst, hR1⟩ := draw_step hE hC h hR
    obtain ⟨rc', tms, ss, k1, k2, k3, k4, k5, k6⟩ := draw_trace hE hC rest (i + 1) recs1 tm1 s1 _ h1 hR1
    have hi : rc' i = R := by rw [k1 i (by omega)]; simp [upd]
    refine ⟨rc', fun j => if j = i then tm else tms j, fun j => if j = i then s else ss j, fun j hj => ?_, by simp, by simp, ?_, ?_, fun k q hk => ?_⟩
    · rw [k1 j (by omega)]
      simp only [upd]
      rw [if_neg (by omega)]
    · simp only [List.length_cons]
      rw [if_neg (by omega), show i + (rest.length + 1) = i + 1 + rest.length by omega]
      exact k4
    · simp only [List.length_cons]
      rw [if_neg (by omega), show i + (rest.length + 1) = i + 1 + rest.length by omega]
      exact k5
    · cases k with
      | zero =>
        simp only [List.getElem?_cons_zero, Option.some.injEq] at hk
        subst hk
        simp only [Nat.add_zero, if_true]
        rw [if_neg (by omega), if_neg (by omega), k2, k3, hi]
        refine hst.congr fun j hj => ?_
        rw [k1 j (by omega)]
        simp only [upd]
        rw [if_neg (by omega)]
      | succ k =>
        simp only [List.getElem?_cons_succ] at hk
        have := k6 k q hk
        simp only
        rw [if_neg (by omega), if_neg (by omega), if_neg (by omega), if_neg (by omega)]
        rw [show i + (k + 1) = i + 1 + k by omega]
        exact this
end

end Go.Proofs.Ytnkicnhjllmmjaa.Sx
