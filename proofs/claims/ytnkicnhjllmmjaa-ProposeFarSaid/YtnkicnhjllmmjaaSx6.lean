/- What the evaluator does to its memory, the model does to its own. -/
import Derived.Test.YtnkicnhjllmmjaaSx5
namespace Go.Proofs.Ytnkicnhjllmmjaa.Sx
open Go
set_option linter.unusedVariables false

/-- What a step may do to the evaluator's memory. -/
structure Eff (s s' : St) : Prop where
  next : s.next ≤ s'.next
  wr : ∃ l, s'.wr = l ++ s.wr ∧ ∀ i, i < s.next ∨ s'.next ≤ i → i ∉ l → s'.heap.get i = s.heap.get i
  dom : ∀ i, s'.heap.get i ≠ none → s.heap.get i ≠ none ∨ (s.next ≤ i ∧ i < s'.next)

theorem Eff.refl (s : St) : Eff s s := ⟨Nat.le_refl _, ⟨[], rfl, fun _ _ _ => rfl⟩, fun _ h => .inl h⟩

theorem Eff.trans {s s1 s2 : St} (a : Eff s s1) (b : Eff s1 s2) : Eff s s2 where
  next := Nat.le_trans a.next b.next
  wr := by
    obtain ⟨l, h1, h2⟩ := a.wr
    obtain ⟨m, k1, k2⟩ := b.wr
    refine ⟨m ++ l, by rw [k1, h1, List.append_assoc], fun i hi hn => ?_⟩
    simp only [List.mem_append, not_or] at hn
    have n1 := a.next
    have n2 := b.next
    rw [k2 i (by omega) hn.1, h2 i (by omega) hn.2]
  dom i hi := by
    have h1 := a.next
    have h2 := b.next
    rcases b.dom i hi with h | h
    · rcases a.dom i h with h | h
      · exact .inl h
      · exact .inr (by omega)
    · exact .inr (by omega)

theorem new_out {β : Type} {s : St} {B : Blk} {K : Nat → St → Option β} {r : β} (h : new s B K = some r) :
    ∃ s1, K s.next s1 = some r ∧ s1.next = s.next + 1 ∧ s1.wr = s.wr ∧ (∀ j, s1.heap.get j = if j = s.next then some B else s.heap.get j) ∧ ∀ x ∈ B.cells, scalar x = true := by
  unfold new at h
  split at h
  · rename_i hs
    obtain ⟨t, hk, hg⟩ := Tree.put_some _ _ _ _ _ _ h
    rw [forceNat_eq] at hk
    exact ⟨_, hk, rfl, rfl, hg, (allScalar_iff _).1 hs⟩
  · simp at h

theorem wrt_out {β : Type} {s : St} {i o : Nat} {vs : List SV} {K : St → Option β} {r : β} (h : wrt s i o vs K = some r) :
    ∃ B cs s1, s.heap.get i = some B ∧ putL o B.cells vs = some cs ∧ K s1 = some r ∧ s1.next = s.next ∧ s1.wr = i :: s.wr ∧
      (∀ j, s1.heap.get j = if j = i then some ⟨B.elem, cs, B.exact⟩ else s.heap.get j) ∧ ∀ x ∈ vs, scalar x = true := by
  unfold wrt at h
  split at h
  · rename_i B hB
    split at h
    · rename_i cs hs hcs
      obtain ⟨t, hk, hg⟩ := Tree.put_some _ _ _ _ _ _ h
      exact ⟨B, cs, _, hB, hcs, hk, rfl, rfl, hg, (allScalar_iff _).1 hs⟩
    · simp at h
  · simp at h

theorem kill_out {β : Type} {s : St} {i : Nat} {K : St → Option β} {r : β} (h : kill s i K = some r) :
    ∃ s1, K s1 = some r ∧ s1.next = s.next ∧ s1.wr = i :: s.wr ∧ (∀ j, s1.heap.get j = if j = i then none else s.heap.get j) := by
  unfold kill at h
  obtain ⟨t, hk, hg⟩ := Tree.put_some _ _ _ _ _ _ h
  exact ⟨_, hk, rfl, rfl, hg⟩

theorem Eff.new {s s1 : St} {B : Blk} (hn : s1.next = s.next + 1) (hw : s1.wr = s.wr) (hg : ∀ j, s1.heap.get j = if j = s.next then some B else s.heap.get j) : Eff s s1 where
  next := by omega
  wr := ⟨[], by simp [hw], fun i hi _ => by rw [hg, if_neg (by omega)]⟩
  dom i hi := by
    rw [hg] at hi
    by_cases h : i = s.next
    · exact .inr (by omega)
    · rw [if_neg h] at hi; exact .inl hi

theorem Eff.set {s s1 : St} {i : Nat} {B B' : Blk} (hB : s.heap.get i = some B) (hn : s1.next = s.next) (hw : s1.wr = i :: s.wr) (hg : ∀ j, s1.heap.get j = if j = i then some B' else s.heap.get j) : Eff s s1 where
  next := by omega
  wr := ⟨[i], by simp [hw], fun j hj hm => by rw [hg, if_neg (by simpa using hm)]⟩
  dom j hj := by
    rw [hg] at hj
    by_cases h : j = i
    · subst h; exact .inl (by simp [hB])
    · rw [if_neg h] at hj; exact .inl hj

theorem Eff.kill {s s1 : St} {i : Nat} (hn : s1.next = s.next) (hw : s1.wr = i :: s.wr) (hg : ∀ j, s1.heap.get j = if j = i then none else s.heap.get j) : Eff s s1 where
  next := by omega
  wr := ⟨[i], by simp [hw], fun j hj hm => by rw [hg, if_neg (by simpa using hm)]⟩
  dom j hj := by
    rw [hg] at hj
    by_cases h : j = i
    · simp [h] at hj
    · rw [if_neg h] at hj; exact .inl hj

/-! ### Worlds -/
/-- All but the heap and the count of draws is as it was. -/
structure Calm (w w' : World) : Prop where
  os : w'.os = w.os
  tape : w'.tape = w.tape
  output : w'.output = w.output

theorem Calm.refl (w : World) : Calm w w := ⟨rfl, rfl, rfl⟩
theorem Calm.alloc (w : World) (o : Obj) : Calm w (w.alloc o) := ⟨rfl, rfl, rfl⟩
theorem Calm.drew (w : World) : Calm w w.drew := ⟨rfl, rfl, rfl⟩
theorem Calm.trans {a b c : World} (h : Calm a b) (k : Calm b c) : Calm a c := ⟨k.os.trans h.os, k.tape.trans h.tape, k.output.trans h.output⟩

theorem Fits.same {φ : Asg} {h h' : Tree Blk} {w : World} (hf : Fits φ h w) (hg : ∀ j B, h'.get j = some B → h.get j = some B) : Fits φ h' w where
  blk i B hB := hf.blk i B (hg i B hB)
  inj i j b y z hi hj := by
    refine hf.inj i j b y z ?_ ?_
    · intro hn
      cases hc : h'.get i with
      | none => exact hi hc
      | some B => rw [hg i B hc] at hn; cases hn
    · intro hn
      cases hc : h'.get j with
      | none => exact hj hc
      | some B => rw [hg j B hc] at hn; cases hn
  lt := hf.lt

theorem Fits.heap {φ : Asg} {h : Tree Blk} {w w' : World} (hf : Fits φ h w) (hw : w'.heap = w.heap) : Fits φ h w' where
  blk i B hB := by rw [hw]; exact hf.blk i B hB
  inj := hf.inj
  lt i b z hi := by rw [hw]; exact hf.lt i b z hi

theorem Goes.heap {φ : Asg} {h : Tree Blk} {n : Nat} {w w' : World} (hw : w'.heap = w.heap) (hc : Calm w w') : Goes φ h n w φ h n w' :=
  ⟨.refl _, Nat.le_refl _, fun _ h => .inl h, fun _ _ _ => by rw [hw], fun i b z hi hb _ => ⟨i, z, hi, hb⟩, by rw [hw]; exact Nat.le_refl _, hc.os, hc.tape, hc.output⟩

def Asg.set (φ : Asg) (i : Nat) (x : Nat × Nat × Nat) : Asg := { φ with blk := fun j => if j = i then some x else φ.blk j }

theorem Asg.le_set {φ : Asg} {i : Nat} {x : Nat × Nat × Nat} (h : φ.blk i = none) : φ.Le (φ.set i x) := by
  refine ⟨fun j y hy => ?_, rfl, rfl⟩
  simp only [Asg.set]
  rw [if_neg]
  · exact hy
  · rintro rfl; rw [h] at hy; cases hy

/-- A new block. -/
theorem Fits.new {φ : Asg} {h h' : Tree Blk} {n n' i : Nat} {w w' : World} {B : Blk} {c : Array Value} {fr : Nat × Nat} {z : Nat} (hf : Fits φ h w) (hi : φ.blk i = none) (hn : n ≤ i) (hn' : i < n')
    (hg : ∀ j, h'.get j = if j = i then some B else h.get j) (hw : w'.heap = w.heap.push (.cells c B.elem fr)) (hc : Calm w w')
    (hz : c.size = z) (hx : B.exact = true → B.cells.length = z) (hl : B.cells.length ≤ z) (hr : VRels φ B.cells (c.toList.take B.cells.length)) (hfr : fr.2 ≤ fr.1 ∨ c.size ≤ fr.1) :
    Fits (φ.set i (w.heap.size, 0, z)) h' w' ∧ Goes φ h n w (φ.set i (w.heap.size, 0, z)) h' n' w' := by
  have hle : φ.Le (φ.set i (w.heap.size, 0, z)) := Asg.le_set hi
  have hat : ∀ b, b < w.heap.size → w'.heap[b]? = w.heap[b]? := fun b hb => by rw [hw, Array.getElem?_push, if_neg (by omega)]
  refine ⟨⟨fun j C hC => ?_, fun j k b y z' hj hk hjb hkb => ?_, fun j b z' hj => ?_⟩, ⟨hle, by omega, fun j hj => ?_, fun b hb _ => hat b hb, fun j b z' hj hjb hb => ?_, by rw [hw]; simp, hc.os, hc.tape, hc.output⟩⟩
  · rw [hg] at hC
    by_cases hji : j = i
    · subst hji
      simp only [if_true, Option.some.injEq] at hC
      subst hC
      refine ⟨w.heap.size, 0, z, by simp [Asg.set], c, fr, by rw [hw]; simp, by omega, fun hx' => ⟨hx hx', rfl⟩, hl, ?_, hfr⟩
      simpa using hr.mono hle
    · rw [if_neg hji] at hC
      obtain ⟨b, β, y, hb, hB⟩ := hf.blk j C hC
      refine ⟨b, β, y, by simp [Asg.set, hji, hb], ?_⟩
      rw [hat b (hf.lt j b _ hb)]
      exact hB.mono hle
  · simp only [Asg.set] at hjb hkb
    rw [hg] at hj hk
    by_cases hji : j = i <;> by_cases hki : k = i
    · omega
    · simp only [hji, if_true, Option.some.injEq, Prod.mk.injEq, hki, if_false] at hjb hkb
      have := hf.lt k b _ hkb
      omega
    · simp only [hji, if_true, Option.some.injEq, Prod.mk.injEq, hki, if_false] at hjb hkb
      have := hf.lt j b _ hjb
      omega
    · simp only [hji, hki, if_false] at hjb hkb hj hk
      exact hf.inj j k b y z' hj hk hjb hkb
  · simp only [Asg.set] at hj
    rw [hw, Array.size_push]
    by_cases hji : j = i
    · simp only [hji, if_true, Option.some.injEq, Prod.mk.injEq] at hj; omega
    · simp only [hji, if_false] at hj
      have := hf.lt j b _ hj
      omega
  · simp only [Asg.set] at hj
    by_cases hji : j = i
    · exact .inr (by omega)
    · simp only [hji, if_false] at hj; exact .inl hj
  · simp only [Asg.set] at hjb
    rw [hg] at hj
    by_cases hji : j = i
    · simp only [hji, if_true, Option.some.injEq, Prod.mk.injEq] at hjb; omega
    · simp only [hji, if_false] at hjb hj
      exact ⟨j, z', hj, hjb⟩

/-- A block of ours has other cells. -/
theorem Fits.write {φ : Asg} {h h' : Tree Blk} {n : Nat} {w w' : World} {i b β z : Nat} {B B' : Blk} {c : Array Value} {fr : Nat × Nat} (hf : Fits φ h w) (hB : h.get i = some B) (hb : φ.blk i = some (b, β, z))
    (hg : ∀ j, h'.get j = if j = i then some B' else h.get j) (hw : ∀ k, k ≠ b → w'.heap[k]? = w.heap[k]?) (hs : w'.heap.size = w.heap.size) (hc : Calm w w')
    (hr : BlkRel φ B' w'.heap[b]? β z) : Fits φ h' w' ∧ Goes φ h n w φ h' n w' := by
  refine ⟨⟨fun j C hC => ?_, fun j k d y z' hj hk => ?_, fun j d z' hj => by rw [hs]; exact hf.lt j d z' hj⟩,
    ⟨.refl _, Nat.le_refl _, fun _ h => .inl h, fun d _ hd => hw d fun e => hd i (β, z) (by simp [hB]) (by rw [hb, e]), fun j d z' hj hjd _ => ?_, by rw [hs]; exact Nat.le_refl _, hc.os, hc.tape, hc.output⟩⟩
  · rw [hg] at hC
    by_cases hji : j = i
    · subst hji
      simp only [if_true, Option.some.injEq] at hC
      subst hC
      exact ⟨b, β, z, hb, hr⟩
    · rw [if_neg hji] at hC
      obtain ⟨d, γ, y, hd, hD⟩ := hf.blk j C hC
      refine ⟨d, γ, y, hd, ?_⟩
      rw [hw d]
      · exact hD
      · rintro rfl
        exact hji (hf.inj j i d _ _ (by simp [hC]) (by simp [hB]) hd hb)
  · refine hf.inj j k d y z' ?_ ?_
    · rw [hg] at hj
      by_cases hji : j = i
      · subst hji; simp [hB]
      · rwa [if_neg hji] at hj
    · rw [hg] at hk
      by_cases hki : k = i
      · subst hki; simp [hB]
      · rwa [if_neg hki] at hk
  · rw [hg] at hj
    by_cases hji : j = i
    · subst hji; exact ⟨j, z', by simp [hB], hjd⟩
    · rw [if_neg hji] at hj; exact ⟨j, z', hj, hjd⟩

/-- A block of ours goes on under another number, from a place on. -/
theorem Fits.move {φ : Asg} {h h' : Tree Blk} {n n' i j b β z o : Nat} {w w' : World} {B B' : Blk} (hf : Fits φ h w) (hB : h.get i = some B) (hb : φ.blk i = some (b, β, z)) (hj : φ.blk j = none) (hn : n ≤ j) (hn' : j < n')
    (hg : ∀ k, h'.get k = if k = j then some B' else if k = i then none else h.get k) (hw : ∀ k, k ≠ b → w'.heap[k]? = w.heap[k]?) (hs : w'.heap.size = w.heap.size) (hc : Calm w w')
    (hr : BlkRel φ B' w'.heap[b]? (β + o) (z - o)) : Fits (φ.set j (b, β + o, z - o)) h' w' ∧ Goes φ h n w (φ.set j (b, β + o, z - o)) h' n' w' := by
  have hle : φ.Le (φ.set j (b, β + o, z - o)) := Asg.le_set hj
  have hbl := hf.lt i b _ hb
  have other : ∀ k, k ≠ i → h.get k ≠ none → ∀ d y, φ.blk k = some (d, y) → d ≠ b := by
    rintro k hk hh d y hd rfl
    exact hk (hf.inj k i d _ _ hh (by simp [hB]) hd hb)
  refine ⟨⟨fun k C hC => ?_, fun k l d y z' hk hl hkd hld => ?_, fun k d z' hk => ?_⟩, ⟨hle, by omega, fun k hk => ?_, fun d hd hnd => hw d fun e => hnd i (β, z) (by simp [hB]) (by rw [hb, e]), fun k d z' hk hkd hd => ?_, by rw [hs]; exact Nat.le_refl _, hc.os, hc.tape, hc.output⟩⟩
  · rw [hg] at hC
    by_cases hkj : k = j
    · subst hkj
      simp only [if_true, Option.some.injEq] at hC
      subst hC
      exact ⟨b, β + o, z - o, by simp [Asg.set], hr.mono hle⟩
    · rw [if_neg hkj] at hC
      by_cases hki : k = i
      · simp [hki] at hC
      · rw [if_neg hki] at hC
        obtain ⟨d, γ, y, hd, hD⟩ := hf.blk k C hC
        refine ⟨d, γ, y, by simp [Asg.set, hkj, hd], ?_⟩
        rw [hw d (other k hki (by simp [hC]) d _ hd)]
        exact hD.mono hle
  · rw [hg] at hk hl
    simp only [Asg.set] at hkd hld
    by_cases hkj : k = j <;> by_cases hlj : l = j
    · omega
    · simp only [hkj, hlj, if_true, if_false, Option.some.injEq, Prod.mk.injEq] at hk hl hkd hld
      by_cases hli : l = i
      · simp [hli] at hl
      · rw [if_neg hli] at hl
        exact absurd hkd.1.symm (other l hli hl d _ hld)
    · simp only [hkj, hlj, if_true, if_false, Option.some.injEq, Prod.mk.injEq] at hk hl hkd hld
      by_cases hki : k = i
      · simp [hki] at hk
      · rw [if_neg hki] at hk
        exact absurd hld.1.symm (other k hki hk d _ hkd)
    · simp only [hkj, hlj, if_false] at hk hl hkd hld
      by_cases hki : k = i
      · simp [hki] at hk
      · by_cases hli : l = i
        · simp [hli] at hl
        · rw [if_neg hki] at hk
          rw [if_neg hli] at hl
          exact hf.inj k l d y z' hk hl hkd hld
  · simp only [Asg.set] at hk
    rw [hs]
    by_cases hkj : k = j
    · simp only [hkj, if_true, Option.some.injEq, Prod.mk.injEq] at hk; omega
    · simp only [hkj, if_false] at hk
      exact hf.lt k d _ hk
  · simp only [Asg.set] at hk
    by_cases hkj : k = j
    · exact .inr (by omega)
    · simp only [hkj, if_false] at hk; exact .inl hk
  · simp only [Asg.set] at hkd
    rw [hg] at hk
    by_cases hkj : k = j
    · simp only [hkj, if_true, Option.some.injEq, Prod.mk.injEq] at hkd
      exact ⟨i, (β, z), by simp [hB], by rw [hb, hkd.1]⟩
    · simp only [hkj, if_false] at hk hkd
      by_cases hki : k = i
      · simp [hki] at hk
      · rw [if_neg hki] at hk
        exact ⟨k, z', hk, hkd⟩

theorem Fits.kill {φ : Asg} {h h' : Tree Blk} {n : Nat} {w : World} {i : Nat} (hf : Fits φ h w) (hg : ∀ j, h'.get j = if j = i then none else h.get j) : Fits φ h' w ∧ Goes φ h n w φ h' n w := by
  have hsub : ∀ j B, h'.get j = some B → h.get j = some B := by
    intro j B hj
    rw [hg] at hj
    by_cases hji : j = i
    · simp [hji] at hj
    · rwa [if_neg hji] at hj
  refine ⟨hf.same hsub, ⟨.refl _, Nat.le_refl _, fun _ h => .inl h, fun _ _ _ => rfl, fun j b z hj hb _ => ⟨j, z, ?_, hb⟩, Nat.le_refl _, rfl, rfl, rfl⟩⟩
  intro hn
  cases hc : h'.get j with
  | none => exact hj hc
  | some B => rw [hsub j B hc] at hn; cases hn

/-! ### Cells -/
theorem cell_at {w : World} {b : Nat} {c : Array Value} {e : TypeId} {fr : Nat × Nat} (hb : w.heap[b]? = some (.cells c e fr)) (k : Nat) : w.cell? ⟨b, k, none⟩ = c[k]? := by simp [World.cell?, hb]

/-- What is known of a block is there. -/
theorem Fits.cells {φ : Asg} {h : Tree Blk} {w : World} (hf : Fits φ h w) {i : Nat} {B : Blk} (hB : h.get i = some B) :
    ∃ b β z c fr, φ.blk i = some (b, β, z) ∧ w.heap[b]? = some (.cells c B.elem fr) ∧ c.size = β + z ∧ (B.exact = true → B.cells.length = z ∧ β = 0) ∧ B.cells.length ≤ z ∧
      VRels φ B.cells ((c.toList.drop β).take B.cells.length) ∧ (fr.2 ≤ fr.1 ∨ c.size ≤ fr.1) := by
  obtain ⟨b, β, z, hb, c, fr, h1, h2, h3, h4, h5, h6⟩ := hf.blk i B hB
  exact ⟨b, β, z, c, fr, hb, h1, h2, h3, h4, h5, h6⟩

theorem rd_out {s : St} {i o n : Nat} {l : List SV} (h : rd s i o n = some l) : ∃ B, s.heap.get i = some B ∧ l = (B.cells.drop o).take n ∧ o + n ≤ B.cells.length := by
  unfold rd at h
  split at h
  · rename_i B hB
    split at h
    · rename_i r hr
      obtain ⟨h1, h2⟩ := dropN_eq _ _ _ hr
      obtain ⟨h3, h4⟩ := takeN_eq _ _ _ h
      subst h1
      simp only [List.length_drop] at h4
      exact ⟨B, hB, h3, by omega⟩
    · simp at h
  · simp at h

/-- What is read is there. -/
theorem rd_rel {φ : Asg} {s : St} {w : World} (hf : Fits φ s.heap w) {i o n : Nat} {l : List SV} (h : rd s i o n = some l) :
    ∃ b β z vs, φ.blk i = some (b, β, z) ∧ l.length = n ∧ VRels φ l vs ∧ vs.length = n ∧ ∀ k v, vs[k]? = some v → w.cell? ((⟨b, β + o, none⟩ : Addr).add k) = some v := by
  obtain ⟨B, hB, rfl, hl⟩ := rd_out h
  obtain ⟨b, β, z, c, fr, hb, hw, h1, _, h2, h3, _⟩ := hf.cells hB
  have h4 := (h3.drop o).take n
  have e1 : ((List.take B.cells.length (List.drop β c.toList)).drop o).take n = (c.toList.drop (β + o)).take n := by
    rw [List.drop_take, List.drop_drop, List.take_take]
    congr 1
    omega
  rw [e1] at h4
  refine ⟨b, β, z, _, hb, by simp; omega, h4, by simp; omega, fun k v hv => ?_⟩
  rw [Addr.add_lit, cell_at hw]
  simp only [List.getElem?_take, List.getElem?_drop] at hv
  split at hv
  · simpa [Nat.add_assoc] using hv
  · cases hv

theorem frozen_free {w : World} {b : Nat} {c : Array Value} {e : TypeId} {fr : Nat × Nat} (hb : w.heap[b]? = some (.cells c e fr)) (hfr : fr.2 ≤ fr.1 ∨ c.size ≤ fr.1) (k : Nat) (hk : k < c.size) : w.frozen? ⟨b, k, none⟩ = false := by
  simp only [World.frozen?, hb, Bool.and_eq_false_iff, decide_eq_false_iff_not]
  omega

theorem run_storeCells_free (P : Program) (b o : Nat) (e : TypeId) (fr : Nat × Nat) : ∀ (vs : List Value) (i : Nat) (c : Array Value) (w : World), w.heap[b]? = some (.cells c e fr) → (fr.2 ≤ fr.1 ∨ c.size ≤ fr.1) →
    o + i + vs.length ≤ c.size → (∀ v ∈ vs, v.oneCell' = true) →
    ∃ c', c'.size = c.size ∧ (storeCells ⟨b, o, none⟩ vs i).run P w = .ok () (w.setRow b c') ∧ ∀ k, c'[k]? = if o + i ≤ k ∧ k < o + i + vs.length then vs[k - (o + i)]? else c[k]?
  | [], i, c, w, hb, hfr, hl, h1 => ⟨c, rfl, by rw [setRow_self w b c e fr hb]; rfl, fun k => by rw [if_neg (by simp)]⟩
  | v :: vs, i, c, w, hb, hfr, hl, h1 => by
    simp only [List.length_cons] at hl
    have hi : o + i < c.size := by omega
    have hcell : w.cell? ⟨b, o + i, none⟩ = some c[o + i] := by rw [cell_at hb, Array.getElem?_eq_getElem hi]
    have hst : (store ((⟨b, o, none⟩ : Addr).add i) v).run P w = .ok () (w.setRow b (c.setIfInBounds (o + i) v)) := by
      rw [Addr.add_lit, run_store P w _ v _ (h1 v (by simp)), hcell]
      simp [frozen_free hb hfr _ hi, setCell_eq_setRow w b (o + i) c e fr v hb]
    obtain ⟨c', hs', hr', hg'⟩ := run_storeCells_free P b o e fr vs (i + 1) (c.setIfInBounds (o + i) v) (w.setRow b (c.setIfInBounds (o + i) v)) (setRow_heap w b c _ e _ hb) (by simpa using hfr)
      (by simp; omega) (fun x hx => h1 x (by simp [hx]))
    refine ⟨c', by simpa using hs', ?_, fun k => ?_⟩
    · simp only [storeCells, Sem.run_bind, hst, Result.andThen_ok, hr', setRow_setRow]
    · rw [hg' k]
      simp only [List.length_cons]
      by_cases he : k = o + i
      · subst he
        rw [if_neg (by omega), if_pos (by omega)]
        simp [hi]
      · by_cases hk : o + (i + 1) ≤ k ∧ k < o + (i + 1) + vs.length
        · rw [if_pos hk, if_pos (by omega)]
          obtain ⟨d, hd⟩ : ∃ d, k - (o + i) = d + 1 := ⟨k - (o + i) - 1, by omega⟩
          rw [show k - (o + (i + 1)) = d by omega, hd]
          simp
        · rw [if_neg hk, if_neg (by omega), Array.getElem?_setIfInBounds_ne (by omega)]

theorem setRow_heap_ne (w : World) (b k : Nat) (c : Array Value) (h : k ≠ b) : (w.setRow b c).heap[k]? = w.heap[k]? := setRow_other w b k c h

theorem calm_setRow (w : World) (b : Nat) (c : Array Value) : Calm w (w.setRow b c) := ⟨rfl, rfl, rfl⟩

/-- A store of cells into a block of ours. -/
theorem wrt_run {φ : Asg} {s s1 : St} {w : World} (P : Program) (hf : Fits φ s.heap w) {i o : Nat} {xs cs : List SV} {B : Blk} (hB : s.heap.get i = some B) (hp : putL o B.cells xs = some cs)
    (hn : s1.next = s.next) (hg : ∀ j, s1.heap.get j = if j = i then some ⟨B.elem, cs, B.exact⟩ else s.heap.get j) {b β z : Nat} (hb : φ.blk i = some (b, β, z))
    {vs : List Value} (hv : VRels φ xs vs) (h1 : ∀ v ∈ vs, v.oneCell' = true) :
    ∃ w', (storeCells ⟨b, β + o, none⟩ vs).run P w = .ok () w' ∧ Fits φ s1.heap w' ∧ Goes φ s.heap s.next w φ s1.heap s1.next w' := by
  obtain ⟨b', β', z', c, fr, hb', hw, hz, hx, hl, hr, hfr⟩ := hf.cells hB
  rw [hb] at hb'
  simp only [Option.some.injEq, Prod.mk.injEq] at hb'
  obtain ⟨rfl, rfl, rfl⟩ := hb'
  obtain ⟨p1, p2, p3⟩ := putL_eq _ _ _ _ hp
  have hvl := hv.length
  obtain ⟨c', hs', hr', hg'⟩ := run_storeCells_free P b (β + o) B.elem fr vs 0 c w hw hfr (by omega) h1
  refine ⟨_, hr', ?_⟩
  rw [hn]
  refine hf.write hB hb hg (fun k hk => setRow_heap_ne w b k c' hk) (by simp) (calm_setRow w b c') (c := c) (fr := fr) ?_
  refine ⟨c', fr, setRow_heap w b c c' B.elem fr hw, by omega, fun h => ?_, by simp only [p1]; omega, ?_, by omega⟩
  · simp only [p1]; exact hx h
  · refine VRels.of_get (by simp [p1]; omega) fun k x v hk hv' => ?_
    rw [p3] at hk
    simp only [p1, List.getElem?_take, List.getElem?_drop, Array.getElem?_toList] at hv'
    rw [hg'] at hv'
    by_cases hin : o ≤ k ∧ k < o + xs.length
    · rw [if_pos hin] at hk
      split at hv'
      · rw [if_pos (by omega), show β + k - (β + o + 0) = k - o by omega] at hv'
        obtain ⟨u, hu, hxu⟩ := hv.get _ _ hk
        rw [hu] at hv'
        cases hv'
        exact hxu
      · cases hv'
    · rw [if_neg hin] at hk
      split at hv'
      · rw [if_neg (by omega)] at hv'
        obtain ⟨u, hu, hxu⟩ := hr.get _ _ hk
        simp only [List.getElem?_take, List.getElem?_drop, Array.getElem?_toList] at hu
        rw [if_pos (by have := (List.getElem?_eq_some_iff.1 hk).1; omega), hv'] at hu
        cases hu
        exact hxu
      · cases hv'

theorem VRels.one {φ : Asg} {xs : List SV} {vs : List Value} (h : VRels φ xs vs) (hs : ∀ x ∈ xs, scalar x = true) : ∀ v ∈ vs, v.oneCell' = true := by
  intro v hv
  obtain ⟨k, hk⟩ := List.mem_iff_getElem?.1 hv
  have hl := h.length
  have hkl := (List.getElem?_eq_some_iff.1 hk).1
  obtain ⟨u, hu, hr⟩ := h.get k xs[k] (List.getElem?_eq_getElem (by omega))
  rw [hk] at hu
  cases hu
  exact scalar_one hr (hs _ (List.getElem_mem _))

end Go.Proofs.Ytnkicnhjllmmjaa.Sx
