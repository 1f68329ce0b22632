/- A symbolic evaluator for the model's code: its values, its memory, what they stand for. No Go text here. -/
import Derived.Laws.Rows
import Derived.Laws.Entries
import Derived.Laws.Append
import Derived.Laws.CopyRow
import Derived.Laws.StructEq
import Derived.Orders
import Derived.Below
import Derived.WalkKit
namespace Go.Proofs.Ytnkicnhjllmmjaa.Sx
open Go
set_option linter.unusedVariables false

/-! ### Tries by numbers -/
inductive Tree (α : Type) where
  | leaf
  | node (l : Tree α) (v : Option α) (r : Tree α)

def Tree.get {α : Type} : Tree α → Nat → Option α
  | .leaf, _ => none
  | .node l v r, n => match n with
    | 0 => v
    | m + 1 => match m % 2 with
      | 0 => l.get (m / 2)
      | _ + 1 => r.get (m / 2)

/-- Behind a store the tree goes to K, its way written out. -/
def Tree.put {α β : Type} : Nat → Tree α → Nat → Option α → (Tree α → Option β) → Option β
  | 0, _, _, _, _ => none
  | f + 1, .leaf, n, v, K => match n with
    | 0 => K (.node .leaf v .leaf)
    | m + 1 => match m % 2 with
      | 0 => Tree.put f .leaf (m / 2) v fun l => K (.node l none .leaf)
      | _ + 1 => Tree.put f .leaf (m / 2) v fun r => K (.node .leaf none r)
  | f + 1, .node l x r, n, v, K => match n with
    | 0 => K (.node l v r)
    | m + 1 => match m % 2 with
      | 0 => Tree.put f l (m / 2) v fun l => K (.node l x r)
      | _ + 1 => Tree.put f r (m / 2) v fun r => K (.node l x r)

theorem Tree.get_leaf {α : Type} (n : Nat) : (Tree.leaf : Tree α).get n = none := by simp [Tree.get]

theorem Tree.get_node0 {α : Type} (l r : Tree α) (v : Option α) : (Tree.node l v r).get 0 = v := by simp [Tree.get]

theorem Tree.get_node1 {α : Type} (l r : Tree α) (v : Option α) (m : Nat) :
    (Tree.node l v r).get (m + 1) = if m % 2 = 0 then l.get (m / 2) else r.get (m / 2) := by
  simp only [Tree.get]
  split <;> rename_i h <;> simp [h]

theorem Tree.put_some {α β : Type} (f : Nat) : ∀ (t : Tree α) (n : Nat) (v : Option α) (K : Tree α → Option β) (b : β),
    Tree.put f t n v K = some b → ∃ t', K t' = some b ∧ ∀ m, t'.get m = if m = n then v else t.get m := by
  induction f with
  | zero => intro t n v K b h; simp [Tree.put] at h
  | succ f ih =>
    intro t n v K b h
    have go : ∀ (l r : Tree α) (x : Option α), (∀ m, t.get m = (Tree.node l x r).get m) →
        (match (generalizing := false) n with
          | 0 => K (.node l v r)
          | m + 1 => match (generalizing := false) m % 2 with
            | 0 => Tree.put f l (m / 2) v fun l => K (.node l x r)
            | _ + 1 => Tree.put f r (m / 2) v fun r => K (.node l x r)) = some b →
        ∃ t', K t' = some b ∧ ∀ m, t'.get m = if m = n then v else t.get m := by
      intro l r x ht h
      cases n with
      | zero =>
        refine ⟨_, h, fun m => ?_⟩
        cases m with
        | zero => simp [Tree.get_node0]
        | succ m => simp [ht, Tree.get_node1]
      | succ n =>
        simp only at h
        split at h
        · rename_i hn
          obtain ⟨t', hk, hg⟩ := ih _ _ _ _ _ h
          refine ⟨_, hk, fun m => ?_⟩
          cases m with
          | zero => simp [ht, Tree.get_node0]
          | succ m =>
            rw [ht, Tree.get_node1, Tree.get_node1, hg]
            by_cases hm : m % 2 = 0
            · rw [if_pos hm, if_pos hm]
              by_cases he : m = n
              · subst he; simp
              · rw [if_neg (by omega), if_neg (by omega)]
            · rw [if_neg hm, if_neg hm, if_neg (by omega)]
        · rename_i k hn
          obtain ⟨t', hk, hg⟩ := ih _ _ _ _ _ h
          refine ⟨_, hk, fun m => ?_⟩
          cases m with
          | zero => simp [ht, Tree.get_node0]
          | succ m =>
            rw [ht, Tree.get_node1, Tree.get_node1, hg]
            by_cases hm : m % 2 = 0
            · rw [if_pos hm, if_pos hm, if_neg (by omega)]
            · rw [if_neg hm, if_neg hm]
              by_cases he : m = n
              · subst he; simp
              · rw [if_neg (by omega), if_neg (by omega)]
    cases t with
    | leaf =>
      refine go .leaf .leaf none (fun m => ?_) (by simpa [Tree.put] using h)
      cases m with
      | zero => simp [Tree.get_leaf, Tree.get_node0]
      | succ m => simp [Tree.get_leaf, Tree.get_node1]
    | node l x r => exact go l r x (fun _ => rfl) (by simpa [Tree.put] using h)

/-! ### Values -/
inductive Cap where
  /-- just so many -/
  | exact (c : Nat)
  /-- to the end of its block, of elements of so many cells -/
  | tail (es : Nat)
  deriving DecidableEq

inductive SV where
  | bool (b : Bool)
  | int (k : IntKind) (n : Int)
  /-- a number that isn't known, and c more -/
  | symI (i : Nat) (c : Int)
  | str (l : List Nat)
  /-- a text that isn't known -/
  | symS (i : Nat)
  | nilPtr
  | ptr (i o : Nat)
  | nilSl
  /-- no element, somewhere -/
  | emp (cap : Option Nat)
  | sl (i o n : Nat) (cap : Cap)
  /-- no element, at the end of what is known of a block: there, or anywhere if there is no room -/
  | etl (i o es : Nat)
  | fn (f : Fn) (first captured : List SV)
  | nilFn
  | iface (t : Nat) (v : SV)
  | nilIf
  | agg (cs : List SV)
  | tup (cs : List SV)
  deriving Inhabited

def SV.undef : SV := .tup []

/-- What an assignment of blocks and of what isn't known says. -/
structure Asg where
  /-- of a block of ours: which one it is, from where on, with how many cells -/
  blk : Nat → Option (Nat × Nat × Nat)
  num : Nat → Int
  txt : Nat → ByteArray

def CapOk (cap : Cap) (o n c z : Nat) : Prop :=
  match cap with
  | .exact k => c = k ∧ n ≤ k
  | .tail es => 0 < es ∧ n ≤ c ∧ o + c * es = z

def bytesOf (l : List Nat) : ByteArray := ⟨(l.map Nat.toUInt8).toArray⟩

mutual
def VRel (φ : Asg) : SV → Value → Prop
  | .bool b, V => V = .bool b
  | .int k n, V => V = .int k n
  | .symI i c, V => V = .int .i64 (φ.num i + c)
  | .str l, V => V = .string (bytesOf l) ∧ ∀ x ∈ l, x < 256
  | .symS i, V => V = .string (φ.txt i)
  | .nilPtr, V => V = .pointer none
  | .ptr i o, V => ∃ b β z, φ.blk i = some (b, β, z) ∧ V = .pointer (some ⟨b, β + o, none⟩)
  | .nilSl, V => V = .slice none 0 0
  | .emp oc, V => ∃ a c, V = .slice (some a) 0 c ∧ ∀ k, oc = some k → c = k
  | .sl i o n cap, V => ∃ b β z c, φ.blk i = some (b, β, z) ∧ V = .slice (some ⟨b, β + o, none⟩) n c ∧ CapOk cap o n c z
  | .etl i o es, V => ∃ b β z a c, φ.blk i = some (b, β, z) ∧ V = .slice (some a) 0 c ∧ 0 < es ∧ o + c * es = z ∧ (0 < c → a = ⟨b, β + o, none⟩)
  | .fn f xs ys, V => ∃ as bs, V = .func f as bs ∧ VRels φ xs as.toList ∧ VRels φ ys bs.toList
  | .nilFn, V => V = .nilFunc
  | .iface t v, V => ∃ u, V = .iface t u ∧ VRel φ v u
  | .nilIf, V => V = .nilIface
  | .agg cs, V => ∃ vs, V = .agg vs ∧ VRels φ cs vs.toList
  | .tup cs, V => ∃ vs, V = .tuple vs ∧ VRels φ cs vs.toList
def VRels (φ : Asg) : List SV → List Value → Prop
  | [], [] => True
  | x :: xs, v :: vs => VRel φ x v ∧ VRels φ xs vs
  | [], _ :: _ => False
  | _ :: _, [] => False
end

/-- More is assigned, the same to what was. -/
structure Asg.Le (φ ψ : Asg) : Prop where
  blk : ∀ i x, φ.blk i = some x → ψ.blk i = some x
  num : ψ.num = φ.num
  txt : ψ.txt = φ.txt

theorem Asg.Le.refl (φ : Asg) : φ.Le φ := ⟨fun _ _ h => h, rfl, rfl⟩
theorem Asg.Le.trans {φ ψ χ : Asg} (h : φ.Le ψ) (k : ψ.Le χ) : φ.Le χ := ⟨fun i x hx => k.blk i x (h.blk i x hx), k.num.trans h.num, k.txt.trans h.txt⟩

mutual
theorem VRel.mono {φ ψ : Asg} (h : φ.Le ψ) : ∀ (x : SV) (V : Value), VRel φ x V → VRel ψ x V
  | .bool b, V, hv => by simpa [VRel] using hv
  | .int k n, V, hv => by simpa [VRel] using hv
  | .symI i c, V, hv => by simpa [VRel, h.num] using hv
  | .str l, V, hv => by simpa [VRel] using hv
  | .symS i, V, hv => by simpa [VRel, h.txt] using hv
  | .nilPtr, V, hv => by simpa [VRel] using hv
  | .ptr i o, V, hv => by
    simp only [VRel] at hv ⊢
    obtain ⟨b, β, z, hb, hv⟩ := hv
    exact ⟨b, β, z, h.blk _ _ hb, hv⟩
  | .nilSl, V, hv => by simpa [VRel] using hv
  | .emp oc, V, hv => by simpa [VRel] using hv
  | .sl i o n cap, V, hv => by
    simp only [VRel] at hv ⊢
    obtain ⟨b, β, z, c, hb, hv⟩ := hv
    exact ⟨b, β, z, c, h.blk _ _ hb, hv⟩
  | .etl i o es, V, hv => by
    simp only [VRel] at hv ⊢
    obtain ⟨b, β, z, a, c, hb, hv⟩ := hv
    exact ⟨b, β, z, a, c, h.blk _ _ hb, hv⟩
  | .fn f xs ys, V, hv => by
    simp only [VRel] at hv ⊢
    obtain ⟨as, bs, hv, h1, h2⟩ := hv
    exact ⟨as, bs, hv, VRels.mono h _ _ h1, VRels.mono h _ _ h2⟩
  | .nilFn, V, hv => by simpa [VRel] using hv
  | .iface t v, V, hv => by
    simp only [VRel] at hv ⊢
    obtain ⟨u, hv, h1⟩ := hv
    exact ⟨u, hv, VRel.mono h _ _ h1⟩
  | .nilIf, V, hv => by simpa [VRel] using hv
  | .agg cs, V, hv => by
    simp only [VRel] at hv ⊢
    obtain ⟨vs, hv, h1⟩ := hv
    exact ⟨vs, hv, VRels.mono h _ _ h1⟩
  | .tup cs, V, hv => by
    simp only [VRel] at hv ⊢
    obtain ⟨vs, hv, h1⟩ := hv
    exact ⟨vs, hv, VRels.mono h _ _ h1⟩
theorem VRels.mono {φ ψ : Asg} (h : φ.Le ψ) : ∀ (xs : List SV) (vs : List Value), VRels φ xs vs → VRels ψ xs vs
  | [], [], _ => by simp [VRels]
  | x :: xs, v :: vs, hv => by
    simp only [VRels] at hv ⊢
    exact ⟨VRel.mono h _ _ hv.1, VRels.mono h _ _ hv.2⟩
  | [], _ :: _, hv => by simp [VRels] at hv
  | _ :: _, [], hv => by simp [VRels] at hv
end

theorem VRels.length {φ : Asg} : ∀ {xs : List SV} {vs : List Value}, VRels φ xs vs → vs.length = xs.length
  | [], [], _ => rfl
  | x :: xs, v :: vs, h => by simp only [VRels] at h; simp [VRels.length h.2]
  | [], _ :: _, h => by simp [VRels] at h
  | _ :: _, [], h => by simp [VRels] at h

theorem VRels.get {φ : Asg} : ∀ {xs : List SV} {vs : List Value}, VRels φ xs vs → ∀ (i : Nat) (x : SV), xs[i]? = some x → ∃ v, vs[i]? = some v ∧ VRel φ x v
  | [], [], _, i, x, hx => by simp at hx
  | x :: xs, v :: vs, h, i, y, hy => by
    simp only [VRels] at h
    cases i with
    | zero => simp at hy; subst hy; exact ⟨v, rfl, h.1⟩
    | succ i => simpa using VRels.get h.2 i y (by simpa using hy)
  | [], _ :: _, h, _, _, _ => by simp [VRels] at h
  | _ :: _, [], h, _, _, _ => by simp [VRels] at h

theorem VRels.of_get {φ : Asg} : ∀ {xs : List SV} {vs : List Value}, vs.length = xs.length → (∀ (i : Nat) (x : SV) (v : Value), xs[i]? = some x → vs[i]? = some v → VRel φ x v) → VRels φ xs vs
  | [], [], _, _ => by simp [VRels]
  | x :: xs, v :: vs, hl, h => by
    simp only [VRels]
    exact ⟨h 0 x v rfl rfl, VRels.of_get (by simpa using hl) fun i y u hy hu => h (i + 1) y u (by simpa using hy) (by simpa using hu)⟩
  | [], _ :: _, hl, _ => by simp at hl
  | _ :: _, [], hl, _ => by simp at hl

theorem VRels.append {φ : Asg} : ∀ {xs ys : List SV} {vs us : List Value}, VRels φ xs vs → VRels φ ys us → VRels φ (xs ++ ys) (vs ++ us)
  | [], ys, [], us, _, k => by simpa using k
  | x :: xs, ys, v :: vs, us, h, k => by
    simp only [VRels, List.cons_append] at h ⊢
    exact ⟨h.1, VRels.append h.2 k⟩
  | [], _, _ :: _, _, h, _ => by simp [VRels] at h
  | _ :: _, _, [], _, h, _ => by simp [VRels] at h

theorem VRels.take {φ : Asg} : ∀ (n : Nat) {xs : List SV} {vs : List Value}, VRels φ xs vs → VRels φ (xs.take n) (vs.take n)
  | 0, _, _, _ => by simp [VRels]
  | n + 1, [], [], _ => by simp [VRels]
  | n + 1, x :: xs, v :: vs, h => by
    simp only [VRels, List.take_succ_cons] at h ⊢
    exact ⟨h.1, VRels.take n h.2⟩
  | _ + 1, [], _ :: _, h => by simp [VRels] at h
  | _ + 1, _ :: _, [], h => by simp [VRels] at h

theorem VRels.drop {φ : Asg} : ∀ (n : Nat) {xs : List SV} {vs : List Value}, VRels φ xs vs → VRels φ (xs.drop n) (vs.drop n)
  | 0, _, _, h => by simpa using h
  | n + 1, [], [], _ => by simp [VRels]
  | n + 1, x :: xs, v :: vs, h => by
    simp only [VRels, List.drop_succ_cons] at h ⊢
    exact VRels.drop n h.2
  | _ + 1, [], _ :: _, h => by simp [VRels] at h
  | _ + 1, _ :: _, [], h => by simp [VRels] at h

/-! ### Memory -/
structure Blk where
  elem : Nat
  cells : List SV
  /-- no cell more -/
  exact : Bool

structure St where
  heap : Tree Blk
  next : Nat
  /-- numbers of blocks that were written -/
  wr : List Nat

/-- What a block of the world has from a place on, of which so much is known. -/
def BlkRel (φ : Asg) (B : Blk) (oo : Option Obj) (β z : Nat) : Prop :=
  ∃ c fr, oo = some (.cells c B.elem fr) ∧ c.size = β + z ∧ (B.exact = true → B.cells.length = z ∧ β = 0) ∧ B.cells.length ≤ z ∧
    VRels φ B.cells ((c.toList.drop β).take B.cells.length) ∧ (fr.2 ≤ fr.1 ∨ c.size ≤ fr.1)

structure Fits (φ : Asg) (h : Tree Blk) (w : World) : Prop where
  blk : ∀ i B, h.get i = some B → ∃ b β z, φ.blk i = some (b, β, z) ∧ BlkRel φ B w.heap[b]? β z
  inj : ∀ i j b y z, h.get i ≠ none → h.get j ≠ none → φ.blk i = some (b, y) → φ.blk j = some (b, z) → i = j
  lt : ∀ i b z, φ.blk i = some (b, z) → b < w.heap.size

/-- From a world to a later one, by what may touch the blocks of h alone. -/
structure Goes (φ : Asg) (h : Tree Blk) (n : Nat) (w : World) (φ' : Asg) (h' : Tree Blk) (n' : Nat) (w' : World) : Prop where
  le : φ.Le φ'
  nn : n ≤ n'
  dom : ∀ i, φ'.blk i ≠ none → φ.blk i ≠ none ∨ (n ≤ i ∧ i < n')
  keep : ∀ b, b < w.heap.size → (∀ i z, h.get i ≠ none → φ.blk i ≠ some (b, z)) → w'.heap[b]? = w.heap[b]?
  old : ∀ i b z, h'.get i ≠ none → φ'.blk i = some (b, z) → b < w.heap.size → ∃ j y, h.get j ≠ none ∧ φ.blk j = some (b, y)
  size : w.heap.size ≤ w'.heap.size
  os : w'.os = w.os
  tape : w'.tape = w.tape
  output : w'.output = w.output

theorem Goes.refl (φ : Asg) (h : Tree Blk) (n : Nat) (w : World) : Goes φ h n w φ h n w :=
  ⟨.refl _, Nat.le_refl _, fun _ h => .inl h, fun _ _ _ => rfl, fun i b z hi hb _ => ⟨i, z, hi, hb⟩, Nat.le_refl _, rfl, rfl, rfl⟩

theorem Goes.trans {φ φ' φ'' : Asg} {h h' h'' : Tree Blk} {n n' n'' : Nat} {w w' w'' : World}
    (a : Goes φ h n w φ' h' n' w') (b : Goes φ' h' n' w' φ'' h'' n'' w'') : Goes φ h n w φ'' h'' n'' w'' where
  le := a.le.trans b.le
  nn := Nat.le_trans a.nn b.nn
  dom i hi := by
    have h1 := a.nn
    have h2 := b.nn
    rcases b.dom i hi with h | h
    · rcases a.dom i h with h | h
      · exact .inl h
      · exact .inr (by omega)
    · exact .inr (by omega)
  keep k hk hn := by
    have h1 := a.size
    rw [b.keep k (by omega) (fun i z hi hz => by
      obtain ⟨j, y, hj, hy⟩ := a.old i k z hi hz hk
      exact hn j y hj hy)]
    exact a.keep k hk hn
  old i k z hi hz hk := by
    have h1 := a.size
    obtain ⟨j, y, hj, hy⟩ := b.old i k z hi hz (by omega)
    exact a.old j k y hj hy hk
  size := Nat.le_trans a.size b.size
  os := b.os.trans a.os
  tape := b.tape.trans a.tape
  output := b.output.trans a.output

theorem BlkRel.mono {φ ψ : Asg} (h : φ.Le ψ) {B : Blk} {oo : Option Obj} {β z : Nat} (hb : BlkRel φ B oo β z) : BlkRel ψ B oo β z := by
  obtain ⟨c, fr, h1, h2, h3, h4, h5, h6⟩ := hb
  exact ⟨c, fr, h1, h2, h3, h4, h5.mono h, h6⟩

end Go.Proofs.Ytnkicnhjllmmjaa.Sx
