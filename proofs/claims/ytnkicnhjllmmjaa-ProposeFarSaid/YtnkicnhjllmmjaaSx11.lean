/- The evaluator's operations are the model's: binary operators, conversions, assertions. -/
import Derived.Test.YtnkicnhjllmmjaaSx10
namespace Go.Proofs.Ytnkicnhjllmmjaa.Sx
open Go
set_option linter.unusedVariables false

section
variable {P : Program} {E : Env} {tm : Tm} {s s' : St} {x : SNext}

/-- What a binary operator comes to, with its guard. -/
def BinRun (P : Program) (op : BinOp) (t : TypeId) (ox oy : Operand) (X Y V : Value) (w : World) : Prop :=
  (eqGuard op t ox oy X Y).run P w = .ok () w ∧ (binOp op t X Y).run P w = .ok V w

theorem OpOk.bin {op : BinOp} {t : TypeId} {ox oy : Operand} {u : TypeId} {a b : SV} {v : SV} (ha : evalS tm ox = some a) (hb : evalS tm oy = some b)
    (h : ∀ (φ : Asg) (w : World) (X Y : Value), SymOk E φ → Fits φ s.heap w → VRel φ a X → VRel φ b Y → ∃ V, BinRun P op t ox oy X Y V w ∧ VRel φ v V) : OpOk P E tm (.binOp op t ox oy u) s (.val v) s :=
  .still fun φ ρ w o hs hρ hf ho => by
    obtain ⟨V, ⟨h1, h2⟩, hv⟩ := h φ w _ _ hs hf (hρ _ _ ha) (hρ _ _ hb)
    exact ⟨V, by simp only [execOp, ho, Sem.run_bind, h1, h2, Result.andThen_ok, Sem.run_pure], hv⟩

theorem guard_int (op : BinOp) (t : TypeId) (ox oy : Operand) (k : IntKind) (n : Int) (Y : Value) (w : World) : (eqGuard op t ox oy (.int k n) Y).run P w = .ok () w := by rw [eqGuard_at_int]; rfl
theorem guard_str (op : BinOp) (t : TypeId) (ox oy : Operand) (n : ByteArray) (Y : Value) (w : World) : (eqGuard op t ox oy (.string n) Y).run P w = .ok () w := by rw [eqGuard_at_string]; rfl
theorem guard_bool (op : BinOp) (t : TypeId) (ox oy : Operand) (n : Bool) (Y : Value) (w : World) : (eqGuard op t ox oy (.bool n) Y).run P w = .ok () w := by rw [eqGuard_at_bool]; rfl
theorem guard_ptr (op : BinOp) (t : TypeId) (ox oy : Operand) (n : Option Addr) (Y : Value) (w : World) : (eqGuard op t ox oy (.pointer n) Y).run P w = .ok () w := by rw [eqGuard_at_pointer]; rfl
theorem guard_slice (op : BinOp) (t : TypeId) (ox oy : Operand) (n : Option Addr) (a b : Nat) (Y : Value) (w : World) : (eqGuard op t ox oy (.slice n a b) Y).run P w = .ok () w := by rw [eqGuard_at_slice]; rfl

/-- '==' and '!=' by one fact. -/
theorem OpOk.same {t : TypeId} {ox oy : Operand} {u : TypeId} {a b : SV} {r : Bool} (ha : evalS tm ox = some a) (hb : evalS tm oy = some b)
    (h : ∀ (φ : Asg) (w : World) (X Y : Value), SymOk E φ → Fits φ s.heap w → VRel φ a X → VRel φ b Y → (∀ op, (eqGuard op t ox oy X Y).run P w = .ok () w) ∧ (Op.equalIn (9999 + 1) t X Y).run P w = .ok r w ∧
      binOp .eql t X Y = (do pure (.bool (← Op.equal t X Y))) ∧ binOp .neq t X Y = (do pure (.bool (!(← Op.equal t X Y))))) :
    OpOk P E tm (.binOp .eql t ox oy u) s (.val (.bool r)) s ∧ OpOk P E tm (.binOp .neq t ox oy u) s (.val (.bool !r)) s := by
  constructor
  · refine .bin ha hb fun φ w X Y hs hf h1 h2 => ?_
    obtain ⟨g1, g2, g3, g4⟩ := h φ w X Y hs hf h1 h2
    refine ⟨.bool r, ⟨g1 _, ?_⟩, by simp only [VRel]⟩
    rw [g3, Sem.run_bind]
    have e : (Op.equal t X Y).run P w = .ok r w := g2
    rw [e]; rfl
  · refine .bin ha hb fun φ w X Y hs hf h1 h2 => ?_
    obtain ⟨g1, g2, g3, g4⟩ := h φ w X Y hs hf h1 h2
    refine ⟨.bool !r, ⟨g1 _, ?_⟩, by simp only [VRel]⟩
    rw [g4, Sem.run_bind]
    have e : (Op.equal t X Y).run P w = .ok r w := g2
    rw [e]; rfl

theorem equalIn_place (D : Nat) {t e : Nat} {n : Nat} (hu : P.underlying t = some (.pointer e)) {w : World} (hs : (sizeOf e).run P w = .ok n w) (hn : n ≠ 0) (A B : Addr) (hb : A.block = B.block) :
    (Op.equalIn (D + 1) t (.pointer (some A)) (.pointer (some B))).run P w = .ok (A == B) w := by
  simp only [Op.equalIn, Sem.run_bind, run_underlying hu, Result.andThen_ok, hs]
  rw [if_pos hn]
  simp [sameAddr, hb]

theorem equalIn_nils (D : Nat) {t : Nat} {ms : Array (String × TypeId)} (hu : P.underlying t = some (.interface ms)) (w : World) : (Op.equalIn (D + 1) t .nilIface .nilIface).run P w = .ok true w := by
  simp [Op.equalIn, run_underlying hu]
theorem equalIn_nilL (D : Nat) {t : Nat} {ms : Array (String × TypeId)} (hu : P.underlying t = some (.interface ms)) (w : World) (u : TypeId) (U : Value) : (Op.equalIn (D + 1) t .nilIface (.iface u U)).run P w = .ok false w := by
  simp [Op.equalIn, run_underlying hu]
theorem equalIn_nilR (D : Nat) {t : Nat} {ms : Array (String × TypeId)} (hu : P.underlying t = some (.interface ms)) (w : World) (u : TypeId) (U : Value) : (Op.equalIn (D + 1) t (.iface u U) .nilIface).run P w = .ok false w := by
  simp [Op.equalIn, run_underlying hu]
theorem equalIn_slL (D : Nat) {t e : Nat} (hu : P.underlying t = some (.slice e)) (w : World) (a n c : Nat) (b : Option Addr) (m d : Nat) : (Op.equalIn (D + 1) t (.slice none n c) (.slice b m d)).run P w = .ok b.isNone w := by
  simp [Op.equalIn, run_underlying hu]
theorem equalIn_slR (D : Nat) {t e : Nat} (hu : P.underlying t = some (.slice e)) (w : World) (a : Addr) (n c m d : Nat) : (Op.equalIn (D + 1) t (.slice (some a) n c) (.slice none m d)).run P w = .ok false w := by
  simp [Op.equalIn, run_underlying hu]

/-- What a slice that isn't nil stands for. -/
theorem slice_some {φ : Asg} {v : SV} {V : Value} (h : VRel φ v V) (hv : (∃ i o n c, v = .sl i o n c) ∨ (∃ c, v = .emp c) ∨ ∃ i o e, v = .etl i o e) : ∃ a n c, V = .slice (some a) n c := by
  rcases hv with ⟨i, o, n, c, rfl⟩ | ⟨c, rfl⟩ | ⟨i, o, e, rfl⟩ <;> simp only [VRel] at h
  · obtain ⟨_, _, _, _, _, e, _⟩ := h; exact ⟨_, _, _, e⟩
  · obtain ⟨_, _, e, _⟩ := h; exact ⟨_, _, _, e⟩
  · obtain ⟨_, _, _, _, _, _, e, _⟩ := h; exact ⟨_, _, _, e⟩

theorem ptr_is {φ : Asg} {v : SV} {V : Value} (h : VRel φ v V) (hv : v = .nilPtr ∨ ∃ i o, v = .ptr i o) : ∃ o, V = .pointer o := by
  rcases hv with rfl | ⟨i, o, rfl⟩ <;> simp only [VRel] at h
  · exact ⟨_, h⟩
  · obtain ⟨_, _, _, _, e⟩ := h; exact ⟨_, e⟩

theorem same_ptrs (hE : EnvOk P E) {t : TypeId} {ox oy : Operand} {u : TypeId} {a b : SV} {r : Bool} {ty : Ty} (ha : evalS tm ox = some a) (hb : evalS tm oy = some b) (hty : E.types.get t = some ty) (hr : eqCell ty.sh a b = some r)
    (hva : a = .nilPtr ∨ ∃ i o, a = .ptr i o) (hvb : b = .nilPtr ∨ ∃ i o, b = .ptr i o) :
    OpOk P E tm (.binOp .eql t ox oy u) s (.val (.bool r)) s ∧ OpOk P E tm (.binOp .neq t ox oy u) s (.val (.bool !r)) s := by
  obtain ⟨ti, d, zv, hi⟩ := tyOf_is (hE.ty _ _ hty)
  refine OpOk.same ha hb fun φ w X Y _ _ h1 h2 => ?_
  have g := eqCell_run (P := P) hr hi.under hi.sh h1 h2 9999 w
  obtain ⟨A, rfl⟩ := ptr_is h1 hva
  obtain ⟨B, rfl⟩ := ptr_is h2 hvb
  exact ⟨fun op => guard_ptr _ _ _ _ _ _ _, g, rfl, rfl⟩

theorem same_place (hE : EnvOk P E) {t e : TypeId} {ox oy : Operand} {u : TypeId} {i o p : Nat} {ty te : Ty} (ha : evalS tm ox = some (.ptr i o)) (hb : evalS tm oy = some (.ptr i p)) (hty : E.types.get t = some ty) (hsh : ty.sh = .ptr e) (hte : E.types.get e = some te) (hsz : te.size ≠ 0) :
    OpOk P E tm (.binOp .eql t ox oy u) s (.val (.bool (Nat.beq o p))) s ∧ OpOk P E tm (.binOp .neq t ox oy u) s (.val (.bool !Nat.beq o p)) s := by
  obtain ⟨ti, d, zv, hi⟩ := tyOf_is (hE.ty _ _ hty)
  obtain rfl := shOf_ptr (hi.sh.trans hsh)
  obtain ⟨tei, de, ze, he⟩ := tyOf_is (hE.ty _ _ hte)
  refine OpOk.same ha hb fun φ w X Y _ _ h1 h2 => ?_
  simp only [VRel] at h1 h2
  obtain ⟨b, β, z, hb1, rfl⟩ := h1
  obtain ⟨b', β', z', hb2, rfl⟩ := h2
  rw [hb1] at hb2
  simp only [Option.some.injEq, Prod.mk.injEq] at hb2
  obtain ⟨rfl, rfl, rfl⟩ := hb2
  refine ⟨fun op => guard_ptr _ _ _ _ _ _ _, ?_, rfl, rfl⟩
  rw [equalIn_place 9999 hi.under (he.run_size w) hsz ⟨b, β + o, none⟩ ⟨b, β + p, none⟩ rfl]
  congr 1
  rw [Bool.eq_iff_iff, beq_eq]
  simp

theorem same_nils (hE : EnvOk P E) {t : TypeId} {ox oy : Operand} {u : TypeId} {ty : Ty} (ha : evalS tm ox = some .nilIf) (hb : evalS tm oy = some .nilIf) (hty : E.types.get t = some ty) (hsh : ty.sh = .iface) (hc : (∃ c, ox = .const c) ∨ ∃ c, oy = .const c) :
    OpOk P E tm (.binOp .eql t ox oy u) s (.val (.bool true)) s ∧ OpOk P E tm (.binOp .neq t ox oy u) s (.val (.bool false)) s := by
  obtain ⟨ti, d, zv, hi⟩ := tyOf_is (hE.ty _ _ hty)
  obtain ⟨ms, rfl⟩ := shOf_iface (hi.sh.trans hsh)
  refine OpOk.same (r := true) ha hb fun φ w X Y _ _ h1 h2 => ?_
  simp only [VRel] at h1 h2
  subst h1 h2
  refine ⟨fun op => ?_, equalIn_nils 9999 hi.under w, rfl, rfl⟩
  rcases hc with ⟨c, rfl⟩ | ⟨c, rfl⟩
  · rw [eqGuard_nil_constL]; rfl
  · rw [eqGuard_nil_constR]; rfl

theorem same_nilL (hE : EnvOk P E) {t : TypeId} {ox oy : Operand} {u q : TypeId} {v : SV} {ty : Ty} (ha : evalS tm ox = some .nilIf) (hb : evalS tm oy = some (.iface q v)) (hty : E.types.get t = some ty) (hsh : ty.sh = .iface) :
    OpOk P E tm (.binOp .eql t ox oy u) s (.val (.bool false)) s ∧ OpOk P E tm (.binOp .neq t ox oy u) s (.val (.bool true)) s := by
  obtain ⟨ti, d, zv, hi⟩ := tyOf_is (hE.ty _ _ hty)
  obtain ⟨ms, rfl⟩ := shOf_iface (hi.sh.trans hsh)
  refine OpOk.same (r := false) ha hb fun φ w X Y _ _ h1 h2 => ?_
  simp only [VRel] at h1 h2
  subst h1
  obtain ⟨U, rfl, _⟩ := h2
  exact ⟨fun op => by rw [eqGuard_nil_iface]; rfl, equalIn_nilL 9999 hi.under w _ _, rfl, rfl⟩

theorem same_nilR (hE : EnvOk P E) {t : TypeId} {ox oy : Operand} {u q : TypeId} {v : SV} {ty : Ty} (ha : evalS tm ox = some (.iface q v)) (hb : evalS tm oy = some .nilIf) (hty : E.types.get t = some ty) (hsh : ty.sh = .iface) :
    OpOk P E tm (.binOp .eql t ox oy u) s (.val (.bool false)) s ∧ OpOk P E tm (.binOp .neq t ox oy u) s (.val (.bool true)) s := by
  obtain ⟨ti, d, zv, hi⟩ := tyOf_is (hE.ty _ _ hty)
  obtain ⟨ms, rfl⟩ := shOf_iface (hi.sh.trans hsh)
  refine OpOk.same (r := false) ha hb fun φ w X Y _ _ h1 h2 => ?_
  simp only [VRel] at h1 h2
  subst h2
  obtain ⟨U, rfl, _⟩ := h1
  exact ⟨fun op => by rw [eqGuard_at_iface]; rfl, equalIn_nilR 9999 hi.under w _ _, rfl, rfl⟩

theorem same_slL (hE : EnvOk P E) {t e : TypeId} {ox oy : Operand} {u : TypeId} {b : SV} {ty : Ty} (ha : evalS tm ox = some .nilSl) (hb : evalS tm oy = some b) (hty : E.types.get t = some ty) (hsh : ty.sh = .slice e)
    (hv : (∃ i o n c, b = .sl i o n c) ∨ (∃ c, b = .emp c) ∨ ∃ i o e, b = .etl i o e) :
    OpOk P E tm (.binOp .eql t ox oy u) s (.val (.bool false)) s ∧ OpOk P E tm (.binOp .neq t ox oy u) s (.val (.bool true)) s := by
  obtain ⟨ti, d, zv, hi⟩ := tyOf_is (hE.ty _ _ hty)
  obtain rfl := shOf_slice (hi.sh.trans hsh)
  refine OpOk.same (r := false) ha hb fun φ w X Y _ _ h1 h2 => ?_
  obtain ⟨a, n, c, rfl⟩ := slice_some h2 hv
  simp only [VRel] at h1
  subst h1
  exact ⟨fun op => guard_slice _ _ _ _ _ _ _ _ _, equalIn_slL 9999 hi.under w 0 _ _ _ _ _, rfl, rfl⟩

theorem same_slR (hE : EnvOk P E) {t e : TypeId} {ox oy : Operand} {u : TypeId} {b : SV} {ty : Ty} (ha : evalS tm ox = some b) (hb : evalS tm oy = some .nilSl) (hty : E.types.get t = some ty) (hsh : ty.sh = .slice e)
    (hv : (∃ i o n c, b = .sl i o n c) ∨ (∃ c, b = .emp c) ∨ ∃ i o e, b = .etl i o e) :
    OpOk P E tm (.binOp .eql t ox oy u) s (.val (.bool false)) s ∧ OpOk P E tm (.binOp .neq t ox oy u) s (.val (.bool true)) s := by
  obtain ⟨ti, d, zv, hi⟩ := tyOf_is (hE.ty _ _ hty)
  obtain rfl := shOf_slice (hi.sh.trans hsh)
  refine OpOk.same (r := false) ha hb fun φ w X Y _ _ h1 h2 => ?_
  obtain ⟨a, n, c, rfl⟩ := slice_some h1 hv
  simp only [VRel] at h2
  subst h2
  exact ⟨fun op => guard_slice _ _ _ _ _ _ _ _ _, equalIn_slR 9999 hi.under w _ _ _ _ _, rfl, rfl⟩

theorem same_slN (hE : EnvOk P E) {t e : TypeId} {ox oy : Operand} {u : TypeId} {ty : Ty} (ha : evalS tm ox = some .nilSl) (hb : evalS tm oy = some .nilSl) (hty : E.types.get t = some ty) (hsh : ty.sh = .slice e) :
    OpOk P E tm (.binOp .eql t ox oy u) s (.val (.bool true)) s ∧ OpOk P E tm (.binOp .neq t ox oy u) s (.val (.bool false)) s := by
  obtain ⟨ti, d, zv, hi⟩ := tyOf_is (hE.ty _ _ hty)
  obtain rfl := shOf_slice (hi.sh.trans hsh)
  refine OpOk.same (r := true) ha hb fun φ w X Y _ _ h1 h2 => ?_
  simp only [VRel] at h1 h2
  subst h1 h2
  exact ⟨fun op => guard_slice _ _ _ _ _ _ _ _ _, equalIn_slL 9999 hi.under w 0 _ _ _ _ _, rfl, rfl⟩

theorem same_structs (hE : EnvOk P E) {t : TypeId} {ox oy : Operand} {u : TypeId} {xs ys : List SV} {r : Bool} {n : Nat} (hn : n + 1 ≤ 9999 + 1) (ha : evalS tm ox = some (.agg xs)) (hb : evalS tm oy = some (.agg ys)) (hr : eqTy E (n + 1) t (.agg xs) (.agg ys) = some r) :
    OpOk P E tm (.binOp .eql t ox oy u) s (.val (.bool r)) s ∧ OpOk P E tm (.binOp .neq t ox oy u) s (.val (.bool !r)) s := by
  refine OpOk.same ha hb fun φ w X Y _ _ h1 h2 => ?_
  have g := eqTy_run hE w (n + 1) (9999 + 1) hn t _ _ r _ _ hr h1 h2
  simp only [VRel] at h1 h2
  obtain ⟨A, rfl, _⟩ := h1
  obtain ⟨B, rfl, _⟩ := h2
  refine ⟨fun op => ?_, g, rfl, rfl⟩
  simp only [eqTy] at hr
  split at hr
  · rename_i ty hty
    obtain ⟨ti, d, zv, hi⟩ := tyOf_is (hE.ty _ _ hty)
    split at hr
    · split at hr
      · rename_i heq _ _
        exact run_eqGuard_agg w op t ox oy A B (hi.eqs heq).2
      · simp at hr
    · simp [eqCell] at hr
  · simp at hr

theorem ok_binOp (hE : EnvOk P E) {op : BinOp} {t : TypeId} {ox oy : Operand} {u : TypeId} {a b : SV} (ha : evalS tm ox = some a) (hb : evalS tm oy = some b) (h : binS E op t ox oy a b s = some (x, s')) : OpOk P E tm (.binOp op t ox oy u) s x s' := by
  unfold binS at h
  split at h
  · -- two numbers
    rename_i j p k q
    split at h
    · split at h
      · rename_i n hn
        obtain ⟨rfl, rfl⟩ := retI_is h
        refine .bin ha hb fun φ w X Y hs _ h1 h2 => ?_
        simp only [VRel] at h1 h2
        subst h1 h2
        exact ⟨.int j n, ⟨guard_int _ _ _ _ _ _ _ _, by rw [binOp_shl]; exact run_shiftK w _ _ _ _ _ _ hn⟩, by simp only [VRel]⟩
      · simp at h
    · split at h
      · rename_i n hn
        obtain ⟨rfl, rfl⟩ := retI_is h
        refine .bin ha hb fun φ w X Y hs _ h1 h2 => ?_
        simp only [VRel] at h1 h2
        subst h1 h2
        exact ⟨.int j n, ⟨guard_int _ _ _ _ _ _ _ _, by rw [binOp_shr]; exact run_shiftK w _ _ _ _ _ _ hn⟩, by simp only [VRel]⟩
      · simp at h
    iterate 6
      (split at h
       · rename_i hk
         subst hk
         obtain ⟨r, hr, rfl, rfl⟩ := retO_is h
         refine .bin ha hb fun φ w X Y hs _ h1 h2 => ?_
         simp only [VRel] at h1 h2
         subst h1 h2
         exact ⟨.bool r, ⟨guard_int _ _ _ _ _ _ _ _, run_cmpK w _ t _ _ _ _ hr⟩, by simp only [VRel]⟩
       · simp at h)
    · split at h
      · rename_i hk
        subst hk
        split at h
        · rename_i n hn
          obtain ⟨rfl, rfl⟩ := retI_is h
          refine .bin ha hb fun φ w X Y hs _ h1 h2 => ?_
          simp only [VRel] at h1 h2
          subst h1 h2
          exact ⟨.int j n, ⟨guard_int _ _ _ _ _ _ _ _, run_arithK w _ t _ _ _ _ hn⟩, by simp only [VRel]⟩
        · simp at h
      · simp at h
  · -- one that isn't known, and a number
    rename_i i c n
    split at h
    · obtain ⟨hi, rfl, rfl⟩ := symAdd_is h
      refine .bin ha hb fun φ w X Y hs _ h1 h2 => ?_
      simp only [VRel] at h1 h2
      subst h1 h2
      refine ⟨.int .i64 (φ.num i + (c + n)), ⟨guard_int _ _ _ _ _ _ _ _, ?_⟩, by simp only [VRel]⟩
      rw [binOp_add]
      simp only [Op.intArith, Sem.run_pure, Int.add_assoc, inI64_is hs hi]
    · obtain ⟨hi, rfl, rfl⟩ := symAdd_is h
      refine .bin ha hb fun φ w X Y hs _ h1 h2 => ?_
      simp only [VRel] at h1 h2
      subst h1 h2
      refine ⟨.int .i64 (φ.num i + (c - n)), ⟨guard_int _ _ _ _ _ _ _ _, ?_⟩, by simp only [VRel]⟩
      rw [binOp_sub]
      simp only [Op.intArith, Sem.run_pure, Int.add_sub_assoc, inI64_is hs hi]
    iterate 6
      (obtain ⟨r, hr, rfl, rfl⟩ := retO_is h
       refine .bin ha hb fun φ w X Y hs _ h1 h2 => ?_
       have g1 := h1
       have g2 := h2
       simp only [VRel] at h1 h2
       subst h1 h2
       exact ⟨.bool r, ⟨guard_int _ _ _ _ _ _ _ _, symCmp_run hs hr g1 g2 t w⟩, by simp only [VRel]⟩)
    · simp at h
  · -- a number, and one that isn't known
    rename_i n i c
    split at h
    · obtain ⟨hi, rfl, rfl⟩ := symAdd_is h
      refine .bin ha hb fun φ w X Y hs _ h1 h2 => ?_
      simp only [VRel] at h1 h2
      subst h1 h2
      refine ⟨.int .i64 (φ.num i + (n + c)), ⟨guard_int _ _ _ _ _ _ _ _, ?_⟩, by simp only [VRel]⟩
      rw [binOp_add]
      simp only [Op.intArith, Sem.run_pure]
      rw [show n + (φ.num i + c) = φ.num i + (n + c) by omega, inI64_is hs hi]
    iterate 6
      (obtain ⟨r, hr, rfl, rfl⟩ := retO_is h
       refine .bin ha hb fun φ w X Y hs _ h1 h2 => ?_
       have g1 := h1
       have g2 := h2
       simp only [VRel] at h1 h2
       subst h1 h2
       exact ⟨.bool r, ⟨guard_int _ _ _ _ _ _ _ _, symCmp_run hs hr g1 g2 t w⟩, by simp only [VRel]⟩)
    · simp at h
  · -- two that aren't known
    rename_i i c j d
    split at h
    · split at h
      · rename_i hij
        subst hij
        obtain ⟨rfl, rfl⟩ := retI_is h
        refine .bin ha hb fun φ w X Y hs _ h1 h2 => ?_
        simp only [VRel] at h1 h2
        subst h1 h2
        refine ⟨.int .i64 (wrapK .i64 (c - d)), ⟨guard_int _ _ _ _ _ _ _ _, ?_⟩, by simp only [VRel]⟩
        rw [binOp_sub, wrapK_eq]
        simp only [Op.intArith, Sem.run_pure]
        rw [show φ.num i + c - (φ.num i + d) = c - d by omega]
      · simp at h
    iterate 6
      (obtain ⟨r, hr, rfl, rfl⟩ := retO_is h
       refine .bin ha hb fun φ w X Y hs _ h1 h2 => ?_
       have g1 := h1
       have g2 := h2
       simp only [VRel] at h1 h2
       subst h1 h2
       exact ⟨.bool r, ⟨guard_int _ _ _ _ _ _ _ _, symCmp_run hs hr g1 g2 t w⟩, by simp only [VRel]⟩)
    · simp at h
  · -- two texts
    rename_i p q
    split at h
    · split at h
      · rename_i hsm
        obtain ⟨rfl, rfl⟩ := retS_is h
        refine .bin ha hb fun φ w X Y hs _ h1 h2 => ?_
        simp only [VRel] at h1 h2
        obtain ⟨rfl, r1⟩ := h1
        obtain ⟨rfl, r2⟩ := h2
        rw [appL_eq]
        refine ⟨.string (bytesOf (p ++ q)), ⟨guard_str _ _ _ _ _ _ _, ?_⟩, by simp only [VRel]; exact ⟨trivial, fun z hz => by rcases List.mem_append.1 hz with hz | hz; exact r1 z hz; exact r2 z hz⟩⟩
        simp only [small, blt_eq, decide_eq_true_eq] at hsm
        rw [binOp_string_add]
        simp only [Op.stringOp, bytes_size]
        rw [if_neg (by simp only [IntKind.max_i64]; omega), bytes_append]
        rfl
      · simp at h
    all_goals
      first
      | (simp at h; done)
      | (obtain ⟨rfl, rfl⟩ := retB_is h
         refine .bin ha hb fun φ w X Y hs _ h1 h2 => ?_
         simp only [VRel] at h1 h2
         obtain ⟨rfl, r1⟩ := h1
         obtain ⟨rfl, r2⟩ := h2
         have e1 : ((bytesOf p).toList == (bytesOf q).toList) = eqNats p q := by rw [bytes_toList, bytes_toList, bytes_eq r1 r2]
         have e2 : Op.bytesLess (bytesOf p).toList (bytesOf q).toList = ltNats p q := by rw [bytes_toList, bytes_toList, bytes_lt r1 r2]
         refine ⟨_, ⟨guard_str _ _ _ _ _ _ _, ?_⟩, by simp only [VRel]; rfl⟩
         simp only [binOp, Op.stringOp, e1, e2, Sem.run_pure])
  · -- two texts that aren't known
    rename_i i j
    split at h
    · rename_i hij
      subst hij
      split at h
      · obtain ⟨rfl, rfl⟩ := retB_is h
        refine .bin ha hb fun φ w X Y hs _ h1 h2 => ?_
        simp only [VRel] at h1 h2
        subst h1 h2
        exact ⟨.bool true, ⟨guard_str _ _ _ _ _ _ _, by simp [binOp, Op.stringOp]⟩, by simp only [VRel]⟩
      · obtain ⟨rfl, rfl⟩ := retB_is h
        refine .bin ha hb fun φ w X Y hs _ h1 h2 => ?_
        simp only [VRel] at h1 h2
        subst h1 h2
        exact ⟨.bool false, ⟨guard_str _ _ _ _ _ _ _, by simp [binOp, Op.stringOp]⟩, by simp only [VRel]⟩
      · simp at h
    · simp at h
  · -- two bools
    rename_i p q
    split at h
    · rename_i ty hty
      obtain ⟨ti, d, zv, hi⟩ := tyOf_is (hE.ty _ _ hty)
      split at h
      · rename_i hsh
        obtain rfl := shOf_bool (hi.sh.trans hsh)
        obtain ⟨rfl, rfl⟩ := retB_is h
        refine .bin ha hb fun φ w X Y hs _ h1 h2 => ?_
        simp only [VRel] at h1 h2
        subst h1 h2
        exact ⟨_, ⟨guard_bool _ _ _ _ _ _ _, run_eql_bool w t p q hi.under⟩, by simp only [VRel]⟩
      · rename_i hsh
        obtain rfl := shOf_bool (hi.sh.trans hsh)
        obtain ⟨rfl, rfl⟩ := retB_is h
        refine .bin ha hb fun φ w X Y hs _ h1 h2 => ?_
        simp only [VRel] at h1 h2
        subst h1 h2
        exact ⟨_, ⟨guard_bool _ _ _ _ _ _ _, run_neq_bool w t p q hi.under⟩, by simp only [VRel]⟩
      · simp at h
    · simp at h
  iterate 3
    (split at h
     · rename_i ty hty
       split at h
       · rename_i r hr
         split at h
         · obtain ⟨rfl, rfl⟩ := retB_is h
           exact (same_ptrs hE ha hb hty hr (by simp) (by simp)).1
         · obtain ⟨rfl, rfl⟩ := retB_is h
           exact (same_ptrs hE ha hb hty hr (by simp) (by simp)).2
         · simp at h
       · simp at h
     · simp at h)
  · -- two places in one block
    rename_i i o j p
    split at h
    · rename_i ty hty
      split at h
      · rename_i e hsh
        split at h
        · rename_i te hte hij
          have hij' : i = j := by simpa [beq_eq] using hij
          subst hij'
          split at h
          · rename_i k hk
            obtain ⟨rfl, rfl⟩ := retB_is h
            exact (same_place hE ha hb hty hsh hte (by omega)).1
          · rename_i k hk
            obtain ⟨rfl, rfl⟩ := retB_is h
            exact (same_place hE ha hb hty hsh hte (by omega)).2
          · simp at h
        · simp at h
      · simp at h
    · simp at h
  · -- two nil interface values, one of them the literal
    split at h
    · rename_i cv
      split at h
      · rename_i ty hty
        split at h
        · rename_i hsh
          obtain ⟨rfl, rfl⟩ := retB_is h
          exact (same_nils hE ha hb hty hsh (.inl ⟨_, rfl⟩)).1
        · rename_i hsh
          obtain ⟨rfl, rfl⟩ := retB_is h
          exact (same_nils hE ha hb hty hsh (.inl ⟨_, rfl⟩)).2
        · simp at h
      · simp at h
    · rename_i cv _
      split at h
      · rename_i ty hty
        split at h
        · rename_i hsh
          obtain ⟨rfl, rfl⟩ := retB_is h
          exact (same_nils hE ha hb hty hsh (.inr ⟨_, rfl⟩)).1
        · rename_i hsh
          obtain ⟨rfl, rfl⟩ := retB_is h
          exact (same_nils hE ha hb hty hsh (.inr ⟨_, rfl⟩)).2
        · simp at h
      · simp at h
    · simp at h
  iterate 2
    (split at h
     · rename_i ty hty
       split at h
       · rename_i hsh
         obtain ⟨rfl, rfl⟩ := retB_is h
         first
           | exact (same_nilL hE ha hb hty hsh).1
           | exact (same_nilR hE ha hb hty hsh).1
       · rename_i hsh
         obtain ⟨rfl, rfl⟩ := retB_is h
         first
           | exact (same_nilL hE ha hb hty hsh).2
           | exact (same_nilR hE ha hb hty hsh).2
       · simp at h
     · simp at h)
  · split at h
    · rename_i ty hty
      split at h
      · rename_i e hsh
        obtain ⟨rfl, rfl⟩ := retB_is h
        exact (same_slN hE ha hb hty hsh).1
      · rename_i e hsh
        obtain ⟨rfl, rfl⟩ := retB_is h
        exact (same_slN hE ha hb hty hsh).2
      · simp at h
    · simp at h
  iterate 6
    (split at h
     · rename_i ty hty
       split at h
       · rename_i e hsh
         obtain ⟨rfl, rfl⟩ := retB_is h
         first
           | exact (same_slL hE ha hb hty hsh (by simp)).1
           | exact (same_slR hE ha hb hty hsh (by simp)).1
       · rename_i e hsh
         obtain ⟨rfl, rfl⟩ := retB_is h
         first
           | exact (same_slL hE ha hb hty hsh (by simp)).2
           | exact (same_slR hE ha hb hty hsh (by simp)).2
       · simp at h
     · simp at h)
  · -- structs
    rename_i xs ys
    split at h
    · rename_i r hr
      split at h
      · obtain ⟨rfl, rfl⟩ := retB_is h
        exact (same_structs hE (n := 49) (by decide) ha hb hr).1
      · obtain ⟨rfl, rfl⟩ := retB_is h
        exact (same_structs hE (n := 49) (by decide) ha hb hr).2
      · simp at h
    · simp at h
  · simp at h
end

end Go.Proofs.Ytnkicnhjllmmjaa.Sx
