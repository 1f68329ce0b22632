/- The evaluator's operations are the model's: assertions, conversions. -/
import Derived.Test.YtnkicnhjllmmjaaSx11
namespace Go.Proofs.Ytnkicnhjllmmjaa.Sx
open Go
set_option linter.unusedVariables false

section
variable {P : Program} {E : Env} {tm : Tm} {s s' : St} {x : SNext}

theorem ok_typeAssert (hE : EnvOk P E) {y : Operand} {xt a : TypeId} {ok : Bool} {v : SV} (hy : evalS tm y = some v) (h : typeAssertS E v a ok s = some (x, s')) : OpOk P E tm (.typeAssert y xt a ok) s x s' := by
  unfold typeAssertS at h
  split at h
  · simp at h
  · rename_i ty hty
    obtain ⟨ti, d, zv, hi⟩ := tyOf_is (hE.ty _ _ hty)
    have notI : ty.sh ≠ .iface → ∀ ms, d ≠ .interface ms := by
      rintro hsh ms rfl
      exact hsh (by rw [← hi.sh]; rfl)
    split at h
    · simp at h
    · simp at h
    · rename_i hni _
      have hd := notI (fun e => hni e)
      split at h
      · rename_i t u
        split at h
        · rename_i hta
          have hta' : t = a := by simpa [beq_eq] using hta
          subst hta'
          obtain ⟨rfl, rfl⟩ := retV_is h
          refine .still fun φ ρ w op _ hρ _ ho => ?_
          have h1 := hρ _ _ hy
          simp only [VRel] at h1
          obtain ⟨U, e1, hU⟩ := h1
          refine ⟨.tuple #[U, .bool true], ?_, by simp only [VRel]; exact ⟨_, rfl, by simp [VRels, VRel, hU]⟩⟩
          simp only [execOp, ho, Instr.typeAssert, Sem.run_bind, hi.run_under, Result.andThen_ok, e1]
          cases d <;> first | exact absurd rfl (hd _) | simp
        · rename_i hta
          have hta' : t = a := by simpa [beq_eq] using hta
          subst hta'
          obtain ⟨rfl, rfl⟩ := retV_is h
          refine .still fun φ ρ w op _ hρ _ ho => ?_
          have h1 := hρ _ _ hy
          simp only [VRel] at h1
          obtain ⟨U, e1, hU⟩ := h1
          refine ⟨U, ?_, hU⟩
          simp only [execOp, ho, Instr.typeAssert, Sem.run_bind, hi.run_under, Result.andThen_ok, e1]
          cases d <;> first | exact absurd rfl (hd _) | simp
        · rename_i hta
          have hta' : ¬ t = a := by simpa [beq_eq] using hta
          obtain ⟨rfl, rfl⟩ := retV_is h
          refine .still fun φ ρ w op _ hρ _ ho => ?_
          have h1 := hρ _ _ hy
          simp only [VRel] at h1
          obtain ⟨U, e1, hU⟩ := h1
          refine ⟨.tuple #[zv, .bool false], ?_, by simp only [VRel]; exact ⟨_, rfl, by simp [VRels, VRel, hi.zero_rel φ]⟩⟩
          simp only [execOp, ho, Instr.typeAssert, Sem.run_bind, hi.run_under, Result.andThen_ok, e1]
          cases d <;> first | exact absurd rfl (hd _) | simp [hta', hi.run_zero]
        · simp at h
      · split at h
        · obtain ⟨rfl, rfl⟩ := retV_is h
          refine .still fun φ ρ w op _ hρ _ ho => ?_
          have h1 := hρ _ _ hy
          simp only [VRel] at h1
          refine ⟨.tuple #[zv, .bool false], ?_, by simp only [VRel]; exact ⟨_, rfl, by simp [VRels, VRel, hi.zero_rel φ]⟩⟩
          simp only [execOp, ho, Instr.typeAssert, Sem.run_bind, hi.run_under, Result.andThen_ok, h1]
          cases d <;> first | exact absurd rfl (hd _) | simp [hi.run_zero]
        · simp at h
      · simp at h

/-! #### Bytes -/
theorem byteCells_eq : ∀ (l : List Nat), byteCells l = l.map fun (n : Nat) => .int .u8 (n : Int)
  | [] => rfl
  | x :: xs => by simp [byteCells, byteCells_eq xs]

theorem byteCells_rel {φ : Asg} : ∀ {l : List Nat}, (∀ n ∈ l, n < 256) → VRels φ (byteCells l) ((bytesOf l).data.map fun b => Value.int .u8 b.toNat).toList
  | [], _ => by simp [byteCells, bytesOf, VRels]
  | x :: xs, h => by
    have ih := byteCells_rel (φ := φ) (l := xs) (fun n hn => h n (by simp [hn]))
    simp only [bytesOf, byteCells, List.map_cons, Array.toList_map, VRels] at ih ⊢
    refine ⟨?_, ih⟩
    simp only [VRel]
    rw [toUInt8_toNat x (h x (by simp))]
    rfl

theorem cellBytes_is {φ : Asg} : ∀ {cs : List SV} {l : List Nat} {vs : List Value}, cellBytes cs = some l → VRels φ cs vs → (∀ n ∈ l, n < 256) ∧ vs = l.map fun (n : Nat) => Value.int .u8 (n : Int)
  | [], l, vs, h, hv => by
    simp [cellBytes] at h
    subst h
    cases vs with
    | nil => simp
    | cons _ _ => simp [VRels] at hv
  | c :: cs, l, vs, h, hv => by
    cases vs with
    | nil => simp [VRels] at hv
    | cons v vs =>
      simp only [VRels] at hv
      cases c with
      | int k n =>
        cases k with
        | u8 =>
          cases n with
          | ofNat n =>
            simp only [cellBytes] at h
            split at h
            · rename_i r hn hr
              simp only [Option.some.injEq] at h
              subst h
              obtain ⟨h1, h2⟩ := cellBytes_is hr hv.2
              have hn' : n < 256 := by simpa [blt_eq] using hn
              simp only [VRel] at hv
              refine ⟨fun m hm => ?_, by rw [h2, hv.1]; rfl⟩
              rcases List.mem_cons.1 hm with rfl | hm
              · exact hn'
              · exact h1 m hm
            · simp at h
          | negSucc n => simp [cellBytes] at h
        | _ => simp [cellBytes] at h
      | _ => simp [cellBytes] at h

theorem run_bytes_back (w : World) {src dst e : Nat} {a : Addr} {cap : Nat} {l : List Nat} (hs : P.underlying src = some (.slice e)) (he : P.underlying e = some (.int .u8)) (hd : P.underlying dst = some .string)
    (hl : ∀ n ∈ l, n < 256) (hc : ∀ (k : Nat) (v : Value), (l.map fun (n : Nat) => Value.int .u8 (n : Int))[k]? = some v → w.cell? (a.add k) = some v) :
    (convert src dst (.slice (some a) l.length cap)).run P w = .ok (.string (bytesOf l)) w := by
  have h := run_convert_bytes_back (P := P) w src dst e a cap (l.map Nat.toUInt8) hs he hd (fun j hj => by
    simp only [List.length_map] at hj
    have := hc j (.int .u8 (l[j] : Int)) (by simp [List.getElem?_eq_getElem hj])
    rw [this]
    simp only [List.getElem_map]
    rw [toUInt8_toNat _ (hl _ (List.getElem_mem _))])
  simpa [bytesOf] using h

theorem size_bytesRow (S : ByteArray) (c : Nat) (h : S.size ≤ c) : (bytesRow S c).size = c := by
  have : S.data.size = S.size := rfl
  simp only [bytesRow, Array.size_append, Array.size_map, Array.size_replicate, this]
  omega

/-- A place in a block of ours lies in it, and is no part of a view. -/
theorem shape_at {w : World} {b : Nat} {c : Array Value} {e : TypeId} {fr : Nat × Nat} (hb : w.heap[b]? = some (.cells c e fr)) : w.shape? b = some (e, c.size) := by
  simp [World.shape?, hb]

theorem run_seenAt {w : World} {b o : Nat} {c : Array Value} {e : TypeId} {fr : Nat × Nat} (hb : w.heap[b]? = some (.cells c e fr)) : (Conv.seenAt ⟨b, o, none⟩).run P w = .ok ⟨b, o, none⟩ w := by
  simp [Conv.seenAt, viewAt, shape_at hb]

theorem liesAt_self (P : Program) (e count : Nat) (h0 : P.cellsOf e ≠ 0) (hc : 1 ≤ count) : liesAt P P.depth e count 0 e 1 = true := by
  have hd : P.depth = (2 * (P.types.size + Made.depth) + 1) + 1 := rfl
  rw [hd]
  simp only [liesAt, Bool.or_eq_true]
  left
  rw [hd]
  simp only [rowAt]
  rw [if_neg h0]
  simp only [Nat.zero_div, Nat.zero_mod, Nat.zero_add, Bool.or_eq_true, Bool.and_eq_true]
  left
  refine ⟨⟨rfl, by simpa using hc⟩, ?_⟩
  simp [sameLayout]

theorem ok_convert (hE : EnvOk P E) {src dst : TypeId} {y : Operand} {v : SV} (hy : evalS tm y = some v) (h : convS E src dst v s = some (x, s')) : OpOk P E tm (.convert src dst y) s x s' := by
  unfold convS at h
  split at h
  · rename_i a b hta htb
    obtain ⟨ai, ad, az, ha⟩ := tyOf_is (hE.ty _ _ hta)
    obtain ⟨bi, bd, bz, hb⟩ := tyOf_is (hE.ty _ _ htb)
    split at h
    · -- a number
      rename_i k j n hsh
      obtain rfl := shOf_int (hb.sh.trans hsh)
      obtain ⟨rfl, rfl⟩ := retI_is h
      refine .still fun φ ρ w op _ hρ _ ho => ?_
      have h1 := hρ _ _ hy
      simp only [VRel] at h1
      exact ⟨.int k (k.wrap n), by simp [execOp, ho, convert, ha.run_under, hb.run_under, h1, Conv.intToInt], by simp only [VRel, wrapK_eq]⟩
    · rename_i i c hsh
      split at h
      · rename_i hin
        obtain rfl := shOf_int (hb.sh.trans hsh)
        obtain ⟨rfl, rfl⟩ := retV_is h
        refine .still fun φ ρ w op hs hρ _ ho => ?_
        have h1 := hρ _ _ hy
        simp only [VRel] at h1
        exact ⟨.int .i64 (φ.num i + c), by simp [execOp, ho, convert, ha.run_under, hb.run_under, h1, Conv.intToInt, inI64_is hs hin], by simp only [VRel]⟩
      · simp at h
    · rename_i l hsh
      obtain rfl := shOf_str (hb.sh.trans hsh)
      obtain ⟨rfl, rfl⟩ := retV_is h
      refine .still fun φ ρ w op hs hρ _ ho => ?_
      have h1 := hρ _ _ hy
      refine ⟨ρ y, ?_, h1⟩
      simp only [VRel] at h1
      simp [execOp, ho, convert, ha.run_under, hb.run_under, h1.1]
    · rename_i i hsh
      obtain rfl := shOf_str (hb.sh.trans hsh)
      obtain ⟨rfl, rfl⟩ := retV_is h
      refine .still fun φ ρ w op hs hρ _ ho => ?_
      have h1 := hρ _ _ hy
      refine ⟨ρ y, ?_, h1⟩
      simp only [VRel] at h1
      simp [execOp, ho, convert, ha.run_under, hb.run_under, h1]
    · -- a text's bytes
      rename_i e l hsh
      obtain rfl := shOf_slice (hb.sh.trans hsh)
      split at h
      · rename_i te hte
        obtain ⟨ei, ed, ez, he⟩ := tyOf_is (hE.ty _ _ hte)
        split at h
        · rename_i h8 hstr
          obtain rfl := shOf_int (he.sh.trans h8)
          obtain rfl := shOf_str (ha.sh.trans hstr)
          split at h
          · rename_i hsm
            obtain ⟨s1, hk, hn, hwr, hg, hsc⟩ := new_out h
            simp only [Option.some.injEq, Prod.mk.injEq] at hk
            obtain ⟨rfl, rfl⟩ := hk
            refine .makes hn hwr hg fun φ ρ w op _ hρ _ ho => ?_
            have h1 := hρ _ _ hy
            simp only [VRel] at h1
            have hr := run_bytes_of_string (P := P) w src dst e (bytesOf l) ha.under hb.under he.under
            have hge := grownCap_ge w (bytesOf l).size 0 e
            have hsz := size_bytesRow (bytesOf l) _ hge
            have hbl : (byteCells l).length = l.length := by simp [byteCells_eq]
            have hle : l.length ≤ grownCap w (bytesOf l).size 0 e := Nat.le_trans (Nat.le_of_eq (bytes_size l).symm) hge
            refine ⟨.slice (some ⟨w.heap.size, 0, none⟩) (bytesOf l).size (grownCap w (bytesOf l).size 0 e), _, bytesRow (bytesOf l) (grownCap w (bytesOf l).size 0 e), ((bytesRow (bytesOf l) (grownCap w (bytesOf l).size 0 e)).size, (bytesRow (bytesOf l) (grownCap w (bytesOf l).size 0 e)).size + 1), grownCap w (bytesOf l).size 0 e, ?_, rfl, .trans (.drew w) (.alloc _ _), hsz, fun hx => by simp at hx, by simp only [hbl]; exact hle, ?_, .inr (Nat.le_refl _), ?_⟩
            · rw [execOp, ho]
              simp only [Sem.run_bind, h1.1, hr, Result.andThen_ok, Sem.run_pure]
            · have hrel := byteCells_rel (φ := φ) h1.2
              have hll : ((bytesOf l).data.map fun b => Value.int .u8 b.toNat).toList.length = (byteCells l).length := hrel.length
              simp only [bytesRow, Array.toList_append]
              rw [← hll, List.take_left]
              exact hrel
            · simp only [VRel]
              exact ⟨w.heap.size, 0, grownCap w (bytesOf l).size 0 e, grownCap w (bytesOf l).size 0 e, by simp [Asg.set], by rw [bytes_size], by decide, hle, by simp⟩
          · simp at h
        · simp at h
      · simp at h
    · -- nil
      rename_i hsh
      split at h
      · rename_i q hq
        split at h
        · simp at h
        · obtain ⟨rfl, rfl⟩ := retV_is h
          obtain rfl := shOf_uptr (hb.sh.trans hsh)
          obtain rfl := shOf_ptr (ha.sh.trans hq)
          refine .still fun φ ρ w op hs hρ _ ho => ?_
          have h1 := hρ _ _ hy
          refine ⟨ρ y, ?_, h1⟩
          simp only [VRel] at h1
          simp [execOp, ho, convert, ha.run_under, hb.run_under, h1, Conv.unsafePointer]
      · rename_i hq
        split at h
        · rename_i _ _ hh _; rw [hq] at hh; simp at hh
        · obtain ⟨rfl, rfl⟩ := retV_is h
          obtain rfl := shOf_uptr (hb.sh.trans hsh)
          obtain rfl := shOf_uptr (ha.sh.trans hq)
          refine .still fun φ ρ w op hs hρ _ ho => ?_
          have h1 := hρ _ _ hy
          refine ⟨ρ y, ?_, h1⟩
          simp only [VRel] at h1
          simp [execOp, ho, convert, ha.run_under, hb.run_under, h1, Conv.unsafePointer]
      · simp at h
    · -- nil, to another pointer
      rename_i e hsh
      split at h
      · rename_i q hq
        split at h
        · simp at h
        · rename_i hno
          exact absurd hsh (fun hsh => hno _ _ hq hsh)
      · rename_i hq
        split at h
        · rename_i hh _; rw [hq] at hh; simp at hh
        · obtain ⟨rfl, rfl⟩ := retV_is h
          obtain rfl := shOf_ptr (hb.sh.trans hsh)
          obtain rfl := shOf_uptr (ha.sh.trans hq)
          refine .still fun φ ρ w op hs hρ _ ho => ?_
          have h1 := hρ _ _ hy
          refine ⟨ρ y, ?_, h1⟩
          simp only [VRel] at h1
          simp [execOp, ho, convert, ha.run_under, hb.run_under, h1, Conv.unsafePointer]
      · simp at h
    · -- a pointer, seen as any
      rename_i i o hsh
      obtain rfl := shOf_uptr (hb.sh.trans hsh)
      split at h
      · rename_i e B hq hB
        obtain rfl := shOf_ptr (ha.sh.trans hq)
        split at h
        · rename_i te hte hlt
          obtain ⟨ei, ed, ez, he⟩ := tyOf_is (hE.ty _ _ hte)
          split at h
          · rename_i k hk
            obtain ⟨rfl, rfl⟩ := retV_is h
            refine .still fun φ ρ w op hs hρ hf ho => ?_
            have h1 := hρ _ _ hy
            refine ⟨ρ y, ?_, h1⟩
            simp only [VRel] at h1
            obtain ⟨b, β, z, hb1, e1⟩ := h1
            obtain ⟨b', β', z', c, fr, hb2, hw, hz, _, hl, _⟩ := hf.cells hB
            rw [hb1] at hb2
            simp only [Option.some.injEq, Prod.mk.injEq] at hb2
            obtain ⟨rfl, rfl, rfl⟩ := hb2
            have hlt' : o < B.cells.length := by simpa [blt_eq] using hlt
            have hnz : ¬ te.size = 0 := by omega
            have hin : ¬ c.size ≤ β + o := by omega
            simp [execOp, ho, convert, ha.run_under, hb.run_under, e1, Conv.unsafePointer, run_seenAt hw, cellsIn, shape_at hw, he.run_size, hnz, hin]
          · simp at h
        · simp at h
      · simp at h
    · -- and back
      rename_i u i o hsh
      obtain rfl := shOf_ptr (hb.sh.trans hsh)
      split at h
      · rename_i B hq hB
        obtain rfl := shOf_uptr (ha.sh.trans hq)
        split at h
        · rename_i tu htu hex hel
          obtain ⟨ui, ud, uz, hu⟩ := tyOf_is (hE.ty _ _ htu)
          split at h
          · rename_i k hk
            split at h
            · rename_i hle
              obtain ⟨rfl, rfl⟩ := retV_is h
              refine .still fun φ ρ w op hs hρ hf ho => ?_
              have h1 := hρ _ _ hy
              refine ⟨ρ y, ?_, h1⟩
              simp only [VRel] at h1
              obtain ⟨b, β, z, hb1, e1⟩ := h1
              obtain ⟨b', β', z', c, fr, hb2, hw, hz, hx, hl, _⟩ := hf.cells hB
              rw [hb1] at hb2
              simp only [Option.some.injEq, Prod.mk.injEq] at hb2
              obtain ⟨rfl, rfl, rfl⟩ := hb2
              obtain ⟨hx1, rfl⟩ := hx hex
              have hel' : B.elem = u := by simpa [beq_eq] using hel
              have hle' : k + 1 ≤ B.cells.length := by simpa [ble_eq] using hle
              have hcs : P.cellsOf u = k + 1 := by simp [Program.cellsOf, hu.info, hu.size, hk]
              have hva : (variablesAt ⟨b, 0, none⟩ u 1).run P w = .ok true w := by
                have hc1 : 1 ≤ c.size / P.cellsOf u := by
                  rw [hcs, Nat.le_div_iff_mul_le (by omega)]
                  omega
                simp [variablesAt, shape_at hw, hel', liesAt_self P u _ (by omega) hc1]
              have hnz : ¬ tu.size = 0 := by omega
              simp only [Nat.add_zero] at e1
              simp [execOp, ho, convert, ha.run_under, hb.run_under, e1, Conv.unsafePointer, run_seenAt hw, hu.run_size, hnz, hva]
            · simp at h
          · simp at h
        · simp at h
      · simp at h
    iterate 3
      (rename_i hsh
       obtain rfl := shOf_str (hb.sh.trans hsh)
       split at h
       · rename_i e hq
         obtain rfl := shOf_slice (ha.sh.trans hq)
         split at h
         · rename_i te hte
           obtain ⟨ei, ed, ez, he⟩ := tyOf_is (hE.ty _ _ hte)
           split at h
           · rename_i h8
             obtain rfl := shOf_int (he.sh.trans h8)
             obtain ⟨rfl, rfl⟩ := retS_is h
             refine .still fun φ ρ w op hs hρ hf ho => ?_
             have h1 := hρ _ _ hy
             refine ⟨.string (bytesOf []), ?_, by simp only [VRel]; exact ⟨trivial, fun x hx => by cases hx⟩⟩
             have h1' : (∃ c, ρ y = .slice none 0 c) ∨ ∃ a c, ρ y = .slice (some a) 0 c := by
               simp only [VRel] at h1
               first
                 | exact .inl ⟨0, h1⟩
                 | (obtain ⟨a, c, e, _⟩ := h1; exact .inr ⟨a, c, e⟩)
                 | (obtain ⟨_, _, _, a, c, _, e, _⟩ := h1; exact .inr ⟨a, c, e⟩)
             rcases h1' with ⟨c, e1⟩ | ⟨a, c, e1⟩
             · simp [execOp, ho, convert, ha.run_under, hb.run_under, he.run_under, e1, Conv.bytesToString]
               rfl
             · have hr := run_bytes_back (P := P) w (src := src) (dst := dst) (a := a) (cap := c) (l := []) ha.under he.under hb.under (fun n hn => by cases hn) (fun k v hk => by simp at hk)
               simp only [List.length_nil] at hr
               simp only [execOp, ho, Sem.run_bind, e1, hr, Result.andThen_ok, Sem.run_pure]
           · simp at h
         · simp at h
       · simp at h)
    · -- bytes, as a text
      rename_i i o n cap hsh
      obtain rfl := shOf_str (hb.sh.trans hsh)
      split at h
      · rename_i e hq
        obtain rfl := shOf_slice (ha.sh.trans hq)
        split at h
        · rename_i te hte
          obtain ⟨ei, ed, ez, he⟩ := tyOf_is (hE.ty _ _ hte)
          split at h
          · rename_i cs h8 hrd
            obtain rfl := shOf_int (he.sh.trans h8)
            split at h
            · rename_i l hl
              obtain ⟨rfl, rfl⟩ := retS_is h
              refine .still fun φ ρ w op hs hρ hf ho => ?_
              have h1 := hρ _ _ hy
              simp only [VRel] at h1
              obtain ⟨b, β, z, c, hb1, e1, _⟩ := h1
              obtain ⟨b', β', z', vs, hb2, hcl, hr, hvl, hc⟩ := rd_rel hf hrd
              rw [hb1] at hb2
              simp only [Option.some.injEq, Prod.mk.injEq] at hb2
              obtain ⟨rfl, rfl, rfl⟩ := hb2
              obtain ⟨g1, rfl⟩ := cellBytes_is hl hr
              have hrun := run_bytes_back (P := P) w (src := src) (dst := dst) (a := ⟨b, β + o, none⟩) (cap := c) (l := l) ha.under he.under hb.under g1 hc
              rw [List.length_map] at hvl
              rw [hvl] at hrun
              refine ⟨.string (bytesOf l), ?_, by simp only [VRel]; exact ⟨trivial, g1⟩⟩
              simp only [execOp, ho, Sem.run_bind, e1, hrun, Result.andThen_ok, Sem.run_pure]
            · simp at h
          · simp at h
        · simp at h
      · simp at h
    · simp at h
  · simp at h
end

end Go.Proofs.Ytnkicnhjllmmjaa.Sx
