/- Contracts: the ledger's Entries; what is sorted does not ask in which order it came. -/
import Derived.Test.YtkjcjlcimgcfcaaAccts
namespace Go.Cab
set_option linter.unusedSimpArgs false
set_option linter.unusedVariables false
set_option linter.unusedSectionVars false
open Go Go.Proofs Go.Sort Go.Shelf
theorem sortID_perm {a b : List ID} (h : a.Perm b) : sortID a = sortID b := by
  have ht : ∀ x y z : ID, (!ltOf ID.cmp y x) = true → (!ltOf ID.cmp z y) = true → (!ltOf ID.cmp z x) = true := by
    intro x y z h1 h2
    simp only [Bool.not_eq_true', lt_num, decide_eq_false_iff_not] at *
    omega
  have htot : ∀ x y : ID, ((!ltOf ID.cmp y x) || (!ltOf ID.cmp x y)) = true := by
    intro x y
    simp only [Bool.or_eq_true, Bool.not_eq_true', lt_num, decide_eq_false_iff_not]
    omega
  have h1 := List.pairwise_mergeSort (le := fun x y => !ltOf ID.cmp y x) ht htot a
  have h2 := List.pairwise_mergeSort (le := fun x y => !ltOf ID.cmp y x) ht htot b
  have hp : (sortID a).Perm (sortID b) := (List.mergeSort_perm a _).trans (h.trans (List.mergeSort_perm b _).symm)
  refine List.Perm.eq_of_pairwise (le := fun x y => (!ltOf ID.cmp y x) = true) ?_ h1 h2 hp
  intro x y _ _ hx hy
  exact totID x y (by simpa using hy) (by simpa using hx)
variable [Milieu]
theorem Ent.buildSlice0 {α : Type} [E : Enc Try.prog α] {Γ : List Asn} {T : TypeId} {K : Value → WP} (hu : Try.prog.underlying T = some (.slice (Enc.ty Try.prog α))) (h : ∀ v', v' ≠ .slice none 0 0 → Ent (ab (SlA Try.prog) v' ([] : List α) :: Γ) (K v')) : Ent Γ (semT Try.prog inV (Instr.buildSlice T 0 #[]) K) := fun w hs0 => by
  refine ⟨.slice (some ⟨w.heap.size, 0, none⟩) 0 0, w.alloc (.cells #[] (Enc.ty Try.prog α)), ?_, h _ (by simp) _ ⟨hs0.1.newRow (P := Try.prog) (α := α) (l := []) (cap := 0) (cur := #[]) (Nat.le_refl _) (Nat.zero_le _) (by simp) (by simp), hs0.2⟩⟩
  simp [Instr.buildSlice, run_underlying hu w, Enc.run_size, Sem.run_bind, Instr.fill, newRow, Sem.run]
  have h0 : Array.range 0 = #[] := Array.eq_empty_of_size_eq_zero (by simp)
  rw [h0, Array.map_empty]
theorem run_sl_eql (s : SV) (x y : Operand) (w : World) : (eqM .eql 77 x y s.val (.slice none 0 0)).run Try.prog w = .ok (.bool s.b.isNone) w := by
  obtain ⟨b, n, c⟩ := s
  cases b <;> kernel_rfl
theorem clone_spec {Γ : List Asn} {s : SV} {es : List Entry} {K : Value → WP} (hs : SlR Try.prog Γ s.val es) (hne : es ≠ []) (hl : es.length ≤ 1000000) (h : ∀ v, Ent (ab (SlA Try.prog) v es :: Γ) (K v)) : Ent Γ (callH Try.prog 58 #[s.val] K) := by
  refine Ent.byS (A := S.slices_Clone _ _) S.slices_Clone_ok ?_
  unfold S.slices_Clone
  simp only [toT_V, toT_I, toT_B, toT_A, toT_rV, toT_rI, toT_rB, toT_pV, toT_pI, toT_pB, toT_pA, toT_cI, toT_cB]
  refine Ent.pure (x := s.b.isNone) (fun w => run_sl_eql s _ _ w) ?_
  have hb : s.b.isNone = false := by
    obtain ⟨b, cap, hv, hn, _⟩ := hs.shape
    cases hsb : s.b with
    | some a => rfl
    | none =>
      simp only [SV.val, Value.slice.injEq] at hv
      exact absurd (hn (hv.1.symm.trans hsb)) hne
  refine Ent.iteF hb ?_
  refine Ent.buildSlice0 (α := Entry) Try.underlying77 fun v1 _ => ?_
  have hmax : maxLen = 9223372036854775807 := rfl
  refine Ent.append (P := Try.prog) (α := Entry) (l := []) (r := es) Has.here hs.suf Try.underlying77 hne (by show 0 + es.length ≤ maxLen; omega) (by show (0 + es.length) * 24 ≤ _; omega) fun v2 => ?_
  exact h v2
theorem entries_spec {Γ : List Asn} {b m : Nat} {sv : SV} {l : Accts} {es : List Entry} {K : Value → WP} (hne : es ≠ []) (hl : es.length ≤ 1000000) (h : ∀ v, Ent (ab (SlA Try.prog) v es :: led b m sv l es Γ) (K v)) :
    Ent (led b m sv l es Γ) (callH Try.prog 32 #[.pointer (some ⟨b, 0, none⟩)] K) := by
  refine Ent.byS (A := S.ledger_Ledger_Entries _ _) S.ledger_Ledger_Entries_ok ?_
  unfold S.ledger_Ledger_Entries
  simp only [toT_V, toT_I, toT_B, toT_A, toT_rV, toT_rI, toT_rB, toT_pV, toT_pI, toT_pB, toT_pA, toT_cI, toT_cB]
  refine Ent.pure (x := false) (fun w => run_lptr_eql (some _) _ _ w) ?_
  refine Ent.iteF rfl ?_
  refine Ent.asP rfl ?_
  refine Ent.sem (x := sv.val) (Runs.fld (b := b) rfl rfl) ?_
  refine Ent.slr (P := Try.prog) (α := Entry) (v := sv.val) (l := es) Has.next fun hv => ?_
  exact clone_spec hv hne hl h
end Go.Cab
