/- Contracts: Balance and Entries of a ledger whose entries are only read; SameEntries; entry. -/
import Derived.Test.YtkjcjlcimgcfcaaEntries
namespace Go.Cab
set_option linter.unusedSimpArgs false
set_option linter.unusedVariables false
set_option linter.unusedSectionVars false
open Go Go.Proofs
variable [Milieu]
theorem balance_specH {Γ Δ1 Δ2 : List Asn} {b m : Nat} {sv : SV} {l : Accts} {id : ID} {K : Int → WP} (hv : Has Blk b Γ (.cells (Enc.cells Try.prog (⟨some m, sv⟩ : LedgerV)).toArray 79 (0, 0)) Δ1) (hm : Has (MapA ID.val) m Γ (kv l) Δ2)
    (h : Ent Γ (K (kget l id).balance)) : Ent Γ (callT Try.prog (inI .i64) 14 #[.pointer (some ⟨b, 0, none⟩), id.val] K) := by
  refine Ent.call ?_
  refine Ent.byS (A := S.ledger_Ledger_Balance _ _ _) S.ledger_Ledger_Balance_ok ?_
  unfold S.ledger_Ledger_Balance
  simp only [toT_V, toT_I, toT_B, toT_A, toT_rV, toT_rI, toT_rB, toT_pV, toT_pI, toT_pB, toT_pA, toT_cI, toT_cB]
  refine Ent.boxV (x := id) fun b2 => ?_
  refine lthere_spec (m := m) (sv := sv) (Has.next (hh := hv)) ?_
  refine Ent.iteF rfl ?_
  refine Ent.draw ?_
  refine Ent.asP rfl ?_
  refine Ent.read (x := Value.map (some m)) (Runs.fld (b := b) rfl rfl) ?_
  refine Ent.read (Runs.varV (x := id)) ?_
  refine Ent.read (x := (kget l id).val) (klk (Has.next (hh := hm)) id) ?_
  refine Ent.pure (x := (kget l id).balance) (fun w => run_field0 _ w) ?_
  exact Ent.ret (x := (kget l id).balance) (Ent.drop h)
theorem entries_specH {Γ Δ1 : List Asn} {b m : Nat} {sv : SV} {es : List Entry} {K : Value → WP} (hv : Has Blk b Γ (.cells (Enc.cells Try.prog (⟨some m, sv⟩ : LedgerV)).toArray 79 (0, 0)) Δ1) (hs : SlR Try.prog Γ sv.val es) (hne : es ≠ []) (hl : es.length ≤ 1000000)
    (h : ∀ v, Ent (ab (SlA Try.prog) v es :: Γ) (K v)) : Ent Γ (callH Try.prog 32 #[.pointer (some ⟨b, 0, none⟩)] K) := by
  refine Ent.byS (A := S.ledger_Ledger_Entries _ _) S.ledger_Ledger_Entries_ok ?_
  unfold S.ledger_Ledger_Entries
  simp only [toT_V, toT_I, toT_B, toT_A, toT_rV, toT_rI, toT_rB, toT_pV, toT_pI, toT_pB, toT_pA, toT_cI, toT_cB]
  refine Ent.pure (x := false) (fun w => run_lptr_eql (some _) _ _ w) ?_
  refine Ent.iteF rfl ?_
  refine Ent.asP rfl ?_
  refine Ent.sem (x := sv.val) (Runs.fld (b := b) rfl rfl) ?_
  exact clone_spec hs hne hl h
theorem entry_spec {Γ : List Asn} {f t : UInt8} {n : Int} {K : Value → WP} (h : Ent Γ (K (⟨idOf f, idOf t, n⟩ : Entry).val)) : Ent Γ (callH Try.prog 31 #[.int .u8 (f.toNat : Int), .int .u8 (t.toNat : Int), .int .i64 n] K) := by
  refine Ent.byS (S.law23_entry_ok (a0 := (f.toNat : Int)) (a1 := (t.toNat : Int)) (a2 := n)) ?_
  unfold S.law23_entry
  simp only [toT_V, toT_I, toT_B, toT_A, toT_rV, toT_rI, toT_rB, toT_pV, toT_pI, toT_pB, toT_pA, toT_cI, toT_cB]
  refine Ent.allocV (α := Entry) fun b => ?_
  refine id_spec ?_
  refine id_spec ?_
  refine Ent.pure (x := (⟨idOf f, idOf t, n⟩ : Entry).val) (fun w => run_build w _ _ _ (by kernel_rfl)) ?_
  refine Ent.storeV (x := (⟨idOf f, idOf t, n⟩ : Entry)) (y := Enc.z Try.prog (α := Entry)) ?_
  refine Ent.see (Runs.varV (x := (⟨idOf f, idOf t, n⟩ : Entry))) ?_
  exact Ent.drop h
/-- where two lists of entries are one -/
theorem same_spec {Γ : List Asn} {v u : Value} {es : List Entry} {K : Bool → WP} (hv : SlR Try.prog Γ v es) (hu : SlR Try.prog Γ u es) (heq : ∀ e ∈ es, ∀ x y w, (eqM .neq 82 x y e.val e.val).run Try.prog w = .ok (.bool false) w)
    (h : Ent Γ (K true)) : Ent Γ (callT Try.prog inB 33 #[v, u] K) := by
  refine Ent.call ?_
  refine Ent.byS (A := S.law01_SameEntries _ _ _) S.law01_SameEntries_ok ?_
  unfold S.law01_SameEntries
  simp only [toT_V, toT_I, toT_B, toT_A, toT_rV, toT_rI, toT_rB, toT_pV, toT_pI, toT_pB, toT_pA, toT_cI, toT_cB]
  refine Ent.len hv Try.underlying77 ?_
  refine Ent.len hu Try.underlying77 ?_
  refine Ent.iteF (by simp) ?_
  refine Ent.loop (γ := Nat) (Inv := fun γ s => Γ) (pre := fun γ s => s.2 = (γ : Int) ∧ γ ≤ es.length) (μ := fun γ s => es.length - γ) 0 ⟨rfl, Nat.zero_le _⟩ (fun _ h => h) ?_
  rintro i ⟨s1, s2⟩ kc ⟨hs2, hi⟩ hkc
  dsimp only at hs2 hi ⊢
  subst hs2
  refine Ent.len hv Try.underlying77 ?_
  refine Ent.ite (fun hc => ?_) (fun hc => ?_)
  · have hlt : i < es.length := by simpa using hc
    have hx : es[i]? = some es[i] := List.getElem?_eq_getElem hlt
    have hm : es[i] ∈ es := List.getElem_mem hlt
    generalize es[i] = e at hx hm
    refine Ent.draw ?_
    refine Ent.indexN (x := e) hv Try.underlying77 hx fun hrd => ?_
    refine Ent.read (Runs.rdV (x := e) hrd) ?_
    refine Ent.indexN (x := e) hu Try.underlying77 hx fun hrd2 => ?_
    refine Ent.read (Runs.rdV (x := e) hrd2) ?_
    refine Ent.pure (x := false) (fun w => heq e hm _ _ w) ?_
    refine Ent.iteF rfl ?_
    exact hkc (i + 1) _ ⟨wrap_succ hlt hv.max, hlt⟩ (by omega)
  · exact Ent.ret (f := inB) (x := true) h
end Go.Cab
