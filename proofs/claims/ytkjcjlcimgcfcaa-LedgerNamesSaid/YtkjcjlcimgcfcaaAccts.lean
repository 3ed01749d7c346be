/- Contracts: the ledger's Accounts. -/
import Derived.Test.YtkjcjlcimgcfcaaPay
namespace Go.Cab
set_option linter.unusedSimpArgs false
set_option linter.unusedVariables false
set_option linter.unusedSectionVars false
open Go Go.Proofs
variable [Milieu]
theorem kv_keys {β : Type} [Enc Try.prog β] (l : KV β) : AL.keys (kv l) = l.map (·.1) := by simp [AL.keys, kv]
set_option maxHeartbeats 1000000 in
theorem accounts_spec {Γ : List Asn} {b m : Nat} {sv : SV} {l : Accts} {es : List Entry} {K : Value → WP} (hl : l.length ≤ 1000000) (h : ∀ v ks, ks.Perm (l.map (·.1)) → Ent (ab (SlA Try.prog) v (sortID ks) :: led b m sv l es Γ) (K v)) :
    Ent (led b m sv l es Γ) (callH Try.prog 15 #[.pointer (some ⟨b, 0, none⟩)] K) := by
  refine Ent.byS (A := S.ledger_Ledger_Accounts _ _) S.ledger_Ledger_Accounts_ok ?_
  unfold S.ledger_Ledger_Accounts
  simp only [toT_V, toT_I, toT_B, toT_A, toT_rV, toT_rI, toT_rB, toT_pV, toT_pI, toT_pB, toT_pA, toT_cI, toT_cB]
  refine Ent.pure (x := false) (fun w => run_lptr_eql (some _) _ _ w) ?_
  refine Ent.iteF rfl ?_
  refine Ent.asP rfl ?_
  refine Ent.sem (x := Value.map (some m)) (Runs.fld (b := b) rfl rfl) ?_
  refine Ent.range (enc := ID.val) (K := 28) (E := 86) Try.underlying76 Has.next fun it => ?_
  refine Ent.nilS (P := Try.prog) (α := ID) ?_
  refine Ent.loop (γ := Value × List ID × AL ID × Option (ID × Value)) (Inv := fun γ _ => ab (SlA Try.prog) γ.1 γ.2.1 :: ab (MapIt ID.val) (m, it) (kv l, γ.2.2.1, γ.2.2.2) :: var Try.prog b (⟨some m, sv⟩ : LedgerV) :: ab (SlA Try.prog) sv.val es :: Γ) (pre := fun γ s => s = γ.1 ∧ (γ.2.1 ++ AL.keys γ.2.2.1).Perm (l.map (·.1))) (μ := fun γ _ => γ.2.2.1.length) (.slice none 0 0, [], kv l, none) ⟨rfl, by rw [← kv_keys]; exact List.Perm.refl _⟩ (fun _ h => h) ?_
  rintro ⟨v, ks, left, last⟩ s kc ⟨hs, hp⟩ hkc
  dsimp only at hs hp ⊢
  subst hs
  have hlen := hp.length_eq
  simp only [List.length_append, List.length_map, AL.keys] at hlen
  refine Ent.next (enc := ID.val) (b := m) (it := it) (l := kv l) (left := left) (last := last) Has.next (fun hleft => ?_) (fun x u l1 l2 hsp => ?_)
  · refine Ent.pure (x := false) (fun w => by simp [Instr.extract]) ?_
    refine Ent.iteF rfl ?_
    refine sort_spec (l := ks) Has.next (by omega) ?_
    refine Ent.rangeEnd (enc := ID.val) (k := (m, it)) Has.next ?_
    refine Ent.sink2 ?_
    refine h s ks ?_
    subst hleft
    simpa [AL.keys] using hp
  · refine Ent.pure (x := true) (fun w => by simp [Instr.extract]) ?_
    refine Ent.iteT rfl ?_
    refine Ent.sem (x := Value.tuple #[x.val, u]) (Runs.entry (enc := ID.val) Has.here) ?_
    refine Ent.pure (x := x.val) (fun w => by simp [Instr.extract]) ?_
    refine Ent.newV (x := x) fun b3 => ?_
    refine Ent.sem (Runs.varV (x := x)) ?_
    refine Ent.buildSlice (l := [x]) Try.underlying34 rfl rfl (by simp) (by show 1 * 8 ≤ 16777216; decide) fun v3 => ?_
    have hmax : maxLen = 9223372036854775807 := rfl
    refine Ent.slr (P := Try.prog) (α := ID) (v := v3) (l := [x]) Has.here fun hv3 => ?_
    refine Ent.append (P := Try.prog) (α := ID) (l := ks) Has.next hv3 Try.underlying34 (by simp) (by show ks.length + 1 ≤ maxLen; omega) (by show (ks.length + 1) * 8 ≤ _; omega) fun v4 => ?_
    refine Ent.drop2 (Ent.drop2 ?_)
    refine hkc (v4, ks ++ [x], l1 ++ l2, some (x, u)) _ ⟨rfl, ?_⟩ (by subst hsp; simp)
    subst hsp
    refine List.Perm.trans ?_ hp
    simp only [AL.keys, List.map_append, List.map_cons, List.append_assoc, List.singleton_append]
    exact List.Perm.append_left _ List.perm_middle.symm
end Go.Cab
