/- The law FairNone, as a call. -/
import Derived.Test.YtkjcjlcimgcfcaaAlive
namespace Go.Cab
set_option linter.unusedSimpArgs false
set_option linter.unusedVariables false
set_option linter.unusedSectionVars false
open Go Go.Proofs
variable [Milieu]
theorem fairNone_spec {Γ : List Asn} {x : Record} {K : Value → WP} (h : Ent Γ (K (.bool true))) : Ent Γ (callH Try.prog 5 #[x.val] K) := by
  refine Ent.byS S.law21_FairNone_ok ?_
  unfold S.law21_FairNone
  simp only [toT_V, toT_I, toT_B, toT_A, toT_rV, toT_rI, toT_rB, toT_pV, toT_pI, toT_pB, toT_pA, toT_cI, toT_cB]
  refine Ent.boxV (x := x) fun b1 => ?_
  refine Ent.pure (x := (⟨none, 0, 0, ⟨none, 0, 0⟩⟩ : WatchV).val) (fun w => run_build w _ _ _ (by kernel_rfl)) ?_
  refine Ent.boxV (x := (⟨none, 0, 0, ⟨none, 0, 0⟩⟩ : WatchV)) fun b2 => ?_
  refine Ent.join1 true (fun k hk => ?_) ?_
  · refine Ent.sem (Runs.varV (x := x)) ?_
    refine see_nil ?_
    refine Ent.andT rfl ?_
    refine Ent.sem (Runs.varV (x := x)) ?_
    refine see_none (wv := ⟨none, 0, 0, ⟨none, 0, 0⟩⟩) Has.here rfl ?_
    refine Ent.andT rfl ?_
    refine worst_nil ?_
    refine worst_spec (wv := ⟨none, 0, 0, ⟨none, 0, 0⟩⟩) Has.here ?_
    refine Ent.andT (by kernel_rfl) ?_
    refine standing_nil ?_
    refine Ent.len (P := Try.prog) (α := Standing) (l := []) SlR.nil Try.underlying67 ?_
    refine standing_none (wv := ⟨none, 0, 0, ⟨none, 0, 0⟩⟩) Has.here rfl ?_
    refine Ent.len (P := Try.prog) (α := Standing) (l := []) SlR.nil Try.underlying67 ?_
    refine Ent.andT (by kernel_rfl) ?_
    refine alive_spec ?_
    exact hk
  · exact Ent.drop (Ent.drop h)
end Go.Cab
