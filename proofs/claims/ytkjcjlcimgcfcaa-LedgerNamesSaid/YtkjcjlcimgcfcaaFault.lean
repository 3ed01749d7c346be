/- Contracts: cert.Pairs whole, the record's fault. -/
import Derived.Test.YtkjcjlcimgcfcaaPairs
namespace Go.Cab
set_option linter.unusedSimpArgs false
set_option linter.unusedVariables false
set_option linter.unusedSectionVars false
open Go Go.Proofs
variable [Milieu]
def certErr (g : Graph) (es : List Edge) (ps : List Pair) : Int := if graphBad g es then 170 else if pairsBad es ps then 180 else 0
theorem certFirst_spec {Γ : List Asn} {c : Claim} {es : List Edge} {ps : List Pair} {v : Value} {K : Int → WP} (he : SlR Try.prog Γ c.g.edges.val es) (hp : SlR Try.prog Γ c.cert.pairs.val ps) (hv : SlR Try.prog Γ v [FV.f 97 [c.val], FV.f 98 [c.val]])
    (h : Ent Γ (K (certErr c.g es ps))) : Ent Γ (callT Try.prog (inI .i64) 96 #[v] K) := by
  refine Ent.call ?_
  refine Ent.byS (A := S.cert_first _ _) S.cert_first_ok ?_
  unfold S.cert_first
  simp only [toT_V, toT_I, toT_B, toT_A, toT_rV, toT_rI, toT_rB, toT_pV, toT_pI, toT_pB, toT_pA, toT_cI, toT_cB]
  refine Ent.len (l := [FV.f 97 [c.val], FV.f 98 [c.val]]) hv Try.underlying170 ?_
  refine Ent.loop (γ := Nat) (Inv := fun γ s => Γ) (pre := fun γ s => s.2 = (γ : Int) ∧ γ ≤ 2 ∧ (1 ≤ γ → graphBad c.g es = false) ∧ (2 ≤ γ → pairsBad es ps = false)) (μ := fun γ s => 2 - γ) 0 ⟨rfl, by omega, by omega, by omega⟩ (fun _ h => h) ?_
  rintro i ⟨s1, s2⟩ kc ⟨hs2, hi, h1, h2⟩ hkc
  dsimp only at hs2 hi h1 h2 ⊢
  subst hs2
  refine Ent.ite (fun hc => ?_) (fun hc => ?_)
  · have hlt : i < 2 := by have : (i : Int) < 2 := by simpa using hc
                           omega
    have hi01 : i = 0 ∨ i = 1 := by omega
    rcases hi01 with rfl | rfl
    · refine Ent.indexN (i := 0) (x := FV.f 97 [c.val]) hv Try.underlying170 rfl fun hrd => ?_
      refine Ent.sem (Runs.rdV (x := FV.f 97 [c.val]) hrd) ?_
      refine Ent.callF Try.call97 ?_
      refine certGraph_spec (c := c) (es := es) he ?_
      refine Ent.ite (fun hn => ?_) (fun hn => ?_)
      · have hg : graphBad c.g es = true := by
          cases hgb : graphBad c.g es
          · rw [hgb] at hn; simp at hn
          · rfl
        simp only [certErr, hg, if_true] at h
        rw [hg]
        exact Ent.ret (x := (170 : Int)) h
      · have hg : graphBad c.g es = false := by
          cases hgb : graphBad c.g es
          · rfl
          · rw [hgb] at hn; simp at hn
        exact hkc 1 _ ⟨wrap_succ hlt (by decide), by omega, fun _ => hg, by omega⟩ (by omega)
    · refine Ent.indexN (i := 1) (x := FV.f 98 [c.val]) hv Try.underlying170 rfl fun hrd => ?_
      refine Ent.sem (Runs.rdV (x := FV.f 98 [c.val]) hrd) ?_
      refine Ent.callF Try.call98 ?_
      have hg := h1 (by omega)
      refine certPairs0_spec (c := c) (es := es) (ps := ps) he hp hg ?_
      refine Ent.ite (fun hn => ?_) (fun hn => ?_)
      · have hq : pairsBad es ps = true := by
          cases hgb : pairsBad es ps
          · rw [hgb] at hn; simp at hn
          · rfl
        simp only [certErr, hg, hq, if_true] at h
        rw [hq]
        exact Ent.ret (x := (180 : Int)) h
      · have hq : pairsBad es ps = false := by
          cases hgb : pairsBad es ps
          · rfl
          · rw [hgb] at hn; simp at hn
        exact hkc 2 _ ⟨wrap_succ hlt (by decide), by omega, fun _ => hg, fun _ => hq⟩ (by omega)
  · have : i = 2 := by simp at hc; omega
    subst this
    simp only [certErr, h1 (by omega), h2 (by omega)] at h
    exact Ent.ret (x := (0 : Int)) h
theorem certPairs_spec {Γ : List Asn} {g : Graph} {s : SV} {es : List Edge} {ps : List Pair} {K : Int → WP} (he : SlR Try.prog Γ g.edges.val es) (hp : SlR Try.prog Γ s.val ps) (h : Ent Γ (K (certErr g es ps))) : Ent Γ (callT Try.prog (inI .i64) 69 #[g.val, s.val] K) := by
  refine Ent.call ?_
  refine Ent.byS (A := S.cert_Pairs _ _ _) S.cert_Pairs_ok ?_
  unfold S.cert_Pairs
  simp only [toT_V, toT_I, toT_B, toT_A, toT_rV, toT_rI, toT_rB, toT_pV, toT_pI, toT_pB, toT_pA, toT_cI, toT_cB]
  refine Ent.boxV (x := g) (fun b => ?_)
  refine Ent.sem (Runs.varV (x := g)) ?_
  refine Ent.pure (x := (⟨s, ⟨none, 0, 0⟩, ⟨none, 0, 0⟩⟩ : Cert).val) (fun w => run_build w _ _ _ (by kernel_rfl)) ?_
  refine Ent.pure (x := (⟨g, ⟨s, ⟨none, 0, 0⟩, ⟨none, 0, 0⟩⟩⟩ : Claim).val) (fun w => run_build w _ _ _ (by kernel_rfl)) ?_
  refine Ent.newV (x := (⟨g, ⟨s, ⟨none, 0, 0⟩, ⟨none, 0, 0⟩⟩⟩ : Claim)) fun b2 => ?_
  refine Ent.sem (Runs.varV (x := (⟨g, ⟨s, ⟨none, 0, 0⟩, ⟨none, 0, 0⟩⟩⟩ : Claim))) ?_
  refine Ent.sem (Runs.varV (x := (⟨g, ⟨s, ⟨none, 0, 0⟩, ⟨none, 0, 0⟩⟩⟩ : Claim))) ?_
  refine Ent.buildSlice (l := [FV.f 97 [(⟨g, ⟨s, ⟨none, 0, 0⟩, ⟨none, 0, 0⟩⟩⟩ : Claim).val], FV.f 98 [(⟨g, ⟨s, ⟨none, 0, 0⟩, ⟨none, 0, 0⟩⟩⟩ : Claim).val]]) Try.underlying170 rfl rfl (by simp) (by show 2 * 1 ≤ 16777216; decide) fun v => ?_
  refine Ent.slr Has.here fun hv => ?_
  refine certFirst_spec (c := ⟨g, ⟨s, ⟨none, 0, 0⟩, ⟨none, 0, 0⟩⟩⟩) (es := es) (ps := ps) he.suf hp.suf hv ?_
  exact Ent.ret (x := certErr g es ps) (Ent.drop (Ent.drop (Ent.drop h)))
end Go.Cab
