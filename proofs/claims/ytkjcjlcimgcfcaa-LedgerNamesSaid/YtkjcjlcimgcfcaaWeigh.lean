/- Contracts: weigh.Check. -/
import Derived.Test.YtkjcjlcimgcfcaaFairT
import Derived.Test.YtkjcjlcimgcfcaaFairS
namespace Go.Cab
set_option linter.unusedSimpArgs false
set_option linter.unusedVariables false
set_option linter.unusedSectionVars false
open Go Go.Proofs
variable [Milieu]
def edgeOut (rows cols : Int) (x : Edge) : Bool := decide (x.r < 0) || (decide (rows ≤ x.r) || (decide (x.c < 0) || (decide (cols ≤ x.c) || (decide (x.w < 1) || decide (1099513724929 < x.w)))))
def edgeLate (last x : Edge) : Bool := decide (x.r < last.r) || (x.r == last.r && decide (x.c ≤ last.c))
def edgesBad (rows cols : Int) : Edge → List Edge → Bool
  | _, [] => false
  | last, x :: r => edgeOut rows cols x || edgeLate last x || edgesBad rows cols x r
def sizesBad (rows cols : Int) : Bool := decide (rows < 0) || decide (64 < rows) || decide (cols < 0) || decide (64 < cols)
def graphBad (g : Graph) (es : List Edge) : Bool := sizesBad g.rows g.cols || edgesBad g.rows g.cols ⟨-1, 0, 0⟩ es
theorem weigh_Check_spec {Γ : List Asn} {g : Graph} {es : List Edge} {K : Int → WP} (he : SlR Try.prog Γ g.edges.val es) (h : Ent Γ (K (if graphBad g es then 170 else 0))) : Ent Γ (callT Try.prog (inI .i64) 68 #[g.val] K) := by
  refine Ent.call ?_
  refine Ent.byS S.weigh_Check_ok ?_
  unfold S.weigh_Check
  simp only [toT_V, toT_I, toT_B, toT_A, toT_rV, toT_rI, toT_rB, toT_pV, toT_pI, toT_pB, toT_pA, toT_cI, toT_cB]
  refine Ent.boxV (x := g) (fun b => ?_)
  apply Ent.join1
  · intro k hk
    first | refine Ent.sem (Runs.fld rfl (by rfl)) ?_ | refine Ent.sem (Runs.fld2 (by rfl)) ?_
    apply Ent.or
    · intro _ k hk
      first | refine Ent.sem (Runs.fld rfl (by rfl)) ?_ | refine Ent.sem (Runs.fld2 (by rfl)) ?_
      exact hk
    apply Ent.or
    · intro _ k hk
      first | refine Ent.sem (Runs.fld rfl (by rfl)) ?_ | refine Ent.sem (Runs.fld2 (by rfl)) ?_
      exact hk
    apply Ent.or
    · intro _ k hk
      first | refine Ent.sem (Runs.fld rfl (by rfl)) ?_ | refine Ent.sem (Runs.fld2 (by rfl)) ?_
      exact hk
    exact hk
  refine Ent.pure (x := (⟨-1, 0, 0⟩ : Edge).val) (fun w => run_build w _ _ _ (by kernel_rfl)) ?_
  refine Ent.newV (x := (⟨-1, 0, 0⟩ : Edge)) fun b2 => ?_
  first | refine Ent.sem (Runs.fld rfl (by rfl)) ?_ | refine Ent.sem (Runs.fld2 (by rfl)) ?_
  refine Ent.len (l := es) he.suf Try.underlying38 ?_
  refine Ent.join (fun y Δ => y = graphBad g es ∧ ∃ l : Edge, Δ = var Try.prog b2 l :: var Try.prog b g :: Γ) (fun k401 hk401 => ?_) ?_
  · refine Ent.loop (γ := Nat × Edge) (Inv := fun γ s => var Try.prog b2 γ.2 :: var Try.prog b g :: Γ) (pre := fun γ s => s.2 = γ.1 ∧ γ.1 ≤ es.length ∧ graphBad g es = (s.1 || edgesBad g.rows g.cols γ.2 (es.drop γ.1))) (μ := fun γ s => es.length - γ.1) (0, ⟨-1, 0, 0⟩) ⟨rfl, Nat.zero_le _, rfl⟩ (fun _ h => h) ?_
    rintro ⟨i, last⟩ ⟨bad, j⟩ kc ⟨rfl, hi, hb⟩ hkc
    dsimp only at hb ⊢
    refine Ent.ite (fun hc => ?_) (fun hc => ?_)
    · have hlt : i < es.length := by simpa using hc
      have hx : es[i]? = some es[i] := List.getElem?_eq_getElem hlt
      generalize es[i] = x at hx
      refine Ent.indexN (x := x) he.suf Try.underlying38 hx fun hrd => ?_
      refine Ent.sem (Runs.rdV (x := x) hrd) ?_
      refine Ent.newV (x := x) fun b3 => ?_
      first | refine Ent.sem (Runs.fld rfl (by rfl)) ?_ | refine Ent.sem (Runs.fld2 (by rfl)) ?_
      have hstep : edgesBad g.rows g.cols last (es.drop i) = (edgeOut g.rows g.cols x || edgeLate last x || edgesBad g.rows g.cols x (es.drop (i + 1))) := by
        rw [List.drop_eq_getElem_cons hlt]
        have := (List.getElem?_eq_some_iff.1 hx).2
        rw [this]; rfl
      rw [hstep] at hb
      refine Ent.join1 (edgeOut g.rows g.cols x) (fun k hk => ?_) ?_
      · refine Ent.iteOr hk fun hk => ?_
        first | refine Ent.sem (Runs.fld rfl (by rfl)) ?_ | refine Ent.sem (Runs.fld2 (by rfl)) ?_
        first | refine Ent.sem (Runs.fld rfl (by rfl)) ?_ | refine Ent.sem (Runs.fld2 (by rfl)) ?_
        refine Ent.joinK hk fun k hk => ?_
        refine Ent.iteOr hk fun hk => ?_
        first | refine Ent.sem (Runs.fld rfl (by rfl)) ?_ | refine Ent.sem (Runs.fld2 (by rfl)) ?_
        refine Ent.joinK hk fun k hk => ?_
        refine Ent.iteOr hk fun hk => ?_
        first | refine Ent.sem (Runs.fld rfl (by rfl)) ?_ | refine Ent.sem (Runs.fld2 (by rfl)) ?_
        first | refine Ent.sem (Runs.fld rfl (by rfl)) ?_ | refine Ent.sem (Runs.fld2 (by rfl)) ?_
        refine Ent.joinK hk fun k hk => ?_
        refine Ent.iteOr hk fun hk => ?_
        first | refine Ent.sem (Runs.fld rfl (by rfl)) ?_ | refine Ent.sem (Runs.fld2 (by rfl)) ?_
        refine Ent.joinK hk fun k hk => ?_
        refine Ent.iteOr hk fun hk => ?_
        first | refine Ent.sem (Runs.fld rfl (by rfl)) ?_ | refine Ent.sem (Runs.fld2 (by rfl)) ?_
        exact hk
      · refine Ent.ite (fun hy => ?_) (fun hy => ?_)
        · refine Ent.drop (hk401 true _ ⟨by rw [hb, hy]; simp, last, rfl⟩)
        · first | refine Ent.sem (Runs.fld rfl (by rfl)) ?_ | refine Ent.sem (Runs.fld2 (by rfl)) ?_
          first | refine Ent.sem (Runs.fld rfl (by rfl)) ?_ | refine Ent.sem (Runs.fld2 (by rfl)) ?_
          refine Ent.join1 (edgeLate last x) (fun k hk => ?_) ?_
          · refine Ent.iteOr hk fun hk => ?_
            refine Ent.joinK hk fun k hk2 => ?_
            first | refine Ent.sem (Runs.fld rfl (by rfl)) ?_ | refine Ent.sem (Runs.fld2 (by rfl)) ?_
            first | refine Ent.sem (Runs.fld rfl (by rfl)) ?_ | refine Ent.sem (Runs.fld2 (by rfl)) ?_
            apply Ent.and
            · intro _ k hk
              first | refine Ent.sem (Runs.fld rfl (by rfl)) ?_ | refine Ent.sem (Runs.fld2 (by rfl)) ?_
              first | refine Ent.sem (Runs.fld rfl (by rfl)) ?_ | refine Ent.sem (Runs.fld2 (by rfl)) ?_
              exact hk
            exact hk2
          · refine Ent.ite (fun hz => ?_) (fun hz => ?_)
            · refine Ent.drop (hk401 true _ ⟨by rw [hb, hz]; simp, last, rfl⟩)
            · refine Ent.sem (Runs.varV (x := x)) ?_
              refine Ent.drop ?_
              refine Ent.storeV (x := x) ?_
              refine hkc (i + 1, x) _ ⟨wrap_succ hlt he.max, hlt, ?_⟩ (by dsimp only; omega)
              rw [hb, hy, hz]; simp
    · have hge : i = es.length := by simp at hc; omega
      subst hge
      refine hk401 bad _ ⟨?_, last, rfl⟩
      rw [hb]; simp [edgesBad]
  · rintro y Δ ⟨rfl, l, rfl⟩
    refine Ent.ite (fun hy => ?_) (fun hy => ?_)
    · rw [hy] at h
      exact Ent.ret (x := (170 : Int)) (Ent.drop (Ent.drop h))
    · rw [hy] at h
      exact Ent.ret (x := (0 : Int)) (Ent.drop (Ent.drop h))
end Go.Cab
