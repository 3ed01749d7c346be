/- Contracts: the certificate's pairs. -/
import Derived.Test.YtkjcjlcimgcfcaaWeigh
import Derived.IntWalk
namespace Go.Cab
set_option linter.unusedSimpArgs false
set_option linter.unusedVariables false
set_option linter.unusedSectionVars false
open Go Go.Proofs
variable [Milieu]
def Edge.lt (a b : Edge) : Prop := a.r < b.r ∨ (a.r = b.r ∧ a.c < b.c)
instance (a b : Edge) : Decidable (a.lt b) := by unfold Edge.lt; infer_instance
theorem edgesBad_spec {rows cols : Int} : ∀ {last : Edge} {es : List Edge}, edgesBad rows cols last es = false → (∀ x ∈ es, edgeOut rows cols x = false ∧ last.lt x) ∧ es.Pairwise Edge.lt
  | last, [], _ => ⟨by simp, .nil⟩
  | last, x :: r, h => by
    simp only [edgesBad, Bool.or_eq_false_iff] at h
    obtain ⟨⟨h1, h2⟩, h3⟩ := h
    obtain ⟨hr, hp⟩ := edgesBad_spec h3
    have hlt : last.lt x := by
      simp [edgeLate] at h2
      unfold Edge.lt; omega
    refine ⟨?_, .cons (fun y hy => (hr y hy).2) hp⟩
    intro y hy
    rcases List.mem_cons.1 hy with rfl | hy
    · exact ⟨h1, hlt⟩
    · refine ⟨(hr y hy).1, ?_⟩
      have := (hr y hy).2
      unfold Edge.lt at *; omega
theorem edges_few {rows cols : Int} (h1 : rows ≤ 64) (h2 : cols ≤ 64) : ∀ {last : Edge} {es : List Edge}, edgesBad rows cols last es = false → -64 ≤ last.r * 64 + last.c → last.c < 64 → (es.length : Int) ≤ 4095 - (last.r * 64 + last.c) ∨ es = []
  | last, [], _, _, _ => .inr rfl
  | last, x :: r, h, hl, hl2 => by
    simp only [edgesBad, Bool.or_eq_false_iff] at h
    obtain ⟨⟨ho, h2'⟩, h3⟩ := h
    simp [edgeOut] at ho
    have hlt : last.lt x := by
      simp [edgeLate] at h2'
      unfold Edge.lt; omega
    left
    unfold Edge.lt at hlt
    rcases edges_few h1 h2 h3 (by omega) (by omega) with h | h
    · simp only [List.length_cons]; omega
    · subst h; simp only [List.length_cons, List.length_nil]; omega
theorem graph_few {g : Graph} {es : List Edge} (h : graphBad g es = false) : es.length ≤ 4200 := by
  simp only [graphBad, Bool.or_eq_false_iff] at h
  have hs := h.1
  simp [sizesBad] at hs
  rcases edges_few (by omega) (by omega) h.2 (by decide) (by decide) with h | h
  · simp at h; omega
  · subst h; simp
/-- the weight of a pair: 0 where it is no edge -/
def wt (es : List Edge) (p : Pair) : Int := ((es.find? fun x => x.r == p.r && x.c == p.c).map (·.w)).getD 0
theorem wt_some {es : List Edge} (hs : es.Pairwise Edge.lt) {i : Nat} {x : Edge} {p : Pair} (hx : es[i]? = some x) (hr : x.r = p.r) (hc : x.c = p.c) : wt es p = x.w := by
  have hf : (es.find? fun y => y.r == p.r && y.c == p.c) = some x := by
    induction es generalizing i with
    | nil => simp at hx
    | cons y r ih =>
      cases i with
      | zero =>
        simp at hx; subst hx
        simp [List.find?_cons, hr, hc]
      | succ j =>
        simp at hx
        have hm : x ∈ r := List.mem_of_getElem? hx
        have hlt := (List.pairwise_cons.1 hs).1 x hm
        have : (y.r == p.r && y.c == p.c) = false := by
          unfold Edge.lt at hlt
          simp; omega
        rw [List.find?_cons, this]
        exact ih (List.pairwise_cons.1 hs).2 hx
  simp [wt, hf]
theorem wt_none {es : List Edge} {p : Pair} (h : ∀ (i : Nat) (x : Edge), es[i]? = some x → ¬ (x.r = p.r ∧ x.c = p.c)) : wt es p = 0 := by
  have hf : (es.find? fun y => y.r == p.r && y.c == p.c) = none := by
    rw [List.find?_eq_none]
    intro x hx
    obtain ⟨i, hi⟩ := List.getElem?_of_mem hx
    have := h i x hi
    simp; omega
  simp [wt, hf]
theorem certGraph_spec {Γ : List Asn} {c : Claim} {es : List Edge} {K : Int → WP} (he : SlR Try.prog Γ c.g.edges.val es) (h : Ent Γ (K (if graphBad c.g es then 170 else 0))) : Ent Γ (callT Try.prog (inI .i64) 97 #[c.val] K) := by
  refine Ent.call ?_
  refine Ent.byS (A := S.cert_claim_graph _ _) S.cert_claim_graph_ok ?_
  unfold S.cert_claim_graph
  simp only [toT_V, toT_I, toT_B, toT_A, toT_rV, toT_rI, toT_rB, toT_pV, toT_pI, toT_pB, toT_pA, toT_cI, toT_cB]
  refine Ent.boxV (x := c) (fun b => ?_)
  refine Ent.sem (Runs.subV (x := c.g) rfl rfl) ?_
  refine weigh_Check_spec (es := es) he.suf ?_
  exact Ent.ret (x := (if graphBad c.g es then (170 : Int) else 0)) (Ent.drop h)
theorem run_half (n : Int) (h0 : 0 ≤ n) (h1 : n ≤ 9223372036854775807) (x y : Operand) (w : World) : (eqM .quo 3 x y (.int .i64 n) (.int .i64 2)).run Try.prog w = .ok (.int .i64 (n / 2)) w := by
  have : IntKind.i64.wrap (n.tdiv 2) = n / 2 := by
    rw [IntKind.wrap_i64, Int.tdiv_eq_ediv_of_nonneg h0]; omega
  simp [eqM, eqGuard, binOp, Op.intDiv, this]
theorem certWeight_spec {Γ : List Asn} {c : Claim} {p : Pair} {es : List Edge} {K : Int → WP} (he : SlR Try.prog Γ c.g.edges.val es) (hs : es.Pairwise Edge.lt) (hl : es.length ≤ 4200) (h : Ent Γ (K (wt es p))) : Ent Γ (callT Try.prog (inI .i64) 113 #[c.val, p.val] K) := by
  refine Ent.call ?_
  refine Ent.byS (A := S.cert_claim_weight _ _ _) S.cert_claim_weight_ok ?_
  unfold S.cert_claim_weight
  simp only [toT_V, toT_I, toT_B, toT_A, toT_rV, toT_rI, toT_rB, toT_pV, toT_pI, toT_pB, toT_pA, toT_cI, toT_cB]
  refine Ent.boxV (x := c) (fun b => ?_)
  refine Ent.boxV (x := p) (fun b2 => ?_)
  refine Ent.draw ?_
  first | refine Ent.read (Runs.fld rfl (by rfl)) ?_ | refine Ent.read (Runs.fld2 (by rfl)) ?_
  refine Ent.len (l := es) he.suf Try.underlying38 ?_
  refine Ent.loop (γ := Nat × Nat) (Inv := fun γ s => var Try.prog b2 p :: var Try.prog b c :: Γ) (pre := fun γ s => s = ((γ.1 : Int), (γ.2 : Int)) ∧ γ.1 ≤ γ.2 ∧ γ.2 ≤ es.length ∧ (∀ j x, j < γ.1 → es[j]? = some x → x.lt ⟨p.r, p.c, 0⟩) ∧ (∀ j x, γ.2 ≤ j → es[j]? = some x → ¬ x.lt ⟨p.r, p.c, 0⟩)) (μ := fun γ s => γ.2 - γ.1) (0, es.length) ⟨rfl, Nat.zero_le _, Nat.le_refl _, by simp, fun j x hj hx => by rw [List.getElem?_eq_none hj] at hx; cases hx⟩ (fun _ h => h) ?_
  rintro ⟨lo, hi⟩ s kc ⟨rfl, hle, hhi, hbelow, habove⟩ hkc
  dsimp only at hle hhi hbelow habove ⊢
  refine Ent.ite (fun hc => ?_) (fun hc => ?_)
  · have hlt : lo < hi := by simpa using hc
    have hm63 : maxLen = 9223372036854775807 := rfl
    have hmax := he.max
    have hw : IntKind.i64.wrap ((lo : Int) + (hi : Int)) = ((lo + hi : Nat) : Int) := by rw [IntKind.wrap_i64]; omega
    refine Ent.join (fun y Δ => Δ = var Try.prog b2 p :: var Try.prog b c :: Γ ∧ ∃ a b : Nat, y = ((a : Int), (b : Int)) ∧ a ≤ b ∧ b - a < hi - lo ∧ b ≤ es.length ∧ (∀ j x, j < a → es[j]? = some x → x.lt ⟨p.r, p.c, 0⟩) ∧ (∀ j x, b ≤ j → es[j]? = some x → ¬ x.lt ⟨p.r, p.c, 0⟩)) (fun k hk => ?_) ?_
    · rw [hw]
      refine Ent.pure (fun w => run_half _ (by omega) (by omega) _ _ w) ?_
      first | refine Ent.sem (Runs.fld rfl (by rfl)) ?_ | refine Ent.sem (Runs.fld2 (by rfl)) ?_
      have hmid : (lo + hi) / 2 < es.length := by omega
      have hx : es[(lo + hi) / 2]? = some es[(lo + hi) / 2] := List.getElem?_eq_getElem hmid
      generalize es[(lo + hi) / 2] = x at hx
      have hcast : (((lo + hi : Nat) : Int) / 2) = (((lo + hi) / 2 : Nat) : Int) := by omega
      rw [hcast]
      refine Ent.indexN (x := x) he.suf Try.underlying38 hx fun hrd => ?_
      refine Ent.sem (Runs.rdV (x := x) hrd) ?_
      refine Ent.newV (x := x) fun b3 => ?_
      have hsorted : ∀ (i j : Nat) (a c : Edge), i < j → es[i]? = some a → es[j]? = some c → a.lt c := by
        intro i j a c hij ha hc
        obtain ⟨hi', rfl⟩ := List.getElem?_eq_some_iff.1 ha
        obtain ⟨hj', rfl⟩ := List.getElem?_eq_some_iff.1 hc
        exact List.pairwise_iff_getElem.1 hs i j hi' hj' hij
      refine Ent.join1 (decide (x.lt ⟨p.r, p.c, 0⟩)) (fun k2 hk2 => ?_) ?_
      · first | refine Ent.sem (Runs.fld rfl (by rfl)) ?_ | refine Ent.sem (Runs.fld2 (by rfl)) ?_
        first | refine Ent.sem (Runs.fld rfl (by rfl)) ?_ | refine Ent.sem (Runs.fld2 (by rfl)) ?_
        have hval : (decide (x.r < p.r) || (x.r == p.r && decide (x.c < p.c))) = decide (x.lt ⟨p.r, p.c, 0⟩) := by
          rw [Bool.eq_iff_iff, decide_eq_true_iff]; unfold Edge.lt; simp
        rw [← hval] at hk2
        apply Ent.or
        · intro _ k hk
          first | refine Ent.sem (Runs.fld rfl (by rfl)) ?_ | refine Ent.sem (Runs.fld2 (by rfl)) ?_
          first | refine Ent.sem (Runs.fld rfl (by rfl)) ?_ | refine Ent.sem (Runs.fld2 (by rfl)) ?_
          apply Ent.and
          · intro _ k hk
            first | refine Ent.sem (Runs.fld rfl (by rfl)) ?_ | refine Ent.sem (Runs.fld2 (by rfl)) ?_
            first | refine Ent.sem (Runs.fld rfl (by rfl)) ?_ | refine Ent.sem (Runs.fld2 (by rfl)) ?_
            exact hk
          exact hk
        exact hk2
      · refine Ent.drop ?_
        by_cases hxl : x.lt ⟨p.r, p.c, 0⟩
        · refine Ent.join1 ((((lo + hi) / 2 + 1 : Nat) : Int), (hi : Int)) (fun k3 hk3 => Ent.iteT (decide_eq_true hxl) (Ent.cst hk3 (by rw [wrap_succ hmid hmax]))) (hk _ _ ⟨rfl, (lo + hi) / 2 + 1, hi, rfl, by omega, by omega, hhi, ?_, habove⟩)
          intro j y hj hy
          rcases Nat.lt_or_ge j ((lo + hi) / 2) with h1 | h1
          · have h2 := hsorted _ _ _ _ h1 hy hx
            unfold Edge.lt at *; simp only at *; omega
          · have : j = (lo + hi) / 2 := by omega
            subst this
            rw [hx] at hy; cases hy; exact hxl
        · refine Ent.join1 ((lo : Int), (((lo + hi) / 2 : Nat) : Int)) (fun k3 hk3 => Ent.iteF (decide_eq_false hxl) hk3) (hk _ _ ⟨rfl, lo, (lo + hi) / 2, rfl, by omega, by omega, by omega, hbelow, ?_⟩)
          intro j y hj hy
          rcases Nat.lt_or_ge ((lo + hi) / 2) j with h1 | h1
          · have h2 := hsorted _ _ _ _ h1 hx hy
            unfold Edge.lt at *; simp only at *; omega
          · have : j = (lo + hi) / 2 := by omega
            subst this
            rw [hx] at hy; cases hy; exact hxl
    · rintro y Δ ⟨rfl, a', b', rfl, h1, h2, h3, h4, h5⟩
      exact hkc (a', b') _ ⟨rfl, h1, h3, h4, h5⟩ h2
  · have heq : lo = hi := by simp at hc; omega
    subst heq
    by_cases hlo : lo < es.length
    · have hx : es[lo]? = some es[lo] := List.getElem?_eq_getElem hlo
      generalize es[lo] = x at hx
      refine Ent.join1 (x.r == p.r && x.c == p.c) (fun k hk => ?_) ?_
      · refine Ent.draw ?_
        first | refine Ent.read (Runs.fld rfl (by rfl)) ?_ | refine Ent.read (Runs.fld2 (by rfl)) ?_
        refine Ent.len (l := es) he.suf Try.underlying38 ?_
        have hd : decide ((lo : Int) < (es.length : Int)) = true := by simp; omega
        rw [hd]
        refine Ent.and (x.r == p.r) (fun _ k2 hk2 => ?_) ?_
        · first | refine Ent.read (Runs.fld rfl (by rfl)) ?_ | refine Ent.read (Runs.fld2 (by rfl)) ?_
          refine Ent.indexN (x := x) he.suf Try.underlying38 hx fun hrd => ?_
          refine Ent.read (Runs.rdF (i := 0) hrd rfl rfl) ?_
          first | refine Ent.read (Runs.fld rfl (by rfl)) ?_ | refine Ent.read (Runs.fld2 (by rfl)) ?_
          exact hk2
        · refine Ent.and (x.c == p.c) (fun _ k2 hk2 => ?_) ?_
          · first | refine Ent.read (Runs.fld rfl (by rfl)) ?_ | refine Ent.read (Runs.fld2 (by rfl)) ?_
            refine Ent.indexN (x := x) he.suf Try.underlying38 hx fun hrd => ?_
            refine Ent.read (Runs.rdF (i := 1) hrd rfl rfl) ?_
            first | refine Ent.read (Runs.fld rfl (by rfl)) ?_ | refine Ent.read (Runs.fld2 (by rfl)) ?_
            exact hk2
          · exact hk
      · refine Ent.ite (fun hy => ?_) (fun hy => ?_)
        · simp at hy
          first | refine Ent.sem (Runs.fld rfl (by rfl)) ?_ | refine Ent.sem (Runs.fld2 (by rfl)) ?_
          refine Ent.indexN (x := x) he.suf Try.underlying38 hx fun hrd => ?_
          refine Ent.sem (Runs.rdF (i := 2) hrd rfl rfl) ?_
          rw [wt_some hs hx hy.1 hy.2] at h
          exact Ent.ret (x := x.w) (Ent.drop (Ent.drop h))
        · rw [wt_none ?_] at h
          · exact Ent.ret (x := (0 : Int)) (Ent.drop (Ent.drop h))
          · intro i y hi ⟨e1, e2⟩
            have hnl : ¬ y.lt ⟨p.r, p.c, 0⟩ := by unfold Edge.lt; simp only; omega
            rcases Nat.lt_trichotomy i lo with h1 | h1 | h1
            · exact hnl (hbelow i y h1 hi)
            · subst h1; rw [hx] at hi; cases hi; simp [e1, e2] at hy
            · have h2 := habove lo x (Nat.le_refl _) hx
              obtain ⟨hi', rfl⟩ := List.getElem?_eq_some_iff.1 hi
              obtain ⟨hj', rfl⟩ := List.getElem?_eq_some_iff.1 hx
              have h3 := List.pairwise_iff_getElem.1 hs lo i hj' hi' h1
              unfold Edge.lt at *; simp only at *; omega
    · refine Ent.join1 false (fun k hk => ?_) ?_
      · refine Ent.draw ?_
        first | refine Ent.read (Runs.fld rfl (by rfl)) ?_ | refine Ent.read (Runs.fld2 (by rfl)) ?_
        refine Ent.len (l := es) he.suf Try.underlying38 ?_
        have hd : decide ((lo : Int) < (es.length : Int)) = false := by simp; omega
        rw [hd]
        exact hk
      · refine Ent.iteF rfl ?_
        rw [wt_none ?_] at h
        · exact Ent.ret (x := (0 : Int)) (Ent.drop (Ent.drop h))
        · intro i y hi ⟨e1, e2⟩
          have hil : i < es.length := (List.getElem?_eq_some_iff.1 hi).1
          have := hbelow i y (by omega) hi
          unfold Edge.lt at this; simp only at this; omega
end Go.Cab
