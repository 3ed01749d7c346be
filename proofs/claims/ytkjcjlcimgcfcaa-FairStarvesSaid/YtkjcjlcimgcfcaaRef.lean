/- Contracts: the document's functions of the record. -/
import Derived.Test.YtkjcjlcimgcfcaaGood
import Derived.Test.YtkjcjlcimgcfcaaRefS
namespace Go.Cab
set_option linter.unusedSimpArgs false
set_option linter.unusedVariables false
set_option linter.unusedSectionVars false
open Go Go.Proofs
variable [Milieu]
theorem row_spec {Γ : List Asn} {x : Record} {ws : List Waiting} {id : ID} {K : Int → WP} [Sl Try.prog Γ x.waiting.val Waiting enc_56 ws] (h : Ent Γ (K (rowI ws id))) : Ent Γ (callT Try.prog (inI .i64) 48 #[x.val, id.val] K) := by
  refine Ent.call ?_
  refine Ent.byS (A := S.ref21_Row _ _ _) S.ref21_Row_ok ?_
  unfold S.ref21_Row
  simp only [toT_V, toT_I, toT_B, toT_A, toT_rV, toT_rI, toT_rB, toT_pV, toT_pI, toT_pB, toT_pA, toT_cI, toT_cB]
  refine Ent.slhA (P := Try.prog) (v := x.waiting.val) fun hw => ?_
  refine Ent.maxA (P := Try.prog) x.waiting.val fun hmax => ?_
  (repeat (first | ((with_reducible apply Ent.ldA); exact rfl; exact rfl) | ((with_reducible apply Ent.rdA); exact rfl; exact rfl) | ((with_reducible apply Ent.kpA); exact rfl; exact rfl) | ((with_reducible apply Ent.lenA)) | ((with_reducible apply Ent.draw)) | ((with_reducible apply Ent.boxA); exact rfl; intro _) | ((with_reducible apply Ent.alA); intro _) | ((with_reducible apply Ent.stA); exact rfl; exact rfl) | ((with_reducible apply Ent.asP); exact rfl) | ((with_reducible apply Ent.exA); exact rfl) | ((with_reducible apply Ent.eqA); exact rfl; exact rfl) | ((with_reducible apply Ent.neA); exact rfl; exact rfl) | ((with_reducible apply Ent.seA); exact rfl) | ((with_reducible apply Ent.ixN); (first | (exact hx; exact rfl) | (exact hp; exact hpi) | (exact hx2; exact hxi2)); intro hrd)))
  rename_i b1 b2
  refine Ent.loopA (γ := Nat) (fun _ => var Try.prog b2 id :: var Try.prog b1 x ::  Γ) (fun i s => s.2 = (i : Int) ∧ i ≤ ws.length ∧ rowI ws id = (match rowOf (ws.drop i) id with | some j => ((i + j : Nat) : Int) | none => -1)) (fun i => ws.length - i) 0 ⟨rfl, Nat.zero_le _, by simp only [rowI, List.drop_zero, Nat.zero_add]; rfl⟩ (by (repeat (first | exact Subs.tail | exact Subs.nil | refine Subs.cons inferInstance ?_))) ?_
  rintro i ⟨s1, s2⟩ kc ⟨hs2, hi, hb⟩ hkc
  dsimp only at hs2 hi hb ⊢
  subst hs2
  (repeat (first | ((with_reducible apply Ent.ldA); exact rfl; exact rfl) | ((with_reducible apply Ent.rdA); exact rfl; exact rfl) | ((with_reducible apply Ent.kpA); exact rfl; exact rfl) | ((with_reducible apply Ent.lenA)) | ((with_reducible apply Ent.draw)) | ((with_reducible apply Ent.boxA); exact rfl; intro _) | ((with_reducible apply Ent.alA); intro _) | ((with_reducible apply Ent.stA); exact rfl; exact rfl) | ((with_reducible apply Ent.asP); exact rfl) | ((with_reducible apply Ent.exA); exact rfl) | ((with_reducible apply Ent.eqA); exact rfl; exact rfl) | ((with_reducible apply Ent.neA); exact rfl; exact rfl) | ((with_reducible apply Ent.seA); exact rfl) | ((with_reducible apply Ent.ixN); (first | (exact hx; exact rfl) | (exact hp; exact hpi) | (exact hx2; exact hxi2)); intro hrd)))
  refine Ent.ite (fun hc => ?_) (fun hc => ?_)
  · have hlt : i < ws.length := by simpa using hc
    have hx : ws[i]? = some ws[i] := List.getElem?_eq_getElem hlt
    have hdr : ws.drop i = ws[i] :: ws.drop (i + 1) := List.drop_eq_getElem_cons hlt
    generalize ws[i] = q at hx hdr
    (repeat (first | ((with_reducible apply Ent.ldA); exact rfl; exact rfl) | ((with_reducible apply Ent.rdA); exact rfl; exact rfl) | ((with_reducible apply Ent.kpA); exact rfl; exact rfl) | ((with_reducible apply Ent.lenA)) | ((with_reducible apply Ent.draw)) | ((with_reducible apply Ent.boxA); exact rfl; intro _) | ((with_reducible apply Ent.alA); intro _) | ((with_reducible apply Ent.stA); exact rfl; exact rfl) | ((with_reducible apply Ent.asP); exact rfl) | ((with_reducible apply Ent.exA); exact rfl) | ((with_reducible apply Ent.eqA); exact rfl; exact rfl) | ((with_reducible apply Ent.neA); exact rfl; exact rfl) | ((with_reducible apply Ent.seA); exact rfl) | ((with_reducible apply Ent.ixN); (first | (exact hx; exact rfl) | (exact hp; exact hpi) | (exact hx2; exact hxi2)); intro hrd)))
    refine Ent.ite (fun hy => ?_) (fun hy => ?_)
    · have hq : q.request.id = id := by simpa using hy
      have : rowI ws id = (i : Int) := by rw [hb, hdr]; simp [rowOf, List.findIdx?_cons, hq]
      rw [this] at h
      refine h.retA rfl (by (repeat (first | exact Subs.tail | exact Subs.nil | refine Subs.cons inferInstance ?_)))
    · have hq : q.request.id ≠ id := by simpa using hy
      refine hkc (i + 1) _ ⟨wrap_succ hlt hmax, hlt, ?_⟩ (by omega) _ (by (repeat (first | exact Subs.tail | exact Subs.nil | refine Subs.cons inferInstance ?_)))
      rw [hb, hdr]
      simp only [rowOf, List.findIdx?_cons, decide_eq_false hq]
      cases List.findIdx? (fun w => decide (w.request.id = id)) (ws.drop (i + 1)) with
      | none => simp
      | some j => simp; show (i : Int) + ((j : Int) + 1) = (i : Int) + 1 + (j : Int); omega
  · have hge : i = ws.length := by simp at hc; omega
    subst hge
    have : rowI ws id = -1 := by rw [hb]; simp [rowOf]
    rw [this] at h
    refine h.retA rfl (by (repeat (first | exact Subs.tail | exact Subs.nil | refine Subs.cons inferInstance ?_)))
theorem wrap_pred {i n : Nat} (h : 0 < i) (h2 : i ≤ n) (hn : n ≤ maxLen) : IntKind.i64.wrap ((i : Int) - 1) = ((i - 1 : Nat) : Int) := by
  have : maxLen = 9223372036854775807 := rfl
  rw [IntKind.wrap_i64]; omega
theorem weight_spec {Γ : List Asn} {g : Graph} {es : List Edge} {r c : Int} {K : Int → WP} [Sl Try.prog Γ g.edges.val Edge enc_103 es] (h : Ent Γ (K (wt es ⟨r, c⟩))) : Ent Γ (callT Try.prog (inI .i64) 99 #[g.val, .int .i64 r, .int .i64 c] K) := by
  refine Ent.call ?_
  refine Ent.byS (A := S.ref18_Weight _ _ _ _) S.ref18_Weight_ok ?_
  unfold S.ref18_Weight
  simp only [toT_V, toT_I, toT_B, toT_A, toT_rV, toT_rI, toT_rB, toT_pV, toT_pI, toT_pB, toT_pA, toT_cI, toT_cB]
  refine Ent.slhA (P := Try.prog) (v := g.edges.val) fun he => ?_
  refine Ent.maxA (P := Try.prog) g.edges.val fun hmax => ?_
  (repeat (first | ((with_reducible apply Ent.ldA); exact rfl; exact rfl) | ((with_reducible apply Ent.rdA); exact rfl; exact rfl) | ((with_reducible apply Ent.kpA); exact rfl; exact rfl) | ((with_reducible apply Ent.lenA)) | ((with_reducible apply Ent.draw)) | ((with_reducible apply Ent.boxA); exact rfl; intro _) | ((with_reducible apply Ent.alA); intro _) | ((with_reducible apply Ent.stA); exact rfl; exact rfl) | ((with_reducible apply Ent.asP); exact rfl) | ((with_reducible apply Ent.exA); exact rfl) | ((with_reducible apply Ent.eqA); exact rfl; exact rfl) | ((with_reducible apply Ent.neA); exact rfl; exact rfl) | ((with_reducible apply Ent.seA); exact rfl) | ((with_reducible apply Ent.ixN); (first | (exact hx; exact rfl) | (exact hp; exact hpi) | (exact hx2; exact hxi2)); intro hrd)))
  rename_i b1
  refine Ent.loopA (γ := Nat) (fun _ => var Try.prog b1 g :: Γ) (fun i s => s.2 = (i : Int) ∧ i ≤ es.length ∧ wt es ⟨r, c⟩ = wt (es.drop i) ⟨r, c⟩) (fun i => es.length - i) 0 ⟨rfl, Nat.zero_le _, by simp⟩ (by (repeat (first | exact Subs.tail | exact Subs.nil | refine Subs.cons inferInstance ?_))) ?_
  rintro i ⟨s1, s2⟩ kc ⟨hs2, hi, hb⟩ hkc
  dsimp only at hs2 hi hb ⊢
  subst hs2
  (repeat (first | ((with_reducible apply Ent.ldA); exact rfl; exact rfl) | ((with_reducible apply Ent.rdA); exact rfl; exact rfl) | ((with_reducible apply Ent.kpA); exact rfl; exact rfl) | ((with_reducible apply Ent.lenA)) | ((with_reducible apply Ent.draw)) | ((with_reducible apply Ent.boxA); exact rfl; intro _) | ((with_reducible apply Ent.alA); intro _) | ((with_reducible apply Ent.stA); exact rfl; exact rfl) | ((with_reducible apply Ent.asP); exact rfl) | ((with_reducible apply Ent.exA); exact rfl) | ((with_reducible apply Ent.eqA); exact rfl; exact rfl) | ((with_reducible apply Ent.neA); exact rfl; exact rfl) | ((with_reducible apply Ent.seA); exact rfl) | ((with_reducible apply Ent.ixN); (first | (exact hx; exact rfl) | (exact hp; exact hpi) | (exact hx2; exact hxi2)); intro hrd)))
  refine Ent.ite (fun hc => ?_) (fun hc => ?_)
  · have hlt : i < es.length := by simpa using hc
    have hx : es[i]? = some es[i] := List.getElem?_eq_getElem hlt
    have hdr : es.drop i = es[i] :: es.drop (i + 1) := List.drop_eq_getElem_cons hlt
    generalize es[i] = q at hx hdr
    (repeat (first | ((with_reducible apply Ent.ldA); exact rfl; exact rfl) | ((with_reducible apply Ent.rdA); exact rfl; exact rfl) | ((with_reducible apply Ent.kpA); exact rfl; exact rfl) | ((with_reducible apply Ent.lenA)) | ((with_reducible apply Ent.draw)) | ((with_reducible apply Ent.boxA); exact rfl; intro _) | ((with_reducible apply Ent.alA); intro _) | ((with_reducible apply Ent.stA); exact rfl; exact rfl) | ((with_reducible apply Ent.asP); exact rfl) | ((with_reducible apply Ent.exA); exact rfl) | ((with_reducible apply Ent.eqA); exact rfl; exact rfl) | ((with_reducible apply Ent.neA); exact rfl; exact rfl) | ((with_reducible apply Ent.seA); exact rfl) | ((with_reducible apply Ent.ixN); (first | (exact hx; exact rfl) | (exact hp; exact hpi) | (exact hx2; exact hxi2)); intro hrd)))
    refine Ent.joinB (q.r == r && q.c == c) (fun k hk => ?_) ?_
    · repeat' (first | exact hk | exact hk _ (by rfl) | ((with_reducible apply Ent.ldA); exact rfl; exact rfl) | ((with_reducible apply Ent.rdA); exact rfl; exact rfl) | ((with_reducible apply Ent.kpA); exact rfl; exact rfl) | ((with_reducible apply Ent.lenA)) | ((with_reducible apply Ent.draw)) | ((with_reducible apply Ent.boxA); exact rfl; intro _) | ((with_reducible apply Ent.alA); intro _) | ((with_reducible apply Ent.stA); exact rfl; exact rfl) | ((with_reducible apply Ent.asP); exact rfl) | ((with_reducible apply Ent.exA); exact rfl) | ((with_reducible apply Ent.eqA); exact rfl; exact rfl) | ((with_reducible apply Ent.neA); exact rfl; exact rfl) | ((with_reducible apply Ent.seA); exact rfl) | ((with_reducible apply Ent.ixN); (first | (exact hx; exact rfl) | (exact hp; exact hpi) | (exact hx2; exact hxi2)); intro hrd) | ((with_reducible apply Ent.or); (focus intro _ k hk)) | ((with_reducible apply Ent.and); (focus intro _ k hk)))
    refine Ent.ite (fun hy => ?_) (fun hy => ?_)
    · (repeat (first | ((with_reducible apply Ent.ldA); exact rfl; exact rfl) | ((with_reducible apply Ent.rdA); exact rfl; exact rfl) | ((with_reducible apply Ent.kpA); exact rfl; exact rfl) | ((with_reducible apply Ent.lenA)) | ((with_reducible apply Ent.draw)) | ((with_reducible apply Ent.boxA); exact rfl; intro _) | ((with_reducible apply Ent.alA); intro _) | ((with_reducible apply Ent.stA); exact rfl; exact rfl) | ((with_reducible apply Ent.asP); exact rfl) | ((with_reducible apply Ent.exA); exact rfl) | ((with_reducible apply Ent.eqA); exact rfl; exact rfl) | ((with_reducible apply Ent.neA); exact rfl; exact rfl) | ((with_reducible apply Ent.seA); exact rfl) | ((with_reducible apply Ent.ixN); (first | (exact hx; exact rfl) | (exact hp; exact hpi) | (exact hx2; exact hxi2)); intro hrd)))
      have : wt es ⟨r, c⟩ = q.w := by rw [hb, hdr]; simp only [wt, List.find?_cons, hy]; rfl
      rw [this] at h
      refine h.retA rfl (by (repeat (first | exact Subs.tail | exact Subs.nil | refine Subs.cons inferInstance ?_)))
    · refine hkc (i + 1) _ ⟨wrap_succ hlt hmax, hlt, ?_⟩ (by omega) _ (by (repeat (first | exact Subs.tail | exact Subs.nil | refine Subs.cons inferInstance ?_)))
      rw [hb, hdr]; simp only [wt, List.find?_cons, hy]
  · have hge : i = es.length := by simp at hc; omega
    subst hge
    have : wt es ⟨r, c⟩ = 0 := by rw [hb]; simp [wt]
    rw [this] at h
    refine h.retA rfl (by (repeat (first | exact Subs.tail | exact Subs.nil | refine Subs.cons inferInstance ?_)))
def prevE (es : List Edge) (i : Nat) : Edge := if i = 0 then ⟨-1, 0, 0⟩ else es[i - 1]?.getD ⟨-1, 0, 0⟩
theorem check16_spec {Γ : List Asn} {g : Graph} {es : List Edge} {K : Int → WP} [Sl Try.prog Γ g.edges.val Edge enc_103 es] (h : Ent Γ (K (if graphBad g es then 170 else 0))) : Ent Γ (callT Try.prog (inI .i64) 71 #[g.val] K) := by
  refine Ent.call ?_
  refine Ent.byS (A := S.ref16_Check _ _) S.ref16_Check_ok ?_
  unfold S.ref16_Check
  simp only [toT_V, toT_I, toT_B, toT_A, toT_rV, toT_rI, toT_rB, toT_pV, toT_pI, toT_pB, toT_pA, toT_cI, toT_cB]
  refine Ent.slhA (P := Try.prog) (v := g.edges.val) fun he => ?_
  refine Ent.maxA (P := Try.prog) g.edges.val fun hmax => ?_
  (repeat (first | ((with_reducible apply Ent.ldA); exact rfl; exact rfl) | ((with_reducible apply Ent.rdA); exact rfl; exact rfl) | ((with_reducible apply Ent.kpA); exact rfl; exact rfl) | ((with_reducible apply Ent.lenA)) | ((with_reducible apply Ent.draw)) | ((with_reducible apply Ent.boxA); exact rfl; intro _) | ((with_reducible apply Ent.alA); intro _) | ((with_reducible apply Ent.stA); exact rfl; exact rfl) | ((with_reducible apply Ent.asP); exact rfl) | ((with_reducible apply Ent.exA); exact rfl) | ((with_reducible apply Ent.eqA); exact rfl; exact rfl) | ((with_reducible apply Ent.neA); exact rfl; exact rfl) | ((with_reducible apply Ent.seA); exact rfl) | ((with_reducible apply Ent.ixN); (first | (exact hx; exact rfl) | (exact hp; exact hpi) | (exact hx2; exact hxi2)); intro hrd)))
  rename_i b1
  refine Ent.joinB (sizesBad g.rows g.cols) (fun k hk => ?_) ?_
  · repeat' (first | exact hk | exact hk _ (by rfl) | ((with_reducible apply Ent.ldA); exact rfl; exact rfl) | ((with_reducible apply Ent.rdA); exact rfl; exact rfl) | ((with_reducible apply Ent.kpA); exact rfl; exact rfl) | ((with_reducible apply Ent.lenA)) | ((with_reducible apply Ent.draw)) | ((with_reducible apply Ent.boxA); exact rfl; intro _) | ((with_reducible apply Ent.alA); intro _) | ((with_reducible apply Ent.stA); exact rfl; exact rfl) | ((with_reducible apply Ent.asP); exact rfl) | ((with_reducible apply Ent.exA); exact rfl) | ((with_reducible apply Ent.eqA); exact rfl; exact rfl) | ((with_reducible apply Ent.neA); exact rfl; exact rfl) | ((with_reducible apply Ent.seA); exact rfl) | ((with_reducible apply Ent.ixN); (first | (exact hx; exact rfl) | (exact hp; exact hpi) | (exact hx2; exact hxi2)); intro hrd) | ((with_reducible apply Ent.or); (focus intro _ k hk)) | ((with_reducible apply Ent.and); (focus intro _ k hk)))
  refine Ent.ite (fun hy => ?_) (fun hy => ?_)
  · rw [graphBad, hy] at h
    refine h.retA rfl (by (repeat (first | exact Subs.tail | exact Subs.nil | refine Subs.cons inferInstance ?_)))
  refine Ent.loopA (γ := Nat) (fun _ => var Try.prog b1 g :: Γ) (fun i s => s.2 = (i : Int) ∧ i ≤ es.length ∧ graphBad g es = edgesBad g.rows g.cols (prevE es i) (es.drop i)) (fun i => es.length - i) 0 ⟨rfl, Nat.zero_le _, by simp [graphBad, hy, prevE]⟩ (by (repeat (first | exact Subs.tail | exact Subs.nil | refine Subs.cons inferInstance ?_))) ?_
  rintro i ⟨s1, s2⟩ kc ⟨hs2, hi, hb⟩ hkc
  dsimp only at hs2 hi hb ⊢
  subst hs2
  (repeat (first | ((with_reducible apply Ent.ldA); exact rfl; exact rfl) | ((with_reducible apply Ent.rdA); exact rfl; exact rfl) | ((with_reducible apply Ent.kpA); exact rfl; exact rfl) | ((with_reducible apply Ent.lenA)) | ((with_reducible apply Ent.draw)) | ((with_reducible apply Ent.boxA); exact rfl; intro _) | ((with_reducible apply Ent.alA); intro _) | ((with_reducible apply Ent.stA); exact rfl; exact rfl) | ((with_reducible apply Ent.asP); exact rfl) | ((with_reducible apply Ent.exA); exact rfl) | ((with_reducible apply Ent.eqA); exact rfl; exact rfl) | ((with_reducible apply Ent.neA); exact rfl; exact rfl) | ((with_reducible apply Ent.seA); exact rfl) | ((with_reducible apply Ent.ixN); (first | (exact hx; exact rfl) | (exact hp; exact hpi) | (exact hx2; exact hxi2)); intro hrd)))
  refine Ent.ite (fun hc => ?_) (fun hc => ?_)
  · have hlt : i < es.length := by simpa using hc
    have hx : es[i]? = some es[i] := List.getElem?_eq_getElem hlt
    have hdr : es.drop i = es[i] :: es.drop (i + 1) := List.drop_eq_getElem_cons hlt
    generalize es[i] = q at hx hdr
    refine Ent.joinD ?_
    (repeat (first | ((with_reducible apply Ent.ldA); exact rfl; exact rfl) | ((with_reducible apply Ent.rdA); exact rfl; exact rfl) | ((with_reducible apply Ent.kpA); exact rfl; exact rfl) | ((with_reducible apply Ent.lenA)) | ((with_reducible apply Ent.draw)) | ((with_reducible apply Ent.boxA); exact rfl; intro _) | ((with_reducible apply Ent.alA); intro _) | ((with_reducible apply Ent.stA); exact rfl; exact rfl) | ((with_reducible apply Ent.asP); exact rfl) | ((with_reducible apply Ent.exA); exact rfl) | ((with_reducible apply Ent.eqA); exact rfl; exact rfl) | ((with_reducible apply Ent.neA); exact rfl; exact rfl) | ((with_reducible apply Ent.seA); exact rfl) | ((with_reducible apply Ent.ixN); (first | (exact hx; exact rfl) | (exact hp; exact hpi) | (exact hx2; exact hxi2)); intro hrd)))
    refine Ent.joinB (edgeOut g.rows g.cols q) (fun k hk => ?_) ?_
    · repeat' (first | exact hk | exact hk _ (by simp [edgeOut, Bool.or_assoc]) | ((with_reducible apply Ent.ldA); exact rfl; exact rfl) | ((with_reducible apply Ent.rdA); exact rfl; exact rfl) | ((with_reducible apply Ent.kpA); exact rfl; exact rfl) | ((with_reducible apply Ent.lenA)) | ((with_reducible apply Ent.draw)) | ((with_reducible apply Ent.boxA); exact rfl; intro _) | ((with_reducible apply Ent.alA); intro _) | ((with_reducible apply Ent.stA); exact rfl; exact rfl) | ((with_reducible apply Ent.asP); exact rfl) | ((with_reducible apply Ent.exA); exact rfl) | ((with_reducible apply Ent.eqA); exact rfl; exact rfl) | ((with_reducible apply Ent.neA); exact rfl; exact rfl) | ((with_reducible apply Ent.seA); exact rfl) | ((with_reducible apply Ent.ixN); (first | (exact hx; exact rfl) | (exact hp; exact hpi) | (exact hx2; exact hxi2)); intro hrd) | ((with_reducible apply Ent.or); (focus intro _ k hk)) | ((with_reducible apply Ent.and); (focus intro _ k hk)))
    refine Ent.ite (fun hz => ?_) (fun hz => ?_)
    · have : graphBad g es = true := by rw [hb, hdr, edgesBad, hz]; simp
      rw [this] at h
      refine h.retA rfl (by (repeat (first | exact Subs.tail | exact Subs.nil | refine Subs.cons inferInstance ?_)))
    refine Ent.joinD ?_
    have hnext : prevE es (i + 1) = q := by simp [prevE, hx]
    refine Ent.ite (fun hc2 => ?_) (fun hc2 => ?_)
    · have hi0 : 0 < i := by simpa using hc2
      have hp : es[i - 1]? = some es[i - 1] := List.getElem?_eq_getElem (by omega)
      have hpi := wrap_pred hi0 hi hmax
      have hpr : prevE es i = es[i - 1] := by simp [prevE, hp]; omega
      generalize es[i - 1] = p at hp hpr
      (repeat (first | ((with_reducible apply Ent.ldA); exact rfl; exact rfl) | ((with_reducible apply Ent.rdA); exact rfl; exact rfl) | ((with_reducible apply Ent.kpA); exact rfl; exact rfl) | ((with_reducible apply Ent.lenA)) | ((with_reducible apply Ent.draw)) | ((with_reducible apply Ent.boxA); exact rfl; intro _) | ((with_reducible apply Ent.alA); intro _) | ((with_reducible apply Ent.stA); exact rfl; exact rfl) | ((with_reducible apply Ent.asP); exact rfl) | ((with_reducible apply Ent.exA); exact rfl) | ((with_reducible apply Ent.eqA); exact rfl; exact rfl) | ((with_reducible apply Ent.neA); exact rfl; exact rfl) | ((with_reducible apply Ent.seA); exact rfl) | ((with_reducible apply Ent.ixN); (first | (exact hx; exact rfl) | (exact hp; exact hpi) | (exact hx2; exact hxi2)); intro hrd)))
      refine Ent.joinB (edgeLate p q) (fun k hk => ?_) ?_
      · repeat' (first | exact hk | exact hk _ (by rfl) | ((with_reducible apply Ent.ldA); exact rfl; exact rfl) | ((with_reducible apply Ent.rdA); exact rfl; exact rfl) | ((with_reducible apply Ent.kpA); exact rfl; exact rfl) | ((with_reducible apply Ent.lenA)) | ((with_reducible apply Ent.draw)) | ((with_reducible apply Ent.boxA); exact rfl; intro _) | ((with_reducible apply Ent.alA); intro _) | ((with_reducible apply Ent.stA); exact rfl; exact rfl) | ((with_reducible apply Ent.asP); exact rfl) | ((with_reducible apply Ent.exA); exact rfl) | ((with_reducible apply Ent.eqA); exact rfl; exact rfl) | ((with_reducible apply Ent.neA); exact rfl; exact rfl) | ((with_reducible apply Ent.seA); exact rfl) | ((with_reducible apply Ent.ixN); (first | (exact hx; exact rfl) | (exact hp; exact hpi) | (exact hx2; exact hxi2)); intro hrd) | ((with_reducible apply Ent.or); (focus intro _ k hk)) | ((with_reducible apply Ent.and); (focus intro _ k hk)))
      refine Ent.ite (fun hz2 => ?_) (fun hz2 => ?_)
      · have : graphBad g es = true := by rw [hb, hdr, edgesBad, hpr, hz2]; simp
        rw [this] at h
        refine h.retA rfl (by (repeat (first | exact Subs.tail | exact Subs.nil | refine Subs.cons inferInstance ?_)))
      · refine hkc (i + 1) _ ⟨wrap_succ hlt hmax, hlt, ?_⟩ (by omega) _ (by (repeat (first | exact Subs.tail | exact Subs.nil | refine Subs.cons inferInstance ?_)))
        rw [hb, hdr, hnext, edgesBad, hpr, hz, hz2]; rfl
    · have hi0 : i = 0 := by simp at hc2; omega
      refine hkc (i + 1) _ ⟨wrap_succ hlt hmax, hlt, ?_⟩ (by omega) _ (by (repeat (first | exact Subs.tail | exact Subs.nil | refine Subs.cons inferInstance ?_)))
      rw [hb, hdr, hnext, edgesBad, hz]
      have : edgeLate (prevE es i) q = false := by
        simp [edgeOut] at hz
        simp [prevE, hi0, edgeLate]; omega
      rw [this]; rfl
  · have hge : i = es.length := by simp at hc; omega
    subst hge
    have : graphBad g es = false := by rw [hb]; simp [edgesBad]
    rw [this] at h
    refine h.retA rfl (by (repeat (first | exact Subs.tail | exact Subs.nil | refine Subs.cons inferInstance ?_)))
/-- the document's pairs: no edge, no rise, or a column twice -/
def refPairs (es : List Edge) : List Pair → List Pair → Bool
  | _, [] => false
  | ahead, p :: r => (wt es p == 0) || (!ahead.isEmpty && decide (p.r ≤ (ahead.getLast?.getD p).r)) || ahead.any (fun q => q.c == p.c) || refPairs es (ahead ++ [p]) r
theorem pairs18_spec {Γ : List Asn} {g : Graph} {es : List Edge} {v : Value} {ps : List Pair} {K : Int → WP} [Sl Try.prog Γ g.edges.val Edge enc_103 es] [Sl Try.prog Γ v Pair enc_105 ps] (h : Ent Γ (K (if graphBad g es then 170 else if refPairs es [] ps then 180 else 0))) : Ent Γ (callT Try.prog (inI .i64) 72 #[g.val, v] K) := by
  refine Ent.call ?_
  refine Ent.byS (A := S.ref18_Pairs _ _ _) S.ref18_Pairs_ok ?_
  unfold S.ref18_Pairs
  simp only [toT_V, toT_I, toT_B, toT_A, toT_rV, toT_rI, toT_rB, toT_pV, toT_pI, toT_pB, toT_pA, toT_cI, toT_cB]
  refine Ent.slhA (P := Try.prog) (v := g.edges.val) fun he => ?_
  refine Ent.maxA (P := Try.prog) g.edges.val fun hmaxe => ?_
  refine Ent.slhA (P := Try.prog) (v := v) fun hps => ?_
  refine Ent.maxA (P := Try.prog) v fun hmax => ?_
  (repeat (first | ((with_reducible apply Ent.ldA); exact rfl; exact rfl) | ((with_reducible apply Ent.rdA); exact rfl; exact rfl) | ((with_reducible apply Ent.kpA); exact rfl; exact rfl) | ((with_reducible apply Ent.lenA)) | ((with_reducible apply Ent.draw)) | ((with_reducible apply Ent.boxA); exact rfl; intro _) | ((with_reducible apply Ent.alA); intro _) | ((with_reducible apply Ent.stA); exact rfl; exact rfl) | ((with_reducible apply Ent.asP); exact rfl) | ((with_reducible apply Ent.exA); exact rfl) | ((with_reducible apply Ent.eqA); exact rfl; exact rfl) | ((with_reducible apply Ent.neA); exact rfl; exact rfl) | ((with_reducible apply Ent.seA); exact rfl) | ((with_reducible apply Ent.ixN); (first | (exact hx; exact rfl) | (exact hp; exact hpi) | (exact hx2; exact hxi2)); intro hrd)))
  rename_i b1
  refine check16_spec (es := es) ?_
  refine Ent.ite (fun hy => ?_) (fun hy => ?_)
  · have hg : graphBad g es = true := by cases hg : graphBad g es <;> simp_all
    rw [hg] at h ⊢
    refine h.retA rfl (by (repeat (first | exact Subs.tail | exact Subs.nil | refine Subs.cons inferInstance ?_)))
  have hg : graphBad g es = false := by cases hg : graphBad g es <;> simp_all
  rw [hg] at h
  refine Ent.loopA (γ := Nat) (fun _ => var Try.prog b1 g :: Γ) (fun i s => s.2 = (i : Int) ∧ i ≤ ps.length ∧ refPairs es [] ps = refPairs es (ps.take i) (ps.drop i)) (fun i => ps.length - i) 0 ⟨rfl, Nat.zero_le _, by simp⟩ (by (repeat (first | exact Subs.tail | exact Subs.nil | refine Subs.cons inferInstance ?_))) ?_
  rintro i ⟨s1, s2⟩ kc ⟨hs2, hi, hb⟩ hkc
  dsimp only at hs2 hi hb ⊢
  subst hs2
  (repeat (first | ((with_reducible apply Ent.ldA); exact rfl; exact rfl) | ((with_reducible apply Ent.rdA); exact rfl; exact rfl) | ((with_reducible apply Ent.kpA); exact rfl; exact rfl) | ((with_reducible apply Ent.lenA)) | ((with_reducible apply Ent.draw)) | ((with_reducible apply Ent.boxA); exact rfl; intro _) | ((with_reducible apply Ent.alA); intro _) | ((with_reducible apply Ent.stA); exact rfl; exact rfl) | ((with_reducible apply Ent.asP); exact rfl) | ((with_reducible apply Ent.exA); exact rfl) | ((with_reducible apply Ent.eqA); exact rfl; exact rfl) | ((with_reducible apply Ent.neA); exact rfl; exact rfl) | ((with_reducible apply Ent.seA); exact rfl) | ((with_reducible apply Ent.ixN); (first | (exact hx; exact rfl) | (exact hp; exact hpi) | (exact hx2; exact hxi2)); intro hrd)))
  refine Ent.ite (fun hc => ?_) (fun hc => ?_)
  · have hlt : i < ps.length := by simpa using hc
    have hx : ps[i]? = some ps[i] := List.getElem?_eq_getElem hlt
    have hdr : ps.drop i = ps[i] :: ps.drop (i + 1) := List.drop_eq_getElem_cons hlt
    generalize ps[i] = q at hx hdr
    have htk : ps.take (i + 1) = ps.take i ++ [q] := by rw [List.take_add_one, hx]; rfl
    refine Ent.joinB ((wt es q == 0) || (!(ps.take i).isEmpty && decide (q.r ≤ ((ps.take i).getLast?.getD q).r))) (fun k hk => ?_) ?_
    · (repeat (first | ((with_reducible apply Ent.ldA); exact rfl; exact rfl) | ((with_reducible apply Ent.rdA); exact rfl; exact rfl) | ((with_reducible apply Ent.kpA); exact rfl; exact rfl) | ((with_reducible apply Ent.lenA)) | ((with_reducible apply Ent.draw)) | ((with_reducible apply Ent.boxA); exact rfl; intro _) | ((with_reducible apply Ent.alA); intro _) | ((with_reducible apply Ent.stA); exact rfl; exact rfl) | ((with_reducible apply Ent.asP); exact rfl) | ((with_reducible apply Ent.exA); exact rfl) | ((with_reducible apply Ent.eqA); exact rfl; exact rfl) | ((with_reducible apply Ent.neA); exact rfl; exact rfl) | ((with_reducible apply Ent.seA); exact rfl) | ((with_reducible apply Ent.ixN); (first | (exact hx; exact rfl) | (exact hp; exact hpi) | (exact hx2; exact hxi2)); intro hrd)))
      refine weight_spec (es := es) ?_
      refine Ent.or (!(ps.take i).isEmpty && decide (q.r ≤ ((ps.take i).getLast?.getD q).r)) (fun _ k2 hk2 => ?_) ?_
      · refine Ent.andD (fun hc2 => ?_) (fun hc2 => ?_)
        · have hi0 : 0 < i := by simpa using hc2
          have hp : ps[i - 1]? = some ps[i - 1] := List.getElem?_eq_getElem (by omega)
          have hpi := wrap_pred hi0 hi hmax
          have hl : (ps.take i).getLast? = ps[i - 1]? := by rw [List.getLast?_eq_getElem?, List.length_take, Nat.min_eq_left hi, List.getElem?_take_of_lt (by omega)]
          have hne : (ps.take i).isEmpty = false := by
            cases h0 : (ps.take i).isEmpty with
            | false => rfl
            | true =>
              have := congrArg List.length (List.isEmpty_iff.1 h0)
              simp only [List.length_take, List.length_nil] at this; omega
          generalize ps[i - 1] = p at hp
          rw [hne, hl, hp] at hk2
          (repeat (first | ((with_reducible apply Ent.ldA); exact rfl; exact rfl) | ((with_reducible apply Ent.rdA); exact rfl; exact rfl) | ((with_reducible apply Ent.kpA); exact rfl; exact rfl) | ((with_reducible apply Ent.lenA)) | ((with_reducible apply Ent.draw)) | ((with_reducible apply Ent.boxA); exact rfl; intro _) | ((with_reducible apply Ent.alA); intro _) | ((with_reducible apply Ent.stA); exact rfl; exact rfl) | ((with_reducible apply Ent.asP); exact rfl) | ((with_reducible apply Ent.exA); exact rfl) | ((with_reducible apply Ent.eqA); exact rfl; exact rfl) | ((with_reducible apply Ent.neA); exact rfl; exact rfl) | ((with_reducible apply Ent.seA); exact rfl) | ((with_reducible apply Ent.ixN); (first | (exact hx; exact rfl) | (exact hp; exact hpi) | (exact hx2; exact hxi2)); intro hrd)))
          exact hk2
        · have hi0 : i = 0 := by simp at hc2; omega
          subst hi0
          exact hk2
      · exact hk _ rfl
    refine Ent.ite (fun hy2 => ?_) (fun hy2 => ?_)
    · have : refPairs es [] ps = true := by rw [hb, hdr, refPairs, hy2]; simp
      rw [this] at h
      refine h.retA rfl (by (repeat (first | exact Subs.tail | exact Subs.nil | refine Subs.cons inferInstance ?_)))
    refine Ent.loopA (γ := Nat) (fun _ => var Try.prog b1 g :: Γ) (fun k s => s.2 = (k : Int) ∧ k ≤ i ∧ ∀ j p, j < k → ps[j]? = some p → p.c ≠ q.c) (fun k => i - k) 0 ⟨rfl, Nat.zero_le _, by simp⟩ (by (repeat (first | exact Subs.tail | exact Subs.nil | refine Subs.cons inferInstance ?_))) ?_
    rintro k ⟨t1, t2⟩ kc2 ⟨ht2, hk, hall⟩ hkc2
    dsimp only at ht2 ⊢
    subst ht2
    refine Ent.ite (fun hc2 => ?_) (fun hc2 => ?_)
    · have hki : k < i := by simpa using hc2
      have hp : ps[k]? = some ps[k] := List.getElem?_eq_getElem (by omega)
      have hpi : (k : Int) = k := rfl
      generalize ps[k] = p at hp
      (repeat (first | ((with_reducible apply Ent.ldA); exact rfl; exact rfl) | ((with_reducible apply Ent.rdA); exact rfl; exact rfl) | ((with_reducible apply Ent.kpA); exact rfl; exact rfl) | ((with_reducible apply Ent.lenA)) | ((with_reducible apply Ent.draw)) | ((with_reducible apply Ent.boxA); exact rfl; intro _) | ((with_reducible apply Ent.alA); intro _) | ((with_reducible apply Ent.stA); exact rfl; exact rfl) | ((with_reducible apply Ent.asP); exact rfl) | ((with_reducible apply Ent.exA); exact rfl) | ((with_reducible apply Ent.eqA); exact rfl; exact rfl) | ((with_reducible apply Ent.neA); exact rfl; exact rfl) | ((with_reducible apply Ent.seA); exact rfl) | ((with_reducible apply Ent.ixN); (first | (exact hx; exact rfl) | (exact hp; exact hpi) | (exact hx2; exact hxi2)); intro hrd)))
      refine Ent.ite (fun hy3 => ?_) (fun hy3 => ?_)
      · have hany : (ps.take i).any (fun y => y.c == q.c) = true := by
          rw [List.any_eq_true]
          exact ⟨p, List.mem_of_getElem? (i := k) (by rw [List.getElem?_take_of_lt hki]; exact hp), hy3⟩
        have : refPairs es [] ps = true := by rw [hb, hdr, refPairs, hany]; simp
        rw [this] at h
        refine h.retA rfl (by (repeat (first | exact Subs.tail | exact Subs.nil | refine Subs.cons inferInstance ?_)))
      · refine hkc2 (k + 1) _ ⟨wrap_succ hki (by omega), hki, ?_⟩ (by omega) _ (by (repeat (first | exact Subs.tail | exact Subs.nil | refine Subs.cons inferInstance ?_)))
        intro j y hj hy
        rcases Nat.lt_or_ge j k with h1 | h1
        · exact hall j y h1 hy
        · have : j = k := by omega
          subst this
          rw [hp] at hy; cases hy; simpa using hy3
    · have hki : k = i := by simp at hc2; omega
      subst hki
      refine hkc (k + 1) _ ⟨wrap_succ hlt hmax, hlt, ?_⟩ (by omega) _ (by (repeat (first | exact Subs.tail | exact Subs.nil | refine Subs.cons inferInstance ?_)))
      have hany : (ps.take k).any (fun y => y.c == q.c) = false := by
        rw [List.any_eq_false]
        intro y hy
        obtain ⟨j, hj⟩ := List.getElem?_of_mem hy
        have hjk : j < k := by have := (List.getElem?_eq_some_iff.1 hj).1; simp at this; omega
        rw [List.getElem?_take_of_lt hjk] at hj
        simpa using hall j y hjk hj
      rw [hb, hdr, refPairs, hany, hy2, htk]; rfl
  · have hge : i = ps.length := by simp at hc; omega
    subst hge
    have : refPairs es [] ps = false := by rw [hb]; simp [refPairs]
    rw [this] at h
    refine h.retA rfl (by (repeat (first | exact Subs.tail | exact Subs.nil | refine Subs.cons inferInstance ?_)))
end Go.Cab
