/- Contracts: ordered, follows, the document's watch. -/
import Derived.Test.YtkjcjlcimgcfcaaStarve1
namespace Go.Cab
set_option linter.unusedSimpArgs false
set_option linter.unusedVariables false
set_option linter.unusedSectionVars false
open Go Go.Proofs
variable [Milieu]
def rowW (row : Int) : Int → List Edge → Int
  | w, [] => w
  | w, e :: r => if e.r == row then (if w != 0 && w != e.w then -1 else rowW row e.w r) else rowW row w r
theorem rowW_same {row : Int} : ∀ {es : List Edge} {w : Int}, (∀ e ∈ es, 1 ≤ e.w) → 0 ≤ rowW row w es → 0 ≤ w → (∀ e ∈ es, e.r = row → e.w = rowW row w es) ∧ (w ≠ 0 → rowW row w es = w)
  | [], w, _, _, _ => ⟨by simp, fun _ => rfl⟩
  | e :: r, w, h1, h, h0 => by
    simp only [rowW] at h ⊢
    have he := h1 e (by simp)
    split
    · rename_i hr
      rw [if_pos hr] at h
      split
      · rename_i hc; rw [if_pos hc] at h; omega
      · rename_i hc
        rw [if_neg hc] at h
        obtain ⟨h2, h3⟩ := rowW_same (row := row) (es := r) (w := e.w) (fun e' he' => h1 e' (by simp [he'])) h (by omega)
        have h4 := h3 (by omega)
        refine ⟨fun e' he' hre => ?_, fun hw => ?_⟩
        · rcases List.mem_cons.1 he' with rfl | he'
          · exact h4.symm
          · exact h2 e' he' hre
        · simp at hc
          rw [h4]; exact (hc hw).symm
    · rename_i hr
      rw [if_neg hr] at h
      obtain ⟨h2, h3⟩ := rowW_same (row := row) (es := r) (w := w) (fun e' he' => h1 e' (by simp [he'])) h h0
      refine ⟨fun e' he' hre => ?_, h3⟩
      rcases List.mem_cons.1 he' with rfl | he'
      · simp [hre] at hr
      · exact h2 e' he' hre
theorem lweight_spec {Γ : List Asn} {g : Graph} {es : List Edge} {row : Int} {K : Int → WP} [Sl Try.prog Γ g.edges.val Edge enc_103 es] (h : Ent Γ (K (rowW row 0 es))) : Ent Γ (callT Try.prog (inI .i64) 57 #[g.val, .int .i64 row] K) := by
  refine Ent.call ?_
  refine Ent.byS (A := S.law21_weight _ _ _) S.law21_weight_ok ?_
  unfold S.law21_weight
  simp only [toT_V, toT_I, toT_B, toT_A, toT_rV, toT_rI, toT_rB, toT_pV, toT_pI, toT_pB, toT_pA, toT_cI, toT_cB]
  refine Ent.slhA (P := Try.prog) (v := g.edges.val) fun he => ?_
  refine Ent.maxA (P := Try.prog) g.edges.val fun hmax => ?_
  (repeat (first | ((with_reducible apply Ent.ldA); exact rfl; exact rfl) | ((with_reducible apply Ent.rdA); exact rfl; exact rfl) | ((with_reducible apply Ent.kpA); exact rfl; exact rfl) | ((with_reducible apply Ent.lenA)) | ((with_reducible apply Ent.draw)) | ((with_reducible apply Ent.boxA); exact rfl; intro _) | ((with_reducible apply Ent.alA); intro _) | ((with_reducible apply Ent.stA); exact rfl; exact rfl) | ((with_reducible apply Ent.asP); exact rfl) | ((with_reducible apply Ent.exA); exact rfl) | ((with_reducible apply Ent.eqA); exact rfl; exact rfl) | ((with_reducible apply Ent.neA); exact rfl; exact rfl) | ((with_reducible apply Ent.seA); exact rfl) | ((with_reducible apply Ent.ixN); (first | (exact hx; exact rfl) | (exact hp; exact hpi) | (exact hx2; exact hxi2)); intro hrd)))
  rename_i b1
  refine Ent.loopA (γ := Nat) (fun _ => var Try.prog b1 g :: Γ) (fun i s => s.2.2 = (i : Int) ∧ i ≤ es.length ∧ rowW row 0 es = rowW row s.2.1 (es.drop i)) (fun i => es.length - i) 0 ⟨rfl, Nat.zero_le _, by simp⟩ (by (repeat (first | exact Subs.tail | exact Subs.nil | refine Subs.cons inferInstance ?_))) ?_
  rintro i ⟨s1, s2, s3⟩ kc ⟨hs3, hi, hb⟩ hkc
  dsimp only at hs3 hi hb ⊢
  subst hs3
  (repeat (first | ((with_reducible apply Ent.ldA); exact rfl; exact rfl) | ((with_reducible apply Ent.rdA); exact rfl; exact rfl) | ((with_reducible apply Ent.kpA); exact rfl; exact rfl) | ((with_reducible apply Ent.lenA)) | ((with_reducible apply Ent.draw)) | ((with_reducible apply Ent.boxA); exact rfl; intro _) | ((with_reducible apply Ent.alA); intro _) | ((with_reducible apply Ent.stA); exact rfl; exact rfl) | ((with_reducible apply Ent.asP); exact rfl) | ((with_reducible apply Ent.exA); exact rfl) | ((with_reducible apply Ent.eqA); exact rfl; exact rfl) | ((with_reducible apply Ent.neA); exact rfl; exact rfl) | ((with_reducible apply Ent.seA); exact rfl) | ((with_reducible apply Ent.ixN); (first | (exact hx; exact rfl) | (exact hp; exact hpi) | (exact hx2; exact hxi2)); intro hrd)))
  refine Ent.ite (fun hc => ?_) (fun hc => ?_)
  · have hlt : i < es.length := by simpa using hc
    have hx : es[i]? = some es[i] := List.getElem?_eq_getElem hlt
    have hdr : es.drop i = es[i] :: es.drop (i + 1) := List.drop_eq_getElem_cons hlt
    generalize es[i] = q at hx hdr
    refine Ent.joinD ?_
    (repeat (first | ((with_reducible apply Ent.ldA); exact rfl; exact rfl) | ((with_reducible apply Ent.rdA); exact rfl; exact rfl) | ((with_reducible apply Ent.kpA); exact rfl; exact rfl) | ((with_reducible apply Ent.lenA)) | ((with_reducible apply Ent.draw)) | ((with_reducible apply Ent.boxA); exact rfl; intro _) | ((with_reducible apply Ent.alA); intro _) | ((with_reducible apply Ent.stA); exact rfl; exact rfl) | ((with_reducible apply Ent.asP); exact rfl) | ((with_reducible apply Ent.exA); exact rfl) | ((with_reducible apply Ent.eqA); exact rfl; exact rfl) | ((with_reducible apply Ent.neA); exact rfl; exact rfl) | ((with_reducible apply Ent.seA); exact rfl) | ((with_reducible apply Ent.ixN); (first | (exact hx; exact rfl) | (exact hp; exact hpi) | (exact hx2; exact hxi2)); intro hrd)))
    refine Ent.joinD ?_
    rw [hdr, rowW] at hb
    refine Ent.ite (fun hc2 => ?_) (fun hc2 => ?_)
    · rw [hc2, if_pos rfl] at hb
      refine Ent.joinB ((s2 != 0) && (s2 != q.w)) (fun k hk => ?_) ?_
      · repeat' (first | exact hk | exact hk _ (by rfl) | ((with_reducible apply Ent.ldA); exact rfl; exact rfl) | ((with_reducible apply Ent.rdA); exact rfl; exact rfl) | ((with_reducible apply Ent.kpA); exact rfl; exact rfl) | ((with_reducible apply Ent.lenA)) | ((with_reducible apply Ent.draw)) | ((with_reducible apply Ent.boxA); exact rfl; intro _) | ((with_reducible apply Ent.alA); intro _) | ((with_reducible apply Ent.stA); exact rfl; exact rfl) | ((with_reducible apply Ent.asP); exact rfl) | ((with_reducible apply Ent.exA); exact rfl) | ((with_reducible apply Ent.eqA); exact rfl; exact rfl) | ((with_reducible apply Ent.neA); exact rfl; exact rfl) | ((with_reducible apply Ent.seA); exact rfl) | ((with_reducible apply Ent.ixN); (first | (exact hx; exact rfl) | (exact hp; exact hpi) | (exact hx2; exact hxi2)); intro hrd) | ((with_reducible apply Ent.or); (focus intro _ k hk)) | ((with_reducible apply Ent.and); (focus intro _ k hk)))
      refine Ent.ite (fun hc3 => ?_) (fun hc3 => ?_)
      · rw [hc3, if_pos rfl] at hb
        rw [hb] at h
        exact h.retA rfl (by (repeat (first | exact Subs.tail | exact Subs.nil | refine Subs.cons inferInstance ?_)))
      · rw [hc3, if_neg (by simp)] at hb
        (repeat (first | ((with_reducible apply Ent.ldA); exact rfl; exact rfl) | ((with_reducible apply Ent.rdA); exact rfl; exact rfl) | ((with_reducible apply Ent.kpA); exact rfl; exact rfl) | ((with_reducible apply Ent.lenA)) | ((with_reducible apply Ent.draw)) | ((with_reducible apply Ent.boxA); exact rfl; intro _) | ((with_reducible apply Ent.alA); intro _) | ((with_reducible apply Ent.stA); exact rfl; exact rfl) | ((with_reducible apply Ent.asP); exact rfl) | ((with_reducible apply Ent.exA); exact rfl) | ((with_reducible apply Ent.eqA); exact rfl; exact rfl) | ((with_reducible apply Ent.neA); exact rfl; exact rfl) | ((with_reducible apply Ent.seA); exact rfl) | ((with_reducible apply Ent.ixN); (first | (exact hx; exact rfl) | (exact hp; exact hpi) | (exact hx2; exact hxi2)); intro hrd)))
        exact hkc (i + 1) _ ⟨wrap_succ hlt hmax, hlt, hb⟩ (by omega) _ (by (repeat (first | exact Subs.tail | exact Subs.nil | refine Subs.cons inferInstance ?_)))
    · rw [hc2, if_neg (by simp)] at hb
      exact hkc (i + 1) _ ⟨wrap_succ hlt hmax, hlt, hb⟩ (by omega) _ (by (repeat (first | exact Subs.tail | exact Subs.nil | refine Subs.cons inferInstance ?_)))
  · have hge : i = es.length := by simp at hc; omega
    subst hge
    rw [hb] at h
    simp only [List.drop_length, rowW] at h
    exact h.retA rfl (by (repeat (first | exact Subs.tail | exact Subs.nil | refine Subs.cons inferInstance ?_)))
def OrdK (c : RecC) (i : Nat) (q : Waiting) (k : Nat) : Prop := ∀ (b : Nat) (v : Waiting), b < k → c.ws[b]? = some v → 0 < rowW i 0 c.es → 0 < rowW b 0 c.es → rowW b 0 c.es ≤ rowW i 0 c.es → q.since ≤ v.since
def OrdG (x : Record) (c : RecC) (i : Nat) : Prop := ∀ (a : Nat) (w : Waiting), a < i → c.ws[a]? = some w → 0 ≤ rowW a 0 c.es ∧ w.since < x.tick ∧ OrdK c a w c.ws.length
theorem ordered_spec {Γ : List Asn} {x : Record} {c : RecC} {K : Bool → WP} (hr : RecR Γ x c) (hf : Fin64 c.ys) (h : ∀ b, (b = true → OrdP x c) → Ent Γ (K b)) : Ent Γ (callT Try.prog inB 28 #[x.val] K) := by
  refine Ent.call ?_
  refine Ent.byS (A := S.law21_ordered _ _) S.law21_ordered_ok ?_
  unfold S.law21_ordered
  simp only [toT_V, toT_I, toT_B, toT_A, toT_rV, toT_rI, toT_rB, toT_pV, toT_pI, toT_pB, toT_pA, toT_cI, toT_cB]
  obtain ⟨hw, hd, he, hp, hy, hz⟩ := RecI.of hr
  refine Ent.maxA (P := Try.prog) x.waiting.val fun hmax => ?_
  have hF := h false (by simp)
  (repeat (first | ((with_reducible apply Ent.ldA); exact rfl; exact rfl) | ((with_reducible apply Ent.rdA); exact rfl; exact rfl) | ((with_reducible apply Ent.kpA); exact rfl; exact rfl) | ((with_reducible apply Ent.lenA)) | ((with_reducible apply Ent.draw)) | ((with_reducible apply Ent.boxA); exact rfl; intro _) | ((with_reducible apply Ent.alA); intro _) | ((with_reducible apply Ent.stA); exact rfl; exact rfl) | ((with_reducible apply Ent.asP); exact rfl) | ((with_reducible apply Ent.exA); exact rfl) | ((with_reducible apply Ent.eqA); exact rfl; exact rfl) | ((with_reducible apply Ent.neA); exact rfl; exact rfl) | ((with_reducible apply Ent.seA); exact rfl) | ((with_reducible apply Ent.ixN); (first | (exact hx; exact rfl) | (exact hp; exact hpi) | (exact hx2; exact hxi2)); intro hrd)))
  rename_i b1
  refine check18_spec (c := c) hr.suf hf fun e hcert => ?_
  refine Ent.ite (fun hc => hF.retA rfl (by (repeat (first | exact Subs.tail | exact Subs.nil | refine Subs.cons inferInstance ?_)))) (fun hc => ?_)
  have hcert := hcert (by simpa using hc)
  refine Ent.loopA (γ := Nat) (fun _ => var Try.prog b1 x :: Γ) (fun i s => s.2 = (i : Int) ∧ i ≤ c.ws.length ∧ OrdG x c i) (fun i => c.ws.length - i) 0 ⟨rfl, Nat.zero_le _, fun a w h => by omega⟩ (by (repeat (first | exact Subs.tail | exact Subs.nil | refine Subs.cons inferInstance ?_))) ?_
  rintro i ⟨s1, s2⟩ kc ⟨hs2, hi, hb⟩ hkc
  dsimp only at hs2 hi hb ⊢
  subst hs2
  (repeat (first | ((with_reducible apply Ent.ldA); exact rfl; exact rfl) | ((with_reducible apply Ent.rdA); exact rfl; exact rfl) | ((with_reducible apply Ent.kpA); exact rfl; exact rfl) | ((with_reducible apply Ent.lenA)) | ((with_reducible apply Ent.draw)) | ((with_reducible apply Ent.boxA); exact rfl; intro _) | ((with_reducible apply Ent.alA); intro _) | ((with_reducible apply Ent.stA); exact rfl; exact rfl) | ((with_reducible apply Ent.asP); exact rfl) | ((with_reducible apply Ent.exA); exact rfl) | ((with_reducible apply Ent.eqA); exact rfl; exact rfl) | ((with_reducible apply Ent.neA); exact rfl; exact rfl) | ((with_reducible apply Ent.seA); exact rfl) | ((with_reducible apply Ent.ixN); (first | (exact hx; exact rfl) | (exact hp; exact hpi) | (exact hx2; exact hxi2)); intro hrd)))
  refine Ent.ite (fun hc => ?_) (fun hc => ?_)
  · have hlt : i < c.ws.length := by simpa using hc
    have hx : c.ws[i]? = some c.ws[i] := List.getElem?_eq_getElem hlt
    have hdr : c.ws.drop i = c.ws[i] :: c.ws.drop (i + 1) := List.drop_eq_getElem_cons hlt
    generalize c.ws[i] = q at hx hdr
    (repeat (first | ((with_reducible apply Ent.ldA); exact rfl; exact rfl) | ((with_reducible apply Ent.rdA); exact rfl; exact rfl) | ((with_reducible apply Ent.kpA); exact rfl; exact rfl) | ((with_reducible apply Ent.lenA)) | ((with_reducible apply Ent.draw)) | ((with_reducible apply Ent.boxA); exact rfl; intro _) | ((with_reducible apply Ent.alA); intro _) | ((with_reducible apply Ent.stA); exact rfl; exact rfl) | ((with_reducible apply Ent.asP); exact rfl) | ((with_reducible apply Ent.exA); exact rfl) | ((with_reducible apply Ent.eqA); exact rfl; exact rfl) | ((with_reducible apply Ent.neA); exact rfl; exact rfl) | ((with_reducible apply Ent.seA); exact rfl) | ((with_reducible apply Ent.ixN); (first | (exact hx; exact rfl) | (exact hp; exact hpi) | (exact hx2; exact hxi2)); intro hrd)))
    refine lweight_spec (es := c.es) ?_
    refine Ent.joinB (decide (rowW i 0 c.es < 0) || decide (x.tick ≤ q.since)) (fun k hk => ?_) ?_
    · repeat' (first | exact hk | exact hk _ (by rfl) | ((with_reducible apply Ent.ldA); exact rfl; exact rfl) | ((with_reducible apply Ent.rdA); exact rfl; exact rfl) | ((with_reducible apply Ent.kpA); exact rfl; exact rfl) | ((with_reducible apply Ent.lenA)) | ((with_reducible apply Ent.draw)) | ((with_reducible apply Ent.boxA); exact rfl; intro _) | ((with_reducible apply Ent.alA); intro _) | ((with_reducible apply Ent.stA); exact rfl; exact rfl) | ((with_reducible apply Ent.asP); exact rfl) | ((with_reducible apply Ent.exA); exact rfl) | ((with_reducible apply Ent.eqA); exact rfl; exact rfl) | ((with_reducible apply Ent.neA); exact rfl; exact rfl) | ((with_reducible apply Ent.seA); exact rfl) | ((with_reducible apply Ent.ixN); (first | (exact hx; exact rfl) | (exact hp; exact hpi) | (exact hx2; exact hxi2)); intro hrd) | ((with_reducible apply Ent.or); (focus intro _ k hk)) | ((with_reducible apply Ent.and); (focus intro _ k hk)))
    refine Ent.ite (fun hc2 => hF.retA rfl (by (repeat (first | exact Subs.tail | exact Subs.nil | refine Subs.cons inferInstance ?_)))) (fun hc2 => ?_)
    simp only [Bool.or_eq_false_iff, decide_eq_false_iff_not] at hc2
    refine Ent.loopA (γ := Nat) (fun _ => var Try.prog b1 x :: Γ) (fun k s => s.2 = (k : Int) ∧ k ≤ c.ws.length ∧ OrdK c i q k) (fun k => c.ws.length - k) 0 ⟨rfl, Nat.zero_le _, fun a w h => by omega⟩ (by (repeat (first | exact Subs.tail | exact Subs.nil | refine Subs.cons inferInstance ?_))) ?_
    rintro k ⟨t1, t2⟩ kc2 ⟨ht2, hk, hb2⟩ hkc2
    dsimp only at ht2 hk hb2 ⊢
    subst ht2
    (repeat (first | ((with_reducible apply Ent.ldA); exact rfl; exact rfl) | ((with_reducible apply Ent.rdA); exact rfl; exact rfl) | ((with_reducible apply Ent.kpA); exact rfl; exact rfl) | ((with_reducible apply Ent.lenA)) | ((with_reducible apply Ent.draw)) | ((with_reducible apply Ent.boxA); exact rfl; intro _) | ((with_reducible apply Ent.alA); intro _) | ((with_reducible apply Ent.stA); exact rfl; exact rfl) | ((with_reducible apply Ent.asP); exact rfl) | ((with_reducible apply Ent.exA); exact rfl) | ((with_reducible apply Ent.eqA); exact rfl; exact rfl) | ((with_reducible apply Ent.neA); exact rfl; exact rfl) | ((with_reducible apply Ent.seA); exact rfl) | ((with_reducible apply Ent.ixN); (first | (exact hx; exact rfl) | (exact hp; exact hpi) | (exact hx2; exact hxi2)); intro hrd)))
    refine Ent.ite (fun hc3 => ?_) (fun hc3 => ?_)
    · have hlt2 : k < c.ws.length := by simpa using hc3
      have hp : c.ws[k]? = some c.ws[k] := List.getElem?_eq_getElem hlt2
      have hpi : (k : Int) = k := rfl
      generalize c.ws[k] = p at hp
      (repeat (first | ((with_reducible apply Ent.ldA); exact rfl; exact rfl) | ((with_reducible apply Ent.rdA); exact rfl; exact rfl) | ((with_reducible apply Ent.kpA); exact rfl; exact rfl) | ((with_reducible apply Ent.lenA)) | ((with_reducible apply Ent.draw)) | ((with_reducible apply Ent.boxA); exact rfl; intro _) | ((with_reducible apply Ent.alA); intro _) | ((with_reducible apply Ent.stA); exact rfl; exact rfl) | ((with_reducible apply Ent.asP); exact rfl) | ((with_reducible apply Ent.exA); exact rfl) | ((with_reducible apply Ent.eqA); exact rfl; exact rfl) | ((with_reducible apply Ent.neA); exact rfl; exact rfl) | ((with_reducible apply Ent.seA); exact rfl) | ((with_reducible apply Ent.ixN); (first | (exact hx; exact rfl) | (exact hp; exact hpi) | (exact hx2; exact hxi2)); intro hrd)))
      refine lweight_spec (es := c.es) ?_
      refine Ent.joinB (decide (0 < rowW i 0 c.es) && decide (0 < rowW k 0 c.es) && decide (rowW k 0 c.es ≤ rowW i 0 c.es) && decide (p.since < q.since)) (fun k hk => ?_) ?_
      · repeat' (first | exact hk | exact hk _ (by rfl) | ((with_reducible apply Ent.ldA); exact rfl; exact rfl) | ((with_reducible apply Ent.rdA); exact rfl; exact rfl) | ((with_reducible apply Ent.kpA); exact rfl; exact rfl) | ((with_reducible apply Ent.lenA)) | ((with_reducible apply Ent.draw)) | ((with_reducible apply Ent.boxA); exact rfl; intro _) | ((with_reducible apply Ent.alA); intro _) | ((with_reducible apply Ent.stA); exact rfl; exact rfl) | ((with_reducible apply Ent.asP); exact rfl) | ((with_reducible apply Ent.exA); exact rfl) | ((with_reducible apply Ent.eqA); exact rfl; exact rfl) | ((with_reducible apply Ent.neA); exact rfl; exact rfl) | ((with_reducible apply Ent.seA); exact rfl) | ((with_reducible apply Ent.ixN); (first | (exact hx; exact rfl) | (exact hp; exact hpi) | (exact hx2; exact hxi2)); intro hrd) | ((with_reducible apply Ent.or); (focus intro _ k hk)) | ((with_reducible apply Ent.and); (focus intro _ k hk)))
      refine Ent.ite (fun hc4 => hF.retA rfl (by (repeat (first | exact Subs.tail | exact Subs.nil | refine Subs.cons inferInstance ?_)))) (fun hc4 => ?_)
      refine hkc2 (k + 1) _ ⟨wrap_succ hlt2 hmax, hlt2, fun b v hbk hv h1 h2 h3 => ?_⟩ (by omega) _ (by (repeat (first | exact Subs.tail | exact Subs.nil | refine Subs.cons inferInstance ?_)))
      rcases Nat.lt_or_ge b k with hbk' | hbk'
      · exact hb2 b v hbk' hv h1 h2 h3
      · have : b = k := by omega
        subst this
        rw [hp] at hv; cases hv
        simp only [h1, h2, h3, decide_true, Bool.true_and, decide_eq_false_iff_not] at hc4
        omega
    · have hge : k = c.ws.length := by simp at hc3; omega
      subst hge
      refine hkc (i + 1) _ ⟨wrap_succ hlt hmax, hlt, fun a w ha hw => ?_⟩ (by omega) _ (by (repeat (first | exact Subs.tail | exact Subs.nil | refine Subs.cons inferInstance ?_)))
      rcases Nat.lt_or_ge a i with ha' | ha'
      · exact hb a w ha' hw
      · have : a = i := by omega
        subst this
        rw [hx] at hw; cases hw
        exact ⟨by omega, by omega, hb2⟩
  · have hge : i = c.ws.length := by simp at hc; omega
    subst hge
    refine (h true fun _ => ?_).retA rfl (by (repeat (first | exact Subs.tail | exact Subs.nil | refine Subs.cons inferInstance ?_)))
    have hall : ∀ (a : Nat) (w : Waiting), c.ws[a]? = some w → 0 ≤ rowW a 0 c.es ∧ w.since < x.tick ∧ OrdK c a w c.ws.length := fun a w hw => hb a w (List.getElem?_eq_some_iff.1 hw).1 hw
    have hrow : ∀ e ∈ c.es, 0 ≤ e.r ∧ 1 ≤ e.w := fun e he => by have := edge_range hcert.ok he; omega
    have hwt : ∀ e ∈ c.es, ∀ w, c.ws[e.r.toNat]? = some w → rowW (e.r.toNat : Int) 0 c.es = e.w := fun e he w hw => by
      have h1 := (hall _ _ hw).1
      exact ((rowW_same (fun e he => (hrow e he).2) h1 (Int.le_refl _)).1 e he (by have := (hrow e he).1; omega)).symm
    refine ⟨hcert, fun w hw => ?_, fun e he e' he' w w' hw hw' hle => ?_⟩
    · obtain ⟨a, ha⟩ := List.getElem?_of_mem hw
      exact (hall a w ha).2.1
    · have h1 := hwt e he w hw
      have h2 := hwt e' he' w' hw'
      refine (hall _ _ hw).2.2 _ _ (List.getElem?_eq_some_iff.1 hw').1 hw' ?_ ?_ ?_
      · rw [h1]; have := (hrow e he).2; omega
      · rw [h2]; have := (hrow e' he').2; omega
      · rw [h1, h2]; exact hle
theorem follows_spec {Γ : List Asn} {x0 x : Record} {c0 c : RecC} {K : Bool → WP} (hr0 : RecR Γ x0 c0) (hr : RecR Γ x c) (h : ∀ b, (b = true → FolP x0 c0 c) → Ent Γ (K b)) : Ent Γ (callT Try.prog inB 29 #[x0.val, x.val] K) := by
  refine Ent.call ?_
  refine Ent.byS (A := S.law21_follows _ _ _) S.law21_follows_ok ?_
  unfold S.law21_follows
  simp only [toT_V, toT_I, toT_B, toT_A, toT_rV, toT_rI, toT_rB, toT_pV, toT_pI, toT_pB, toT_pA, toT_cI, toT_cB]
  obtain ⟨hw, hd, he, hp, hy, hz⟩ := RecI.of hr
  refine Ent.maxA (P := Try.prog) x.waiting.val fun hmax => ?_
  have hF := h false (by simp)
  (repeat (first | ((with_reducible apply Ent.ldA); exact rfl; exact rfl) | ((with_reducible apply Ent.rdA); exact rfl; exact rfl) | ((with_reducible apply Ent.kpA); exact rfl; exact rfl) | ((with_reducible apply Ent.lenA)) | ((with_reducible apply Ent.draw)) | ((with_reducible apply Ent.boxA); exact rfl; intro _) | ((with_reducible apply Ent.alA); intro _) | ((with_reducible apply Ent.stA); exact rfl; exact rfl) | ((with_reducible apply Ent.asP); exact rfl) | ((with_reducible apply Ent.exA); exact rfl) | ((with_reducible apply Ent.eqA); exact rfl; exact rfl) | ((with_reducible apply Ent.neA); exact rfl; exact rfl) | ((with_reducible apply Ent.seA); exact rfl) | ((with_reducible apply Ent.ixN); (first | (exact hx; exact rfl) | (exact hp; exact hpi) | (exact hx2; exact hxi2)); intro hrd)))
  rename_i b1 b2
  refine Ent.loopA (γ := Nat) (fun _ => var Try.prog b1 x0 :: var Try.prog b2 x :: Γ) (fun i s => s.2 = (i : Int) ∧ i ≤ c.ws.length ∧ ∀ (a : Nat) (w : Waiting), a < i → c.ws[a]? = some w → w.since < x0.tick → (goodT x0 c0 w.id).1 = true ∧ (goodT x0 c0 w.id).2.2 = false) (fun i => c.ws.length - i) 0 ⟨rfl, Nat.zero_le _, by simp⟩ (by (repeat (first | exact Subs.tail | exact Subs.nil | refine Subs.cons inferInstance ?_))) ?_
  rintro i ⟨s1, s2⟩ kc ⟨hs2, hi, hb⟩ hkc
  dsimp only at hs2 hi hb ⊢
  subst hs2
  (repeat (first | ((with_reducible apply Ent.ldA); exact rfl; exact rfl) | ((with_reducible apply Ent.rdA); exact rfl; exact rfl) | ((with_reducible apply Ent.kpA); exact rfl; exact rfl) | ((with_reducible apply Ent.lenA)) | ((with_reducible apply Ent.draw)) | ((with_reducible apply Ent.boxA); exact rfl; intro _) | ((with_reducible apply Ent.alA); intro _) | ((with_reducible apply Ent.stA); exact rfl; exact rfl) | ((with_reducible apply Ent.asP); exact rfl) | ((with_reducible apply Ent.exA); exact rfl) | ((with_reducible apply Ent.eqA); exact rfl; exact rfl) | ((with_reducible apply Ent.neA); exact rfl; exact rfl) | ((with_reducible apply Ent.seA); exact rfl) | ((with_reducible apply Ent.ixN); (first | (exact hx; exact rfl) | (exact hp; exact hpi) | (exact hx2; exact hxi2)); intro hrd)))
  refine Ent.ite (fun hc => ?_) (fun hc => ?_)
  · have hlt : i < c.ws.length := by simpa using hc
    have hx : c.ws[i]? = some c.ws[i] := List.getElem?_eq_getElem hlt
    have hdr : c.ws.drop i = c.ws[i] :: c.ws.drop (i + 1) := List.drop_eq_getElem_cons hlt
    generalize c.ws[i] = q at hx hdr
    refine Ent.joinD ?_
    (repeat (first | ((with_reducible apply Ent.ldA); exact rfl; exact rfl) | ((with_reducible apply Ent.rdA); exact rfl; exact rfl) | ((with_reducible apply Ent.kpA); exact rfl; exact rfl) | ((with_reducible apply Ent.lenA)) | ((with_reducible apply Ent.draw)) | ((with_reducible apply Ent.boxA); exact rfl; intro _) | ((with_reducible apply Ent.alA); intro _) | ((with_reducible apply Ent.stA); exact rfl; exact rfl) | ((with_reducible apply Ent.asP); exact rfl) | ((with_reducible apply Ent.exA); exact rfl) | ((with_reducible apply Ent.eqA); exact rfl; exact rfl) | ((with_reducible apply Ent.neA); exact rfl; exact rfl) | ((with_reducible apply Ent.seA); exact rfl) | ((with_reducible apply Ent.ixN); (first | (exact hx; exact rfl) | (exact hp; exact hpi) | (exact hx2; exact hxi2)); intro hrd)))
    refine Ent.ite (fun hc2 => ?_) (fun hc2 => ?_)
    · refine hkc (i + 1) _ ⟨wrap_succ hlt hmax, hlt, fun a w ha hwa hs => ?_⟩ (by omega) _ (by (repeat (first | exact Subs.tail | exact Subs.nil | refine Subs.cons inferInstance ?_)))
      rcases Nat.lt_or_ge a i with ha' | ha'
      · exact hb a w ha' hwa hs
      · have : a = i := by omega
        subst this
        rw [hx] at hwa; cases hwa
        simp at hc2; omega
    · (repeat (first | ((with_reducible apply Ent.ldA); exact rfl; exact rfl) | ((with_reducible apply Ent.rdA); exact rfl; exact rfl) | ((with_reducible apply Ent.kpA); exact rfl; exact rfl) | ((with_reducible apply Ent.lenA)) | ((with_reducible apply Ent.draw)) | ((with_reducible apply Ent.boxA); exact rfl; intro _) | ((with_reducible apply Ent.alA); intro _) | ((with_reducible apply Ent.stA); exact rfl; exact rfl) | ((with_reducible apply Ent.asP); exact rfl) | ((with_reducible apply Ent.exA); exact rfl) | ((with_reducible apply Ent.eqA); exact rfl; exact rfl) | ((with_reducible apply Ent.neA); exact rfl; exact rfl) | ((with_reducible apply Ent.seA); exact rfl) | ((with_reducible apply Ent.ixN); (first | (exact hx; exact rfl) | (exact hp; exact hpi) | (exact hx2; exact hxi2)); intro hrd)))
      refine refGood_spec (c := c0) hr0.suf ?_
      rw [← goodT_ref]
      unfold bool3
      (repeat (first | ((with_reducible apply Ent.ldA); exact rfl; exact rfl) | ((with_reducible apply Ent.rdA); exact rfl; exact rfl) | ((with_reducible apply Ent.kpA); exact rfl; exact rfl) | ((with_reducible apply Ent.lenA)) | ((with_reducible apply Ent.draw)) | ((with_reducible apply Ent.boxA); exact rfl; intro _) | ((with_reducible apply Ent.alA); intro _) | ((with_reducible apply Ent.stA); exact rfl; exact rfl) | ((with_reducible apply Ent.asP); exact rfl) | ((with_reducible apply Ent.exA); exact rfl) | ((with_reducible apply Ent.eqA); exact rfl; exact rfl) | ((with_reducible apply Ent.neA); exact rfl; exact rfl) | ((with_reducible apply Ent.seA); exact rfl) | ((with_reducible apply Ent.ixN); (first | (exact hx; exact rfl) | (exact hp; exact hpi) | (exact hx2; exact hxi2)); intro hrd)))
      refine Ent.joinB ((!(goodT x0 c0 q.id).1) || (goodT x0 c0 q.id).2.2) (fun k hk => ?_) ?_
      · repeat' (first | exact hk | exact hk _ (by rfl) | ((with_reducible apply Ent.ldA); exact rfl; exact rfl) | ((with_reducible apply Ent.rdA); exact rfl; exact rfl) | ((with_reducible apply Ent.kpA); exact rfl; exact rfl) | ((with_reducible apply Ent.lenA)) | ((with_reducible apply Ent.draw)) | ((with_reducible apply Ent.boxA); exact rfl; intro _) | ((with_reducible apply Ent.alA); intro _) | ((with_reducible apply Ent.stA); exact rfl; exact rfl) | ((with_reducible apply Ent.asP); exact rfl) | ((with_reducible apply Ent.exA); exact rfl) | ((with_reducible apply Ent.eqA); exact rfl; exact rfl) | ((with_reducible apply Ent.neA); exact rfl; exact rfl) | ((with_reducible apply Ent.seA); exact rfl) | ((with_reducible apply Ent.ixN); (first | (exact hx; exact rfl) | (exact hp; exact hpi) | (exact hx2; exact hxi2)); intro hrd) | ((with_reducible apply Ent.or); (focus intro _ k hk)) | ((with_reducible apply Ent.and); (focus intro _ k hk)))
      refine Ent.ite (fun hc3 => hF.retA rfl (by (repeat (first | exact Subs.tail | exact Subs.nil | refine Subs.cons inferInstance ?_)))) (fun hc3 => ?_)
      refine hkc (i + 1) _ ⟨wrap_succ hlt hmax, hlt, fun a w ha hwa hs => ?_⟩ (by omega) _ (by (repeat (first | exact Subs.tail | exact Subs.nil | refine Subs.cons inferInstance ?_)))
      rcases Nat.lt_or_ge a i with ha' | ha'
      · exact hb a w ha' hwa hs
      · have : a = i := by omega
        subst this
        rw [hx] at hwa; cases hwa
        simpa using hc3
  · have hge : i = c.ws.length := by simp at hc; omega
    subst hge
    refine (h true fun _ => fun w hw hs => ?_).retA rfl (by (repeat (first | exact Subs.tail | exact Subs.nil | refine Subs.cons inferInstance ?_)))
    obtain ⟨a, ha⟩ := List.getElem?_of_mem hw
    exact hb a w (List.getElem?_eq_some_iff.1 ha).1 ha hs
end Go.Cab
