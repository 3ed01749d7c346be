/- Contracts: copies of lists, lists that are the same, lists that were left. -/
import Derived.Test.YtkjcjlcimgcfcaaFairT
import Derived.Test.YtkjcjlcimgcfcaaTwinS
import Derived.Test.YtkjcjlcimgcfcaaAuto2
namespace Go.Cab
set_option linter.unusedSimpArgs false
set_option linter.unusedVariables false
set_option linter.unusedSectionVars false
open Go Go.Proofs
theorem mul_le_of {a b : Nat} (hb : b ≤ 1048576) (ha : a ≤ 1048576) : b * a ≤ 281474976710656 := by
  have := Nat.mul_le_mul hb ha; omega
theorem wrap_succ' {n : Nat} (h : n ≤ maxLen) (h2 : n < 9223372036854775807) : IntKind.i64.wrap ((n : Int) + 1) = ((n + 1 : Nat) : Int) := by
  rw [IntKind.wrap_i64]; omega
theorem twin_set {α : Type} {l : List α} {i : Nat} {q z : α} (hx : l[i]? = some q) : (l.take i ++ List.replicate (l.length + 1 - i) z).set i q = l.take (i + 1) ++ List.replicate (l.length + 1 - (i + 1)) z := by
  have hlt := (List.getElem?_eq_some_iff.1 hx).1
  have h1 : (l.take i).length = i := by rw [List.length_take]; omega
  have h2 : List.replicate (l.length + 1 - i) z = z :: List.replicate (l.length + 1 - (i + 1)) z := by
    rw [show l.length + 1 - i = (l.length + 1 - (i + 1)) + 1 by omega]; rfl
  rw [List.set_append_right _ _ (by omega), h1, Nat.sub_self, h2, List.set_cons_zero, List.take_add_one, hx]
  simp
theorem twin_end {α : Type} {l : List α} {m z : α} : (l.take l.length ++ List.replicate (l.length + 1 - l.length) z).set l.length m = l ++ [m] := by
  rw [List.take_length, show l.length + 1 - l.length = 1 by omega, List.set_append_right _ _ (Nat.le_refl _), Nat.sub_self]
  rfl
variable [Milieu]
def markWaiting (n : Int) : Waiting := ⟨⟨⟨0, 0, 0, 0, 0, 0, 0, 0⟩, ⟨0, 0⟩, ⟨0, 0⟩, 0, 0, 0, 0⟩, 0, IntKind.i64.wrap (-1000 - n)⟩
theorem markWaiting_spec {Γ : List Asn} {n : Int} {K : Value → WP} (h : Ent Γ (K (markWaiting n).val)) : Ent Γ (callH Try.prog 63 #[.int .i64 n] K) := by
  refine Ent.byS (A := S.law01_markWaiting _ _) S.law01_markWaiting_ok ?_
  unfold S.law01_markWaiting
  simp only [toT_V, toT_I, toT_B, toT_A, toT_rV, toT_rI, toT_rB, toT_pV, toT_pI, toT_pB, toT_pA, toT_cI, toT_cB]
  (repeat (first | ((with_reducible apply Ent.ldA); exact rfl; exact rfl) | ((with_reducible apply Ent.rdA); exact rfl; exact rfl) | ((with_reducible apply Ent.kpA); exact rfl; exact rfl) | ((with_reducible apply Ent.lenA)) | ((with_reducible apply Ent.draw)) | ((with_reducible apply Ent.boxA); exact rfl; intro _) | ((with_reducible apply Ent.alA); intro _) | ((with_reducible apply Ent.stA); exact rfl; exact rfl) | ((with_reducible apply Ent.asP); exact rfl) | ((with_reducible apply Ent.exA); exact rfl) | ((with_reducible apply Ent.eqA); exact rfl; exact rfl) | ((with_reducible apply Ent.neA); exact rfl; exact rfl) | ((with_reducible apply Ent.seA); exact rfl) | ((with_reducible apply Ent.ixN); (first | (exact hx; exact rfl) | (exact hp; exact hpi) | (exact hx2; exact hxi2)); intro hrd)))
  refine Ent.pure (x := (markWaiting n).val) (fun w => run_build w _ _ _ (by kernel_rfl)) ?_
  apply Ent.stA (y := markWaiting n) rfl rfl
  (repeat (first | ((with_reducible apply Ent.ldA); exact rfl; exact rfl) | ((with_reducible apply Ent.rdA); exact rfl; exact rfl) | ((with_reducible apply Ent.kpA); exact rfl; exact rfl) | ((with_reducible apply Ent.lenA)) | ((with_reducible apply Ent.draw)) | ((with_reducible apply Ent.boxA); exact rfl; intro _) | ((with_reducible apply Ent.alA); intro _) | ((with_reducible apply Ent.stA); exact rfl; exact rfl) | ((with_reducible apply Ent.asP); exact rfl) | ((with_reducible apply Ent.exA); exact rfl) | ((with_reducible apply Ent.eqA); exact rfl; exact rfl) | ((with_reducible apply Ent.neA); exact rfl; exact rfl) | ((with_reducible apply Ent.seA); exact rfl) | ((with_reducible apply Ent.ixN); (first | (exact hx; exact rfl) | (exact hp; exact hpi) | (exact hx2; exact hxi2)); intro hrd)))
  exact h.to (by (repeat (first | exact Subs.tail | exact Subs.nil | refine Subs.cons inferInstance ?_)))
theorem isWaiting_spec {Γ : List Asn} {a : Waiting} {n : Int} {K : Bool → WP} (h : Ent Γ (K (decide (a = markWaiting n)))) : Ent Γ (callT Try.prog inB 74 #[a.val, .int .i64 n] K) := by
  refine Ent.call ?_
  refine Ent.byS (A := S.law01_isWaiting _ _ _) S.law01_isWaiting_ok ?_
  unfold S.law01_isWaiting
  simp only [toT_V, toT_I, toT_B, toT_A, toT_rV, toT_rI, toT_rB, toT_pV, toT_pI, toT_pB, toT_pA, toT_cI, toT_cB]
  (repeat (first | ((with_reducible apply Ent.ldA); exact rfl; exact rfl) | ((with_reducible apply Ent.rdA); exact rfl; exact rfl) | ((with_reducible apply Ent.kpA); exact rfl; exact rfl) | ((with_reducible apply Ent.lenA)) | ((with_reducible apply Ent.draw)) | ((with_reducible apply Ent.boxA); exact rfl; intro _) | ((with_reducible apply Ent.alA); intro _) | ((with_reducible apply Ent.stA); exact rfl; exact rfl) | ((with_reducible apply Ent.asP); exact rfl) | ((with_reducible apply Ent.exA); exact rfl) | ((with_reducible apply Ent.eqA); exact rfl; exact rfl) | ((with_reducible apply Ent.neA); exact rfl; exact rfl) | ((with_reducible apply Ent.seA); exact rfl) | ((with_reducible apply Ent.ixN); (first | (exact hx; exact rfl) | (exact hp; exact hpi) | (exact hx2; exact hxi2)); intro hrd)))
  refine Ent.pure (x := (markWaiting n).val) (fun w => run_build w _ _ _ (by kernel_rfl)) ?_
  apply Ent.eqA (a := a) (b := markWaiting n) rfl rfl
  exact h.retA rfl (by (repeat (first | exact Subs.tail | exact Subs.nil | refine Subs.cons inferInstance ?_)))
theorem sameWaitings_spec {Γ : List Asn} {v1 v2 : Value} {l1 l2 : List Waiting} {K : Bool → WP} [Sl Try.prog Γ v1 Waiting enc_56 l1] [Sl Try.prog Γ v2 Waiting enc_56 l2] (h : Ent Γ (K (decide (l1 = l2)))) : Ent Γ (callT Try.prog inB 73 #[v1, v2] K) := by
  refine Ent.call ?_
  refine Ent.byS (A := S.law01_SameWaitings _ _ _) S.law01_SameWaitings_ok ?_
  unfold S.law01_SameWaitings
  simp only [toT_V, toT_I, toT_B, toT_A, toT_rV, toT_rI, toT_rB, toT_pV, toT_pI, toT_pB, toT_pA, toT_cI, toT_cB]
  refine Ent.slhA (P := Try.prog) (v := v1) fun hv1 => ?_
  refine Ent.maxA (P := Try.prog) v1 fun hmax => ?_
  refine Ent.slhA (P := Try.prog) (v := v2) fun hv2 => ?_
  refine Ent.maxA (P := Try.prog) v2 fun hmax2 => ?_
  (repeat (first | ((with_reducible apply Ent.ldA); exact rfl; exact rfl) | ((with_reducible apply Ent.rdA); exact rfl; exact rfl) | ((with_reducible apply Ent.kpA); exact rfl; exact rfl) | ((with_reducible apply Ent.lenA)) | ((with_reducible apply Ent.draw)) | ((with_reducible apply Ent.boxA); exact rfl; intro _) | ((with_reducible apply Ent.alA); intro _) | ((with_reducible apply Ent.stA); exact rfl; exact rfl) | ((with_reducible apply Ent.asP); exact rfl) | ((with_reducible apply Ent.exA); exact rfl) | ((with_reducible apply Ent.eqA); exact rfl; exact rfl) | ((with_reducible apply Ent.neA); exact rfl; exact rfl) | ((with_reducible apply Ent.seA); exact rfl) | ((with_reducible apply Ent.ixN); (first | (exact hx; exact rfl) | (exact hp; exact hpi) | (exact hx2; exact hxi2)); intro hrd)))
  refine Ent.ite (fun hy => ?_) (fun hy => ?_)
  · have : ¬ l1 = l2 := by intro h0; subst h0; simp at hy
    rw [decide_eq_false this] at h
    exact h.retA rfl (by (repeat (first | exact Subs.tail | exact Subs.nil | refine Subs.cons inferInstance ?_)))
  have hlen : l1.length = l2.length := by simp at hy; omega
  refine Ent.loopA (γ := Nat) (fun _ => Γ) (fun i s => s.2 = (i : Int) ∧ i ≤ l1.length ∧ (l1 = l2 ↔ l1.drop i = l2.drop i)) (fun i => l1.length - i) 0 ⟨rfl, Nat.zero_le _, by simp⟩ (by (repeat (first | exact Subs.tail | exact Subs.nil | refine Subs.cons inferInstance ?_))) ?_
  rintro i ⟨s1, s2⟩ kc ⟨hs2, hi, hb⟩ hkc
  dsimp only at hs2 hi hb ⊢
  subst hs2
  (repeat (first | ((with_reducible apply Ent.ldA); exact rfl; exact rfl) | ((with_reducible apply Ent.rdA); exact rfl; exact rfl) | ((with_reducible apply Ent.kpA); exact rfl; exact rfl) | ((with_reducible apply Ent.lenA)) | ((with_reducible apply Ent.draw)) | ((with_reducible apply Ent.boxA); exact rfl; intro _) | ((with_reducible apply Ent.alA); intro _) | ((with_reducible apply Ent.stA); exact rfl; exact rfl) | ((with_reducible apply Ent.asP); exact rfl) | ((with_reducible apply Ent.exA); exact rfl) | ((with_reducible apply Ent.eqA); exact rfl; exact rfl) | ((with_reducible apply Ent.neA); exact rfl; exact rfl) | ((with_reducible apply Ent.seA); exact rfl) | ((with_reducible apply Ent.ixN); (first | (exact hx; exact rfl) | (exact hp; exact hpi) | (exact hx2; exact hxi2)); intro hrd)))
  refine Ent.ite (fun hc => ?_) (fun hc => ?_)
  · have hlt : i < l1.length := by simpa using hc
    have hx : l1[i]? = some l1[i] := List.getElem?_eq_getElem hlt
    have hdr : l1.drop i = l1[i] :: l1.drop (i + 1) := List.drop_eq_getElem_cons hlt
    generalize l1[i] = q at hx hdr
    have hp : l2[i]? = some l2[i] := List.getElem?_eq_getElem (by omega)
    have hpi : (i : Int) = i := rfl
    have hdp : l2.drop i = l2[i] :: l2.drop (i + 1) := List.drop_eq_getElem_cons (by omega)
    generalize l2[i] = p at hp hdp
    (repeat (first | ((with_reducible apply Ent.ldA); exact rfl; exact rfl) | ((with_reducible apply Ent.rdA); exact rfl; exact rfl) | ((with_reducible apply Ent.kpA); exact rfl; exact rfl) | ((with_reducible apply Ent.lenA)) | ((with_reducible apply Ent.draw)) | ((with_reducible apply Ent.boxA); exact rfl; intro _) | ((with_reducible apply Ent.alA); intro _) | ((with_reducible apply Ent.stA); exact rfl; exact rfl) | ((with_reducible apply Ent.asP); exact rfl) | ((with_reducible apply Ent.exA); exact rfl) | ((with_reducible apply Ent.eqA); exact rfl; exact rfl) | ((with_reducible apply Ent.neA); exact rfl; exact rfl) | ((with_reducible apply Ent.seA); exact rfl) | ((with_reducible apply Ent.ixN); (first | (exact hx; exact rfl) | (exact hp; exact hpi) | (exact hx2; exact hxi2)); intro hrd)))
    refine Ent.ite (fun hz => ?_) (fun hz => ?_)
    · have hne : q ≠ p := by simpa using hz
      have : ¬ l1 = l2 := by rw [hb, hdr, hdp]; intro h0; exact hne (List.cons.inj h0).1
      rw [decide_eq_false this] at h
      exact h.retA rfl (by (repeat (first | exact Subs.tail | exact Subs.nil | refine Subs.cons inferInstance ?_)))
    · have heq : q = p := by simpa using hz
      refine hkc (i + 1) _ ⟨wrap_succ hlt hmax, hlt, ?_⟩ (by omega) _ (by (repeat (first | exact Subs.tail | exact Subs.nil | refine Subs.cons inferInstance ?_)))
      rw [hb, hdr, hdp, heq]; simp
  · have hge : i = l1.length := by simp at hc; omega
    subst hge
    have : l1 = l2 := by rw [hb]; rw [List.drop_of_length_le (Nat.le_refl _), List.drop_of_length_le (by omega)]
    rw [decide_eq_true this] at h
    exact h.retA rfl (by (repeat (first | exact Subs.tail | exact Subs.nil | refine Subs.cons inferInstance ?_)))
theorem twinWaitings_spec {Γ : List Asn} {v : Value} {l : List Waiting} {K : Value → WP} [Sl Try.prog Γ v Waiting enc_56 l] (hn : l.length ≤ 1048576 - 1)
    (h : ∀ s : SV, s.n = l.length → Ent (ab (@SlA Try.prog Waiting enc_56) s.full (l ++ [markWaiting 7777]) :: Γ) (K s.val)) : Ent Γ (callH Try.prog 40 #[v] K) := by
  refine Ent.byS (A := S.law01_TwinWaitings _ _) S.law01_TwinWaitings_ok ?_
  unfold S.law01_TwinWaitings
  simp only [toT_V, toT_I, toT_B, toT_A, toT_rV, toT_rI, toT_rB, toT_pV, toT_pI, toT_pB, toT_pA, toT_cI, toT_cB]
  refine Ent.slhA (P := Try.prog) (v := v) fun hv => ?_
  refine Ent.maxA (P := Try.prog) v fun hmax => ?_
  (repeat (first | ((with_reducible apply Ent.ldA); exact rfl; exact rfl) | ((with_reducible apply Ent.rdA); exact rfl; exact rfl) | ((with_reducible apply Ent.kpA); exact rfl; exact rfl) | ((with_reducible apply Ent.lenA)) | ((with_reducible apply Ent.draw)) | ((with_reducible apply Ent.boxA); exact rfl; intro _) | ((with_reducible apply Ent.alA); intro _) | ((with_reducible apply Ent.stA); exact rfl; exact rfl) | ((with_reducible apply Ent.asP); exact rfl) | ((with_reducible apply Ent.exA); exact rfl) | ((with_reducible apply Ent.eqA); exact rfl; exact rfl) | ((with_reducible apply Ent.neA); exact rfl; exact rfl) | ((with_reducible apply Ent.seA); exact rfl) | ((with_reducible apply Ent.ixN); (first | (exact hx; exact rfl) | (exact hp; exact hpi) | (exact hx2; exact hxi2)); intro hrd)))
  refine Ent.mkA (E := enc_56) (n := l.length + 1) (wrap_succ' hmax (by omega)) (mul_le_of (by decide) (by omega)) (by have : maxLen = 9223372036854775807 := rfl; omega) fun s hs hc => ?_
  refine Ent.loopA (γ := Nat) (fun i => ab (@SlA Try.prog Waiting enc_56) s.val (l.take i ++ List.replicate (l.length + 1 - i) (Enc.z Try.prog)) :: Γ) (fun i s => s = (i : Int) ∧ i ≤ l.length) (fun i => l.length - i) 0 ⟨rfl, Nat.zero_le _⟩ (by (repeat (first | exact Subs.tail | exact Subs.nil | refine Subs.cons inferInstance ?_))) ?_
  rintro i s2 kc ⟨hs2, hi⟩ hkc
  subst hs2
  (repeat (first | ((with_reducible apply Ent.ldA); exact rfl; exact rfl) | ((with_reducible apply Ent.rdA); exact rfl; exact rfl) | ((with_reducible apply Ent.kpA); exact rfl; exact rfl) | ((with_reducible apply Ent.lenA)) | ((with_reducible apply Ent.draw)) | ((with_reducible apply Ent.boxA); exact rfl; intro _) | ((with_reducible apply Ent.alA); intro _) | ((with_reducible apply Ent.stA); exact rfl; exact rfl) | ((with_reducible apply Ent.asP); exact rfl) | ((with_reducible apply Ent.exA); exact rfl) | ((with_reducible apply Ent.eqA); exact rfl; exact rfl) | ((with_reducible apply Ent.neA); exact rfl; exact rfl) | ((with_reducible apply Ent.seA); exact rfl) | ((with_reducible apply Ent.ixN); (first | (exact hx; exact rfl) | (exact hp; exact hpi) | (exact hx2; exact hxi2)); intro hrd)))
  refine Ent.ite (fun hc => ?_) (fun hc => ?_)
  · have hlt : i < l.length := by simpa using hc
    have hx : l[i]? = some l[i] := List.getElem?_eq_getElem hlt
    have hdr : l.drop i = l[i] :: l.drop (i + 1) := List.drop_eq_getElem_cons hlt
    generalize l[i] = q at hx hdr
    (repeat (first | ((with_reducible apply Ent.ldA); exact rfl; exact rfl) | ((with_reducible apply Ent.rdA); exact rfl; exact rfl) | ((with_reducible apply Ent.kpA); exact rfl; exact rfl) | ((with_reducible apply Ent.lenA)) | ((with_reducible apply Ent.draw)) | ((with_reducible apply Ent.boxA); exact rfl; intro _) | ((with_reducible apply Ent.alA); intro _) | ((with_reducible apply Ent.stA); exact rfl; exact rfl) | ((with_reducible apply Ent.asP); exact rfl) | ((with_reducible apply Ent.exA); exact rfl) | ((with_reducible apply Ent.eqA); exact rfl; exact rfl) | ((with_reducible apply Ent.neA); exact rfl; exact rfl) | ((with_reducible apply Ent.seA); exact rfl) | ((with_reducible apply Ent.ixN); (first | (exact hx; exact rfl) | (exact hp; exact hpi) | (exact hx2; exact hxi2)); intro hrd)))
    refine Ent.ixA (E := enc_56) (by omega) (by simp; omega) fun _ _ _ => ?_
    rw [Int.toNat_natCast]
    apply Ent.stE (E := enc_56) (x := q) rfl (by simp; omega) rfl
    rw [twin_set hx]
    exact hkc (i + 1) _ ⟨wrap_succ hlt hmax, hlt⟩ (by omega) _ (by (repeat (first | exact Subs.tail | exact Subs.nil | refine Subs.cons inferInstance ?_)))
  · have hge : i = l.length := by simp at hc; omega
    subst hge
    (repeat (first | ((with_reducible apply Ent.ldA); exact rfl; exact rfl) | ((with_reducible apply Ent.rdA); exact rfl; exact rfl) | ((with_reducible apply Ent.kpA); exact rfl; exact rfl) | ((with_reducible apply Ent.lenA)) | ((with_reducible apply Ent.draw)) | ((with_reducible apply Ent.boxA); exact rfl; intro _) | ((with_reducible apply Ent.alA); intro _) | ((with_reducible apply Ent.stA); exact rfl; exact rfl) | ((with_reducible apply Ent.asP); exact rfl) | ((with_reducible apply Ent.exA); exact rfl) | ((with_reducible apply Ent.eqA); exact rfl; exact rfl) | ((with_reducible apply Ent.neA); exact rfl; exact rfl) | ((with_reducible apply Ent.seA); exact rfl) | ((with_reducible apply Ent.ixN); (first | (exact hx; exact rfl) | (exact hp; exact hpi) | (exact hx2; exact hxi2)); intro hrd)))
    refine markWaiting_spec ?_
    refine Ent.ixA (E := enc_56) (by omega) (by simp; omega) fun _ _ _ => ?_
    rw [Int.toNat_natCast]
    apply Ent.stE (E := enc_56) (x := markWaiting 7777) rfl (by simp) rfl
    rw [twin_end]
    (repeat (first | ((with_reducible apply Ent.ldA); exact rfl; exact rfl) | ((with_reducible apply Ent.rdA); exact rfl; exact rfl) | ((with_reducible apply Ent.kpA); exact rfl; exact rfl) | ((with_reducible apply Ent.lenA)) | ((with_reducible apply Ent.draw)) | ((with_reducible apply Ent.boxA); exact rfl; intro _) | ((with_reducible apply Ent.alA); intro _) | ((with_reducible apply Ent.stA); exact rfl; exact rfl) | ((with_reducible apply Ent.asP); exact rfl) | ((with_reducible apply Ent.exA); exact rfl) | ((with_reducible apply Ent.eqA); exact rfl; exact rfl) | ((with_reducible apply Ent.neA); exact rfl; exact rfl) | ((with_reducible apply Ent.seA); exact rfl) | ((with_reducible apply Ent.ixN); (first | (exact hx; exact rfl) | (exact hp; exact hpi) | (exact hx2; exact hxi2)); intro hrd)))
    refine Ent.hiA (E := enc_56) (b := s.b) (n := s.n) (c := s.c) (m := l.length) rfl rfl (by omega) ?_
    have h1 := h ⟨s.b, l.length, s.c⟩ rfl
    have e1 : SV.full ⟨s.b, l.length, s.c⟩ = s.val := by unfold SV.full; rw [← hs]
    rw [e1] at h1
    exact h1
theorem leftWaitings_spec {Γ Δ : List Asn} {s : SV} {v : Value} {l l' : List Waiting} {m : Waiting} {K : Bool → WP} [OwnIn Try.prog s.full Γ Waiting enc_56 (l' ++ [m]) Δ] [Sl Try.prog Γ v Waiting enc_56 l] (hsm : l.length ≤ 1048576) (h : Ent Γ (K (decide (l' = l) && decide (m = markWaiting 7777)))) : Ent Γ (callT Try.prog inB 50 #[s.val, v] K) := by
  refine Ent.call ?_
  refine Ent.byS (A := S.law01_LeftWaitings _ _ _) S.law01_LeftWaitings_ok ?_
  unfold S.law01_LeftWaitings
  simp only [toT_V, toT_I, toT_B, toT_A, toT_rV, toT_rI, toT_rB, toT_pV, toT_pI, toT_pB, toT_pA, toT_cI, toT_cB]
  refine Ent.joinB (decide (l' = l) && decide (m = markWaiting 7777)) (fun k hk => ?_) ?_
  · refine sameWaitings_spec (l1 := l') (l2 := l) ?_
    refine Ent.and (decide (m = markWaiting 7777)) (fun hc k2 hk2 => ?_) (hk _ rfl)
    have heq : l' = l := by simpa using hc
    subst heq
    refine Ent.maxA (P := Try.prog) v fun hmax => ?_
    refine Ent.svA (P := Try.prog) (E := enc_56) (v := s.full) fun s2 hs2 hn2 hc2 _ _ => ?_
    have e1 : s2 = ⟨s.b, s.n + 1, s.c⟩ := by
      cases s2
      simp only [SV.full, SV.val, Value.slice.injEq] at hs2
      simp [hs2.1, hs2.2.1, hs2.2.2]
    subst e1
    simp only [List.length_append, List.length_cons, List.length_nil] at hn2 hc2
    (repeat (first | ((with_reducible apply Ent.ldA); exact rfl; exact rfl) | ((with_reducible apply Ent.rdA); exact rfl; exact rfl) | ((with_reducible apply Ent.kpA); exact rfl; exact rfl) | ((with_reducible apply Ent.lenA)) | ((with_reducible apply Ent.draw)) | ((with_reducible apply Ent.boxA); exact rfl; intro _) | ((with_reducible apply Ent.alA); intro _) | ((with_reducible apply Ent.stA); exact rfl; exact rfl) | ((with_reducible apply Ent.asP); exact rfl) | ((with_reducible apply Ent.exA); exact rfl) | ((with_reducible apply Ent.eqA); exact rfl; exact rfl) | ((with_reducible apply Ent.neA); exact rfl; exact rfl) | ((with_reducible apply Ent.seA); exact rfl) | ((with_reducible apply Ent.ixN); (first | (exact hx; exact rfl) | (exact hp; exact hpi) | (exact hx2; exact hxi2)); intro hrd)))
    refine Ent.hiA (E := enc_56) (b := s.b) (n := s.n) (c := s.c) (m := l'.length + 1) rfl (wrap_succ' hmax (by omega)) (by omega) ?_
    have e2 : Value.slice s.b (l'.length + 1) s.c = s.full := by unfold SV.full; congr 1; omega
    rw [e2]
    (repeat (first | ((with_reducible apply Ent.ldA); exact rfl; exact rfl) | ((with_reducible apply Ent.rdA); exact rfl; exact rfl) | ((with_reducible apply Ent.kpA); exact rfl; exact rfl) | ((with_reducible apply Ent.lenA)) | ((with_reducible apply Ent.draw)) | ((with_reducible apply Ent.boxA); exact rfl; intro _) | ((with_reducible apply Ent.alA); intro _) | ((with_reducible apply Ent.stA); exact rfl; exact rfl) | ((with_reducible apply Ent.asP); exact rfl) | ((with_reducible apply Ent.exA); exact rfl) | ((with_reducible apply Ent.eqA); exact rfl; exact rfl) | ((with_reducible apply Ent.neA); exact rfl; exact rfl) | ((with_reducible apply Ent.seA); exact rfl) | ((with_reducible apply Ent.ixN); (first | (exact hx; exact rfl) | (exact hp; exact hpi) | (exact hx2; exact hxi2)); intro hrd)))
    have hx : (l' ++ [m])[l'.length]? = some m := by simp
    (repeat (first | ((with_reducible apply Ent.ldA); exact rfl; exact rfl) | ((with_reducible apply Ent.rdA); exact rfl; exact rfl) | ((with_reducible apply Ent.kpA); exact rfl; exact rfl) | ((with_reducible apply Ent.lenA)) | ((with_reducible apply Ent.draw)) | ((with_reducible apply Ent.boxA); exact rfl; intro _) | ((with_reducible apply Ent.alA); intro _) | ((with_reducible apply Ent.stA); exact rfl; exact rfl) | ((with_reducible apply Ent.asP); exact rfl) | ((with_reducible apply Ent.exA); exact rfl) | ((with_reducible apply Ent.eqA); exact rfl; exact rfl) | ((with_reducible apply Ent.neA); exact rfl; exact rfl) | ((with_reducible apply Ent.seA); exact rfl) | ((with_reducible apply Ent.ixN); (first | (exact hx; exact rfl) | (exact hp; exact hpi) | (exact hx2; exact hxi2)); intro hrd)))
    refine isWaiting_spec ?_
    exact hk2
  · exact h.retA rfl (by (repeat (first | exact Subs.tail | exact Subs.nil | refine Subs.cons inferInstance ?_)))
def markIdle (n : Int) : Idle := ⟨⟨⟨0, 0, 0, 0, 0, 0, 0, 0⟩, ⟨0, 0⟩, 0, 0, 0⟩, IntKind.i64.wrap (-1000 - n)⟩
theorem markIdle_spec {Γ : List Asn} {n : Int} {K : Value → WP} (h : Ent Γ (K (markIdle n).val)) : Ent Γ (callH Try.prog 64 #[.int .i64 n] K) := by
  refine Ent.byS (A := S.law01_markIdle _ _) S.law01_markIdle_ok ?_
  unfold S.law01_markIdle
  simp only [toT_V, toT_I, toT_B, toT_A, toT_rV, toT_rI, toT_rB, toT_pV, toT_pI, toT_pB, toT_pA, toT_cI, toT_cB]
  (repeat (first | ((with_reducible apply Ent.ldA); exact rfl; exact rfl) | ((with_reducible apply Ent.rdA); exact rfl; exact rfl) | ((with_reducible apply Ent.kpA); exact rfl; exact rfl) | ((with_reducible apply Ent.lenA)) | ((with_reducible apply Ent.draw)) | ((with_reducible apply Ent.boxA); exact rfl; intro _) | ((with_reducible apply Ent.alA); intro _) | ((with_reducible apply Ent.stA); exact rfl; exact rfl) | ((with_reducible apply Ent.asP); exact rfl) | ((with_reducible apply Ent.exA); exact rfl) | ((with_reducible apply Ent.eqA); exact rfl; exact rfl) | ((with_reducible apply Ent.neA); exact rfl; exact rfl) | ((with_reducible apply Ent.seA); exact rfl) | ((with_reducible apply Ent.ixN); (first | (exact hx; exact rfl) | (exact hp; exact hpi) | (exact hx2; exact hxi2)); intro hrd)))
  refine Ent.pure (x := (markIdle n).val) (fun w => run_build w _ _ _ (by kernel_rfl)) ?_
  apply Ent.stA (y := markIdle n) rfl rfl
  (repeat (first | ((with_reducible apply Ent.ldA); exact rfl; exact rfl) | ((with_reducible apply Ent.rdA); exact rfl; exact rfl) | ((with_reducible apply Ent.kpA); exact rfl; exact rfl) | ((with_reducible apply Ent.lenA)) | ((with_reducible apply Ent.draw)) | ((with_reducible apply Ent.boxA); exact rfl; intro _) | ((with_reducible apply Ent.alA); intro _) | ((with_reducible apply Ent.stA); exact rfl; exact rfl) | ((with_reducible apply Ent.asP); exact rfl) | ((with_reducible apply Ent.exA); exact rfl) | ((with_reducible apply Ent.eqA); exact rfl; exact rfl) | ((with_reducible apply Ent.neA); exact rfl; exact rfl) | ((with_reducible apply Ent.seA); exact rfl) | ((with_reducible apply Ent.ixN); (first | (exact hx; exact rfl) | (exact hp; exact hpi) | (exact hx2; exact hxi2)); intro hrd)))
  exact h.to (by (repeat (first | exact Subs.tail | exact Subs.nil | refine Subs.cons inferInstance ?_)))
theorem isIdle_spec {Γ : List Asn} {a : Idle} {n : Int} {K : Bool → WP} (h : Ent Γ (K (decide (a = markIdle n)))) : Ent Γ (callT Try.prog inB 76 #[a.val, .int .i64 n] K) := by
  refine Ent.call ?_
  refine Ent.byS (A := S.law01_isIdle _ _ _) S.law01_isIdle_ok ?_
  unfold S.law01_isIdle
  simp only [toT_V, toT_I, toT_B, toT_A, toT_rV, toT_rI, toT_rB, toT_pV, toT_pI, toT_pB, toT_pA, toT_cI, toT_cB]
  (repeat (first | ((with_reducible apply Ent.ldA); exact rfl; exact rfl) | ((with_reducible apply Ent.rdA); exact rfl; exact rfl) | ((with_reducible apply Ent.kpA); exact rfl; exact rfl) | ((with_reducible apply Ent.lenA)) | ((with_reducible apply Ent.draw)) | ((with_reducible apply Ent.boxA); exact rfl; intro _) | ((with_reducible apply Ent.alA); intro _) | ((with_reducible apply Ent.stA); exact rfl; exact rfl) | ((with_reducible apply Ent.asP); exact rfl) | ((with_reducible apply Ent.exA); exact rfl) | ((with_reducible apply Ent.eqA); exact rfl; exact rfl) | ((with_reducible apply Ent.neA); exact rfl; exact rfl) | ((with_reducible apply Ent.seA); exact rfl) | ((with_reducible apply Ent.ixN); (first | (exact hx; exact rfl) | (exact hp; exact hpi) | (exact hx2; exact hxi2)); intro hrd)))
  refine Ent.pure (x := (markIdle n).val) (fun w => run_build w _ _ _ (by kernel_rfl)) ?_
  apply Ent.eqA (a := a) (b := markIdle n) rfl rfl
  exact h.retA rfl (by (repeat (first | exact Subs.tail | exact Subs.nil | refine Subs.cons inferInstance ?_)))
theorem sameIdles_spec {Γ : List Asn} {v1 v2 : Value} {l1 l2 : List Idle} {K : Bool → WP} [Sl Try.prog Γ v1 Idle enc_126 l1] [Sl Try.prog Γ v2 Idle enc_126 l2] (h : Ent Γ (K (decide (l1 = l2)))) : Ent Γ (callT Try.prog inB 75 #[v1, v2] K) := by
  refine Ent.call ?_
  refine Ent.byS (A := S.law01_SameIdles _ _ _) S.law01_SameIdles_ok ?_
  unfold S.law01_SameIdles
  simp only [toT_V, toT_I, toT_B, toT_A, toT_rV, toT_rI, toT_rB, toT_pV, toT_pI, toT_pB, toT_pA, toT_cI, toT_cB]
  refine Ent.slhA (P := Try.prog) (v := v1) fun hv1 => ?_
  refine Ent.maxA (P := Try.prog) v1 fun hmax => ?_
  refine Ent.slhA (P := Try.prog) (v := v2) fun hv2 => ?_
  refine Ent.maxA (P := Try.prog) v2 fun hmax2 => ?_
  (repeat (first | ((with_reducible apply Ent.ldA); exact rfl; exact rfl) | ((with_reducible apply Ent.rdA); exact rfl; exact rfl) | ((with_reducible apply Ent.kpA); exact rfl; exact rfl) | ((with_reducible apply Ent.lenA)) | ((with_reducible apply Ent.draw)) | ((with_reducible apply Ent.boxA); exact rfl; intro _) | ((with_reducible apply Ent.alA); intro _) | ((with_reducible apply Ent.stA); exact rfl; exact rfl) | ((with_reducible apply Ent.asP); exact rfl) | ((with_reducible apply Ent.exA); exact rfl) | ((with_reducible apply Ent.eqA); exact rfl; exact rfl) | ((with_reducible apply Ent.neA); exact rfl; exact rfl) | ((with_reducible apply Ent.seA); exact rfl) | ((with_reducible apply Ent.ixN); (first | (exact hx; exact rfl) | (exact hp; exact hpi) | (exact hx2; exact hxi2)); intro hrd)))
  refine Ent.ite (fun hy => ?_) (fun hy => ?_)
  · have : ¬ l1 = l2 := by intro h0; subst h0; simp at hy
    rw [decide_eq_false this] at h
    exact h.retA rfl (by (repeat (first | exact Subs.tail | exact Subs.nil | refine Subs.cons inferInstance ?_)))
  have hlen : l1.length = l2.length := by simp at hy; omega
  refine Ent.loopA (γ := Nat) (fun _ => Γ) (fun i s => s.2 = (i : Int) ∧ i ≤ l1.length ∧ (l1 = l2 ↔ l1.drop i = l2.drop i)) (fun i => l1.length - i) 0 ⟨rfl, Nat.zero_le _, by simp⟩ (by (repeat (first | exact Subs.tail | exact Subs.nil | refine Subs.cons inferInstance ?_))) ?_
  rintro i ⟨s1, s2⟩ kc ⟨hs2, hi, hb⟩ hkc
  dsimp only at hs2 hi hb ⊢
  subst hs2
  (repeat (first | ((with_reducible apply Ent.ldA); exact rfl; exact rfl) | ((with_reducible apply Ent.rdA); exact rfl; exact rfl) | ((with_reducible apply Ent.kpA); exact rfl; exact rfl) | ((with_reducible apply Ent.lenA)) | ((with_reducible apply Ent.draw)) | ((with_reducible apply Ent.boxA); exact rfl; intro _) | ((with_reducible apply Ent.alA); intro _) | ((with_reducible apply Ent.stA); exact rfl; exact rfl) | ((with_reducible apply Ent.asP); exact rfl) | ((with_reducible apply Ent.exA); exact rfl) | ((with_reducible apply Ent.eqA); exact rfl; exact rfl) | ((with_reducible apply Ent.neA); exact rfl; exact rfl) | ((with_reducible apply Ent.seA); exact rfl) | ((with_reducible apply Ent.ixN); (first | (exact hx; exact rfl) | (exact hp; exact hpi) | (exact hx2; exact hxi2)); intro hrd)))
  refine Ent.ite (fun hc => ?_) (fun hc => ?_)
  · have hlt : i < l1.length := by simpa using hc
    have hx : l1[i]? = some l1[i] := List.getElem?_eq_getElem hlt
    have hdr : l1.drop i = l1[i] :: l1.drop (i + 1) := List.drop_eq_getElem_cons hlt
    generalize l1[i] = q at hx hdr
    have hp : l2[i]? = some l2[i] := List.getElem?_eq_getElem (by omega)
    have hpi : (i : Int) = i := rfl
    have hdp : l2.drop i = l2[i] :: l2.drop (i + 1) := List.drop_eq_getElem_cons (by omega)
    generalize l2[i] = p at hp hdp
    (repeat (first | ((with_reducible apply Ent.ldA); exact rfl; exact rfl) | ((with_reducible apply Ent.rdA); exact rfl; exact rfl) | ((with_reducible apply Ent.kpA); exact rfl; exact rfl) | ((with_reducible apply Ent.lenA)) | ((with_reducible apply Ent.draw)) | ((with_reducible apply Ent.boxA); exact rfl; intro _) | ((with_reducible apply Ent.alA); intro _) | ((with_reducible apply Ent.stA); exact rfl; exact rfl) | ((with_reducible apply Ent.asP); exact rfl) | ((with_reducible apply Ent.exA); exact rfl) | ((with_reducible apply Ent.eqA); exact rfl; exact rfl) | ((with_reducible apply Ent.neA); exact rfl; exact rfl) | ((with_reducible apply Ent.seA); exact rfl) | ((with_reducible apply Ent.ixN); (first | (exact hx; exact rfl) | (exact hp; exact hpi) | (exact hx2; exact hxi2)); intro hrd)))
    refine Ent.ite (fun hz => ?_) (fun hz => ?_)
    · have hne : q ≠ p := by simpa using hz
      have : ¬ l1 = l2 := by rw [hb, hdr, hdp]; intro h0; exact hne (List.cons.inj h0).1
      rw [decide_eq_false this] at h
      exact h.retA rfl (by (repeat (first | exact Subs.tail | exact Subs.nil | refine Subs.cons inferInstance ?_)))
    · have heq : q = p := by simpa using hz
      refine hkc (i + 1) _ ⟨wrap_succ hlt hmax, hlt, ?_⟩ (by omega) _ (by (repeat (first | exact Subs.tail | exact Subs.nil | refine Subs.cons inferInstance ?_)))
      rw [hb, hdr, hdp, heq]; simp
  · have hge : i = l1.length := by simp at hc; omega
    subst hge
    have : l1 = l2 := by rw [hb]; rw [List.drop_of_length_le (Nat.le_refl _), List.drop_of_length_le (by omega)]
    rw [decide_eq_true this] at h
    exact h.retA rfl (by (repeat (first | exact Subs.tail | exact Subs.nil | refine Subs.cons inferInstance ?_)))
theorem twinIdles_spec {Γ : List Asn} {v : Value} {l : List Idle} {K : Value → WP} [Sl Try.prog Γ v Idle enc_126 l] (hn : l.length ≤ 1048576 - 1)
    (h : ∀ s : SV, s.n = l.length → Ent (ab (@SlA Try.prog Idle enc_126) s.full (l ++ [markIdle 7777]) :: Γ) (K s.val)) : Ent Γ (callH Try.prog 41 #[v] K) := by
  refine Ent.byS (A := S.law01_TwinIdles _ _) S.law01_TwinIdles_ok ?_
  unfold S.law01_TwinIdles
  simp only [toT_V, toT_I, toT_B, toT_A, toT_rV, toT_rI, toT_rB, toT_pV, toT_pI, toT_pB, toT_pA, toT_cI, toT_cB]
  refine Ent.slhA (P := Try.prog) (v := v) fun hv => ?_
  refine Ent.maxA (P := Try.prog) v fun hmax => ?_
  (repeat (first | ((with_reducible apply Ent.ldA); exact rfl; exact rfl) | ((with_reducible apply Ent.rdA); exact rfl; exact rfl) | ((with_reducible apply Ent.kpA); exact rfl; exact rfl) | ((with_reducible apply Ent.lenA)) | ((with_reducible apply Ent.draw)) | ((with_reducible apply Ent.boxA); exact rfl; intro _) | ((with_reducible apply Ent.alA); intro _) | ((with_reducible apply Ent.stA); exact rfl; exact rfl) | ((with_reducible apply Ent.asP); exact rfl) | ((with_reducible apply Ent.exA); exact rfl) | ((with_reducible apply Ent.eqA); exact rfl; exact rfl) | ((with_reducible apply Ent.neA); exact rfl; exact rfl) | ((with_reducible apply Ent.seA); exact rfl) | ((with_reducible apply Ent.ixN); (first | (exact hx; exact rfl) | (exact hp; exact hpi) | (exact hx2; exact hxi2)); intro hrd)))
  refine Ent.mkA (E := enc_126) (n := l.length + 1) (wrap_succ' hmax (by omega)) (mul_le_of (by decide) (by omega)) (by have : maxLen = 9223372036854775807 := rfl; omega) fun s hs hc => ?_
  refine Ent.loopA (γ := Nat) (fun i => ab (@SlA Try.prog Idle enc_126) s.val (l.take i ++ List.replicate (l.length + 1 - i) (Enc.z Try.prog)) :: Γ) (fun i s => s = (i : Int) ∧ i ≤ l.length) (fun i => l.length - i) 0 ⟨rfl, Nat.zero_le _⟩ (by (repeat (first | exact Subs.tail | exact Subs.nil | refine Subs.cons inferInstance ?_))) ?_
  rintro i s2 kc ⟨hs2, hi⟩ hkc
  subst hs2
  (repeat (first | ((with_reducible apply Ent.ldA); exact rfl; exact rfl) | ((with_reducible apply Ent.rdA); exact rfl; exact rfl) | ((with_reducible apply Ent.kpA); exact rfl; exact rfl) | ((with_reducible apply Ent.lenA)) | ((with_reducible apply Ent.draw)) | ((with_reducible apply Ent.boxA); exact rfl; intro _) | ((with_reducible apply Ent.alA); intro _) | ((with_reducible apply Ent.stA); exact rfl; exact rfl) | ((with_reducible apply Ent.asP); exact rfl) | ((with_reducible apply Ent.exA); exact rfl) | ((with_reducible apply Ent.eqA); exact rfl; exact rfl) | ((with_reducible apply Ent.neA); exact rfl; exact rfl) | ((with_reducible apply Ent.seA); exact rfl) | ((with_reducible apply Ent.ixN); (first | (exact hx; exact rfl) | (exact hp; exact hpi) | (exact hx2; exact hxi2)); intro hrd)))
  refine Ent.ite (fun hc => ?_) (fun hc => ?_)
  · have hlt : i < l.length := by simpa using hc
    have hx : l[i]? = some l[i] := List.getElem?_eq_getElem hlt
    have hdr : l.drop i = l[i] :: l.drop (i + 1) := List.drop_eq_getElem_cons hlt
    generalize l[i] = q at hx hdr
    (repeat (first | ((with_reducible apply Ent.ldA); exact rfl; exact rfl) | ((with_reducible apply Ent.rdA); exact rfl; exact rfl) | ((with_reducible apply Ent.kpA); exact rfl; exact rfl) | ((with_reducible apply Ent.lenA)) | ((with_reducible apply Ent.draw)) | ((with_reducible apply Ent.boxA); exact rfl; intro _) | ((with_reducible apply Ent.alA); intro _) | ((with_reducible apply Ent.stA); exact rfl; exact rfl) | ((with_reducible apply Ent.asP); exact rfl) | ((with_reducible apply Ent.exA); exact rfl) | ((with_reducible apply Ent.eqA); exact rfl; exact rfl) | ((with_reducible apply Ent.neA); exact rfl; exact rfl) | ((with_reducible apply Ent.seA); exact rfl) | ((with_reducible apply Ent.ixN); (first | (exact hx; exact rfl) | (exact hp; exact hpi) | (exact hx2; exact hxi2)); intro hrd)))
    refine Ent.ixA (E := enc_126) (by omega) (by simp; omega) fun _ _ _ => ?_
    rw [Int.toNat_natCast]
    apply Ent.stE (E := enc_126) (x := q) rfl (by simp; omega) rfl
    rw [twin_set hx]
    exact hkc (i + 1) _ ⟨wrap_succ hlt hmax, hlt⟩ (by omega) _ (by (repeat (first | exact Subs.tail | exact Subs.nil | refine Subs.cons inferInstance ?_)))
  · have hge : i = l.length := by simp at hc; omega
    subst hge
    (repeat (first | ((with_reducible apply Ent.ldA); exact rfl; exact rfl) | ((with_reducible apply Ent.rdA); exact rfl; exact rfl) | ((with_reducible apply Ent.kpA); exact rfl; exact rfl) | ((with_reducible apply Ent.lenA)) | ((with_reducible apply Ent.draw)) | ((with_reducible apply Ent.boxA); exact rfl; intro _) | ((with_reducible apply Ent.alA); intro _) | ((with_reducible apply Ent.stA); exact rfl; exact rfl) | ((with_reducible apply Ent.asP); exact rfl) | ((with_reducible apply Ent.exA); exact rfl) | ((with_reducible apply Ent.eqA); exact rfl; exact rfl) | ((with_reducible apply Ent.neA); exact rfl; exact rfl) | ((with_reducible apply Ent.seA); exact rfl) | ((with_reducible apply Ent.ixN); (first | (exact hx; exact rfl) | (exact hp; exact hpi) | (exact hx2; exact hxi2)); intro hrd)))
    refine markIdle_spec ?_
    refine Ent.ixA (E := enc_126) (by omega) (by simp; omega) fun _ _ _ => ?_
    rw [Int.toNat_natCast]
    apply Ent.stE (E := enc_126) (x := markIdle 7777) rfl (by simp) rfl
    rw [twin_end]
    (repeat (first | ((with_reducible apply Ent.ldA); exact rfl; exact rfl) | ((with_reducible apply Ent.rdA); exact rfl; exact rfl) | ((with_reducible apply Ent.kpA); exact rfl; exact rfl) | ((with_reducible apply Ent.lenA)) | ((with_reducible apply Ent.draw)) | ((with_reducible apply Ent.boxA); exact rfl; intro _) | ((with_reducible apply Ent.alA); intro _) | ((with_reducible apply Ent.stA); exact rfl; exact rfl) | ((with_reducible apply Ent.asP); exact rfl) | ((with_reducible apply Ent.exA); exact rfl) | ((with_reducible apply Ent.eqA); exact rfl; exact rfl) | ((with_reducible apply Ent.neA); exact rfl; exact rfl) | ((with_reducible apply Ent.seA); exact rfl) | ((with_reducible apply Ent.ixN); (first | (exact hx; exact rfl) | (exact hp; exact hpi) | (exact hx2; exact hxi2)); intro hrd)))
    refine Ent.hiA (E := enc_126) (b := s.b) (n := s.n) (c := s.c) (m := l.length) rfl rfl (by omega) ?_
    have h1 := h ⟨s.b, l.length, s.c⟩ rfl
    have e1 : SV.full ⟨s.b, l.length, s.c⟩ = s.val := by unfold SV.full; rw [← hs]
    rw [e1] at h1
    exact h1
theorem leftIdles_spec {Γ Δ : List Asn} {s : SV} {v : Value} {l l' : List Idle} {m : Idle} {K : Bool → WP} [OwnIn Try.prog s.full Γ Idle enc_126 (l' ++ [m]) Δ] [Sl Try.prog Γ v Idle enc_126 l] (hsm : l.length ≤ 1048576) (h : Ent Γ (K (decide (l' = l) && decide (m = markIdle 7777)))) : Ent Γ (callT Try.prog inB 51 #[s.val, v] K) := by
  refine Ent.call ?_
  refine Ent.byS (A := S.law01_LeftIdles _ _ _) S.law01_LeftIdles_ok ?_
  unfold S.law01_LeftIdles
  simp only [toT_V, toT_I, toT_B, toT_A, toT_rV, toT_rI, toT_rB, toT_pV, toT_pI, toT_pB, toT_pA, toT_cI, toT_cB]
  refine Ent.joinB (decide (l' = l) && decide (m = markIdle 7777)) (fun k hk => ?_) ?_
  · refine sameIdles_spec (l1 := l') (l2 := l) ?_
    refine Ent.and (decide (m = markIdle 7777)) (fun hc k2 hk2 => ?_) (hk _ rfl)
    have heq : l' = l := by simpa using hc
    subst heq
    refine Ent.maxA (P := Try.prog) v fun hmax => ?_
    refine Ent.svA (P := Try.prog) (E := enc_126) (v := s.full) fun s2 hs2 hn2 hc2 _ _ => ?_
    have e1 : s2 = ⟨s.b, s.n + 1, s.c⟩ := by
      cases s2
      simp only [SV.full, SV.val, Value.slice.injEq] at hs2
      simp [hs2.1, hs2.2.1, hs2.2.2]
    subst e1
    simp only [List.length_append, List.length_cons, List.length_nil] at hn2 hc2
    (repeat (first | ((with_reducible apply Ent.ldA); exact rfl; exact rfl) | ((with_reducible apply Ent.rdA); exact rfl; exact rfl) | ((with_reducible apply Ent.kpA); exact rfl; exact rfl) | ((with_reducible apply Ent.lenA)) | ((with_reducible apply Ent.draw)) | ((with_reducible apply Ent.boxA); exact rfl; intro _) | ((with_reducible apply Ent.alA); intro _) | ((with_reducible apply Ent.stA); exact rfl; exact rfl) | ((with_reducible apply Ent.asP); exact rfl) | ((with_reducible apply Ent.exA); exact rfl) | ((with_reducible apply Ent.eqA); exact rfl; exact rfl) | ((with_reducible apply Ent.neA); exact rfl; exact rfl) | ((with_reducible apply Ent.seA); exact rfl) | ((with_reducible apply Ent.ixN); (first | (exact hx; exact rfl) | (exact hp; exact hpi) | (exact hx2; exact hxi2)); intro hrd)))
    refine Ent.hiA (E := enc_126) (b := s.b) (n := s.n) (c := s.c) (m := l'.length + 1) rfl (wrap_succ' hmax (by omega)) (by omega) ?_
    have e2 : Value.slice s.b (l'.length + 1) s.c = s.full := by unfold SV.full; congr 1; omega
    rw [e2]
    (repeat (first | ((with_reducible apply Ent.ldA); exact rfl; exact rfl) | ((with_reducible apply Ent.rdA); exact rfl; exact rfl) | ((with_reducible apply Ent.kpA); exact rfl; exact rfl) | ((with_reducible apply Ent.lenA)) | ((with_reducible apply Ent.draw)) | ((with_reducible apply Ent.boxA); exact rfl; intro _) | ((with_reducible apply Ent.alA); intro _) | ((with_reducible apply Ent.stA); exact rfl; exact rfl) | ((with_reducible apply Ent.asP); exact rfl) | ((with_reducible apply Ent.exA); exact rfl) | ((with_reducible apply Ent.eqA); exact rfl; exact rfl) | ((with_reducible apply Ent.neA); exact rfl; exact rfl) | ((with_reducible apply Ent.seA); exact rfl) | ((with_reducible apply Ent.ixN); (first | (exact hx; exact rfl) | (exact hp; exact hpi) | (exact hx2; exact hxi2)); intro hrd)))
    have hx : (l' ++ [m])[l'.length]? = some m := by simp
    (repeat (first | ((with_reducible apply Ent.ldA); exact rfl; exact rfl) | ((with_reducible apply Ent.rdA); exact rfl; exact rfl) | ((with_reducible apply Ent.kpA); exact rfl; exact rfl) | ((with_reducible apply Ent.lenA)) | ((with_reducible apply Ent.draw)) | ((with_reducible apply Ent.boxA); exact rfl; intro _) | ((with_reducible apply Ent.alA); intro _) | ((with_reducible apply Ent.stA); exact rfl; exact rfl) | ((with_reducible apply Ent.asP); exact rfl) | ((with_reducible apply Ent.exA); exact rfl) | ((with_reducible apply Ent.eqA); exact rfl; exact rfl) | ((with_reducible apply Ent.neA); exact rfl; exact rfl) | ((with_reducible apply Ent.seA); exact rfl) | ((with_reducible apply Ent.ixN); (first | (exact hx; exact rfl) | (exact hp; exact hpi) | (exact hx2; exact hxi2)); intro hrd)))
    refine isIdle_spec ?_
    exact hk2
  · exact h.retA rfl (by (repeat (first | exact Subs.tail | exact Subs.nil | refine Subs.cons inferInstance ?_)))
def markEdge (n : Int) : Edge := ⟨0, 0, IntKind.i64.wrap (-1000 - n)⟩
theorem markEdge_spec {Γ : List Asn} {n : Int} {K : Value → WP} (h : Ent Γ (K (markEdge n).val)) : Ent Γ (callH Try.prog 93 #[.int .i64 n] K) := by
  refine Ent.byS (A := S.law01_markEdge _ _) S.law01_markEdge_ok ?_
  unfold S.law01_markEdge
  simp only [toT_V, toT_I, toT_B, toT_A, toT_rV, toT_rI, toT_rB, toT_pV, toT_pI, toT_pB, toT_pA, toT_cI, toT_cB]
  (repeat (first | ((with_reducible apply Ent.ldA); exact rfl; exact rfl) | ((with_reducible apply Ent.rdA); exact rfl; exact rfl) | ((with_reducible apply Ent.kpA); exact rfl; exact rfl) | ((with_reducible apply Ent.lenA)) | ((with_reducible apply Ent.draw)) | ((with_reducible apply Ent.boxA); exact rfl; intro _) | ((with_reducible apply Ent.alA); intro _) | ((with_reducible apply Ent.stA); exact rfl; exact rfl) | ((with_reducible apply Ent.asP); exact rfl) | ((with_reducible apply Ent.exA); exact rfl) | ((with_reducible apply Ent.eqA); exact rfl; exact rfl) | ((with_reducible apply Ent.neA); exact rfl; exact rfl) | ((with_reducible apply Ent.seA); exact rfl) | ((with_reducible apply Ent.ixN); (first | (exact hx; exact rfl) | (exact hp; exact hpi) | (exact hx2; exact hxi2)); intro hrd)))
  refine Ent.pure (x := (markEdge n).val) (fun w => run_build w _ _ _ (by kernel_rfl)) ?_
  apply Ent.stA (y := markEdge n) rfl rfl
  (repeat (first | ((with_reducible apply Ent.ldA); exact rfl; exact rfl) | ((with_reducible apply Ent.rdA); exact rfl; exact rfl) | ((with_reducible apply Ent.kpA); exact rfl; exact rfl) | ((with_reducible apply Ent.lenA)) | ((with_reducible apply Ent.draw)) | ((with_reducible apply Ent.boxA); exact rfl; intro _) | ((with_reducible apply Ent.alA); intro _) | ((with_reducible apply Ent.stA); exact rfl; exact rfl) | ((with_reducible apply Ent.asP); exact rfl) | ((with_reducible apply Ent.exA); exact rfl) | ((with_reducible apply Ent.eqA); exact rfl; exact rfl) | ((with_reducible apply Ent.neA); exact rfl; exact rfl) | ((with_reducible apply Ent.seA); exact rfl) | ((with_reducible apply Ent.ixN); (first | (exact hx; exact rfl) | (exact hp; exact hpi) | (exact hx2; exact hxi2)); intro hrd)))
  exact h.to (by (repeat (first | exact Subs.tail | exact Subs.nil | refine Subs.cons inferInstance ?_)))
theorem isEdge_spec {Γ : List Asn} {a : Edge} {n : Int} {K : Bool → WP} (h : Ent Γ (K (decide (a = markEdge n)))) : Ent Γ (callT Try.prog inB 101 #[a.val, .int .i64 n] K) := by
  refine Ent.call ?_
  refine Ent.byS (A := S.law01_isEdge _ _ _) S.law01_isEdge_ok ?_
  unfold S.law01_isEdge
  simp only [toT_V, toT_I, toT_B, toT_A, toT_rV, toT_rI, toT_rB, toT_pV, toT_pI, toT_pB, toT_pA, toT_cI, toT_cB]
  (repeat (first | ((with_reducible apply Ent.ldA); exact rfl; exact rfl) | ((with_reducible apply Ent.rdA); exact rfl; exact rfl) | ((with_reducible apply Ent.kpA); exact rfl; exact rfl) | ((with_reducible apply Ent.lenA)) | ((with_reducible apply Ent.draw)) | ((with_reducible apply Ent.boxA); exact rfl; intro _) | ((with_reducible apply Ent.alA); intro _) | ((with_reducible apply Ent.stA); exact rfl; exact rfl) | ((with_reducible apply Ent.asP); exact rfl) | ((with_reducible apply Ent.exA); exact rfl) | ((with_reducible apply Ent.eqA); exact rfl; exact rfl) | ((with_reducible apply Ent.neA); exact rfl; exact rfl) | ((with_reducible apply Ent.seA); exact rfl) | ((with_reducible apply Ent.ixN); (first | (exact hx; exact rfl) | (exact hp; exact hpi) | (exact hx2; exact hxi2)); intro hrd)))
  refine Ent.pure (x := (markEdge n).val) (fun w => run_build w _ _ _ (by kernel_rfl)) ?_
  apply Ent.eqA (a := a) (b := markEdge n) rfl rfl
  exact h.retA rfl (by (repeat (first | exact Subs.tail | exact Subs.nil | refine Subs.cons inferInstance ?_)))
theorem sameEdges_spec {Γ : List Asn} {v1 v2 : Value} {l1 l2 : List Edge} {K : Bool → WP} [Sl Try.prog Γ v1 Edge enc_103 l1] [Sl Try.prog Γ v2 Edge enc_103 l2] (h : Ent Γ (K (decide (l1 = l2)))) : Ent Γ (callT Try.prog inB 100 #[v1, v2] K) := by
  refine Ent.call ?_
  refine Ent.byS (A := S.law01_SameEdges _ _ _) S.law01_SameEdges_ok ?_
  unfold S.law01_SameEdges
  simp only [toT_V, toT_I, toT_B, toT_A, toT_rV, toT_rI, toT_rB, toT_pV, toT_pI, toT_pB, toT_pA, toT_cI, toT_cB]
  refine Ent.slhA (P := Try.prog) (v := v1) fun hv1 => ?_
  refine Ent.maxA (P := Try.prog) v1 fun hmax => ?_
  refine Ent.slhA (P := Try.prog) (v := v2) fun hv2 => ?_
  refine Ent.maxA (P := Try.prog) v2 fun hmax2 => ?_
  (repeat (first | ((with_reducible apply Ent.ldA); exact rfl; exact rfl) | ((with_reducible apply Ent.rdA); exact rfl; exact rfl) | ((with_reducible apply Ent.kpA); exact rfl; exact rfl) | ((with_reducible apply Ent.lenA)) | ((with_reducible apply Ent.draw)) | ((with_reducible apply Ent.boxA); exact rfl; intro _) | ((with_reducible apply Ent.alA); intro _) | ((with_reducible apply Ent.stA); exact rfl; exact rfl) | ((with_reducible apply Ent.asP); exact rfl) | ((with_reducible apply Ent.exA); exact rfl) | ((with_reducible apply Ent.eqA); exact rfl; exact rfl) | ((with_reducible apply Ent.neA); exact rfl; exact rfl) | ((with_reducible apply Ent.seA); exact rfl) | ((with_reducible apply Ent.ixN); (first | (exact hx; exact rfl) | (exact hp; exact hpi) | (exact hx2; exact hxi2)); intro hrd)))
  refine Ent.ite (fun hy => ?_) (fun hy => ?_)
  · have : ¬ l1 = l2 := by intro h0; subst h0; simp at hy
    rw [decide_eq_false this] at h
    exact h.retA rfl (by (repeat (first | exact Subs.tail | exact Subs.nil | refine Subs.cons inferInstance ?_)))
  have hlen : l1.length = l2.length := by simp at hy; omega
  refine Ent.loopA (γ := Nat) (fun _ => Γ) (fun i s => s.2 = (i : Int) ∧ i ≤ l1.length ∧ (l1 = l2 ↔ l1.drop i = l2.drop i)) (fun i => l1.length - i) 0 ⟨rfl, Nat.zero_le _, by simp⟩ (by (repeat (first | exact Subs.tail | exact Subs.nil | refine Subs.cons inferInstance ?_))) ?_
  rintro i ⟨s1, s2⟩ kc ⟨hs2, hi, hb⟩ hkc
  dsimp only at hs2 hi hb ⊢
  subst hs2
  (repeat (first | ((with_reducible apply Ent.ldA); exact rfl; exact rfl) | ((with_reducible apply Ent.rdA); exact rfl; exact rfl) | ((with_reducible apply Ent.kpA); exact rfl; exact rfl) | ((with_reducible apply Ent.lenA)) | ((with_reducible apply Ent.draw)) | ((with_reducible apply Ent.boxA); exact rfl; intro _) | ((with_reducible apply Ent.alA); intro _) | ((with_reducible apply Ent.stA); exact rfl; exact rfl) | ((with_reducible apply Ent.asP); exact rfl) | ((with_reducible apply Ent.exA); exact rfl) | ((with_reducible apply Ent.eqA); exact rfl; exact rfl) | ((with_reducible apply Ent.neA); exact rfl; exact rfl) | ((with_reducible apply Ent.seA); exact rfl) | ((with_reducible apply Ent.ixN); (first | (exact hx; exact rfl) | (exact hp; exact hpi) | (exact hx2; exact hxi2)); intro hrd)))
  refine Ent.ite (fun hc => ?_) (fun hc => ?_)
  · have hlt : i < l1.length := by simpa using hc
    have hx : l1[i]? = some l1[i] := List.getElem?_eq_getElem hlt
    have hdr : l1.drop i = l1[i] :: l1.drop (i + 1) := List.drop_eq_getElem_cons hlt
    generalize l1[i] = q at hx hdr
    have hp : l2[i]? = some l2[i] := List.getElem?_eq_getElem (by omega)
    have hpi : (i : Int) = i := rfl
    have hdp : l2.drop i = l2[i] :: l2.drop (i + 1) := List.drop_eq_getElem_cons (by omega)
    generalize l2[i] = p at hp hdp
    (repeat (first | ((with_reducible apply Ent.ldA); exact rfl; exact rfl) | ((with_reducible apply Ent.rdA); exact rfl; exact rfl) | ((with_reducible apply Ent.kpA); exact rfl; exact rfl) | ((with_reducible apply Ent.lenA)) | ((with_reducible apply Ent.draw)) | ((with_reducible apply Ent.boxA); exact rfl; intro _) | ((with_reducible apply Ent.alA); intro _) | ((with_reducible apply Ent.stA); exact rfl; exact rfl) | ((with_reducible apply Ent.asP); exact rfl) | ((with_reducible apply Ent.exA); exact rfl) | ((with_reducible apply Ent.eqA); exact rfl; exact rfl) | ((with_reducible apply Ent.neA); exact rfl; exact rfl) | ((with_reducible apply Ent.seA); exact rfl) | ((with_reducible apply Ent.ixN); (first | (exact hx; exact rfl) | (exact hp; exact hpi) | (exact hx2; exact hxi2)); intro hrd)))
    refine Ent.ite (fun hz => ?_) (fun hz => ?_)
    · have hne : q ≠ p := by simpa using hz
      have : ¬ l1 = l2 := by rw [hb, hdr, hdp]; intro h0; exact hne (List.cons.inj h0).1
      rw [decide_eq_false this] at h
      exact h.retA rfl (by (repeat (first | exact Subs.tail | exact Subs.nil | refine Subs.cons inferInstance ?_)))
    · have heq : q = p := by simpa using hz
      refine hkc (i + 1) _ ⟨wrap_succ hlt hmax, hlt, ?_⟩ (by omega) _ (by (repeat (first | exact Subs.tail | exact Subs.nil | refine Subs.cons inferInstance ?_)))
      rw [hb, hdr, hdp, heq]; simp
  · have hge : i = l1.length := by simp at hc; omega
    subst hge
    have : l1 = l2 := by rw [hb]; rw [List.drop_of_length_le (Nat.le_refl _), List.drop_of_length_le (by omega)]
    rw [decide_eq_true this] at h
    exact h.retA rfl (by (repeat (first | exact Subs.tail | exact Subs.nil | refine Subs.cons inferInstance ?_)))
theorem twinEdges_spec {Γ : List Asn} {v : Value} {l : List Edge} {K : Value → WP} [Sl Try.prog Γ v Edge enc_103 l] (hn : l.length ≤ 1048576 - 1)
    (h : ∀ s : SV, s.n = l.length → Ent (ab (@SlA Try.prog Edge enc_103) s.full (l ++ [markEdge 7777]) :: Γ) (K s.val)) : Ent Γ (callH Try.prog 65 #[v] K) := by
  refine Ent.byS (A := S.law01_TwinEdges _ _) S.law01_TwinEdges_ok ?_
  unfold S.law01_TwinEdges
  simp only [toT_V, toT_I, toT_B, toT_A, toT_rV, toT_rI, toT_rB, toT_pV, toT_pI, toT_pB, toT_pA, toT_cI, toT_cB]
  refine Ent.slhA (P := Try.prog) (v := v) fun hv => ?_
  refine Ent.maxA (P := Try.prog) v fun hmax => ?_
  (repeat (first | ((with_reducible apply Ent.ldA); exact rfl; exact rfl) | ((with_reducible apply Ent.rdA); exact rfl; exact rfl) | ((with_reducible apply Ent.kpA); exact rfl; exact rfl) | ((with_reducible apply Ent.lenA)) | ((with_reducible apply Ent.draw)) | ((with_reducible apply Ent.boxA); exact rfl; intro _) | ((with_reducible apply Ent.alA); intro _) | ((with_reducible apply Ent.stA); exact rfl; exact rfl) | ((with_reducible apply Ent.asP); exact rfl) | ((with_reducible apply Ent.exA); exact rfl) | ((with_reducible apply Ent.eqA); exact rfl; exact rfl) | ((with_reducible apply Ent.neA); exact rfl; exact rfl) | ((with_reducible apply Ent.seA); exact rfl) | ((with_reducible apply Ent.ixN); (first | (exact hx; exact rfl) | (exact hp; exact hpi) | (exact hx2; exact hxi2)); intro hrd)))
  refine Ent.mkA (E := enc_103) (n := l.length + 1) (wrap_succ' hmax (by omega)) (mul_le_of (by decide) (by omega)) (by have : maxLen = 9223372036854775807 := rfl; omega) fun s hs hc => ?_
  refine Ent.loopA (γ := Nat) (fun i => ab (@SlA Try.prog Edge enc_103) s.val (l.take i ++ List.replicate (l.length + 1 - i) (Enc.z Try.prog)) :: Γ) (fun i s => s = (i : Int) ∧ i ≤ l.length) (fun i => l.length - i) 0 ⟨rfl, Nat.zero_le _⟩ (by (repeat (first | exact Subs.tail | exact Subs.nil | refine Subs.cons inferInstance ?_))) ?_
  rintro i s2 kc ⟨hs2, hi⟩ hkc
  subst hs2
  (repeat (first | ((with_reducible apply Ent.ldA); exact rfl; exact rfl) | ((with_reducible apply Ent.rdA); exact rfl; exact rfl) | ((with_reducible apply Ent.kpA); exact rfl; exact rfl) | ((with_reducible apply Ent.lenA)) | ((with_reducible apply Ent.draw)) | ((with_reducible apply Ent.boxA); exact rfl; intro _) | ((with_reducible apply Ent.alA); intro _) | ((with_reducible apply Ent.stA); exact rfl; exact rfl) | ((with_reducible apply Ent.asP); exact rfl) | ((with_reducible apply Ent.exA); exact rfl) | ((with_reducible apply Ent.eqA); exact rfl; exact rfl) | ((with_reducible apply Ent.neA); exact rfl; exact rfl) | ((with_reducible apply Ent.seA); exact rfl) | ((with_reducible apply Ent.ixN); (first | (exact hx; exact rfl) | (exact hp; exact hpi) | (exact hx2; exact hxi2)); intro hrd)))
  refine Ent.ite (fun hc => ?_) (fun hc => ?_)
  · have hlt : i < l.length := by simpa using hc
    have hx : l[i]? = some l[i] := List.getElem?_eq_getElem hlt
    have hdr : l.drop i = l[i] :: l.drop (i + 1) := List.drop_eq_getElem_cons hlt
    generalize l[i] = q at hx hdr
    (repeat (first | ((with_reducible apply Ent.ldA); exact rfl; exact rfl) | ((with_reducible apply Ent.rdA); exact rfl; exact rfl) | ((with_reducible apply Ent.kpA); exact rfl; exact rfl) | ((with_reducible apply Ent.lenA)) | ((with_reducible apply Ent.draw)) | ((with_reducible apply Ent.boxA); exact rfl; intro _) | ((with_reducible apply Ent.alA); intro _) | ((with_reducible apply Ent.stA); exact rfl; exact rfl) | ((with_reducible apply Ent.asP); exact rfl) | ((with_reducible apply Ent.exA); exact rfl) | ((with_reducible apply Ent.eqA); exact rfl; exact rfl) | ((with_reducible apply Ent.neA); exact rfl; exact rfl) | ((with_reducible apply Ent.seA); exact rfl) | ((with_reducible apply Ent.ixN); (first | (exact hx; exact rfl) | (exact hp; exact hpi) | (exact hx2; exact hxi2)); intro hrd)))
    refine Ent.ixA (E := enc_103) (by omega) (by simp; omega) fun _ _ _ => ?_
    rw [Int.toNat_natCast]
    apply Ent.stE (E := enc_103) (x := q) rfl (by simp; omega) rfl
    rw [twin_set hx]
    exact hkc (i + 1) _ ⟨wrap_succ hlt hmax, hlt⟩ (by omega) _ (by (repeat (first | exact Subs.tail | exact Subs.nil | refine Subs.cons inferInstance ?_)))
  · have hge : i = l.length := by simp at hc; omega
    subst hge
    (repeat (first | ((with_reducible apply Ent.ldA); exact rfl; exact rfl) | ((with_reducible apply Ent.rdA); exact rfl; exact rfl) | ((with_reducible apply Ent.kpA); exact rfl; exact rfl) | ((with_reducible apply Ent.lenA)) | ((with_reducible apply Ent.draw)) | ((with_reducible apply Ent.boxA); exact rfl; intro _) | ((with_reducible apply Ent.alA); intro _) | ((with_reducible apply Ent.stA); exact rfl; exact rfl) | ((with_reducible apply Ent.asP); exact rfl) | ((with_reducible apply Ent.exA); exact rfl) | ((with_reducible apply Ent.eqA); exact rfl; exact rfl) | ((with_reducible apply Ent.neA); exact rfl; exact rfl) | ((with_reducible apply Ent.seA); exact rfl) | ((with_reducible apply Ent.ixN); (first | (exact hx; exact rfl) | (exact hp; exact hpi) | (exact hx2; exact hxi2)); intro hrd)))
    refine markEdge_spec ?_
    refine Ent.ixA (E := enc_103) (by omega) (by simp; omega) fun _ _ _ => ?_
    rw [Int.toNat_natCast]
    apply Ent.stE (E := enc_103) (x := markEdge 7777) rfl (by simp) rfl
    rw [twin_end]
    (repeat (first | ((with_reducible apply Ent.ldA); exact rfl; exact rfl) | ((with_reducible apply Ent.rdA); exact rfl; exact rfl) | ((with_reducible apply Ent.kpA); exact rfl; exact rfl) | ((with_reducible apply Ent.lenA)) | ((with_reducible apply Ent.draw)) | ((with_reducible apply Ent.boxA); exact rfl; intro _) | ((with_reducible apply Ent.alA); intro _) | ((with_reducible apply Ent.stA); exact rfl; exact rfl) | ((with_reducible apply Ent.asP); exact rfl) | ((with_reducible apply Ent.exA); exact rfl) | ((with_reducible apply Ent.eqA); exact rfl; exact rfl) | ((with_reducible apply Ent.neA); exact rfl; exact rfl) | ((with_reducible apply Ent.seA); exact rfl) | ((with_reducible apply Ent.ixN); (first | (exact hx; exact rfl) | (exact hp; exact hpi) | (exact hx2; exact hxi2)); intro hrd)))
    refine Ent.hiA (E := enc_103) (b := s.b) (n := s.n) (c := s.c) (m := l.length) rfl rfl (by omega) ?_
    have h1 := h ⟨s.b, l.length, s.c⟩ rfl
    have e1 : SV.full ⟨s.b, l.length, s.c⟩ = s.val := by unfold SV.full; rw [← hs]
    rw [e1] at h1
    exact h1
theorem leftEdges_spec {Γ Δ : List Asn} {s : SV} {v : Value} {l l' : List Edge} {m : Edge} {K : Bool → WP} [OwnIn Try.prog s.full Γ Edge enc_103 (l' ++ [m]) Δ] [Sl Try.prog Γ v Edge enc_103 l] (hsm : l.length ≤ 1048576) (h : Ent Γ (K (decide (l' = l) && decide (m = markEdge 7777)))) : Ent Γ (callT Try.prog inB 77 #[s.val, v] K) := by
  refine Ent.call ?_
  refine Ent.byS (A := S.law01_LeftEdges _ _ _) S.law01_LeftEdges_ok ?_
  unfold S.law01_LeftEdges
  simp only [toT_V, toT_I, toT_B, toT_A, toT_rV, toT_rI, toT_rB, toT_pV, toT_pI, toT_pB, toT_pA, toT_cI, toT_cB]
  refine Ent.joinB (decide (l' = l) && decide (m = markEdge 7777)) (fun k hk => ?_) ?_
  · refine sameEdges_spec (l1 := l') (l2 := l) ?_
    refine Ent.and (decide (m = markEdge 7777)) (fun hc k2 hk2 => ?_) (hk _ rfl)
    have heq : l' = l := by simpa using hc
    subst heq
    refine Ent.maxA (P := Try.prog) v fun hmax => ?_
    refine Ent.svA (P := Try.prog) (E := enc_103) (v := s.full) fun s2 hs2 hn2 hc2 _ _ => ?_
    have e1 : s2 = ⟨s.b, s.n + 1, s.c⟩ := by
      cases s2
      simp only [SV.full, SV.val, Value.slice.injEq] at hs2
      simp [hs2.1, hs2.2.1, hs2.2.2]
    subst e1
    simp only [List.length_append, List.length_cons, List.length_nil] at hn2 hc2
    (repeat (first | ((with_reducible apply Ent.ldA); exact rfl; exact rfl) | ((with_reducible apply Ent.rdA); exact rfl; exact rfl) | ((with_reducible apply Ent.kpA); exact rfl; exact rfl) | ((with_reducible apply Ent.lenA)) | ((with_reducible apply Ent.draw)) | ((with_reducible apply Ent.boxA); exact rfl; intro _) | ((with_reducible apply Ent.alA); intro _) | ((with_reducible apply Ent.stA); exact rfl; exact rfl) | ((with_reducible apply Ent.asP); exact rfl) | ((with_reducible apply Ent.exA); exact rfl) | ((with_reducible apply Ent.eqA); exact rfl; exact rfl) | ((with_reducible apply Ent.neA); exact rfl; exact rfl) | ((with_reducible apply Ent.seA); exact rfl) | ((with_reducible apply Ent.ixN); (first | (exact hx; exact rfl) | (exact hp; exact hpi) | (exact hx2; exact hxi2)); intro hrd)))
    refine Ent.hiA (E := enc_103) (b := s.b) (n := s.n) (c := s.c) (m := l'.length + 1) rfl (wrap_succ' hmax (by omega)) (by omega) ?_
    have e2 : Value.slice s.b (l'.length + 1) s.c = s.full := by unfold SV.full; congr 1; omega
    rw [e2]
    (repeat (first | ((with_reducible apply Ent.ldA); exact rfl; exact rfl) | ((with_reducible apply Ent.rdA); exact rfl; exact rfl) | ((with_reducible apply Ent.kpA); exact rfl; exact rfl) | ((with_reducible apply Ent.lenA)) | ((with_reducible apply Ent.draw)) | ((with_reducible apply Ent.boxA); exact rfl; intro _) | ((with_reducible apply Ent.alA); intro _) | ((with_reducible apply Ent.stA); exact rfl; exact rfl) | ((with_reducible apply Ent.asP); exact rfl) | ((with_reducible apply Ent.exA); exact rfl) | ((with_reducible apply Ent.eqA); exact rfl; exact rfl) | ((with_reducible apply Ent.neA); exact rfl; exact rfl) | ((with_reducible apply Ent.seA); exact rfl) | ((with_reducible apply Ent.ixN); (first | (exact hx; exact rfl) | (exact hp; exact hpi) | (exact hx2; exact hxi2)); intro hrd)))
    have hx : (l' ++ [m])[l'.length]? = some m := by simp
    (repeat (first | ((with_reducible apply Ent.ldA); exact rfl; exact rfl) | ((with_reducible apply Ent.rdA); exact rfl; exact rfl) | ((with_reducible apply Ent.kpA); exact rfl; exact rfl) | ((with_reducible apply Ent.lenA)) | ((with_reducible apply Ent.draw)) | ((with_reducible apply Ent.boxA); exact rfl; intro _) | ((with_reducible apply Ent.alA); intro _) | ((with_reducible apply Ent.stA); exact rfl; exact rfl) | ((with_reducible apply Ent.asP); exact rfl) | ((with_reducible apply Ent.exA); exact rfl) | ((with_reducible apply Ent.eqA); exact rfl; exact rfl) | ((with_reducible apply Ent.neA); exact rfl; exact rfl) | ((with_reducible apply Ent.seA); exact rfl) | ((with_reducible apply Ent.ixN); (first | (exact hx; exact rfl) | (exact hp; exact hpi) | (exact hx2; exact hxi2)); intro hrd)))
    refine isEdge_spec ?_
    exact hk2
  · exact h.retA rfl (by (repeat (first | exact Subs.tail | exact Subs.nil | refine Subs.cons inferInstance ?_)))
def markPair (n : Int) : Pair := ⟨IntKind.i64.wrap (-1000 - n), 0⟩
theorem markPair_spec {Γ : List Asn} {n : Int} {K : Value → WP} (h : Ent Γ (K (markPair n).val)) : Ent Γ (callH Try.prog 94 #[.int .i64 n] K) := by
  refine Ent.byS (A := S.law01_markPair _ _) S.law01_markPair_ok ?_
  unfold S.law01_markPair
  simp only [toT_V, toT_I, toT_B, toT_A, toT_rV, toT_rI, toT_rB, toT_pV, toT_pI, toT_pB, toT_pA, toT_cI, toT_cB]
  (repeat (first | ((with_reducible apply Ent.ldA); exact rfl; exact rfl) | ((with_reducible apply Ent.rdA); exact rfl; exact rfl) | ((with_reducible apply Ent.kpA); exact rfl; exact rfl) | ((with_reducible apply Ent.lenA)) | ((with_reducible apply Ent.draw)) | ((with_reducible apply Ent.boxA); exact rfl; intro _) | ((with_reducible apply Ent.alA); intro _) | ((with_reducible apply Ent.stA); exact rfl; exact rfl) | ((with_reducible apply Ent.asP); exact rfl) | ((with_reducible apply Ent.exA); exact rfl) | ((with_reducible apply Ent.eqA); exact rfl; exact rfl) | ((with_reducible apply Ent.neA); exact rfl; exact rfl) | ((with_reducible apply Ent.seA); exact rfl) | ((with_reducible apply Ent.ixN); (first | (exact hx; exact rfl) | (exact hp; exact hpi) | (exact hx2; exact hxi2)); intro hrd)))
  refine Ent.pure (x := (markPair n).val) (fun w => run_build w _ _ _ (by kernel_rfl)) ?_
  apply Ent.stA (y := markPair n) rfl rfl
  (repeat (first | ((with_reducible apply Ent.ldA); exact rfl; exact rfl) | ((with_reducible apply Ent.rdA); exact rfl; exact rfl) | ((with_reducible apply Ent.kpA); exact rfl; exact rfl) | ((with_reducible apply Ent.lenA)) | ((with_reducible apply Ent.draw)) | ((with_reducible apply Ent.boxA); exact rfl; intro _) | ((with_reducible apply Ent.alA); intro _) | ((with_reducible apply Ent.stA); exact rfl; exact rfl) | ((with_reducible apply Ent.asP); exact rfl) | ((with_reducible apply Ent.exA); exact rfl) | ((with_reducible apply Ent.eqA); exact rfl; exact rfl) | ((with_reducible apply Ent.neA); exact rfl; exact rfl) | ((with_reducible apply Ent.seA); exact rfl) | ((with_reducible apply Ent.ixN); (first | (exact hx; exact rfl) | (exact hp; exact hpi) | (exact hx2; exact hxi2)); intro hrd)))
  exact h.to (by (repeat (first | exact Subs.tail | exact Subs.nil | refine Subs.cons inferInstance ?_)))
theorem isPair_spec {Γ : List Asn} {a : Pair} {n : Int} {K : Bool → WP} (h : Ent Γ (K (decide (a = markPair n)))) : Ent Γ (callT Try.prog inB 103 #[a.val, .int .i64 n] K) := by
  refine Ent.call ?_
  refine Ent.byS (A := S.law01_isPair _ _ _) S.law01_isPair_ok ?_
  unfold S.law01_isPair
  simp only [toT_V, toT_I, toT_B, toT_A, toT_rV, toT_rI, toT_rB, toT_pV, toT_pI, toT_pB, toT_pA, toT_cI, toT_cB]
  (repeat (first | ((with_reducible apply Ent.ldA); exact rfl; exact rfl) | ((with_reducible apply Ent.rdA); exact rfl; exact rfl) | ((with_reducible apply Ent.kpA); exact rfl; exact rfl) | ((with_reducible apply Ent.lenA)) | ((with_reducible apply Ent.draw)) | ((with_reducible apply Ent.boxA); exact rfl; intro _) | ((with_reducible apply Ent.alA); intro _) | ((with_reducible apply Ent.stA); exact rfl; exact rfl) | ((with_reducible apply Ent.asP); exact rfl) | ((with_reducible apply Ent.exA); exact rfl) | ((with_reducible apply Ent.eqA); exact rfl; exact rfl) | ((with_reducible apply Ent.neA); exact rfl; exact rfl) | ((with_reducible apply Ent.seA); exact rfl) | ((with_reducible apply Ent.ixN); (first | (exact hx; exact rfl) | (exact hp; exact hpi) | (exact hx2; exact hxi2)); intro hrd)))
  refine Ent.pure (x := (markPair n).val) (fun w => run_build w _ _ _ (by kernel_rfl)) ?_
  apply Ent.eqA (a := a) (b := markPair n) rfl rfl
  exact h.retA rfl (by (repeat (first | exact Subs.tail | exact Subs.nil | refine Subs.cons inferInstance ?_)))
theorem samePairs_spec {Γ : List Asn} {v1 v2 : Value} {l1 l2 : List Pair} {K : Bool → WP} [Sl Try.prog Γ v1 Pair enc_105 l1] [Sl Try.prog Γ v2 Pair enc_105 l2] (h : Ent Γ (K (decide (l1 = l2)))) : Ent Γ (callT Try.prog inB 102 #[v1, v2] K) := by
  refine Ent.call ?_
  refine Ent.byS (A := S.law01_SamePairs _ _ _) S.law01_SamePairs_ok ?_
  unfold S.law01_SamePairs
  simp only [toT_V, toT_I, toT_B, toT_A, toT_rV, toT_rI, toT_rB, toT_pV, toT_pI, toT_pB, toT_pA, toT_cI, toT_cB]
  refine Ent.slhA (P := Try.prog) (v := v1) fun hv1 => ?_
  refine Ent.maxA (P := Try.prog) v1 fun hmax => ?_
  refine Ent.slhA (P := Try.prog) (v := v2) fun hv2 => ?_
  refine Ent.maxA (P := Try.prog) v2 fun hmax2 => ?_
  (repeat (first | ((with_reducible apply Ent.ldA); exact rfl; exact rfl) | ((with_reducible apply Ent.rdA); exact rfl; exact rfl) | ((with_reducible apply Ent.kpA); exact rfl; exact rfl) | ((with_reducible apply Ent.lenA)) | ((with_reducible apply Ent.draw)) | ((with_reducible apply Ent.boxA); exact rfl; intro _) | ((with_reducible apply Ent.alA); intro _) | ((with_reducible apply Ent.stA); exact rfl; exact rfl) | ((with_reducible apply Ent.asP); exact rfl) | ((with_reducible apply Ent.exA); exact rfl) | ((with_reducible apply Ent.eqA); exact rfl; exact rfl) | ((with_reducible apply Ent.neA); exact rfl; exact rfl) | ((with_reducible apply Ent.seA); exact rfl) | ((with_reducible apply Ent.ixN); (first | (exact hx; exact rfl) | (exact hp; exact hpi) | (exact hx2; exact hxi2)); intro hrd)))
  refine Ent.ite (fun hy => ?_) (fun hy => ?_)
  · have : ¬ l1 = l2 := by intro h0; subst h0; simp at hy
    rw [decide_eq_false this] at h
    exact h.retA rfl (by (repeat (first | exact Subs.tail | exact Subs.nil | refine Subs.cons inferInstance ?_)))
  have hlen : l1.length = l2.length := by simp at hy; omega
  refine Ent.loopA (γ := Nat) (fun _ => Γ) (fun i s => s.2 = (i : Int) ∧ i ≤ l1.length ∧ (l1 = l2 ↔ l1.drop i = l2.drop i)) (fun i => l1.length - i) 0 ⟨rfl, Nat.zero_le _, by simp⟩ (by (repeat (first | exact Subs.tail | exact Subs.nil | refine Subs.cons inferInstance ?_))) ?_
  rintro i ⟨s1, s2⟩ kc ⟨hs2, hi, hb⟩ hkc
  dsimp only at hs2 hi hb ⊢
  subst hs2
  (repeat (first | ((with_reducible apply Ent.ldA); exact rfl; exact rfl) | ((with_reducible apply Ent.rdA); exact rfl; exact rfl) | ((with_reducible apply Ent.kpA); exact rfl; exact rfl) | ((with_reducible apply Ent.lenA)) | ((with_reducible apply Ent.draw)) | ((with_reducible apply Ent.boxA); exact rfl; intro _) | ((with_reducible apply Ent.alA); intro _) | ((with_reducible apply Ent.stA); exact rfl; exact rfl) | ((with_reducible apply Ent.asP); exact rfl) | ((with_reducible apply Ent.exA); exact rfl) | ((with_reducible apply Ent.eqA); exact rfl; exact rfl) | ((with_reducible apply Ent.neA); exact rfl; exact rfl) | ((with_reducible apply Ent.seA); exact rfl) | ((with_reducible apply Ent.ixN); (first | (exact hx; exact rfl) | (exact hp; exact hpi) | (exact hx2; exact hxi2)); intro hrd)))
  refine Ent.ite (fun hc => ?_) (fun hc => ?_)
  · have hlt : i < l1.length := by simpa using hc
    have hx : l1[i]? = some l1[i] := List.getElem?_eq_getElem hlt
    have hdr : l1.drop i = l1[i] :: l1.drop (i + 1) := List.drop_eq_getElem_cons hlt
    generalize l1[i] = q at hx hdr
    have hp : l2[i]? = some l2[i] := List.getElem?_eq_getElem (by omega)
    have hpi : (i : Int) = i := rfl
    have hdp : l2.drop i = l2[i] :: l2.drop (i + 1) := List.drop_eq_getElem_cons (by omega)
    generalize l2[i] = p at hp hdp
    (repeat (first | ((with_reducible apply Ent.ldA); exact rfl; exact rfl) | ((with_reducible apply Ent.rdA); exact rfl; exact rfl) | ((with_reducible apply Ent.kpA); exact rfl; exact rfl) | ((with_reducible apply Ent.lenA)) | ((with_reducible apply Ent.draw)) | ((with_reducible apply Ent.boxA); exact rfl; intro _) | ((with_reducible apply Ent.alA); intro _) | ((with_reducible apply Ent.stA); exact rfl; exact rfl) | ((with_reducible apply Ent.asP); exact rfl) | ((with_reducible apply Ent.exA); exact rfl) | ((with_reducible apply Ent.eqA); exact rfl; exact rfl) | ((with_reducible apply Ent.neA); exact rfl; exact rfl) | ((with_reducible apply Ent.seA); exact rfl) | ((with_reducible apply Ent.ixN); (first | (exact hx; exact rfl) | (exact hp; exact hpi) | (exact hx2; exact hxi2)); intro hrd)))
    refine Ent.ite (fun hz => ?_) (fun hz => ?_)
    · have hne : q ≠ p := by simpa using hz
      have : ¬ l1 = l2 := by rw [hb, hdr, hdp]; intro h0; exact hne (List.cons.inj h0).1
      rw [decide_eq_false this] at h
      exact h.retA rfl (by (repeat (first | exact Subs.tail | exact Subs.nil | refine Subs.cons inferInstance ?_)))
    · have heq : q = p := by simpa using hz
      refine hkc (i + 1) _ ⟨wrap_succ hlt hmax, hlt, ?_⟩ (by omega) _ (by (repeat (first | exact Subs.tail | exact Subs.nil | refine Subs.cons inferInstance ?_)))
      rw [hb, hdr, hdp, heq]; simp
  · have hge : i = l1.length := by simp at hc; omega
    subst hge
    have : l1 = l2 := by rw [hb]; rw [List.drop_of_length_le (Nat.le_refl _), List.drop_of_length_le (by omega)]
    rw [decide_eq_true this] at h
    exact h.retA rfl (by (repeat (first | exact Subs.tail | exact Subs.nil | refine Subs.cons inferInstance ?_)))
theorem twinPairs_spec {Γ : List Asn} {v : Value} {l : List Pair} {K : Value → WP} [Sl Try.prog Γ v Pair enc_105 l] (hn : l.length ≤ 1048576 - 1)
    (h : ∀ s : SV, s.n = l.length → Ent (ab (@SlA Try.prog Pair enc_105) s.full (l ++ [markPair 7777]) :: Γ) (K s.val)) : Ent Γ (callH Try.prog 66 #[v] K) := by
  refine Ent.byS (A := S.law01_TwinPairs _ _) S.law01_TwinPairs_ok ?_
  unfold S.law01_TwinPairs
  simp only [toT_V, toT_I, toT_B, toT_A, toT_rV, toT_rI, toT_rB, toT_pV, toT_pI, toT_pB, toT_pA, toT_cI, toT_cB]
  refine Ent.slhA (P := Try.prog) (v := v) fun hv => ?_
  refine Ent.maxA (P := Try.prog) v fun hmax => ?_
  (repeat (first | ((with_reducible apply Ent.ldA); exact rfl; exact rfl) | ((with_reducible apply Ent.rdA); exact rfl; exact rfl) | ((with_reducible apply Ent.kpA); exact rfl; exact rfl) | ((with_reducible apply Ent.lenA)) | ((with_reducible apply Ent.draw)) | ((with_reducible apply Ent.boxA); exact rfl; intro _) | ((with_reducible apply Ent.alA); intro _) | ((with_reducible apply Ent.stA); exact rfl; exact rfl) | ((with_reducible apply Ent.asP); exact rfl) | ((with_reducible apply Ent.exA); exact rfl) | ((with_reducible apply Ent.eqA); exact rfl; exact rfl) | ((with_reducible apply Ent.neA); exact rfl; exact rfl) | ((with_reducible apply Ent.seA); exact rfl) | ((with_reducible apply Ent.ixN); (first | (exact hx; exact rfl) | (exact hp; exact hpi) | (exact hx2; exact hxi2)); intro hrd)))
  refine Ent.mkA (E := enc_105) (n := l.length + 1) (wrap_succ' hmax (by omega)) (mul_le_of (by decide) (by omega)) (by have : maxLen = 9223372036854775807 := rfl; omega) fun s hs hc => ?_
  refine Ent.loopA (γ := Nat) (fun i => ab (@SlA Try.prog Pair enc_105) s.val (l.take i ++ List.replicate (l.length + 1 - i) (Enc.z Try.prog)) :: Γ) (fun i s => s = (i : Int) ∧ i ≤ l.length) (fun i => l.length - i) 0 ⟨rfl, Nat.zero_le _⟩ (by (repeat (first | exact Subs.tail | exact Subs.nil | refine Subs.cons inferInstance ?_))) ?_
  rintro i s2 kc ⟨hs2, hi⟩ hkc
  subst hs2
  (repeat (first | ((with_reducible apply Ent.ldA); exact rfl; exact rfl) | ((with_reducible apply Ent.rdA); exact rfl; exact rfl) | ((with_reducible apply Ent.kpA); exact rfl; exact rfl) | ((with_reducible apply Ent.lenA)) | ((with_reducible apply Ent.draw)) | ((with_reducible apply Ent.boxA); exact rfl; intro _) | ((with_reducible apply Ent.alA); intro _) | ((with_reducible apply Ent.stA); exact rfl; exact rfl) | ((with_reducible apply Ent.asP); exact rfl) | ((with_reducible apply Ent.exA); exact rfl) | ((with_reducible apply Ent.eqA); exact rfl; exact rfl) | ((with_reducible apply Ent.neA); exact rfl; exact rfl) | ((with_reducible apply Ent.seA); exact rfl) | ((with_reducible apply Ent.ixN); (first | (exact hx; exact rfl) | (exact hp; exact hpi) | (exact hx2; exact hxi2)); intro hrd)))
  refine Ent.ite (fun hc => ?_) (fun hc => ?_)
  · have hlt : i < l.length := by simpa using hc
    have hx : l[i]? = some l[i] := List.getElem?_eq_getElem hlt
    have hdr : l.drop i = l[i] :: l.drop (i + 1) := List.drop_eq_getElem_cons hlt
    generalize l[i] = q at hx hdr
    (repeat (first | ((with_reducible apply Ent.ldA); exact rfl; exact rfl) | ((with_reducible apply Ent.rdA); exact rfl; exact rfl) | ((with_reducible apply Ent.kpA); exact rfl; exact rfl) | ((with_reducible apply Ent.lenA)) | ((with_reducible apply Ent.draw)) | ((with_reducible apply Ent.boxA); exact rfl; intro _) | ((with_reducible apply Ent.alA); intro _) | ((with_reducible apply Ent.stA); exact rfl; exact rfl) | ((with_reducible apply Ent.asP); exact rfl) | ((with_reducible apply Ent.exA); exact rfl) | ((with_reducible apply Ent.eqA); exact rfl; exact rfl) | ((with_reducible apply Ent.neA); exact rfl; exact rfl) | ((with_reducible apply Ent.seA); exact rfl) | ((with_reducible apply Ent.ixN); (first | (exact hx; exact rfl) | (exact hp; exact hpi) | (exact hx2; exact hxi2)); intro hrd)))
    refine Ent.ixA (E := enc_105) (by omega) (by simp; omega) fun _ _ _ => ?_
    rw [Int.toNat_natCast]
    apply Ent.stE (E := enc_105) (x := q) rfl (by simp; omega) rfl
    rw [twin_set hx]
    exact hkc (i + 1) _ ⟨wrap_succ hlt hmax, hlt⟩ (by omega) _ (by (repeat (first | exact Subs.tail | exact Subs.nil | refine Subs.cons inferInstance ?_)))
  · have hge : i = l.length := by simp at hc; omega
    subst hge
    (repeat (first | ((with_reducible apply Ent.ldA); exact rfl; exact rfl) | ((with_reducible apply Ent.rdA); exact rfl; exact rfl) | ((with_reducible apply Ent.kpA); exact rfl; exact rfl) | ((with_reducible apply Ent.lenA)) | ((with_reducible apply Ent.draw)) | ((with_reducible apply Ent.boxA); exact rfl; intro _) | ((with_reducible apply Ent.alA); intro _) | ((with_reducible apply Ent.stA); exact rfl; exact rfl) | ((with_reducible apply Ent.asP); exact rfl) | ((with_reducible apply Ent.exA); exact rfl) | ((with_reducible apply Ent.eqA); exact rfl; exact rfl) | ((with_reducible apply Ent.neA); exact rfl; exact rfl) | ((with_reducible apply Ent.seA); exact rfl) | ((with_reducible apply Ent.ixN); (first | (exact hx; exact rfl) | (exact hp; exact hpi) | (exact hx2; exact hxi2)); intro hrd)))
    refine markPair_spec ?_
    refine Ent.ixA (E := enc_105) (by omega) (by simp; omega) fun _ _ _ => ?_
    rw [Int.toNat_natCast]
    apply Ent.stE (E := enc_105) (x := markPair 7777) rfl (by simp) rfl
    rw [twin_end]
    (repeat (first | ((with_reducible apply Ent.ldA); exact rfl; exact rfl) | ((with_reducible apply Ent.rdA); exact rfl; exact rfl) | ((with_reducible apply Ent.kpA); exact rfl; exact rfl) | ((with_reducible apply Ent.lenA)) | ((with_reducible apply Ent.draw)) | ((with_reducible apply Ent.boxA); exact rfl; intro _) | ((with_reducible apply Ent.alA); intro _) | ((with_reducible apply Ent.stA); exact rfl; exact rfl) | ((with_reducible apply Ent.asP); exact rfl) | ((with_reducible apply Ent.exA); exact rfl) | ((with_reducible apply Ent.eqA); exact rfl; exact rfl) | ((with_reducible apply Ent.neA); exact rfl; exact rfl) | ((with_reducible apply Ent.seA); exact rfl) | ((with_reducible apply Ent.ixN); (first | (exact hx; exact rfl) | (exact hp; exact hpi) | (exact hx2; exact hxi2)); intro hrd)))
    refine Ent.hiA (E := enc_105) (b := s.b) (n := s.n) (c := s.c) (m := l.length) rfl rfl (by omega) ?_
    have h1 := h ⟨s.b, l.length, s.c⟩ rfl
    have e1 : SV.full ⟨s.b, l.length, s.c⟩ = s.val := by unfold SV.full; rw [← hs]
    rw [e1] at h1
    exact h1
theorem leftPairs_spec {Γ Δ : List Asn} {s : SV} {v : Value} {l l' : List Pair} {m : Pair} {K : Bool → WP} [OwnIn Try.prog s.full Γ Pair enc_105 (l' ++ [m]) Δ] [Sl Try.prog Γ v Pair enc_105 l] (hsm : l.length ≤ 1048576) (h : Ent Γ (K (decide (l' = l) && decide (m = markPair 7777)))) : Ent Γ (callT Try.prog inB 78 #[s.val, v] K) := by
  refine Ent.call ?_
  refine Ent.byS (A := S.law01_LeftPairs _ _ _) S.law01_LeftPairs_ok ?_
  unfold S.law01_LeftPairs
  simp only [toT_V, toT_I, toT_B, toT_A, toT_rV, toT_rI, toT_rB, toT_pV, toT_pI, toT_pB, toT_pA, toT_cI, toT_cB]
  refine Ent.joinB (decide (l' = l) && decide (m = markPair 7777)) (fun k hk => ?_) ?_
  · refine samePairs_spec (l1 := l') (l2 := l) ?_
    refine Ent.and (decide (m = markPair 7777)) (fun hc k2 hk2 => ?_) (hk _ rfl)
    have heq : l' = l := by simpa using hc
    subst heq
    refine Ent.maxA (P := Try.prog) v fun hmax => ?_
    refine Ent.svA (P := Try.prog) (E := enc_105) (v := s.full) fun s2 hs2 hn2 hc2 _ _ => ?_
    have e1 : s2 = ⟨s.b, s.n + 1, s.c⟩ := by
      cases s2
      simp only [SV.full, SV.val, Value.slice.injEq] at hs2
      simp [hs2.1, hs2.2.1, hs2.2.2]
    subst e1
    simp only [List.length_append, List.length_cons, List.length_nil] at hn2 hc2
    (repeat (first | ((with_reducible apply Ent.ldA); exact rfl; exact rfl) | ((with_reducible apply Ent.rdA); exact rfl; exact rfl) | ((with_reducible apply Ent.kpA); exact rfl; exact rfl) | ((with_reducible apply Ent.lenA)) | ((with_reducible apply Ent.draw)) | ((with_reducible apply Ent.boxA); exact rfl; intro _) | ((with_reducible apply Ent.alA); intro _) | ((with_reducible apply Ent.stA); exact rfl; exact rfl) | ((with_reducible apply Ent.asP); exact rfl) | ((with_reducible apply Ent.exA); exact rfl) | ((with_reducible apply Ent.eqA); exact rfl; exact rfl) | ((with_reducible apply Ent.neA); exact rfl; exact rfl) | ((with_reducible apply Ent.seA); exact rfl) | ((with_reducible apply Ent.ixN); (first | (exact hx; exact rfl) | (exact hp; exact hpi) | (exact hx2; exact hxi2)); intro hrd)))
    refine Ent.hiA (E := enc_105) (b := s.b) (n := s.n) (c := s.c) (m := l'.length + 1) rfl (wrap_succ' hmax (by omega)) (by omega) ?_
    have e2 : Value.slice s.b (l'.length + 1) s.c = s.full := by unfold SV.full; congr 1; omega
    rw [e2]
    (repeat (first | ((with_reducible apply Ent.ldA); exact rfl; exact rfl) | ((with_reducible apply Ent.rdA); exact rfl; exact rfl) | ((with_reducible apply Ent.kpA); exact rfl; exact rfl) | ((with_reducible apply Ent.lenA)) | ((with_reducible apply Ent.draw)) | ((with_reducible apply Ent.boxA); exact rfl; intro _) | ((with_reducible apply Ent.alA); intro _) | ((with_reducible apply Ent.stA); exact rfl; exact rfl) | ((with_reducible apply Ent.asP); exact rfl) | ((with_reducible apply Ent.exA); exact rfl) | ((with_reducible apply Ent.eqA); exact rfl; exact rfl) | ((with_reducible apply Ent.neA); exact rfl; exact rfl) | ((with_reducible apply Ent.seA); exact rfl) | ((with_reducible apply Ent.ixN); (first | (exact hx; exact rfl) | (exact hp; exact hpi) | (exact hx2; exact hxi2)); intro hrd)))
    have hx : (l' ++ [m])[l'.length]? = some m := by simp
    (repeat (first | ((with_reducible apply Ent.ldA); exact rfl; exact rfl) | ((with_reducible apply Ent.rdA); exact rfl; exact rfl) | ((with_reducible apply Ent.kpA); exact rfl; exact rfl) | ((with_reducible apply Ent.lenA)) | ((with_reducible apply Ent.draw)) | ((with_reducible apply Ent.boxA); exact rfl; intro _) | ((with_reducible apply Ent.alA); intro _) | ((with_reducible apply Ent.stA); exact rfl; exact rfl) | ((with_reducible apply Ent.asP); exact rfl) | ((with_reducible apply Ent.exA); exact rfl) | ((with_reducible apply Ent.eqA); exact rfl; exact rfl) | ((with_reducible apply Ent.neA); exact rfl; exact rfl) | ((with_reducible apply Ent.seA); exact rfl) | ((with_reducible apply Ent.ixN); (first | (exact hx; exact rfl) | (exact hp; exact hpi) | (exact hx2; exact hxi2)); intro hrd)))
    refine isPair_spec ?_
    exact hk2
  · exact h.retA rfl (by (repeat (first | exact Subs.tail | exact Subs.nil | refine Subs.cons inferInstance ?_)))
def markInt (n : Int) : Int := IntKind.i64.wrap (-1000 - n)
theorem markInt_spec {Γ : List Asn} {n : Int} {K : Int → WP} (h : Ent Γ (K (markInt n))) : Ent Γ (callT Try.prog (inI .i64) 95 #[.int .i64 n] K) := by
  refine Ent.call ?_
  refine Ent.byS (A := S.law01_markInt _ _) S.law01_markInt_ok ?_
  unfold S.law01_markInt
  simp only [toT_V, toT_I, toT_B, toT_A, toT_rV, toT_rI, toT_rB, toT_pV, toT_pI, toT_pB, toT_pA, toT_cI, toT_cB]
  exact h.retA rfl (by (repeat (first | exact Subs.tail | exact Subs.nil | refine Subs.cons inferInstance ?_)))
theorem isInt_spec {Γ : List Asn} {a n : Int} {K : Bool → WP} (h : Ent Γ (K (decide (a = markInt n)))) : Ent Γ (callT Try.prog inB 105 #[.int .i64 a, .int .i64 n] K) := by
  refine Ent.call ?_
  refine Ent.byS (A := S.law01_isInt _ _ _) S.law01_isInt_ok ?_
  unfold S.law01_isInt
  simp only [toT_V, toT_I, toT_B, toT_A, toT_rV, toT_rI, toT_rB, toT_pV, toT_pI, toT_pB, toT_pA, toT_cI, toT_cB]
  exact h.retA rfl (by (repeat (first | exact Subs.tail | exact Subs.nil | refine Subs.cons inferInstance ?_)))
theorem sameInts_spec {Γ : List Asn} {v1 v2 : Value} {l1 l2 : List Int} {K : Bool → WP} [Sl Try.prog Γ v1 Int enc_3 l1] [Sl Try.prog Γ v2 Int enc_3 l2] (h : Ent Γ (K (decide (l1 = l2)))) : Ent Γ (callT Try.prog inB 104 #[v1, v2] K) := by
  refine Ent.call ?_
  refine Ent.byS (A := S.law01_SameInts _ _ _) S.law01_SameInts_ok ?_
  unfold S.law01_SameInts
  simp only [toT_V, toT_I, toT_B, toT_A, toT_rV, toT_rI, toT_rB, toT_pV, toT_pI, toT_pB, toT_pA, toT_cI, toT_cB]
  refine Ent.slhA (P := Try.prog) (v := v1) fun hv1 => ?_
  refine Ent.maxA (P := Try.prog) v1 fun hmax => ?_
  refine Ent.slhA (P := Try.prog) (v := v2) fun hv2 => ?_
  refine Ent.maxA (P := Try.prog) v2 fun hmax2 => ?_
  (repeat (first | ((with_reducible apply Ent.ldA); exact rfl; exact rfl) | ((with_reducible apply Ent.rdA); exact rfl; exact rfl) | ((with_reducible apply Ent.kpA); exact rfl; exact rfl) | ((with_reducible apply Ent.lenA)) | ((with_reducible apply Ent.draw)) | ((with_reducible apply Ent.boxA); exact rfl; intro _) | ((with_reducible apply Ent.alA); intro _) | ((with_reducible apply Ent.stA); exact rfl; exact rfl) | ((with_reducible apply Ent.asP); exact rfl) | ((with_reducible apply Ent.exA); exact rfl) | ((with_reducible apply Ent.eqA); exact rfl; exact rfl) | ((with_reducible apply Ent.neA); exact rfl; exact rfl) | ((with_reducible apply Ent.seA); exact rfl) | ((with_reducible apply Ent.ixN); (first | (exact hx; exact rfl) | (exact hp; exact hpi) | (exact hx2; exact hxi2)); intro hrd)))
  refine Ent.ite (fun hy => ?_) (fun hy => ?_)
  · have : ¬ l1 = l2 := by intro h0; subst h0; simp at hy
    rw [decide_eq_false this] at h
    exact h.retA rfl (by (repeat (first | exact Subs.tail | exact Subs.nil | refine Subs.cons inferInstance ?_)))
  have hlen : l1.length = l2.length := by simp at hy; omega
  refine Ent.loopA (γ := Nat) (fun _ => Γ) (fun i s => s.2 = (i : Int) ∧ i ≤ l1.length ∧ (l1 = l2 ↔ l1.drop i = l2.drop i)) (fun i => l1.length - i) 0 ⟨rfl, Nat.zero_le _, by simp⟩ (by (repeat (first | exact Subs.tail | exact Subs.nil | refine Subs.cons inferInstance ?_))) ?_
  rintro i ⟨s1, s2⟩ kc ⟨hs2, hi, hb⟩ hkc
  dsimp only at hs2 hi hb ⊢
  subst hs2
  (repeat (first | ((with_reducible apply Ent.ldA); exact rfl; exact rfl) | ((with_reducible apply Ent.rdA); exact rfl; exact rfl) | ((with_reducible apply Ent.kpA); exact rfl; exact rfl) | ((with_reducible apply Ent.lenA)) | ((with_reducible apply Ent.draw)) | ((with_reducible apply Ent.boxA); exact rfl; intro _) | ((with_reducible apply Ent.alA); intro _) | ((with_reducible apply Ent.stA); exact rfl; exact rfl) | ((with_reducible apply Ent.asP); exact rfl) | ((with_reducible apply Ent.exA); exact rfl) | ((with_reducible apply Ent.eqA); exact rfl; exact rfl) | ((with_reducible apply Ent.neA); exact rfl; exact rfl) | ((with_reducible apply Ent.seA); exact rfl) | ((with_reducible apply Ent.ixN); (first | (exact hx; exact rfl) | (exact hp; exact hpi) | (exact hx2; exact hxi2)); intro hrd)))
  refine Ent.ite (fun hc => ?_) (fun hc => ?_)
  · have hlt : i < l1.length := by simpa using hc
    have hx : l1[i]? = some l1[i] := List.getElem?_eq_getElem hlt
    have hdr : l1.drop i = l1[i] :: l1.drop (i + 1) := List.drop_eq_getElem_cons hlt
    generalize l1[i] = q at hx hdr
    have hp : l2[i]? = some l2[i] := List.getElem?_eq_getElem (by omega)
    have hpi : (i : Int) = i := rfl
    have hdp : l2.drop i = l2[i] :: l2.drop (i + 1) := List.drop_eq_getElem_cons (by omega)
    generalize l2[i] = p at hp hdp
    (repeat (first | ((with_reducible apply Ent.ldA); exact rfl; exact rfl) | ((with_reducible apply Ent.rdA); exact rfl; exact rfl) | ((with_reducible apply Ent.kpA); exact rfl; exact rfl) | ((with_reducible apply Ent.lenA)) | ((with_reducible apply Ent.draw)) | ((with_reducible apply Ent.boxA); exact rfl; intro _) | ((with_reducible apply Ent.alA); intro _) | ((with_reducible apply Ent.stA); exact rfl; exact rfl) | ((with_reducible apply Ent.asP); exact rfl) | ((with_reducible apply Ent.exA); exact rfl) | ((with_reducible apply Ent.eqA); exact rfl; exact rfl) | ((with_reducible apply Ent.neA); exact rfl; exact rfl) | ((with_reducible apply Ent.seA); exact rfl) | ((with_reducible apply Ent.ixN); (first | (exact hx; exact rfl) | (exact hp; exact hpi) | (exact hx2; exact hxi2)); intro hrd)))
    refine Ent.ite (fun hz => ?_) (fun hz => ?_)
    · have hne : q ≠ p := by simpa using hz
      have : ¬ l1 = l2 := by rw [hb, hdr, hdp]; intro h0; exact hne (List.cons.inj h0).1
      rw [decide_eq_false this] at h
      exact h.retA rfl (by (repeat (first | exact Subs.tail | exact Subs.nil | refine Subs.cons inferInstance ?_)))
    · have heq : q = p := by simpa using hz
      refine hkc (i + 1) _ ⟨wrap_succ hlt hmax, hlt, ?_⟩ (by omega) _ (by (repeat (first | exact Subs.tail | exact Subs.nil | refine Subs.cons inferInstance ?_)))
      rw [hb, hdr, hdp, heq]; simp
  · have hge : i = l1.length := by simp at hc; omega
    subst hge
    have : l1 = l2 := by rw [hb]; rw [List.drop_of_length_le (Nat.le_refl _), List.drop_of_length_le (by omega)]
    rw [decide_eq_true this] at h
    exact h.retA rfl (by (repeat (first | exact Subs.tail | exact Subs.nil | refine Subs.cons inferInstance ?_)))
theorem twinInts_spec {Γ : List Asn} {v : Value} {l : List Int} {K : Value → WP} [Sl Try.prog Γ v Int enc_3 l] (hn : l.length ≤ 1048576 - 1)
    (h : ∀ s : SV, s.n = l.length → Ent (ab (@SlA Try.prog Int enc_3) s.full (l ++ [markInt 7777]) :: Γ) (K s.val)) : Ent Γ (callH Try.prog 67 #[v] K) := by
  refine Ent.byS (A := S.law01_TwinInts _ _) S.law01_TwinInts_ok ?_
  unfold S.law01_TwinInts
  simp only [toT_V, toT_I, toT_B, toT_A, toT_rV, toT_rI, toT_rB, toT_pV, toT_pI, toT_pB, toT_pA, toT_cI, toT_cB]
  refine Ent.slhA (P := Try.prog) (v := v) fun hv => ?_
  refine Ent.maxA (P := Try.prog) v fun hmax => ?_
  (repeat (first | ((with_reducible apply Ent.ldA); exact rfl; exact rfl) | ((with_reducible apply Ent.rdA); exact rfl; exact rfl) | ((with_reducible apply Ent.kpA); exact rfl; exact rfl) | ((with_reducible apply Ent.lenA)) | ((with_reducible apply Ent.draw)) | ((with_reducible apply Ent.boxA); exact rfl; intro _) | ((with_reducible apply Ent.alA); intro _) | ((with_reducible apply Ent.stA); exact rfl; exact rfl) | ((with_reducible apply Ent.asP); exact rfl) | ((with_reducible apply Ent.exA); exact rfl) | ((with_reducible apply Ent.eqA); exact rfl; exact rfl) | ((with_reducible apply Ent.neA); exact rfl; exact rfl) | ((with_reducible apply Ent.seA); exact rfl) | ((with_reducible apply Ent.ixN); (first | (exact hx; exact rfl) | (exact hp; exact hpi) | (exact hx2; exact hxi2)); intro hrd)))
  refine Ent.mkA (E := enc_3) (n := l.length + 1) (wrap_succ' hmax (by omega)) (mul_le_of (by decide) (by omega)) (by have : maxLen = 9223372036854775807 := rfl; omega) fun s hs hc => ?_
  refine Ent.loopA (γ := Nat) (fun i => ab (@SlA Try.prog Int enc_3) s.val (l.take i ++ List.replicate (l.length + 1 - i) (Enc.z Try.prog)) :: Γ) (fun i s => s = (i : Int) ∧ i ≤ l.length) (fun i => l.length - i) 0 ⟨rfl, Nat.zero_le _⟩ (by (repeat (first | exact Subs.tail | exact Subs.nil | refine Subs.cons inferInstance ?_))) ?_
  rintro i s2 kc ⟨hs2, hi⟩ hkc
  subst hs2
  (repeat (first | ((with_reducible apply Ent.ldA); exact rfl; exact rfl) | ((with_reducible apply Ent.rdA); exact rfl; exact rfl) | ((with_reducible apply Ent.kpA); exact rfl; exact rfl) | ((with_reducible apply Ent.lenA)) | ((with_reducible apply Ent.draw)) | ((with_reducible apply Ent.boxA); exact rfl; intro _) | ((with_reducible apply Ent.alA); intro _) | ((with_reducible apply Ent.stA); exact rfl; exact rfl) | ((with_reducible apply Ent.asP); exact rfl) | ((with_reducible apply Ent.exA); exact rfl) | ((with_reducible apply Ent.eqA); exact rfl; exact rfl) | ((with_reducible apply Ent.neA); exact rfl; exact rfl) | ((with_reducible apply Ent.seA); exact rfl) | ((with_reducible apply Ent.ixN); (first | (exact hx; exact rfl) | (exact hp; exact hpi) | (exact hx2; exact hxi2)); intro hrd)))
  refine Ent.ite (fun hc => ?_) (fun hc => ?_)
  · have hlt : i < l.length := by simpa using hc
    have hx : l[i]? = some l[i] := List.getElem?_eq_getElem hlt
    have hdr : l.drop i = l[i] :: l.drop (i + 1) := List.drop_eq_getElem_cons hlt
    generalize l[i] = q at hx hdr
    (repeat (first | ((with_reducible apply Ent.ldA); exact rfl; exact rfl) | ((with_reducible apply Ent.rdA); exact rfl; exact rfl) | ((with_reducible apply Ent.kpA); exact rfl; exact rfl) | ((with_reducible apply Ent.lenA)) | ((with_reducible apply Ent.draw)) | ((with_reducible apply Ent.boxA); exact rfl; intro _) | ((with_reducible apply Ent.alA); intro _) | ((with_reducible apply Ent.stA); exact rfl; exact rfl) | ((with_reducible apply Ent.asP); exact rfl) | ((with_reducible apply Ent.exA); exact rfl) | ((with_reducible apply Ent.eqA); exact rfl; exact rfl) | ((with_reducible apply Ent.neA); exact rfl; exact rfl) | ((with_reducible apply Ent.seA); exact rfl) | ((with_reducible apply Ent.ixN); (first | (exact hx; exact rfl) | (exact hp; exact hpi) | (exact hx2; exact hxi2)); intro hrd)))
    refine Ent.ixA (E := enc_3) (by omega) (by simp; omega) fun _ _ _ => ?_
    rw [Int.toNat_natCast]
    apply Ent.stE (E := enc_3) (x := q) rfl (by simp; omega) rfl
    rw [twin_set hx]
    exact hkc (i + 1) _ ⟨wrap_succ hlt hmax, hlt⟩ (by omega) _ (by (repeat (first | exact Subs.tail | exact Subs.nil | refine Subs.cons inferInstance ?_)))
  · have hge : i = l.length := by simp at hc; omega
    subst hge
    (repeat (first | ((with_reducible apply Ent.ldA); exact rfl; exact rfl) | ((with_reducible apply Ent.rdA); exact rfl; exact rfl) | ((with_reducible apply Ent.kpA); exact rfl; exact rfl) | ((with_reducible apply Ent.lenA)) | ((with_reducible apply Ent.draw)) | ((with_reducible apply Ent.boxA); exact rfl; intro _) | ((with_reducible apply Ent.alA); intro _) | ((with_reducible apply Ent.stA); exact rfl; exact rfl) | ((with_reducible apply Ent.asP); exact rfl) | ((with_reducible apply Ent.exA); exact rfl) | ((with_reducible apply Ent.eqA); exact rfl; exact rfl) | ((with_reducible apply Ent.neA); exact rfl; exact rfl) | ((with_reducible apply Ent.seA); exact rfl) | ((with_reducible apply Ent.ixN); (first | (exact hx; exact rfl) | (exact hp; exact hpi) | (exact hx2; exact hxi2)); intro hrd)))
    refine markInt_spec ?_
    refine Ent.ixA (E := enc_3) (by omega) (by simp; omega) fun _ _ _ => ?_
    rw [Int.toNat_natCast]
    apply Ent.stE (E := enc_3) (x := markInt 7777) rfl (by simp) rfl
    rw [twin_end]
    (repeat (first | ((with_reducible apply Ent.ldA); exact rfl; exact rfl) | ((with_reducible apply Ent.rdA); exact rfl; exact rfl) | ((with_reducible apply Ent.kpA); exact rfl; exact rfl) | ((with_reducible apply Ent.lenA)) | ((with_reducible apply Ent.draw)) | ((with_reducible apply Ent.boxA); exact rfl; intro _) | ((with_reducible apply Ent.alA); intro _) | ((with_reducible apply Ent.stA); exact rfl; exact rfl) | ((with_reducible apply Ent.asP); exact rfl) | ((with_reducible apply Ent.exA); exact rfl) | ((with_reducible apply Ent.eqA); exact rfl; exact rfl) | ((with_reducible apply Ent.neA); exact rfl; exact rfl) | ((with_reducible apply Ent.seA); exact rfl) | ((with_reducible apply Ent.ixN); (first | (exact hx; exact rfl) | (exact hp; exact hpi) | (exact hx2; exact hxi2)); intro hrd)))
    refine Ent.hiA (E := enc_3) (b := s.b) (n := s.n) (c := s.c) (m := l.length) rfl rfl (by omega) ?_
    have h1 := h ⟨s.b, l.length, s.c⟩ rfl
    have e1 : SV.full ⟨s.b, l.length, s.c⟩ = s.val := by unfold SV.full; rw [← hs]
    rw [e1] at h1
    exact h1
theorem leftInts_spec {Γ Δ : List Asn} {s : SV} {v : Value} {l l' : List Int} {m : Int} {K : Bool → WP} [OwnIn Try.prog s.full Γ Int enc_3 (l' ++ [m]) Δ] [Sl Try.prog Γ v Int enc_3 l] (hsm : l.length ≤ 1048576) (h : Ent Γ (K (decide (l' = l) && decide (m = markInt 7777)))) : Ent Γ (callT Try.prog inB 79 #[s.val, v] K) := by
  refine Ent.call ?_
  refine Ent.byS (A := S.law01_LeftInts _ _ _) S.law01_LeftInts_ok ?_
  unfold S.law01_LeftInts
  simp only [toT_V, toT_I, toT_B, toT_A, toT_rV, toT_rI, toT_rB, toT_pV, toT_pI, toT_pB, toT_pA, toT_cI, toT_cB]
  refine Ent.joinB (decide (l' = l) && decide (m = markInt 7777)) (fun k hk => ?_) ?_
  · refine sameInts_spec (l1 := l') (l2 := l) ?_
    refine Ent.and (decide (m = markInt 7777)) (fun hc k2 hk2 => ?_) (hk _ rfl)
    have heq : l' = l := by simpa using hc
    subst heq
    refine Ent.maxA (P := Try.prog) v fun hmax => ?_
    refine Ent.svA (P := Try.prog) (E := enc_3) (v := s.full) fun s2 hs2 hn2 hc2 _ _ => ?_
    have e1 : s2 = ⟨s.b, s.n + 1, s.c⟩ := by
      cases s2
      simp only [SV.full, SV.val, Value.slice.injEq] at hs2
      simp [hs2.1, hs2.2.1, hs2.2.2]
    subst e1
    simp only [List.length_append, List.length_cons, List.length_nil] at hn2 hc2
    (repeat (first | ((with_reducible apply Ent.ldA); exact rfl; exact rfl) | ((with_reducible apply Ent.rdA); exact rfl; exact rfl) | ((with_reducible apply Ent.kpA); exact rfl; exact rfl) | ((with_reducible apply Ent.lenA)) | ((with_reducible apply Ent.draw)) | ((with_reducible apply Ent.boxA); exact rfl; intro _) | ((with_reducible apply Ent.alA); intro _) | ((with_reducible apply Ent.stA); exact rfl; exact rfl) | ((with_reducible apply Ent.asP); exact rfl) | ((with_reducible apply Ent.exA); exact rfl) | ((with_reducible apply Ent.eqA); exact rfl; exact rfl) | ((with_reducible apply Ent.neA); exact rfl; exact rfl) | ((with_reducible apply Ent.seA); exact rfl) | ((with_reducible apply Ent.ixN); (first | (exact hx; exact rfl) | (exact hp; exact hpi) | (exact hx2; exact hxi2)); intro hrd)))
    refine Ent.hiA (E := enc_3) (b := s.b) (n := s.n) (c := s.c) (m := l'.length + 1) rfl (wrap_succ' hmax (by omega)) (by omega) ?_
    have e2 : Value.slice s.b (l'.length + 1) s.c = s.full := by unfold SV.full; congr 1; omega
    rw [e2]
    (repeat (first | ((with_reducible apply Ent.ldA); exact rfl; exact rfl) | ((with_reducible apply Ent.rdA); exact rfl; exact rfl) | ((with_reducible apply Ent.kpA); exact rfl; exact rfl) | ((with_reducible apply Ent.lenA)) | ((with_reducible apply Ent.draw)) | ((with_reducible apply Ent.boxA); exact rfl; intro _) | ((with_reducible apply Ent.alA); intro _) | ((with_reducible apply Ent.stA); exact rfl; exact rfl) | ((with_reducible apply Ent.asP); exact rfl) | ((with_reducible apply Ent.exA); exact rfl) | ((with_reducible apply Ent.eqA); exact rfl; exact rfl) | ((with_reducible apply Ent.neA); exact rfl; exact rfl) | ((with_reducible apply Ent.seA); exact rfl) | ((with_reducible apply Ent.ixN); (first | (exact hx; exact rfl) | (exact hp; exact hpi) | (exact hx2; exact hxi2)); intro hrd)))
    have hx : (l' ++ [m])[l'.length]? = some m := by simp
    (repeat (first | ((with_reducible apply Ent.ldA); exact rfl; exact rfl) | ((with_reducible apply Ent.rdA); exact rfl; exact rfl) | ((with_reducible apply Ent.kpA); exact rfl; exact rfl) | ((with_reducible apply Ent.lenA)) | ((with_reducible apply Ent.draw)) | ((with_reducible apply Ent.boxA); exact rfl; intro _) | ((with_reducible apply Ent.alA); intro _) | ((with_reducible apply Ent.stA); exact rfl; exact rfl) | ((with_reducible apply Ent.asP); exact rfl) | ((with_reducible apply Ent.exA); exact rfl) | ((with_reducible apply Ent.eqA); exact rfl; exact rfl) | ((with_reducible apply Ent.neA); exact rfl; exact rfl) | ((with_reducible apply Ent.seA); exact rfl) | ((with_reducible apply Ent.ixN); (first | (exact hx; exact rfl) | (exact hp; exact hpi) | (exact hx2; exact hxi2)); intro hrd)))
    refine isInt_spec ?_
    exact hk2
  · exact h.retA rfl (by (repeat (first | exact Subs.tail | exact Subs.nil | refine Subs.cons inferInstance ?_)))
end Go.Cab
