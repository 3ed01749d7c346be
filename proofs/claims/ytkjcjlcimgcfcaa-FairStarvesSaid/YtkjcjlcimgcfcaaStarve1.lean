/- Contracts: the document's certificate, its watch; ordered, follows. -/
import Derived.Test.YtkjcjlcimgcfcaaStarve00
import Derived.Test.YtkjcjlcimgcfcaaStarveS
namespace Go.Cab
set_option linter.unusedSimpArgs false
set_option linter.unusedVariables false
set_option linter.unusedSectionVars false
open Go Go.Proofs
variable [Milieu]
theorem wt_le {g : Graph} {es : List Edge} (hg : graphBad g es = false) (p : Pair) : 0 ≤ wt es p ∧ wt es p ≤ 1099513724929 := by
  by_cases h : wt es p = 0
  · omega
  · obtain ⟨e, he, _, _, h3⟩ := wt_mem h
    have := edge_range hg he
    omega
theorem sum_take {l : List Int} {i : Nat} {x : Int} (h : l[i]? = some x) : (l.take (i + 1)).sum = (l.take i).sum + x := by
  rw [List.take_add_one, h]; simp
theorem sum_take_le {l : List Int} {B : Int} (hB : 0 ≤ B) (h : ∀ x ∈ l, 0 ≤ x ∧ x ≤ B) : ∀ i : Nat, 0 ≤ (l.take i).sum ∧ (l.take i).sum ≤ i * B := by
  intro i
  induction i with
  | zero => simp
  | succ i ih =>
    have e : ((i + 1 : Nat) : Int) * B = i * B + B := by rw [Int.natCast_add, Int.add_mul]; simp
    cases hx : l[i]? with
    | none =>
      rw [List.take_add_one, hx, e]
      simp only [Option.toList_none, List.append_nil]
      omega
    | some x =>
      have := h x (List.mem_of_getElem? hx)
      rw [sum_take hx, e]; omega
theorem worth_spec {Γ : List Asn} {g : Graph} {es : List Edge} {ps : List Pair} {v : Value} {K : Int → WP} [Sl Try.prog Γ g.edges.val Edge enc_103 es] [Sl Try.prog Γ v Pair enc_105 ps] (hg : graphBad g es = false) (hp : pairsBad es ps = false)
    (h : Ent Γ (K (ps.map (wt es)).sum)) : Ent Γ (callT Try.prog (inI .i64) 81 #[g.val, v] K) := by
  refine Ent.call ?_
  refine Ent.byS (A := S.ref18_Worth _ _ _) S.ref18_Worth_ok ?_
  unfold S.ref18_Worth
  simp only [toT_V, toT_I, toT_B, toT_A, toT_rV, toT_rI, toT_rB, toT_pV, toT_pI, toT_pB, toT_pA, toT_cI, toT_cB]
  refine Ent.slhA (P := Try.prog) (v := g.edges.val) fun he => ?_
  refine Ent.maxA (P := Try.prog) g.edges.val fun hmaxe => ?_
  refine Ent.slhA (P := Try.prog) (v := v) fun hps => ?_
  refine Ent.maxA (P := Try.prog) v fun hmax => ?_
  (repeat (first | ((with_reducible apply Ent.ldA); exact rfl; exact rfl) | ((with_reducible apply Ent.rdA); exact rfl; exact rfl) | ((with_reducible apply Ent.kpA); exact rfl; exact rfl) | ((with_reducible apply Ent.lenA)) | ((with_reducible apply Ent.draw)) | ((with_reducible apply Ent.boxA); exact rfl; intro _) | ((with_reducible apply Ent.alA); intro _) | ((with_reducible apply Ent.stA); exact rfl; exact rfl) | ((with_reducible apply Ent.asP); exact rfl) | ((with_reducible apply Ent.exA); exact rfl) | ((with_reducible apply Ent.eqA); exact rfl; exact rfl) | ((with_reducible apply Ent.neA); exact rfl; exact rfl) | ((with_reducible apply Ent.seA); exact rfl) | ((with_reducible apply Ent.ixN); (first | (exact hx; exact rfl) | (exact hp; exact hpi) | (exact hx2; exact hxi2)); intro hrd)))
  rename_i b1
  have hfew := pairs_few hg hp
  have hb : ∀ i, 0 ≤ ((ps.map (wt es)).take i).sum ∧ ((ps.map (wt es)).take i).sum ≤ i * 1099513724929 := sum_take_le (by decide) fun x hx => by
    obtain ⟨p, _, rfl⟩ := List.mem_map.1 hx; exact wt_le hg p
  refine Ent.loopA (γ := Nat) (fun _ => var Try.prog b1 g :: Γ) (fun i s => s.1 = ((ps.map (wt es)).take i).sum ∧ s.2 = (i : Int) ∧ i ≤ ps.length) (fun i => ps.length - i) 0 ⟨by simp, rfl, Nat.zero_le _⟩ (by (repeat (first | exact Subs.tail | exact Subs.nil | refine Subs.cons inferInstance ?_))) ?_
  rintro i ⟨s1, s2⟩ kc ⟨hs1, hs2, hi⟩ hkc
  dsimp only at hs1 hs2 hi ⊢
  subst hs1; subst hs2
  (repeat (first | ((with_reducible apply Ent.ldA); exact rfl; exact rfl) | ((with_reducible apply Ent.rdA); exact rfl; exact rfl) | ((with_reducible apply Ent.kpA); exact rfl; exact rfl) | ((with_reducible apply Ent.lenA)) | ((with_reducible apply Ent.draw)) | ((with_reducible apply Ent.boxA); exact rfl; intro _) | ((with_reducible apply Ent.alA); intro _) | ((with_reducible apply Ent.stA); exact rfl; exact rfl) | ((with_reducible apply Ent.asP); exact rfl) | ((with_reducible apply Ent.exA); exact rfl) | ((with_reducible apply Ent.eqA); exact rfl; exact rfl) | ((with_reducible apply Ent.neA); exact rfl; exact rfl) | ((with_reducible apply Ent.seA); exact rfl) | ((with_reducible apply Ent.ixN); (first | (exact hx; exact rfl) | (exact hp; exact hpi) | (exact hx2; exact hxi2)); intro hrd)))
  refine Ent.ite (fun hc => ?_) (fun hc => ?_)
  · have hlt : i < ps.length := by simpa using hc
    have hx : ps[i]? = some ps[i] := List.getElem?_eq_getElem hlt
    have hdr : ps.drop i = ps[i] :: ps.drop (i + 1) := List.drop_eq_getElem_cons hlt
    generalize ps[i] = q at hx hdr
    (repeat (first | ((with_reducible apply Ent.ldA); exact rfl; exact rfl) | ((with_reducible apply Ent.rdA); exact rfl; exact rfl) | ((with_reducible apply Ent.kpA); exact rfl; exact rfl) | ((with_reducible apply Ent.lenA)) | ((with_reducible apply Ent.draw)) | ((with_reducible apply Ent.boxA); exact rfl; intro _) | ((with_reducible apply Ent.alA); intro _) | ((with_reducible apply Ent.stA); exact rfl; exact rfl) | ((with_reducible apply Ent.asP); exact rfl) | ((with_reducible apply Ent.exA); exact rfl) | ((with_reducible apply Ent.eqA); exact rfl; exact rfl) | ((with_reducible apply Ent.neA); exact rfl; exact rfl) | ((with_reducible apply Ent.seA); exact rfl) | ((with_reducible apply Ent.ixN); (first | (exact hx; exact rfl) | (exact hp; exact hpi) | (exact hx2; exact hxi2)); intro hrd)))
    refine weight_spec (es := es) ?_
    have h1 := hb i
    have h2 := wt_le hg ⟨q.r, q.c⟩
    refine hkc (i + 1) _ ⟨?_, wrap_succ hlt hmax, hlt⟩ (by omega) _ (by (repeat (first | exact Subs.tail | exact Subs.nil | refine Subs.cons inferInstance ?_)))
    dsimp only
    rw [sum_take (x := wt es q) (by simp [hx]), IntKind.wrap_i64]
    have : wt es (⟨q.r, q.c⟩ : Pair) = wt es q := rfl
    rw [this] at h2 ⊢
    have : (i : Int) ≤ 64 := by omega
    omega
  · have hge : i = ps.length := by simp at hc; omega
    subst hge
    have : (ps.map (wt es)).take ps.length = ps.map (wt es) := List.take_of_length_le (by simp)
    rw [this]
    exact h.retA rfl (by (repeat (first | exact Subs.tail | exact Subs.nil | refine Subs.cons inferInstance ?_)))
def Fin64 (l : List Int) : Prop := ∀ y ∈ l, -9223372036854775808 ≤ y ∧ y ≤ 9223372036854775807
theorem sum18_spec {Γ : List Asn} {v1 v2 : Value} {ys zs : List Int} {K : Value → WP} [Sl Try.prog Γ v1 Int enc_3 ys] [Sl Try.prog Γ v2 Int enc_3 zs] (hy : ∀ y ∈ ys, 0 ≤ y) (hz : ∀ z ∈ zs, 0 ≤ z)
    (h : ∀ n ok, (ok = true → n = ys.sum + zs.sum) → Ent Γ (K (.tuple #[.int .i64 n, .bool ok]))) : Ent Γ (callH Try.prog 107 #[v1, v2] K) := by
  refine Ent.byS (A := S.ref18_Sum _ _ _) S.ref18_Sum_ok ?_
  unfold S.ref18_Sum
  simp only [toT_V, toT_I, toT_B, toT_A, toT_rV, toT_rI, toT_rB, toT_pV, toT_pI, toT_pB, toT_pA, toT_cI, toT_cB]
  refine Ent.slhA (P := Try.prog) (v := v1) fun hv1 => ?_
  refine Ent.maxA (P := Try.prog) v1 fun hmax => ?_
  refine Ent.slhA (P := Try.prog) (v := v2) fun hv2 => ?_
  refine Ent.maxA (P := Try.prog) v2 fun hmax2 => ?_
  refine Ent.loopA (γ := Nat) (fun _ => Γ) (fun i s => s.2.2.1 = (ys.take i).sum ∧ 0 ≤ s.2.2.1 ∧ s.2.2.1 ≤ 4611686018427387903 ∧ s.2.2.2 = (i : Int) ∧ i ≤ ys.length) (fun i => ys.length - i) 0 ⟨by simp, by decide, by decide, rfl, Nat.zero_le _⟩ (by (repeat (first | exact Subs.tail | exact Subs.nil | refine Subs.cons inferInstance ?_))) ?_
  rintro i ⟨s1, s2, s3, s4⟩ kc ⟨hs3, h0, h1, hs4, hi⟩ hkc
  dsimp only at hs3 h0 h1 hs4 hi ⊢
  subst hs4
  (repeat (first | ((with_reducible apply Ent.ldA); exact rfl; exact rfl) | ((with_reducible apply Ent.rdA); exact rfl; exact rfl) | ((with_reducible apply Ent.kpA); exact rfl; exact rfl) | ((with_reducible apply Ent.lenA)) | ((with_reducible apply Ent.draw)) | ((with_reducible apply Ent.boxA); exact rfl; intro _) | ((with_reducible apply Ent.alA); intro _) | ((with_reducible apply Ent.stA); exact rfl; exact rfl) | ((with_reducible apply Ent.asP); exact rfl) | ((with_reducible apply Ent.exA); exact rfl) | ((with_reducible apply Ent.eqA); exact rfl; exact rfl) | ((with_reducible apply Ent.neA); exact rfl; exact rfl) | ((with_reducible apply Ent.seA); exact rfl) | ((with_reducible apply Ent.ixN); (first | (exact hx; exact rfl) | (exact hp; exact hpi) | (exact hx2; exact hxi2)); intro hrd)))
  refine Ent.ite (fun hc => ?_) (fun hc => ?_)
  · have hlt : i < ys.length := by simpa using hc
    have hx : ys[i]? = some ys[i] := List.getElem?_eq_getElem hlt
    have hdr : ys.drop i = ys[i] :: ys.drop (i + 1) := List.drop_eq_getElem_cons hlt
    generalize ys[i] = q at hx hdr
    (repeat (first | ((with_reducible apply Ent.ldA); exact rfl; exact rfl) | ((with_reducible apply Ent.rdA); exact rfl; exact rfl) | ((with_reducible apply Ent.kpA); exact rfl; exact rfl) | ((with_reducible apply Ent.lenA)) | ((with_reducible apply Ent.draw)) | ((with_reducible apply Ent.boxA); exact rfl; intro _) | ((with_reducible apply Ent.alA); intro _) | ((with_reducible apply Ent.stA); exact rfl; exact rfl) | ((with_reducible apply Ent.asP); exact rfl) | ((with_reducible apply Ent.exA); exact rfl) | ((with_reducible apply Ent.eqA); exact rfl; exact rfl) | ((with_reducible apply Ent.neA); exact rfl; exact rfl) | ((with_reducible apply Ent.seA); exact rfl) | ((with_reducible apply Ent.ixN); (first | (exact hx; exact rfl) | (exact hp; exact hpi) | (exact hx2; exact hxi2)); intro hrd)))
    have hq := hy q (List.mem_of_getElem? hx)
    have hw : IntKind.i64.wrap (4611686018427387903 - s3) = 4611686018427387903 - s3 := by rw [IntKind.wrap_i64]; omega
    rw [hw]
    refine Ent.ite (fun hc2 => ?_) (fun hc2 => ?_)
    · exact (h 0 false (by simp)).to (by (repeat (first | exact Subs.tail | exact Subs.nil | refine Subs.cons inferInstance ?_)))
    · simp at hc2
      (repeat (first | ((with_reducible apply Ent.ldA); exact rfl; exact rfl) | ((with_reducible apply Ent.rdA); exact rfl; exact rfl) | ((with_reducible apply Ent.kpA); exact rfl; exact rfl) | ((with_reducible apply Ent.lenA)) | ((with_reducible apply Ent.draw)) | ((with_reducible apply Ent.boxA); exact rfl; intro _) | ((with_reducible apply Ent.alA); intro _) | ((with_reducible apply Ent.stA); exact rfl; exact rfl) | ((with_reducible apply Ent.asP); exact rfl) | ((with_reducible apply Ent.exA); exact rfl) | ((with_reducible apply Ent.eqA); exact rfl; exact rfl) | ((with_reducible apply Ent.neA); exact rfl; exact rfl) | ((with_reducible apply Ent.seA); exact rfl) | ((with_reducible apply Ent.ixN); (first | (exact hx; exact rfl) | (exact hp; exact hpi) | (exact hx2; exact hxi2)); intro hrd)))
      have hw2 : IntKind.i64.wrap (s3 + q) = s3 + q := by rw [IntKind.wrap_i64]; omega
      rw [hw2]
      exact hkc (i + 1) _ ⟨by dsimp only; rw [sum_take hx, hs3], by dsimp only; omega, by dsimp only; omega, wrap_succ hlt hmax, hlt⟩ (by omega) _ (by (repeat (first | exact Subs.tail | exact Subs.nil | refine Subs.cons inferInstance ?_)))
  · have hge : i = ys.length := by simp at hc; omega
    subst hge
    rw [List.take_length] at hs3
    refine Ent.loopA (γ := Nat) (fun _ => Γ) (fun i s => s.2.2.1 = ys.sum + (zs.take i).sum ∧ 0 ≤ s.2.2.1 ∧ s.2.2.1 ≤ 4611686018427387903 ∧ s.2.2.2 = (i : Int) ∧ i ≤ zs.length) (fun i => zs.length - i) 0 ⟨by simp [hs3], h0, h1, rfl, Nat.zero_le _⟩ (by (repeat (first | exact Subs.tail | exact Subs.nil | refine Subs.cons inferInstance ?_))) ?_
    rintro i ⟨s1, s2, s3, s4⟩ kc ⟨hs3, h0, h1, hs4, hi⟩ hkc
    dsimp only at hs3 h0 h1 hs4 hi ⊢
    subst hs4
    (repeat (first | ((with_reducible apply Ent.ldA); exact rfl; exact rfl) | ((with_reducible apply Ent.rdA); exact rfl; exact rfl) | ((with_reducible apply Ent.kpA); exact rfl; exact rfl) | ((with_reducible apply Ent.lenA)) | ((with_reducible apply Ent.draw)) | ((with_reducible apply Ent.boxA); exact rfl; intro _) | ((with_reducible apply Ent.alA); intro _) | ((with_reducible apply Ent.stA); exact rfl; exact rfl) | ((with_reducible apply Ent.asP); exact rfl) | ((with_reducible apply Ent.exA); exact rfl) | ((with_reducible apply Ent.eqA); exact rfl; exact rfl) | ((with_reducible apply Ent.neA); exact rfl; exact rfl) | ((with_reducible apply Ent.seA); exact rfl) | ((with_reducible apply Ent.ixN); (first | (exact hx; exact rfl) | (exact hp; exact hpi) | (exact hx2; exact hxi2)); intro hrd)))
    refine Ent.ite (fun hc => ?_) (fun hc => ?_)
    · have hlt : i < zs.length := by simpa using hc
      have hx : zs[i]? = some zs[i] := List.getElem?_eq_getElem hlt
      have hdr : zs.drop i = zs[i] :: zs.drop (i + 1) := List.drop_eq_getElem_cons hlt
      generalize zs[i] = q at hx hdr
      (repeat (first | ((with_reducible apply Ent.ldA); exact rfl; exact rfl) | ((with_reducible apply Ent.rdA); exact rfl; exact rfl) | ((with_reducible apply Ent.kpA); exact rfl; exact rfl) | ((with_reducible apply Ent.lenA)) | ((with_reducible apply Ent.draw)) | ((with_reducible apply Ent.boxA); exact rfl; intro _) | ((with_reducible apply Ent.alA); intro _) | ((with_reducible apply Ent.stA); exact rfl; exact rfl) | ((with_reducible apply Ent.asP); exact rfl) | ((with_reducible apply Ent.exA); exact rfl) | ((with_reducible apply Ent.eqA); exact rfl; exact rfl) | ((with_reducible apply Ent.neA); exact rfl; exact rfl) | ((with_reducible apply Ent.seA); exact rfl) | ((with_reducible apply Ent.ixN); (first | (exact hx; exact rfl) | (exact hp; exact hpi) | (exact hx2; exact hxi2)); intro hrd)))
      have hq := hz q (List.mem_of_getElem? hx)
      have hw : IntKind.i64.wrap (4611686018427387903 - s3) = 4611686018427387903 - s3 := by rw [IntKind.wrap_i64]; omega
      rw [hw]
      refine Ent.ite (fun hc2 => ?_) (fun hc2 => ?_)
      · exact (h 0 false (by simp)).to (by (repeat (first | exact Subs.tail | exact Subs.nil | refine Subs.cons inferInstance ?_)))
      · simp at hc2
        (repeat (first | ((with_reducible apply Ent.ldA); exact rfl; exact rfl) | ((with_reducible apply Ent.rdA); exact rfl; exact rfl) | ((with_reducible apply Ent.kpA); exact rfl; exact rfl) | ((with_reducible apply Ent.lenA)) | ((with_reducible apply Ent.draw)) | ((with_reducible apply Ent.boxA); exact rfl; intro _) | ((with_reducible apply Ent.alA); intro _) | ((with_reducible apply Ent.stA); exact rfl; exact rfl) | ((with_reducible apply Ent.asP); exact rfl) | ((with_reducible apply Ent.exA); exact rfl) | ((with_reducible apply Ent.eqA); exact rfl; exact rfl) | ((with_reducible apply Ent.neA); exact rfl; exact rfl) | ((with_reducible apply Ent.seA); exact rfl) | ((with_reducible apply Ent.ixN); (first | (exact hx; exact rfl) | (exact hp; exact hpi) | (exact hx2; exact hxi2)); intro hrd)))
        have hw2 : IntKind.i64.wrap (s3 + q) = s3 + q := by rw [IntKind.wrap_i64]; omega
        rw [hw2]
        exact hkc (i + 1) _ ⟨by dsimp only; rw [sum_take hx, hs3]; omega, by dsimp only; omega, by dsimp only; omega, wrap_succ hlt hmax2, hlt⟩ (by omega) _ (by (repeat (first | exact Subs.tail | exact Subs.nil | refine Subs.cons inferInstance ?_)))
    · have hge : i = zs.length := by simp at hc; omega
      subst hge
      rw [List.take_length] at hs3
      exact (h s3 true (fun _ => hs3)).to (by (repeat (first | exact Subs.tail | exact Subs.nil | refine Subs.cons inferInstance ?_)))
theorem at0_of {l : List Int} {i : Nat} {x : Int} (h : l[i]? = some x) : at0 l i = x := by simp [at0, h]
theorem hold_spec {Γ : List Asn} {g : Graph} {es : List Edge} {v1 v2 : Value} {ys zs : List Int} {K : Bool → WP} [Sl Try.prog Γ g.edges.val Edge enc_103 es] [Sl Try.prog Γ v1 Int enc_3 ys] [Sl Try.prog Γ v2 Int enc_3 zs] (hg : graphBad g es = false) (hly : (ys.length : Int) = g.rows) (hlz : (zs.length : Int) = g.cols) (hf : Fin64 ys)
    (h : ∀ b, (b = true → (∀ y ∈ ys, 0 ≤ y) ∧ (∀ z ∈ zs, 0 ≤ z) ∧ ∀ e ∈ es, e.w ≤ at0 ys e.r.toNat + at0 zs e.c.toNat) → Ent Γ (K b)) : Ent Γ (callT Try.prog inB 106 #[g.val, v1, v2] K) := by
  refine Ent.call ?_
  refine Ent.byS (A := S.ref18_Hold _ _ _ _) S.ref18_Hold_ok ?_
  unfold S.ref18_Hold
  simp only [toT_V, toT_I, toT_B, toT_A, toT_rV, toT_rI, toT_rB, toT_pV, toT_pI, toT_pB, toT_pA, toT_cI, toT_cB]
  refine Ent.slhA (P := Try.prog) (v := g.edges.val) fun he => ?_
  refine Ent.maxA (P := Try.prog) g.edges.val fun hmaxe => ?_
  refine Ent.slhA (P := Try.prog) (v := v1) fun hv1 => ?_
  refine Ent.maxA (P := Try.prog) v1 fun hmax => ?_
  refine Ent.slhA (P := Try.prog) (v := v2) fun hv2 => ?_
  refine Ent.maxA (P := Try.prog) v2 fun hmax2 => ?_
  (repeat (first | ((with_reducible apply Ent.ldA); exact rfl; exact rfl) | ((with_reducible apply Ent.rdA); exact rfl; exact rfl) | ((with_reducible apply Ent.kpA); exact rfl; exact rfl) | ((with_reducible apply Ent.lenA)) | ((with_reducible apply Ent.draw)) | ((with_reducible apply Ent.boxA); exact rfl; intro _) | ((with_reducible apply Ent.alA); intro _) | ((with_reducible apply Ent.stA); exact rfl; exact rfl) | ((with_reducible apply Ent.asP); exact rfl) | ((with_reducible apply Ent.exA); exact rfl) | ((with_reducible apply Ent.eqA); exact rfl; exact rfl) | ((with_reducible apply Ent.neA); exact rfl; exact rfl) | ((with_reducible apply Ent.seA); exact rfl) | ((with_reducible apply Ent.ixN); (first | (exact hx; exact rfl) | (exact hp; exact hpi) | (exact hx2; exact hxi2)); intro hrd)))
  rename_i b1
  have hF := h false (by simp)
  refine Ent.loopA (γ := Nat) (fun _ => var Try.prog b1 g :: Γ) (fun i s => s.2 = (i : Int) ∧ i ≤ ys.length ∧ ∀ j y, j < i → ys[j]? = some y → 0 ≤ y) (fun i => ys.length - i) 0 ⟨rfl, Nat.zero_le _, by simp⟩ (by (repeat (first | exact Subs.tail | exact Subs.nil | refine Subs.cons inferInstance ?_))) ?_
  rintro i ⟨s1, s2⟩ kc ⟨hs2, hi, hb⟩ hkc
  dsimp only at hs2 hi hb ⊢
  subst hs2
  (repeat (first | ((with_reducible apply Ent.ldA); exact rfl; exact rfl) | ((with_reducible apply Ent.rdA); exact rfl; exact rfl) | ((with_reducible apply Ent.kpA); exact rfl; exact rfl) | ((with_reducible apply Ent.lenA)) | ((with_reducible apply Ent.draw)) | ((with_reducible apply Ent.boxA); exact rfl; intro _) | ((with_reducible apply Ent.alA); intro _) | ((with_reducible apply Ent.stA); exact rfl; exact rfl) | ((with_reducible apply Ent.asP); exact rfl) | ((with_reducible apply Ent.exA); exact rfl) | ((with_reducible apply Ent.eqA); exact rfl; exact rfl) | ((with_reducible apply Ent.neA); exact rfl; exact rfl) | ((with_reducible apply Ent.seA); exact rfl) | ((with_reducible apply Ent.ixN); (first | (exact hx; exact rfl) | (exact hp; exact hpi) | (exact hx2; exact hxi2)); intro hrd)))
  refine Ent.ite (fun hc => ?_) (fun hc => ?_)
  · have hlt : i < ys.length := by simpa using hc
    have hx : ys[i]? = some ys[i] := List.getElem?_eq_getElem hlt
    have hdr : ys.drop i = ys[i] :: ys.drop (i + 1) := List.drop_eq_getElem_cons hlt
    generalize ys[i] = q at hx hdr
    (repeat (first | ((with_reducible apply Ent.ldA); exact rfl; exact rfl) | ((with_reducible apply Ent.rdA); exact rfl; exact rfl) | ((with_reducible apply Ent.kpA); exact rfl; exact rfl) | ((with_reducible apply Ent.lenA)) | ((with_reducible apply Ent.draw)) | ((with_reducible apply Ent.boxA); exact rfl; intro _) | ((with_reducible apply Ent.alA); intro _) | ((with_reducible apply Ent.stA); exact rfl; exact rfl) | ((with_reducible apply Ent.asP); exact rfl) | ((with_reducible apply Ent.exA); exact rfl) | ((with_reducible apply Ent.eqA); exact rfl; exact rfl) | ((with_reducible apply Ent.neA); exact rfl; exact rfl) | ((with_reducible apply Ent.seA); exact rfl) | ((with_reducible apply Ent.ixN); (first | (exact hx; exact rfl) | (exact hp; exact hpi) | (exact hx2; exact hxi2)); intro hrd)))
    refine Ent.ite (fun hc2 => hF.retA rfl (by (repeat (first | exact Subs.tail | exact Subs.nil | refine Subs.cons inferInstance ?_)))) (fun hc2 => ?_)
    refine hkc (i + 1) _ ⟨wrap_succ hlt hmax, hlt, fun j y hj hjy => ?_⟩ (by omega) _ (by (repeat (first | exact Subs.tail | exact Subs.nil | refine Subs.cons inferInstance ?_)))
    rcases Nat.lt_or_ge j i with h1 | h1
    · exact hb j y h1 hjy
    · have : j = i := by omega
      subst this; rw [hx] at hjy; cases hjy; simpa using hc2
  · have hge : i = ys.length := by simp at hc; omega
    subst hge
    have hy0 : ∀ y ∈ ys, 0 ≤ y := fun y hy => by
      obtain ⟨j, hj⟩ := List.getElem?_of_mem hy
      exact hb j y (List.getElem?_eq_some_iff.1 hj).1 hj
    clear hb hkc hc hi
    refine Ent.loopA (γ := Nat) (fun _ => var Try.prog b1 g :: Γ) (fun i s => s.2 = (i : Int) ∧ i ≤ zs.length ∧ ∀ j y, j < i → zs[j]? = some y → 0 ≤ y) (fun i => zs.length - i) 0 ⟨rfl, Nat.zero_le _, by simp⟩ (by (repeat (first | exact Subs.tail | exact Subs.nil | refine Subs.cons inferInstance ?_))) ?_
    rintro i ⟨s1, s2⟩ kc ⟨hs2, hi, hb⟩ hkc
    dsimp only at hs2 hi hb ⊢
    subst hs2
    (repeat (first | ((with_reducible apply Ent.ldA); exact rfl; exact rfl) | ((with_reducible apply Ent.rdA); exact rfl; exact rfl) | ((with_reducible apply Ent.kpA); exact rfl; exact rfl) | ((with_reducible apply Ent.lenA)) | ((with_reducible apply Ent.draw)) | ((with_reducible apply Ent.boxA); exact rfl; intro _) | ((with_reducible apply Ent.alA); intro _) | ((with_reducible apply Ent.stA); exact rfl; exact rfl) | ((with_reducible apply Ent.asP); exact rfl) | ((with_reducible apply Ent.exA); exact rfl) | ((with_reducible apply Ent.eqA); exact rfl; exact rfl) | ((with_reducible apply Ent.neA); exact rfl; exact rfl) | ((with_reducible apply Ent.seA); exact rfl) | ((with_reducible apply Ent.ixN); (first | (exact hx; exact rfl) | (exact hp; exact hpi) | (exact hx2; exact hxi2)); intro hrd)))
    refine Ent.ite (fun hc => ?_) (fun hc => ?_)
    · have hlt : i < zs.length := by simpa using hc
      have hx : zs[i]? = some zs[i] := List.getElem?_eq_getElem hlt
      have hdr : zs.drop i = zs[i] :: zs.drop (i + 1) := List.drop_eq_getElem_cons hlt
      generalize zs[i] = q at hx hdr
      (repeat (first | ((with_reducible apply Ent.ldA); exact rfl; exact rfl) | ((with_reducible apply Ent.rdA); exact rfl; exact rfl) | ((with_reducible apply Ent.kpA); exact rfl; exact rfl) | ((with_reducible apply Ent.lenA)) | ((with_reducible apply Ent.draw)) | ((with_reducible apply Ent.boxA); exact rfl; intro _) | ((with_reducible apply Ent.alA); intro _) | ((with_reducible apply Ent.stA); exact rfl; exact rfl) | ((with_reducible apply Ent.asP); exact rfl) | ((with_reducible apply Ent.exA); exact rfl) | ((with_reducible apply Ent.eqA); exact rfl; exact rfl) | ((with_reducible apply Ent.neA); exact rfl; exact rfl) | ((with_reducible apply Ent.seA); exact rfl) | ((with_reducible apply Ent.ixN); (first | (exact hx; exact rfl) | (exact hp; exact hpi) | (exact hx2; exact hxi2)); intro hrd)))
      refine Ent.ite (fun hc2 => hF.retA rfl (by (repeat (first | exact Subs.tail | exact Subs.nil | refine Subs.cons inferInstance ?_)))) (fun hc2 => ?_)
      refine hkc (i + 1) _ ⟨wrap_succ hlt hmax2, hlt, fun j y hj hjy => ?_⟩ (by omega) _ (by (repeat (first | exact Subs.tail | exact Subs.nil | refine Subs.cons inferInstance ?_)))
      rcases Nat.lt_or_ge j i with h1 | h1
      · exact hb j y h1 hjy
      · have : j = i := by omega
        subst this; rw [hx] at hjy; cases hjy; simpa using hc2
    · have hge : i = zs.length := by simp at hc; omega
      subst hge
      have hz0 : ∀ y ∈ zs, 0 ≤ y := fun y hy => by
        obtain ⟨j, hj⟩ := List.getElem?_of_mem hy
        exact hb j y (List.getElem?_eq_some_iff.1 hj).1 hj
      clear hb hkc hc hi
      refine Ent.loopA (γ := Nat) (fun _ => var Try.prog b1 g :: Γ) (fun i s => s.2 = (i : Int) ∧ i ≤ es.length ∧ ∀ j e, j < i → es[j]? = some e → e.w ≤ at0 ys e.r.toNat + at0 zs e.c.toNat) (fun i => es.length - i) 0 ⟨rfl, Nat.zero_le _, by simp⟩ (by (repeat (first | exact Subs.tail | exact Subs.nil | refine Subs.cons inferInstance ?_))) ?_
      rintro i ⟨s1, s2⟩ kc ⟨hs2, hi, hb⟩ hkc
      dsimp only at hs2 hi hb ⊢
      subst hs2
      (repeat (first | ((with_reducible apply Ent.ldA); exact rfl; exact rfl) | ((with_reducible apply Ent.rdA); exact rfl; exact rfl) | ((with_reducible apply Ent.kpA); exact rfl; exact rfl) | ((with_reducible apply Ent.lenA)) | ((with_reducible apply Ent.draw)) | ((with_reducible apply Ent.boxA); exact rfl; intro _) | ((with_reducible apply Ent.alA); intro _) | ((with_reducible apply Ent.stA); exact rfl; exact rfl) | ((with_reducible apply Ent.asP); exact rfl) | ((with_reducible apply Ent.exA); exact rfl) | ((with_reducible apply Ent.eqA); exact rfl; exact rfl) | ((with_reducible apply Ent.neA); exact rfl; exact rfl) | ((with_reducible apply Ent.seA); exact rfl) | ((with_reducible apply Ent.ixN); (first | (exact hx; exact rfl) | (exact hp; exact hpi) | (exact hx2; exact hxi2)); intro hrd)))
      refine Ent.ite (fun hc => ?_) (fun hc => ?_)
      · have hlt : i < es.length := by simpa using hc
        have hx : es[i]? = some es[i] := List.getElem?_eq_getElem hlt
        have hdr : es.drop i = es[i] :: es.drop (i + 1) := List.drop_eq_getElem_cons hlt
        generalize es[i] = q at hx hdr
        obtain ⟨r0, r1, c0, c1, w1, w2⟩ := edge_range hg (List.mem_of_getElem? hx)
        have hp : ys[q.r.toNat]? = some (ys[q.r.toNat]'(by omega)) := List.getElem?_eq_getElem _
        have hpi : q.r = ((q.r.toNat : Nat) : Int) := by omega
        have hx2 : zs[q.c.toNat]? = some (zs[q.c.toNat]'(by omega)) := List.getElem?_eq_getElem _
        have hxi2 : q.c = ((q.c.toNat : Nat) : Int) := by omega
        have hy1 := hy0 _ (List.mem_of_getElem? hp)
        have hy2 := (hf _ (List.mem_of_getElem? hp)).2
        have a1 := at0_of hp
        have a2 := at0_of hx2
        generalize ys[q.r.toNat]'(by omega) = y at hp hy1 hy2 a1
        generalize zs[q.c.toNat]'(by omega) = z at hx2 a2
        (repeat (first | ((with_reducible apply Ent.ldA); exact rfl; exact rfl) | ((with_reducible apply Ent.rdA); exact rfl; exact rfl) | ((with_reducible apply Ent.kpA); exact rfl; exact rfl) | ((with_reducible apply Ent.lenA)) | ((with_reducible apply Ent.draw)) | ((with_reducible apply Ent.boxA); exact rfl; intro _) | ((with_reducible apply Ent.alA); intro _) | ((with_reducible apply Ent.stA); exact rfl; exact rfl) | ((with_reducible apply Ent.asP); exact rfl) | ((with_reducible apply Ent.exA); exact rfl) | ((with_reducible apply Ent.eqA); exact rfl; exact rfl) | ((with_reducible apply Ent.neA); exact rfl; exact rfl) | ((with_reducible apply Ent.seA); exact rfl) | ((with_reducible apply Ent.ixN); (first | (exact hx; exact rfl) | (exact hp; exact hpi) | (exact hx2; exact hxi2)); intro hrd)))
        have hw : IntKind.i64.wrap (q.w - y) = q.w - y := by rw [IntKind.wrap_i64]; omega
        rw [hw]
        refine Ent.ite (fun hc2 => hF.retA rfl (by (repeat (first | exact Subs.tail | exact Subs.nil | refine Subs.cons inferInstance ?_)))) (fun hc2 => ?_)
        refine hkc (i + 1) _ ⟨wrap_succ hlt hmaxe, hlt, fun j e hj hje => ?_⟩ (by omega) _ (by (repeat (first | exact Subs.tail | exact Subs.nil | refine Subs.cons inferInstance ?_)))
        rcases Nat.lt_or_ge j i with h1 | h1
        · exact hb j e h1 hje
        · have : j = i := by omega
          subst this; rw [hx] at hje; cases hje
          rw [a1, a2]
          simp at hc2; omega
      · have hge : i = es.length := by simp at hc; omega
        subst hge
        refine (h true fun _ => ⟨hy0, hz0, fun e he => ?_⟩).retA rfl (by (repeat (first | exact Subs.tail | exact Subs.nil | refine Subs.cons inferInstance ?_)))
        obtain ⟨j, hj⟩ := List.getElem?_of_mem he
        exact hb j e (List.getElem?_eq_some_iff.1 hj).1 hj
theorem bound_spec {Γ : List Asn} {g : Graph} {es : List Edge} {v1 v2 : Value} {ys zs : List Int} {K : Value → WP} [Sl Try.prog Γ g.edges.val Edge enc_103 es] [Sl Try.prog Γ v1 Int enc_3 ys] [Sl Try.prog Γ v2 Int enc_3 zs] (hg : graphBad g es = false) (hf : Fin64 ys)
    (h : ∀ n e, (e = 0 → (ys.length : Int) = g.rows ∧ (zs.length : Int) = g.cols ∧ (∀ y ∈ ys, 0 ≤ y) ∧ (∀ z ∈ zs, 0 ≤ z) ∧ (∀ e ∈ es, e.w ≤ at0 ys e.r.toNat + at0 zs e.c.toNat) ∧ n = ys.sum + zs.sum) → Ent Γ (K (.tuple #[.int .i64 n, .int .i64 e]))) : Ent Γ (callH Try.prog 80 #[g.val, v1, v2] K) := by
  refine Ent.byS (A := S.ref18_Bound _ _ _ _) S.ref18_Bound_ok ?_
  unfold S.ref18_Bound
  simp only [toT_V, toT_I, toT_B, toT_A, toT_rV, toT_rI, toT_rB, toT_pV, toT_pI, toT_pB, toT_pA, toT_cI, toT_cB]
  refine Ent.slhA (P := Try.prog) (v := g.edges.val) fun he => ?_
  refine Ent.maxA (P := Try.prog) g.edges.val fun hmaxe => ?_
  refine Ent.slhA (P := Try.prog) (v := v1) fun hv1 => ?_
  refine Ent.maxA (P := Try.prog) v1 fun hmax => ?_
  refine Ent.slhA (P := Try.prog) (v := v2) fun hv2 => ?_
  refine Ent.maxA (P := Try.prog) v2 fun hmax2 => ?_
  (repeat (first | ((with_reducible apply Ent.ldA); exact rfl; exact rfl) | ((with_reducible apply Ent.rdA); exact rfl; exact rfl) | ((with_reducible apply Ent.kpA); exact rfl; exact rfl) | ((with_reducible apply Ent.lenA)) | ((with_reducible apply Ent.draw)) | ((with_reducible apply Ent.boxA); exact rfl; intro _) | ((with_reducible apply Ent.alA); intro _) | ((with_reducible apply Ent.stA); exact rfl; exact rfl) | ((with_reducible apply Ent.asP); exact rfl) | ((with_reducible apply Ent.exA); exact rfl) | ((with_reducible apply Ent.eqA); exact rfl; exact rfl) | ((with_reducible apply Ent.neA); exact rfl; exact rfl) | ((with_reducible apply Ent.seA); exact rfl) | ((with_reducible apply Ent.ixN); (first | (exact hx; exact rfl) | (exact hp; exact hpi) | (exact hx2; exact hxi2)); intro hrd)))
  rename_i b1
  refine check16_spec (es := es) ?_
  rw [hg]
  refine Ent.iteF rfl ?_
  refine Ent.joinB (((ys.length : Int) != g.rows) || ((zs.length : Int) != g.cols)) (fun k hk => ?_) ?_
  · repeat' (first | exact hk | exact hk _ (by rfl) | ((with_reducible apply Ent.ldA); exact rfl; exact rfl) | ((with_reducible apply Ent.rdA); exact rfl; exact rfl) | ((with_reducible apply Ent.kpA); exact rfl; exact rfl) | ((with_reducible apply Ent.lenA)) | ((with_reducible apply Ent.draw)) | ((with_reducible apply Ent.boxA); exact rfl; intro _) | ((with_reducible apply Ent.alA); intro _) | ((with_reducible apply Ent.stA); exact rfl; exact rfl) | ((with_reducible apply Ent.asP); exact rfl) | ((with_reducible apply Ent.exA); exact rfl) | ((with_reducible apply Ent.eqA); exact rfl; exact rfl) | ((with_reducible apply Ent.neA); exact rfl; exact rfl) | ((with_reducible apply Ent.seA); exact rfl) | ((with_reducible apply Ent.ixN); (first | (exact hx; exact rfl) | (exact hp; exact hpi) | (exact hx2; exact hxi2)); intro hrd) | ((with_reducible apply Ent.or); (focus intro _ k hk)) | ((with_reducible apply Ent.and); (focus intro _ k hk)))
  refine Ent.ite (fun hc => (h 0 1 (by simp)).to (by (repeat (first | exact Subs.tail | exact Subs.nil | refine Subs.cons inferInstance ?_)))) (fun hc => ?_)
  simp only [Bool.or_eq_false_iff, bne_eq_false_iff_eq] at hc
  (repeat (first | ((with_reducible apply Ent.ldA); exact rfl; exact rfl) | ((with_reducible apply Ent.rdA); exact rfl; exact rfl) | ((with_reducible apply Ent.kpA); exact rfl; exact rfl) | ((with_reducible apply Ent.lenA)) | ((with_reducible apply Ent.draw)) | ((with_reducible apply Ent.boxA); exact rfl; intro _) | ((with_reducible apply Ent.alA); intro _) | ((with_reducible apply Ent.stA); exact rfl; exact rfl) | ((with_reducible apply Ent.asP); exact rfl) | ((with_reducible apply Ent.exA); exact rfl) | ((with_reducible apply Ent.eqA); exact rfl; exact rfl) | ((with_reducible apply Ent.neA); exact rfl; exact rfl) | ((with_reducible apply Ent.seA); exact rfl) | ((with_reducible apply Ent.ixN); (first | (exact hx; exact rfl) | (exact hp; exact hpi) | (exact hx2; exact hxi2)); intro hrd)))
  refine hold_spec (es := es) (ys := ys) (zs := zs) hg hc.1 hc.2 hf fun b hb => ?_
  refine Ent.ite (fun hc2 => (h 0 181 (by simp)).to (by (repeat (first | exact Subs.tail | exact Subs.nil | refine Subs.cons inferInstance ?_)))) (fun hc2 => ?_)
  obtain ⟨h1, h2, h3⟩ := hb (by simpa using hc2)
  refine sum18_spec (ys := ys) (zs := zs) h1 h2 fun n ok hok => ?_
  (repeat (first | ((with_reducible apply Ent.ldA); exact rfl; exact rfl) | ((with_reducible apply Ent.rdA); exact rfl; exact rfl) | ((with_reducible apply Ent.kpA); exact rfl; exact rfl) | ((with_reducible apply Ent.lenA)) | ((with_reducible apply Ent.draw)) | ((with_reducible apply Ent.boxA); exact rfl; intro _) | ((with_reducible apply Ent.alA); intro _) | ((with_reducible apply Ent.stA); exact rfl; exact rfl) | ((with_reducible apply Ent.asP); exact rfl) | ((with_reducible apply Ent.exA); exact rfl) | ((with_reducible apply Ent.eqA); exact rfl; exact rfl) | ((with_reducible apply Ent.neA); exact rfl; exact rfl) | ((with_reducible apply Ent.seA); exact rfl) | ((with_reducible apply Ent.ixN); (first | (exact hx; exact rfl) | (exact hp; exact hpi) | (exact hx2; exact hxi2)); intro hrd)))
  refine Ent.ite (fun hc3 => (h 0 3 (by simp)).to (by (repeat (first | exact Subs.tail | exact Subs.nil | refine Subs.cons inferInstance ?_)))) (fun hc3 => ?_)
  exact (h n 0 fun _ => ⟨hc.1, hc.2, h1, h2, h3, hok (by simpa using hc3)⟩).to (by (repeat (first | exact Subs.tail | exact Subs.nil | refine Subs.cons inferInstance ?_)))
theorem check18_spec {Γ : List Asn} {x : Record} {c : RecC} {K : Int → WP} (hr : RecR Γ x c) (hf : Fin64 c.ys) (h : ∀ e, (e = 0 → CertP x.g c.es c.ps c.ys c.zs) → Ent Γ (K e)) : Ent Γ (callT Try.prog (inI .i64) 56 #[x.g.val, x.cert.val] K) := by
  refine Ent.call ?_
  refine Ent.byS (A := S.ref18_Check _ _ _) S.ref18_Check_ok ?_
  unfold S.ref18_Check
  simp only [toT_V, toT_I, toT_B, toT_A, toT_rV, toT_rI, toT_rB, toT_pV, toT_pI, toT_pB, toT_pA, toT_cI, toT_cB]
  obtain ⟨hw, hd, he, hp, hy, hz⟩ := RecI.of hr
  (repeat (first | ((with_reducible apply Ent.ldA); exact rfl; exact rfl) | ((with_reducible apply Ent.rdA); exact rfl; exact rfl) | ((with_reducible apply Ent.kpA); exact rfl; exact rfl) | ((with_reducible apply Ent.lenA)) | ((with_reducible apply Ent.draw)) | ((with_reducible apply Ent.boxA); exact rfl; intro _) | ((with_reducible apply Ent.alA); intro _) | ((with_reducible apply Ent.stA); exact rfl; exact rfl) | ((with_reducible apply Ent.asP); exact rfl) | ((with_reducible apply Ent.exA); exact rfl) | ((with_reducible apply Ent.eqA); exact rfl; exact rfl) | ((with_reducible apply Ent.neA); exact rfl; exact rfl) | ((with_reducible apply Ent.seA); exact rfl) | ((with_reducible apply Ent.ixN); (first | (exact hx; exact rfl) | (exact hp; exact hpi) | (exact hx2; exact hxi2)); intro hrd)))
  rename_i b1 b2
  refine pairs18_spec (es := c.es) (ps := c.ps) ?_
  refine Ent.ite (fun hc => ?_) (fun hc => ?_)
  · refine (h _ fun h0 => ?_).retA rfl (by (repeat (first | exact Subs.tail | exact Subs.nil | refine Subs.cons inferInstance ?_)))
    rw [h0] at hc; simp at hc
  have hg : graphBad x.g c.es = false := by cases hg : graphBad x.g c.es <;> simp_all
  have hpb : pairsBad c.es c.ps = false := by
    rw [hg, refPairs_eq hg] at hc
    cases hpp : pairsBad c.es c.ps <;> simp_all
  (repeat (first | ((with_reducible apply Ent.ldA); exact rfl; exact rfl) | ((with_reducible apply Ent.rdA); exact rfl; exact rfl) | ((with_reducible apply Ent.kpA); exact rfl; exact rfl) | ((with_reducible apply Ent.lenA)) | ((with_reducible apply Ent.draw)) | ((with_reducible apply Ent.boxA); exact rfl; intro _) | ((with_reducible apply Ent.alA); intro _) | ((with_reducible apply Ent.stA); exact rfl; exact rfl) | ((with_reducible apply Ent.asP); exact rfl) | ((with_reducible apply Ent.exA); exact rfl) | ((with_reducible apply Ent.eqA); exact rfl; exact rfl) | ((with_reducible apply Ent.neA); exact rfl; exact rfl) | ((with_reducible apply Ent.seA); exact rfl) | ((with_reducible apply Ent.ixN); (first | (exact hx; exact rfl) | (exact hp; exact hpi) | (exact hx2; exact hxi2)); intro hrd)))
  refine bound_spec (es := c.es) (ys := c.ys) (zs := c.zs) hg hf fun n e hb => ?_
  (repeat (first | ((with_reducible apply Ent.ldA); exact rfl; exact rfl) | ((with_reducible apply Ent.rdA); exact rfl; exact rfl) | ((with_reducible apply Ent.kpA); exact rfl; exact rfl) | ((with_reducible apply Ent.lenA)) | ((with_reducible apply Ent.draw)) | ((with_reducible apply Ent.boxA); exact rfl; intro _) | ((with_reducible apply Ent.alA); intro _) | ((with_reducible apply Ent.stA); exact rfl; exact rfl) | ((with_reducible apply Ent.asP); exact rfl) | ((with_reducible apply Ent.exA); exact rfl) | ((with_reducible apply Ent.eqA); exact rfl; exact rfl) | ((with_reducible apply Ent.neA); exact rfl; exact rfl) | ((with_reducible apply Ent.seA); exact rfl) | ((with_reducible apply Ent.ixN); (first | (exact hx; exact rfl) | (exact hp; exact hpi) | (exact hx2; exact hxi2)); intro hrd)))
  refine Ent.joinB ((e == 3) || ((e == 0) && (n != (c.ps.map (wt c.es)).sum))) (fun k hk => ?_) ?_
  · apply Ent.or
    · intro _ k2 hk2
      apply Ent.and
      · intro _ k3 hk3
        (repeat (first | ((with_reducible apply Ent.ldA); exact rfl; exact rfl) | ((with_reducible apply Ent.rdA); exact rfl; exact rfl) | ((with_reducible apply Ent.kpA); exact rfl; exact rfl) | ((with_reducible apply Ent.lenA)) | ((with_reducible apply Ent.draw)) | ((with_reducible apply Ent.boxA); exact rfl; intro _) | ((with_reducible apply Ent.alA); intro _) | ((with_reducible apply Ent.stA); exact rfl; exact rfl) | ((with_reducible apply Ent.asP); exact rfl) | ((with_reducible apply Ent.exA); exact rfl) | ((with_reducible apply Ent.eqA); exact rfl; exact rfl) | ((with_reducible apply Ent.neA); exact rfl; exact rfl) | ((with_reducible apply Ent.seA); exact rfl) | ((with_reducible apply Ent.ixN); (first | (exact hx; exact rfl) | (exact hp; exact hpi) | (exact hx2; exact hxi2)); intro hrd)))
        refine worth_spec (es := c.es) (ps := c.ps) hg hpb ?_
        exact hk3
      · exact hk2
    · exact hk _ rfl
  refine Ent.ite (fun hc2 => ?_) (fun hc2 => ?_)
  · exact (h 182 (by simp)).retA rfl (by (repeat (first | exact Subs.tail | exact Subs.nil | refine Subs.cons inferInstance ?_)))
  · refine (h e fun h0 => ?_).retA rfl (by (repeat (first | exact Subs.tail | exact Subs.nil | refine Subs.cons inferInstance ?_)))
    obtain ⟨a1, a2, a3, a4, a5, a6⟩ := hb h0
    subst h0
    simp at hc2
    exact ⟨hg, hpb, a1, a2, a3, a4, a5, by rw [← a6]; exact hc2⟩
end Go.Cab
