/- Plain: what Good says and what the document says are one. The law FairGoods, as a call. -/
import Derived.Test.YtkjcjlcimgcfcaaTwin2
-- import Derived.Test.YtkjcjlcimgcfcaaAlive
namespace Go.Cab
set_option linter.unusedSimpArgs false
set_option linter.unusedVariables false
set_option linter.unusedSectionVars false
open Go Go.Proofs
variable [Milieu]
theorem marks_at (n : Nat) : ∀ (rs : List Int) (b : List Bool) (i : Nat), b.length = n → i < n → (∀ r ∈ rs, 0 ≤ r) → (marks b rs)[i]?.getD false = (b[i]?.getD false || rs.any (fun r => r == (i : Int)))
  | [], b, i, _, _, _ => by simp [marks]
  | r :: rs, b, i, hb, hi, hr => by
    have h0 := hr r (by simp)
    rw [marks, marks_at n rs _ i (by simpa using hb) hi (fun r' h => hr r' (by simp [h])), getD_set]
    obtain ⟨k, rfl⟩ : ∃ k : Nat, r = (k : Int) := ⟨r.toNat, by omega⟩
    simp only [Int.toNat_natCast, List.any_cons, hb]
    by_cases hk : k = i
    · subst hk; simp [hi]
    · have : ((k : Int) == (i : Int)) = false := by simp; omega
      simp [hk, this]
theorem goodT_ref (x : Record) (c : RecC) (id : ID) : goodT x c id = refGood x c id := by
  unfold goodT refGood
  cases hrow : rowOf c.ws id with
  | none => rfl
  | some i =>
    simp only
    split
    · rename_i hz
      have hf := fine_of hz
      have hlt := rowOf_lt hrow
      have hn : x.g.rows.toNat = c.ws.length := by have := hf.nr; omega
      have hes : ∀ r ∈ c.es.map (·.r), 0 ≤ r := by
        intro r hr
        obtain ⟨e, he, rfl⟩ := List.mem_map.1 hr
        have hg := hf.g
        simp only [graphBad, Bool.or_eq_false_iff] at hg
        have := ((edgesBad_spec hg.2).1 e he).1
        simp [edgeOut] at this
        exact this.1
      have hps : ∀ r ∈ c.ps.map (·.r), 0 ≤ r := by
        intro r hr
        obtain ⟨p, hp, rfl⟩ := List.mem_map.1 hr
        exact (wt_range hf.g (pairsGo_ok hf.p p hp)).1
      have hrep : (List.replicate x.g.rows.toNat false)[i]?.getD false = false := by
        rw [List.getElem?_replicate]; split <;> rfl
      have e1 : (goods x c)[i]?.getD false = c.es.any (fun e => e.r == (i : Int)) := by
        rw [goods, marks_at _ _ _ i List.length_replicate (by omega) hes, hrep, List.any_map]; rfl
      have e2 : (mates x c)[i]?.getD false = c.ps.any (fun e => e.r == (i : Int)) := by
        rw [mates, marks_at _ _ _ i List.length_replicate (by omega) hps, hrep, List.any_map]; rfl
      rw [e1, e2]
    · rfl
theorem like_fault {x x' : Record} {c : RecC} (h : x.like x') : faultE x' c = faultE x c := by
  obtain ⟨h1, h2, h3⟩ := h
  have e1 : fault1 x' c = fault1 x c := by simp only [fault1, h1]
  have e2 : fault2 x' c = fault2 x c := by simp only [fault2, graphBad, h2, h3]
  have e3 : fault3 x' c = fault3 x c := by simp only [fault3, h2, h3]
  have e0 : graphBad x'.g c.es = graphBad x.g c.es := by simp only [graphBad, h2, h3]
  have e4 : certErr x'.g c.es c.ps = certErr x.g c.es c.ps := by unfold certErr; rw [e0]
  unfold faultE
  rw [e1, e2, e3, e4, h1]
theorem like_goodT {x x' : Record} {c : RecC} {id : ID} (h : x.like x') : goodT x' c id = goodT x c id := by
  have hf := like_fault (c := c) h
  obtain ⟨h1, h2, h3⟩ := h
  simp only [goodT, hf, goods, mates, h2]
/-- how much there is in a record's lists -/
def RecC.size (c : RecC) : Nat := 1 + c.ws.length + c.ds.length + c.es.length + c.ps.length + c.ys.length + c.zs.length
def RecC.fit (c : RecC) : Prop := c.size ≤ 1125899906842624
theorem recordSize_spec {Γ : List Asn} {x : Record} {c : RecC} {K : Int → WP} (hr : RecR Γ x c) (hf : c.fit) (h : Ent Γ (K c.size)) : Ent Γ (callT Try.prog (inI .i64) 39 #[x.val] K) := by
  refine Ent.call ?_
  refine Ent.byS (A := S.law01_RecordSize _ _) S.law01_RecordSize_ok ?_
  unfold S.law01_RecordSize
  simp only [toT_V, toT_I, toT_B, toT_A, toT_rV, toT_rI, toT_rB, toT_pV, toT_pI, toT_pB, toT_pA, toT_cI, toT_cB]
  refine Ent.recI hr fun hi => ?_
  obtain ⟨hw, hd, he, hp, hy, hz⟩ := hi
  (repeat (first | ((with_reducible apply Ent.ldA); exact rfl; exact rfl) | ((with_reducible apply Ent.rdA); exact rfl; exact rfl) | ((with_reducible apply Ent.kpA); exact rfl; exact rfl) | ((with_reducible apply Ent.lenA)) | ((with_reducible apply Ent.draw)) | ((with_reducible apply Ent.boxA); exact rfl; intro _) | ((with_reducible apply Ent.alA); intro _) | ((with_reducible apply Ent.stA); exact rfl; exact rfl) | ((with_reducible apply Ent.asP); exact rfl) | ((with_reducible apply Ent.exA); exact rfl) | ((with_reducible apply Ent.eqA); exact rfl; exact rfl) | ((with_reducible apply Ent.neA); exact rfl; exact rfl) | ((with_reducible apply Ent.seA); exact rfl) | ((with_reducible apply Ent.ixN); (first | (exact hx; exact rfl) | (exact hp; exact hpi) | (exact hx2; exact hxi2)); intro hrd)))
  have hw1 : ∀ a b : Nat, a + b ≤ 1125899906842624 → IntKind.i64.wrap ((a : Int) + (b : Int)) = ((a + b : Nat) : Int) := by
    intro a b hab; rw [IntKind.wrap_i64]; omega
  unfold RecC.fit RecC.size at hf
  have h1 : (1 : Int) = ((1 : Nat) : Int) := rfl
  rw [h1, hw1 _ _ (by omega), hw1 _ _ (by omega), hw1 _ _ (by omega), hw1 _ _ (by omega), hw1 _ _ (by omega), hw1 _ _ (by omega)]
  exact h.retA rfl (by (repeat (first | exact Subs.tail | exact Subs.nil | refine Subs.cons inferInstance ?_)))
/-- records, each with what its lists hold -/
def RecsR (Γ : List Asn) (xs : List Record) (cs : List RecC) : Prop := xs.length = cs.length ∧ ∀ (i : Nat) (x : Record) (c : RecC), xs[i]? = some x → cs[i]? = some c → RecR Γ x c ∧ c.fit
theorem RecsR.suf {Γ0 Γ : List Asn} [Suf Γ0 Γ] {xs : List Record} {cs : List RecC} (h : RecsR Γ0 xs cs) : RecsR Γ xs cs := ⟨h.1, fun i x c hx hc => ⟨(h.2 i x c hx hc).1.suf, (h.2 i x c hx hc).2⟩⟩
def sizes (cs : List RecC) : Nat := (cs.map RecC.size).sum
theorem sizes_take {cs : List RecC} {i : Nat} {c : RecC} (h : cs[i]? = some c) : sizes (cs.take (i + 1)) = sizes (cs.take i) + c.size := by
  unfold sizes
  rw [List.take_add_one, h]; simp
theorem sizes_le {cs : List RecC} {i : Nat} : sizes (cs.take i) ≤ sizes cs := by
  unfold sizes
  conv => rhs; rw [← List.take_append_drop i cs, List.map_append, List.sum_append]
  omega
theorem beyondRecords_spec {Γ : List Asn} {v : Value} {xs : List Record} {cs : List RecC} {K : Bool → WP} [Sl Try.prog Γ v Record enc_46 xs] (hr : RecsR Γ xs cs) (h : Ent Γ (K (decide (1048576 < sizes cs)))) : Ent Γ (callT Try.prog inB 16 #[v] K) := by
  refine Ent.call ?_
  refine Ent.byS (A := S.law01_BeyondRecords _ _) S.law01_BeyondRecords_ok ?_
  unfold S.law01_BeyondRecords
  simp only [toT_V, toT_I, toT_B, toT_A, toT_rV, toT_rI, toT_rB, toT_pV, toT_pI, toT_pB, toT_pA, toT_cI, toT_cB]
  refine Ent.slhA (P := Try.prog) (v := v) fun hv => ?_
  refine Ent.maxA (P := Try.prog) v fun hmax => ?_
  refine Ent.loopA (γ := Nat) (fun _ => Γ) (fun i s => s.2.1 = ((sizes (cs.take i) : Nat) : Int) ∧ s.2.2 = (i : Int) ∧ i ≤ xs.length ∧ sizes (cs.take i) ≤ 1048576) (fun i => xs.length - i) 0 ⟨by simp [sizes], rfl, Nat.zero_le _, by simp [sizes]⟩ (by (repeat (first | exact Subs.tail | exact Subs.nil | refine Subs.cons inferInstance ?_))) ?_
  rintro i ⟨s1, s2, s3⟩ kc ⟨hs2, hs3, hi, hb⟩ hkc
  dsimp only at hs2 hs3 hi hb ⊢
  subst hs2; subst hs3
  (repeat (first | ((with_reducible apply Ent.ldA); exact rfl; exact rfl) | ((with_reducible apply Ent.rdA); exact rfl; exact rfl) | ((with_reducible apply Ent.kpA); exact rfl; exact rfl) | ((with_reducible apply Ent.lenA)) | ((with_reducible apply Ent.draw)) | ((with_reducible apply Ent.boxA); exact rfl; intro _) | ((with_reducible apply Ent.alA); intro _) | ((with_reducible apply Ent.stA); exact rfl; exact rfl) | ((with_reducible apply Ent.asP); exact rfl) | ((with_reducible apply Ent.exA); exact rfl) | ((with_reducible apply Ent.eqA); exact rfl; exact rfl) | ((with_reducible apply Ent.neA); exact rfl; exact rfl) | ((with_reducible apply Ent.seA); exact rfl) | ((with_reducible apply Ent.ixN); (first | (exact hx; exact rfl) | (exact hp; exact hpi) | (exact hx2; exact hxi2)); intro hrd)))
  refine Ent.ite (fun hc => ?_) (fun hc => ?_)
  · have hlt : i < xs.length := by simpa using hc
    have hx : xs[i]? = some xs[i] := List.getElem?_eq_getElem hlt
    have hdr : xs.drop i = xs[i] :: xs.drop (i + 1) := List.drop_eq_getElem_cons hlt
    generalize xs[i] = x at hx hdr
    (repeat (first | ((with_reducible apply Ent.ldA); exact rfl; exact rfl) | ((with_reducible apply Ent.rdA); exact rfl; exact rfl) | ((with_reducible apply Ent.kpA); exact rfl; exact rfl) | ((with_reducible apply Ent.lenA)) | ((with_reducible apply Ent.draw)) | ((with_reducible apply Ent.boxA); exact rfl; intro _) | ((with_reducible apply Ent.alA); intro _) | ((with_reducible apply Ent.stA); exact rfl; exact rfl) | ((with_reducible apply Ent.asP); exact rfl) | ((with_reducible apply Ent.exA); exact rfl) | ((with_reducible apply Ent.eqA); exact rfl; exact rfl) | ((with_reducible apply Ent.neA); exact rfl; exact rfl) | ((with_reducible apply Ent.seA); exact rfl) | ((with_reducible apply Ent.ixN); (first | (exact hx; exact rfl) | (exact hp; exact hpi) | (exact hx2; exact hxi2)); intro hrd)))
    obtain ⟨c, hc0⟩ : ∃ c, cs[i]? = some c := ⟨_, List.getElem?_eq_getElem (by rw [← hr.1]; exact hlt)⟩
    obtain ⟨hrc, hfit⟩ := hr.2 i x c hx hc0
    refine recordSize_spec hrc hfit ?_
    have hst := sizes_take hc0
    have hw1 : IntKind.i64.wrap (((sizes (cs.take i) : Nat) : Int) + (c.size : Int)) = ((sizes (cs.take (i + 1)) : Nat) : Int) := by
      unfold RecC.fit at hfit
      rw [IntKind.wrap_i64, hst]; omega
    rw [hw1]
    refine Ent.ite (fun hy => ?_) (fun hy => ?_)
    · have : decide (1048576 < sizes cs) = true := by
        have := sizes_le (cs := cs) (i := i + 1)
        simp at hy ⊢; omega
      rw [this] at h
      exact h.retA rfl (by (repeat (first | exact Subs.tail | exact Subs.nil | refine Subs.cons inferInstance ?_)))
    · refine hkc (i + 1) _ ⟨rfl, wrap_succ hlt hmax, hlt, ?_⟩ (by omega) _ (by (repeat (first | exact Subs.tail | exact Subs.nil | refine Subs.cons inferInstance ?_)))
      simp at hy; omega
  · have hge : i = xs.length := by simp at hc; omega
    subst hge
    have : decide (1048576 < sizes cs) = false := by
      rw [List.take_of_length_le (by rw [hr.1]; exact Nat.le_refl _)] at hb
      simpa using hb
    rw [this] at h
    exact h.retA rfl (by (repeat (first | exact Subs.tail | exact Subs.nil | refine Subs.cons inferInstance ?_)))
end Go.Cab
