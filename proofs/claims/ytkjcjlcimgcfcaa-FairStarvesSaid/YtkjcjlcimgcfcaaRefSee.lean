/- Contract: the document's watch sees a record. -/
import Derived.Test.YtkjcjlcimgcfcaaCounts
import Derived.Test.YtkjcjlcimgcfcaaGoodEq
import Derived.Test.YtkjcjlcimgcfcaaStarveS
namespace Go.Cab
set_option linter.unusedSimpArgs false
set_option linter.unusedVariables false
set_option linter.unusedSectionVars false
open Go Go.Proofs
variable [Milieu]
def lastTick (rs : List Record) : Int := (rs.getLast?.map (·.tick)).getD 0
def refE (rs : List Record) (x : Record) (c : RecC) : Int := if faultE x c ≠ 0 then faultE x c else if dupB [] c.ws then 130 else if x.tick ≤ lastTick rs then 4 else 0
def refS (rs : List Record) (x : Record) (c : RecC) : List Record := if refE rs x c = 0 then rs ++ [x] else rs
abbrev rwatch (b : Nat) (sv : SV) (rs : List Record) (Γ : List Asn) : List Asn := var Try.prog b (⟨sv⟩ : RWatch) :: ab (@SlA Try.prog Record enc_46) sv.val rs :: Γ
theorem rowI_self {ws : List Waiting} {i : Nat} {q : Waiting} (h : ws[i]? = some q) : (rowI ws q.id = (i : Int)) ↔ q.id ∉ (ws.take i).map (·.id) := by
  have hex : ∃ j, rowOf ws q.id = some j ∧ j ≤ i := by
    cases hr : rowOf ws q.id with
    | none =>
      unfold rowOf at hr
      rw [List.findIdx?_eq_none_iff] at hr
      have := hr q (List.mem_of_getElem? h)
      simp at this
    | some j =>
      refine ⟨j, rfl, ?_⟩
      unfold rowOf at hr
      rw [List.findIdx?_eq_some_iff_getElem] at hr
      obtain ⟨h1, h2, h3⟩ := hr
      apply Classical.byContradiction
      intro hlt
      have := h3 i (by omega)
      rw [(List.getElem?_eq_some_iff.1 h).2] at this
      simp at this
  obtain ⟨j, hj, hle⟩ := hex
  have hri : rowI ws q.id = (j : Int) := by simp [rowI, hj]
  rw [hri]
  unfold rowOf at hj
  rw [List.findIdx?_eq_some_iff_getElem] at hj
  obtain ⟨h1, h2, h3⟩ := hj
  simp only [decide_eq_true_eq] at h2
  constructor
  · intro he hm
    have he : j = i := by omega
    obtain ⟨v, hv, hve⟩ := List.mem_map.1 hm
    obtain ⟨k, hk⟩ := List.getElem?_of_mem hv
    have hki : k < i := by have := (List.getElem?_eq_some_iff.1 hk).1; simp at this; omega
    rw [List.getElem?_take_of_lt hki] at hk
    have := h3 k (by omega)
    rw [(List.getElem?_eq_some_iff.1 hk).2] at this
    simp [hve] at this
  · intro hm
    apply Classical.byContradiction
    intro hne
    have hji : j < i := by omega
    exact hm (List.mem_map.2 ⟨ws[j], by
      have : (ws.take i)[j]? = some ws[j] := by rw [List.getElem?_take_of_lt hji]; exact List.getElem?_eq_getElem h1
      exact List.mem_of_getElem? this, h2⟩)
theorem refSee_spec {Γ : List Asn} {b : Nat} {sv : SV} {rs : List Record} {x : Record} {c : RecC} {K : Int → WP} (hr : RecR Γ x c) (hfew : rs.length ≤ 1048576)
    (h : ∀ sv', Ent (rwatch b sv' (refS rs x c) Γ) (K (refE rs x c))) : Ent (rwatch b sv rs Γ) (callT Try.prog (inI .i64) 27 #[.pointer (some ⟨b, 0, none⟩), x.val] K) := by
  refine Ent.call ?_
  refine Ent.byS (A := S.ref21_Watch_See _ _ _) S.ref21_Watch_See_ok ?_
  unfold S.ref21_Watch_See
  simp only [toT_V, toT_I, toT_B, toT_A, toT_rV, toT_rI, toT_rB, toT_pV, toT_pI, toT_pB, toT_pA, toT_cI, toT_cB]
  obtain ⟨hw, hd, he, hp, hy, hz⟩ := RecI.of hr
  refine Ent.maxA (P := Try.prog) x.waiting.val fun hmax => ?_
  have hmx : maxLen = 9223372036854775807 := rfl
  (repeat (first | ((with_reducible apply Ent.ldA); exact rfl; exact rfl) | ((with_reducible apply Ent.rdA); exact rfl; exact rfl) | ((with_reducible apply Ent.kpA); exact rfl; exact rfl) | ((with_reducible apply Ent.lenA)) | ((with_reducible apply Ent.draw)) | ((with_reducible apply Ent.boxA); exact rfl; intro _) | ((with_reducible apply Ent.alA); intro _) | ((with_reducible apply Ent.stA); exact rfl; exact rfl) | ((with_reducible apply Ent.asP); exact rfl) | ((with_reducible apply Ent.exA); exact rfl) | ((with_reducible apply Ent.eqA); exact rfl; exact rfl) | ((with_reducible apply Ent.neA); exact rfl; exact rfl) | ((with_reducible apply Ent.seA); exact rfl) | ((with_reducible apply Ent.ixN); (first | (exact hx; exact rfl) | (exact hp; exact hpi) | (exact hx2; exact hxi2)); intro hrd)))
  rename_i b1
  refine error_spec (c := c) hr.suf ?_
  refine Ent.ite (fun hc => ?_) (fun hc => ?_)
  · have hne : faultE x c ≠ 0 := by simpa using hc
    have h1 : refE rs x c = faultE x c := by simp [refE, hne]
    have h2 : refS rs x c = rs := by simp [refS, h1, hne]
    have h3 := h sv
    rw [h1, h2] at h3
    exact h3.retA rfl (by (repeat (first | exact Subs.tail | exact Subs.nil | refine Subs.cons inferInstance ?_)))
  have hf : faultE x c = 0 := by simpa using hc
  refine Ent.loopA (γ := Nat) (fun _ => var Try.prog b1 x :: rwatch b sv rs Γ) (fun i s => s.2 = (i : Int) ∧ i ≤ c.ws.length ∧ dupB [] c.ws = dupB ((c.ws.take i).map (·.id)) (c.ws.drop i)) (fun i => c.ws.length - i) 0 ⟨rfl, Nat.zero_le _, rfl⟩ (by (repeat (first | exact Subs.tail | exact Subs.nil | refine Subs.cons inferInstance ?_))) ?_
  rintro i ⟨s1, s2⟩ kc ⟨hs2, hi, hb⟩ hkc
  dsimp only at hs2 hi hb ⊢
  subst hs2
  (repeat (first | ((with_reducible apply Ent.ldA); exact rfl; exact rfl) | ((with_reducible apply Ent.rdA); exact rfl; exact rfl) | ((with_reducible apply Ent.kpA); exact rfl; exact rfl) | ((with_reducible apply Ent.lenA)) | ((with_reducible apply Ent.draw)) | ((with_reducible apply Ent.boxA); exact rfl; intro _) | ((with_reducible apply Ent.alA); intro _) | ((with_reducible apply Ent.stA); exact rfl; exact rfl) | ((with_reducible apply Ent.asP); exact rfl) | ((with_reducible apply Ent.exA); exact rfl) | ((with_reducible apply Ent.eqA); exact rfl; exact rfl) | ((with_reducible apply Ent.neA); exact rfl; exact rfl) | ((with_reducible apply Ent.seA); exact rfl) | ((with_reducible apply Ent.ixN); (first | (exact hx; exact rfl) | (exact hp; exact hpi) | (exact hx2; exact hxi2)); intro hrd)))
  refine Ent.ite (fun hc => ?_) (fun hc => ?_)
  · have hlt : i < c.ws.length := by simpa using hc
    have hx : c.ws[i]? = some c.ws[i] := List.getElem?_eq_getElem hlt
    have hdr : c.ws.drop i = c.ws[i] :: c.ws.drop (i + 1) := List.drop_eq_getElem_cons hlt
    generalize c.ws[i] = q at hx hdr
    (repeat (first | ((with_reducible apply Ent.ldA); exact rfl; exact rfl) | ((with_reducible apply Ent.rdA); exact rfl; exact rfl) | ((with_reducible apply Ent.kpA); exact rfl; exact rfl) | ((with_reducible apply Ent.lenA)) | ((with_reducible apply Ent.draw)) | ((with_reducible apply Ent.boxA); exact rfl; intro _) | ((with_reducible apply Ent.alA); intro _) | ((with_reducible apply Ent.stA); exact rfl; exact rfl) | ((with_reducible apply Ent.asP); exact rfl) | ((with_reducible apply Ent.exA); exact rfl) | ((with_reducible apply Ent.eqA); exact rfl; exact rfl) | ((with_reducible apply Ent.neA); exact rfl; exact rfl) | ((with_reducible apply Ent.seA); exact rfl) | ((with_reducible apply Ent.ixN); (first | (exact hx; exact rfl) | (exact hp; exact hpi) | (exact hx2; exact hxi2)); intro hrd)))
    refine row_spec (ws := c.ws) ?_
    have hself := rowI_self hx
    have htk : c.ws.take (i + 1) = c.ws.take i ++ [q] := by rw [List.take_add_one, hx]; rfl
    rw [hdr, dupB] at hb
    refine Ent.ite (fun hy => ?_) (fun hy => ?_)
    · have hin : q.id ∈ (c.ws.take i).map (·.id) := by
        apply Classical.byContradiction
        intro hn
        have := hself.2 hn
        simp at hy
        exact hy this
      have hdp : dupB [] c.ws = true := by rw [hb, decide_eq_true hin]; simp
      have h1 : refE rs x c = 130 := by simp [refE, hf, hdp]
      have h2 : refS rs x c = rs := by simp [refS, h1]
      have h3 := h sv
      rw [h1, h2] at h3
      exact h3.retA rfl (by (repeat (first | exact Subs.tail | exact Subs.nil | refine Subs.cons inferInstance ?_)))
    · have hnin : q.id ∉ (c.ws.take i).map (·.id) := hself.1 (by simpa using hy)
      refine hkc (i + 1) _ ⟨wrap_succ hlt hmax, hlt, ?_⟩ (by omega) _ (by (repeat (first | exact Subs.tail | exact Subs.nil | refine Subs.cons inferInstance ?_)))
      rw [hb, htk, decide_eq_false hnin]; simp
  · have hge : i = c.ws.length := by simp at hc; omega
    subst hge
    have hdp : dupB [] c.ws = false := by rw [hb]; simp [dupB]
    clear hb hkc hc hi
    (repeat (first | ((with_reducible apply Ent.ldA); exact rfl; exact rfl) | ((with_reducible apply Ent.rdA); exact rfl; exact rfl) | ((with_reducible apply Ent.kpA); exact rfl; exact rfl) | ((with_reducible apply Ent.lenA)) | ((with_reducible apply Ent.draw)) | ((with_reducible apply Ent.boxA); exact rfl; intro _) | ((with_reducible apply Ent.alA); intro _) | ((with_reducible apply Ent.stA); exact rfl; exact rfl) | ((with_reducible apply Ent.asP); exact rfl) | ((with_reducible apply Ent.exA); exact rfl) | ((with_reducible apply Ent.eqA); exact rfl; exact rfl) | ((with_reducible apply Ent.neA); exact rfl; exact rfl) | ((with_reducible apply Ent.seA); exact rfl) | ((with_reducible apply Ent.ixN); (first | (exact hx; exact rfl) | (exact hp; exact hpi) | (exact hx2; exact hxi2)); intro hrd)))
    have ht1 := (fine_of hf).t1
    refine Ent.joinB (decide (x.tick ≤ lastTick rs)) (fun k hk => ?_) ?_
    · (repeat (first | ((with_reducible apply Ent.ldA); exact rfl; exact rfl) | ((with_reducible apply Ent.rdA); exact rfl; exact rfl) | ((with_reducible apply Ent.kpA); exact rfl; exact rfl) | ((with_reducible apply Ent.lenA)) | ((with_reducible apply Ent.draw)) | ((with_reducible apply Ent.boxA); exact rfl; intro _) | ((with_reducible apply Ent.alA); intro _) | ((with_reducible apply Ent.stA); exact rfl; exact rfl) | ((with_reducible apply Ent.asP); exact rfl) | ((with_reducible apply Ent.exA); exact rfl) | ((with_reducible apply Ent.eqA); exact rfl; exact rfl) | ((with_reducible apply Ent.neA); exact rfl; exact rfl) | ((with_reducible apply Ent.seA); exact rfl) | ((with_reducible apply Ent.ixN); (first | (exact hx; exact rfl) | (exact hp; exact hpi) | (exact hx2; exact hxi2)); intro hrd)))
      refine Ent.andD (fun hc2 => ?_) (fun hc2 => ?_)
      · have hpos : 0 < rs.length := by simpa using hc2
        have hxx : rs[rs.length - 1]? = some rs[rs.length - 1] := List.getElem?_eq_getElem (by omega)
        have hlt : lastTick rs = (rs[rs.length - 1]'(by omega)).tick := by
          unfold lastTick; rw [List.getLast?_eq_getElem?, hxx]; rfl
        generalize rs[rs.length - 1] = y at hxx hlt
        have hp := hxx
        have hpi : IntKind.i64.wrap ((rs.length : Int) - 1) = ((rs.length - 1 : Nat) : Int) := by rw [IntKind.wrap_i64]; omega
        (repeat (first | ((with_reducible apply Ent.ldA); exact rfl; exact rfl) | ((with_reducible apply Ent.rdA); exact rfl; exact rfl) | ((with_reducible apply Ent.kpA); exact rfl; exact rfl) | ((with_reducible apply Ent.lenA)) | ((with_reducible apply Ent.draw)) | ((with_reducible apply Ent.boxA); exact rfl; intro _) | ((with_reducible apply Ent.alA); intro _) | ((with_reducible apply Ent.stA); exact rfl; exact rfl) | ((with_reducible apply Ent.asP); exact rfl) | ((with_reducible apply Ent.exA); exact rfl) | ((with_reducible apply Ent.eqA); exact rfl; exact rfl) | ((with_reducible apply Ent.neA); exact rfl; exact rfl) | ((with_reducible apply Ent.seA); exact rfl) | ((with_reducible apply Ent.ixN); (first | (exact hx; exact rfl) | (exact hp; exact hpi) | (exact hx2; exact hxi2)); intro hrd)))
        exact hk _ (by rw [hlt])
      · have h0 : rs = [] := by
          cases rs with
          | nil => rfl
          | cons a r => simp at hc2
        refine hk _ ?_
        have hl : lastTick rs = 0 := by rw [h0]; rfl
        rw [hl]; symm
        exact decide_eq_false (by omega)
    refine Ent.ite (fun hc3 => ?_) (fun hc3 => ?_)
    · have h1 : refE rs x c = 4 := by
        simp only [decide_eq_true_eq] at hc3
        simp [refE, hf, hdp, hc3]
      have h2 : refS rs x c = rs := by simp [refS, h1]
      have h3 := h sv
      rw [h1, h2] at h3
      exact h3.retA rfl (by (repeat (first | exact Subs.tail | exact Subs.nil | refine Subs.cons inferInstance ?_)))
    · have h1 : refE rs x c = 0 := by
        simp only [decide_eq_false_iff_not] at hc3
        simp [refE, hf, hdp, hc3]
      have h2 : refS rs x c = rs ++ [x] := by simp [refS, h1]
      (repeat (first | ((with_reducible apply Ent.ldA); exact rfl; exact rfl) | ((with_reducible apply Ent.rdA); exact rfl; exact rfl) | ((with_reducible apply Ent.kpA); exact rfl; exact rfl) | ((with_reducible apply Ent.lenA)) | ((with_reducible apply Ent.draw)) | ((with_reducible apply Ent.boxA); exact rfl; intro _) | ((with_reducible apply Ent.alA); intro _) | ((with_reducible apply Ent.stA); exact rfl; exact rfl) | ((with_reducible apply Ent.asP); exact rfl) | ((with_reducible apply Ent.exA); exact rfl) | ((with_reducible apply Ent.eqA); exact rfl; exact rfl) | ((with_reducible apply Ent.neA); exact rfl; exact rfl) | ((with_reducible apply Ent.seA); exact rfl) | ((with_reducible apply Ent.ixN); (first | (exact hx; exact rfl) | (exact hp; exact hpi) | (exact hx2; exact hxi2)); intro hrd)))
      refine Ent.b1A (E := enc_46) (x := x) rfl (by decide) fun s2 hs2 => ?_
      (repeat (first | ((with_reducible apply Ent.ldA); exact rfl; exact rfl) | ((with_reducible apply Ent.rdA); exact rfl; exact rfl) | ((with_reducible apply Ent.kpA); exact rfl; exact rfl) | ((with_reducible apply Ent.lenA)) | ((with_reducible apply Ent.draw)) | ((with_reducible apply Ent.boxA); exact rfl; intro _) | ((with_reducible apply Ent.alA); intro _) | ((with_reducible apply Ent.stA); exact rfl; exact rfl) | ((with_reducible apply Ent.asP); exact rfl) | ((with_reducible apply Ent.exA); exact rfl) | ((with_reducible apply Ent.eqA); exact rfl; exact rfl) | ((with_reducible apply Ent.neA); exact rfl; exact rfl) | ((with_reducible apply Ent.seA); exact rfl) | ((with_reducible apply Ent.ixN); (first | (exact hx; exact rfl) | (exact hp; exact hpi) | (exact hx2; exact hxi2)); intro hrd)))
      refine Ent.apA (E := enc_46) (l := rs) (r := [x]) (by simp; omega) (by show (rs.length + 1) * 168 ≤ _; omega) fun s3 hs3 _ => ?_
      (repeat (first | ((with_reducible apply Ent.ldA); exact rfl; exact rfl) | ((with_reducible apply Ent.rdA); exact rfl; exact rfl) | ((with_reducible apply Ent.kpA); exact rfl; exact rfl) | ((with_reducible apply Ent.lenA)) | ((with_reducible apply Ent.draw)) | ((with_reducible apply Ent.boxA); exact rfl; intro _) | ((with_reducible apply Ent.alA); intro _) | ((with_reducible apply Ent.stA); exact rfl; exact rfl) | ((with_reducible apply Ent.asP); exact rfl) | ((with_reducible apply Ent.exA); exact rfl) | ((with_reducible apply Ent.eqA); exact rfl; exact rfl) | ((with_reducible apply Ent.neA); exact rfl; exact rfl) | ((with_reducible apply Ent.seA); exact rfl) | ((with_reducible apply Ent.ixN); (first | (exact hx; exact rfl) | (exact hp; exact hpi) | (exact hx2; exact hxi2)); intro hrd)))
      have h3 := h s3
      rw [h1, h2] at h3
      exact h3.retA rfl (by (repeat (first | exact Subs.tail | exact Subs.nil | refine Subs.cons inferInstance ?_)))
end Go.Cab
