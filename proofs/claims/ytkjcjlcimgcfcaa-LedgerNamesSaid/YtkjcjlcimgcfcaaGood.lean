/- Contracts: slices.IndexFunc, fair.Good. -/
import Derived.Test.YtkjcjlcimgcfcaaRowsW
namespace Go.Cab
set_option linter.unusedSimpArgs false
set_option linter.unusedVariables false
set_option linter.unusedSectionVars false
open Go Go.Proofs
variable [Milieu]
def rowOf (ws : List Waiting) (id : ID) : Option Nat := ws.findIdx? fun w => decide (w.id = id)
def rowI (ws : List Waiting) (id : ID) : Int := match rowOf ws id with | some i => (i : Int) | none => -1
theorem indexFunc_spec {Γ Δ : List Asn} {v : Value} {ws : List Waiting} {id : ID} {b : Nat} {K : Int → WP} (hw : SlR Try.prog Γ v ws) (hh : Has Blk b Γ (.cells (Enc.cells Try.prog id).toArray 28 (0, 0)) Δ) (h : Ent Γ (K (rowI ws id))) : Ent Γ (callT Try.prog (inI .i64) 44 #[v, .func (.func 45) #[] #[.pointer (some ⟨b, 0, none⟩)]] K) := by
  refine Ent.call ?_
  refine Ent.byS (A := S.slices_IndexFunc _ _ _) S.slices_IndexFunc_ok ?_
  unfold S.slices_IndexFunc
  simp only [toT_V, toT_I, toT_B, toT_A, toT_rV, toT_rI, toT_rB, toT_pV, toT_pI, toT_pB, toT_pA, toT_cI, toT_cB]
  refine Ent.len hw Try.underlying36 ?_
  refine Ent.loop (γ := Nat) (Inv := fun γ s => Γ) (pre := fun γ s => s.2 = (γ : Int) ∧ γ ≤ ws.length ∧ ∀ j w, j < γ → ws[j]? = some w → w.id ≠ id) (μ := fun γ s => ws.length - γ) 0 ⟨rfl, Nat.zero_le _, by simp⟩ (fun _ h => h) ?_
  rintro i ⟨s1, s2⟩ kc ⟨hs2, hi, hb⟩ hkc
  dsimp only at hs2 hi hb ⊢
  subst hs2
  refine Ent.ite (fun hc => ?_) (fun hc => ?_)
  · have hlt : i < ws.length := by simpa using hc
    have hx : ws[i]? = some ws[i] := List.getElem?_eq_getElem hlt
    have hix := hx
    generalize ws[i] = q at hx
    refine Ent.indexN (x := q) hw Try.underlying36 hx fun hrd => ?_
    refine Ent.sem (Runs.rdV (x := q) hrd) ?_
    refine Ent.callF Try.call45 ?_
    refine good1_spec (q := q) (id := id) (b := b) (hh := hh) ?_
    refine Ent.ite (fun hy => ?_) (fun hy => ?_)
    · have hq : q.id = id := by simpa using hy
      have : rowI ws id = (i : Int) := by
        have : rowOf ws id = some i := by
          unfold rowOf
          rw [List.findIdx?_eq_some_iff_getElem]
          obtain ⟨h1, h2⟩ := List.getElem?_eq_some_iff.1 hx
          refine ⟨hlt, by simp [h2, hq], fun j hj => ?_⟩
          have := hb j _ hj (List.getElem?_eq_getElem (by omega))
          simpa using this
        simp [rowI, this]
      rw [this] at h
      exact Ent.ret (x := (i : Int)) h
    · have hq : q.id ≠ id := by simpa using hy
      refine hkc (i + 1) _ ⟨wrap_succ hlt hw.max, hlt, ?_⟩ (by omega)
      intro j w hj hjw
      rcases Nat.lt_or_ge j i with h1 | h1
      · exact hb j w h1 hjw
      · have : j = i := by omega
        subst this
        rw [hx] at hjw; cases hjw; exact hq
  · have hge : i = ws.length := by simp at hc; omega
    have : rowI ws id = -1 := by
      have : rowOf ws id = none := by
        unfold rowOf
        rw [List.findIdx?_eq_none_iff]
        intro w hw
        obtain ⟨j, hj⟩ := List.getElem?_of_mem hw
        have := hb j w (by have := (List.getElem?_eq_some_iff.1 hj).1; omega) hj
        simpa using this
      simp [rowI, this]
    rw [this] at h
    exact Ent.ret (x := (-1 : Int)) h
theorem rowOf_lt {ws : List Waiting} {id : ID} {i : Nat} (h : rowOf ws id = some i) : i < ws.length := by
  unfold rowOf at h
  rw [List.findIdx?_eq_some_iff_getElem] at h
  exact h.1
def goodT (x : Record) (c : RecC) (id : ID) : Bool × Bool × Bool := match rowOf c.ws id with
  | none => (false, false, false)
  | some i => if faultE x c = 0 then (true, (goods x c)[i]?.getD false, (mates x c)[i]?.getD false) else (false, false, false)
def bool3 (t : Bool × Bool × Bool) : Value := .tuple #[.bool t.1, .bool t.2.1, .bool t.2.2]
theorem good_spec {Γ : List Asn} {x : Record} {c : RecC} {id : ID} {K : Value → WP} (hr : RecR Γ x c) (h : Ent Γ (K (bool3 (goodT x c id)))) : Ent Γ (callH Try.prog 18 #[x.val, id.val] K) := by
  refine Ent.byS (A := S.fair_Good _ _ _) S.fair_Good_ok ?_
  unfold S.fair_Good
  simp only [toT_V, toT_I, toT_B, toT_A, toT_rV, toT_rI, toT_rB, toT_pV, toT_pI, toT_pB, toT_pA, toT_cI, toT_cB]
  refine Ent.boxV (x := x) (fun b => ?_)
  refine Ent.boxV (x := id) (fun b2 => ?_)
  first | refine Ent.sem (Runs.fld rfl (by rfl)) ?_ | refine Ent.sem (Runs.fld2 (by rfl)) ?_
  refine indexFunc_spec (id := id) (b := b2) hr.w.suf Has.here ?_
  refine Ent.join1 (decide (rowI c.ws id < 0) || faultE x c != 0) (fun k hk => ?_) ?_
  · refine Ent.or (faultE x c != 0) (fun _ k2 hk2 => ?_) ?_
    · refine Ent.sem (Runs.varV (x := x)) ?_
      refine fault_spec hr.suf ?_
      exact hk2
    · exact hk
  cases hrow : rowOf c.ws id with
  | none =>
    have h1 : rowI c.ws id = -1 := by simp [rowI, hrow]
    have h2 : goodT x c id = (false, false, false) := by simp [goodT, hrow]
    rw [h1]
    rw [h2] at h
    exact Ent.iteT rfl (Ent.drop (Ent.drop h))
  | some i =>
    have hlt := rowOf_lt hrow
    have h1 : rowI c.ws id = (i : Int) := by simp [rowI, hrow]
    rw [h1]
    have h0 : decide ((i : Int) < 0) = false := by simp
    rw [h0, Bool.false_or]
    refine Ent.ite (fun hy => ?_) (fun hy => ?_)
    · have h2 : goodT x c id = (false, false, false) := by
        have : faultE x c ≠ 0 := by simpa using hy
        simp [goodT, hrow, this]
      rw [h2] at h
      exact Ent.drop (Ent.drop h)
    · have hz : faultE x c = 0 := by simpa using hy
      have h2 : goodT x c id = (true, (goods x c)[i]?.getD false, (mates x c)[i]?.getD false) := by simp [goodT, hrow, hz]
      rw [h2] at h
      have hfine := fine_of hz
      have hn : x.g.rows.toNat = c.ws.length := by have := hfine.nr; omega
      have hgl : (goods x c).length = c.ws.length := by simp [goods, marks_len, hn]
      have hml : (mates x c).length = c.ws.length := by simp [mates, marks_len, hn]
      have hg : (goods x c)[i]? = some ((goods x c)[i]?.getD false) := by
        rw [List.getElem?_eq_getElem (by omega)]; rfl
      have hm : (mates x c)[i]? = some ((mates x c)[i]?.getD false) := by
        rw [List.getElem?_eq_getElem (by omega)]; rfl
      generalize (goods x c)[i]?.getD false = g at hg h
      generalize (mates x c)[i]?.getD false = m at hm h
      refine Ent.sem (Runs.varV (x := x)) ?_
      refine rows_spec hr.suf hfine fun v1 v2 => ?_
      refine Ent.pure (x := v1) (fun w => by simp [Instr.extract]) ?_
      refine Ent.pure (x := v2) (fun w => by simp [Instr.extract]) ?_
      refine Ent.draw ?_
      refine Ent.slr (P := Try.prog) (α := Bool) (v := v1) (l := goods x c) Has.here fun hv1 => ?_
      refine Ent.slr (P := Try.prog) (α := Bool) (v := v2) (l := mates x c) Has.next fun hv2 => ?_
      refine Ent.indexN (x := g) hv1 Try.underlying98 hg fun hrd1 => ?_
      refine Ent.read (Runs.rdV (x := g) hrd1) ?_
      refine Ent.indexN (x := m) hv2 Try.underlying98 hm fun hrd2 => ?_
      refine Ent.read (Runs.rdV (x := m) hrd2) ?_
      exact Ent.drop (Ent.drop (Ent.drop (Ent.drop h)))
end Go.Cab
