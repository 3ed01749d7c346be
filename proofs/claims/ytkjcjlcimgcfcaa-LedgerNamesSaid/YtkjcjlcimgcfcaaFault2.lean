/- Contracts: the record's fault. -/
import Derived.Test.YtkjcjlcimgcfcaaFault
namespace Go.Cab
set_option linter.unusedSimpArgs false
set_option linter.unusedVariables false
set_option linter.unusedSectionVars false
open Go Go.Proofs
variable [Milieu]
/-- what a record holds -/
structure RecC where
  ws : List Waiting
  ds : List Idle
  es : List Edge
  ps : List Pair
  ys : List Int
  zs : List Int
structure RecR (Γ : List Asn) (x : Record) (c : RecC) : Prop where
  w : SlR Try.prog Γ x.waiting.val c.ws
  d : SlR Try.prog Γ x.idle.val c.ds
  e : SlR Try.prog Γ x.g.edges.val c.es
  p : SlR Try.prog Γ x.cert.pairs.val c.ps
  y : SlR Try.prog Γ x.cert.ys.val c.ys
  z : SlR Try.prog Γ x.cert.zs.val c.zs
theorem RecR.suf {Γ0 Γ : List Asn} [Suf Γ0 Γ] {x : Record} {c : RecC} (h : RecR Γ0 x c) : RecR Γ x c := ⟨h.w.suf, h.d.suf, h.e.suf, h.p.suf, h.y.suf, h.z.suf⟩
def waitBad (tick : Int) : Int → List Waiting → Bool
  | _, [] => false
  | last, x :: r => (decide (x.number ≤ last) || (decide (x.since < 0) || decide (tick < x.since))) || waitBad tick x.number r
def idleBad : Int → List Idle → Bool
  | _, [] => false
  | last, x :: r => decide (x.number ≤ last) || idleBad x.number r
def fault1 (x : Record) (c : RecC) : Bool := decide (x.tick < 1) || (decide (1099511627776 < x.tick) || (decide (64 < (c.ws.length : Int)) || decide (64 < (c.ds.length : Int))))
def fault2 (x : Record) (c : RecC) : Bool := graphBad x.g c.es || (x.g.rows != (c.ws.length : Int) || x.g.cols != (c.ds.length : Int))
def fault3 (x : Record) (c : RecC) : Bool := (c.ys.length : Int) != x.g.rows || (c.zs.length : Int) != x.g.cols
def faultE (x : Record) (c : RecC) : Int :=
  if fault1 x c then 1 else if waitBad x.tick (-1) c.ws then 1 else if idleBad (-1) c.ds then 1 else if fault2 x c then 170 else if certErr x.g c.es c.ps ≠ 0 then certErr x.g c.es c.ps else if fault3 x c then 1 else 0
theorem fault_spec {Γ : List Asn} {x : Record} {c : RecC} {K : Int → WP} (hr : RecR Γ x c) (h : Ent Γ (K (faultE x c))) : Ent Γ (callT Try.prog (inI .i64) 46 #[x.val] K) := by
  refine Ent.call ?_
  refine Ent.byS (A := S.fair_fault _ _) S.fair_fault_ok ?_
  unfold S.fair_fault
  simp only [toT_V, toT_I, toT_B, toT_A, toT_rV, toT_rI, toT_rB, toT_pV, toT_pI, toT_pB, toT_pA, toT_cI, toT_cB]
  refine Ent.boxV (x := x) (fun b => ?_)
  refine Ent.join1 (fault1 x c) (fun k hk => ?_) ?_
  · first | refine Ent.sem (Runs.fld rfl (by rfl)) ?_ | refine Ent.sem (Runs.fld2 (by rfl)) ?_
    refine Ent.or (decide (1099511627776 < x.tick)) (fun _ k hk => ?_) ?_
    · first | refine Ent.sem (Runs.fld rfl (by rfl)) ?_ | refine Ent.sem (Runs.fld2 (by rfl)) ?_
      exact hk
    refine Ent.or (decide (64 < (c.ws.length : Int))) (fun _ k hk => ?_) ?_
    · first | refine Ent.sem (Runs.fld rfl (by rfl)) ?_ | refine Ent.sem (Runs.fld2 (by rfl)) ?_
      refine Ent.len hr.w.suf Try.underlying36 ?_
      exact hk
    refine Ent.or (decide (64 < (c.ds.length : Int))) (fun _ k hk => ?_) ?_
    · first | refine Ent.sem (Runs.fld rfl (by rfl)) ?_ | refine Ent.sem (Runs.fld2 (by rfl)) ?_
      refine Ent.len hr.d.suf Try.underlying37 ?_
      exact hk
    exact Ent.cst hk (by simp [fault1, Bool.or_assoc])
  refine Ent.ite (fun hf => ?_) (fun hf => ?_)
  · simp only [faultE, hf, if_true] at h
    exact Ent.ret (x := (1 : Int)) (Ent.drop h)
  simp only [faultE, hf, Bool.false_eq_true, if_false] at h
  first | refine Ent.sem (Runs.fld rfl (by rfl)) ?_ | refine Ent.sem (Runs.fld2 (by rfl)) ?_
  refine Ent.len hr.w.suf Try.underlying36 ?_
  refine Ent.loop (γ := Nat × Int) (Inv := fun γ s => var Try.prog b x :: Γ) (pre := fun γ s => s.2 = (γ.2, (γ.1 : Int)) ∧ γ.1 ≤ c.ws.length ∧ waitBad x.tick (-1) c.ws = waitBad x.tick γ.2 (c.ws.drop γ.1)) (μ := fun γ s => c.ws.length - γ.1) (0, -1) ⟨rfl, Nat.zero_le _, rfl⟩ (fun _ h => h) ?_
  rintro ⟨i, last⟩ ⟨s1, s2⟩ kc ⟨hs2, hi, hb⟩ hkc
  dsimp only at hs2 hi hb ⊢
  subst hs2
  dsimp only
  refine Ent.ite (fun hc => ?_) (fun hc => ?_)
  · have hlt : i < c.ws.length := by simpa using hc
    have hx : c.ws[i]? = some c.ws[i] := List.getElem?_eq_getElem hlt
    have hstep : waitBad x.tick last (c.ws.drop i) = ((decide (c.ws[i].number ≤ last) || (decide (c.ws[i].since < 0) || decide (x.tick < c.ws[i].since))) || waitBad x.tick c.ws[i].number (c.ws.drop (i + 1))) := by
      rw [List.drop_eq_getElem_cons hlt]; rfl
    rw [hstep] at hb
    clear hstep
    generalize c.ws[i] = q at hx hb
    refine Ent.indexN (x := q) hr.w.suf Try.underlying36 hx fun hrd => ?_
    refine Ent.sem (Runs.rdV (x := q) hrd) ?_
    refine Ent.newV (x := q) fun b3 => ?_
    refine Ent.join1 (decide (q.number ≤ last) || (decide (q.since < 0) || decide (x.tick < q.since))) (fun k hk => ?_) ?_
    · first | refine Ent.sem (Runs.fld rfl (by rfl)) ?_ | refine Ent.sem (Runs.fld2 (by rfl)) ?_
      refine Ent.or (decide (q.since < 0)) (fun _ k2 hk2 => ?_) ?_
      · first | refine Ent.sem (Runs.fld rfl (by rfl)) ?_ | refine Ent.sem (Runs.fld2 (by rfl)) ?_
        exact hk2
      refine Ent.or (decide (x.tick < q.since)) (fun _ k2 hk2 => ?_) ?_
      · first | refine Ent.sem (Runs.fld rfl (by rfl)) ?_ | refine Ent.sem (Runs.fld2 (by rfl)) ?_
        first | refine Ent.sem (Runs.fld rfl (by rfl)) ?_ | refine Ent.sem (Runs.fld2 (by rfl)) ?_
        exact hk2
      exact Ent.cst hk (by simp [Bool.or_assoc])
    refine Ent.ite (fun hy => ?_) (fun hy => ?_)
    · have : waitBad x.tick (-1) c.ws = true := by rw [hb, hy]; simp
      simp only [this, if_true] at h
      exact Ent.ret (x := (1 : Int)) (Ent.drop (Ent.drop h))
    · first | refine Ent.sem (Runs.fld rfl (by rfl)) ?_ | refine Ent.sem (Runs.fld2 (by rfl)) ?_
      refine Ent.drop (hkc (i + 1, q.number) _ ⟨by rw [wrap_succ hlt hr.w.max], hlt, ?_⟩ (by omega))
      rw [hb, hy]; simp
  have hwb : waitBad x.tick (-1) c.ws = false := by
    have hge : i = c.ws.length := by simp at hc; omega
    subst hge
    rw [hb]; simp [waitBad]
  simp only [hwb, Bool.false_eq_true, if_false] at h
  clear hb hkc hc hi
  first | refine Ent.sem (Runs.fld rfl (by rfl)) ?_ | refine Ent.sem (Runs.fld2 (by rfl)) ?_
  refine Ent.len hr.d.suf Try.underlying37 ?_
  refine Ent.loop (γ := Nat × Int) (Inv := fun γ s => var Try.prog b x :: Γ) (pre := fun γ s => s.2 = (γ.2, (γ.1 : Int)) ∧ γ.1 ≤ c.ds.length ∧ idleBad (-1) c.ds = idleBad γ.2 (c.ds.drop γ.1)) (μ := fun γ s => c.ds.length - γ.1) (0, -1) ⟨rfl, Nat.zero_le _, rfl⟩ (fun _ h => h) ?_
  rintro ⟨i, last⟩ ⟨s1, s2⟩ kc ⟨hs2, hi, hb⟩ hkc
  dsimp only at hs2 hi hb ⊢
  subst hs2
  dsimp only
  refine Ent.ite (fun hc => ?_) (fun hc => ?_)
  · have hlt : i < c.ds.length := by simpa using hc
    have hx : c.ds[i]? = some c.ds[i] := List.getElem?_eq_getElem hlt
    have hstep : idleBad last (c.ds.drop i) = (decide (c.ds[i].number ≤ last) || idleBad c.ds[i].number (c.ds.drop (i + 1))) := by
      rw [List.drop_eq_getElem_cons hlt]; rfl
    rw [hstep] at hb
    clear hstep
    generalize c.ds[i] = q at hx hb
    refine Ent.indexN (x := q) hr.d.suf Try.underlying37 hx fun hrd => ?_
    refine Ent.sem (Runs.rdV (x := q) hrd) ?_
    refine Ent.newV (x := q) fun b3 => ?_
    first | refine Ent.sem (Runs.fld rfl (by rfl)) ?_ | refine Ent.sem (Runs.fld2 (by rfl)) ?_
    refine Ent.ite (fun hy => ?_) (fun hy => ?_)
    · have : idleBad (-1) c.ds = true := by rw [hb, hy]; simp
      simp only [this, if_true] at h
      exact Ent.ret (x := (1 : Int)) (Ent.drop (Ent.drop h))
    · first | refine Ent.sem (Runs.fld rfl (by rfl)) ?_ | refine Ent.sem (Runs.fld2 (by rfl)) ?_
      refine Ent.drop (hkc (i + 1, q.number) _ ⟨by rw [wrap_succ hlt hr.d.max], hlt, ?_⟩ (by omega))
      rw [hb, hy]; simp
  have hib : idleBad (-1) c.ds = false := by
    have hge : i = c.ds.length := by simp at hc; omega
    subst hge
    rw [hb]; simp [idleBad]
  simp only [hib, Bool.false_eq_true, if_false] at h
  clear hb hkc hc hi
  refine Ent.join1 (fault2 x c) (fun k hk => ?_) ?_
  · refine Ent.sem (Runs.subV (x := x.g) rfl rfl) ?_
    refine weigh_Check_spec (es := c.es) hr.e.suf ?_
    have hgb : ((if graphBad x.g c.es = true then (170 : Int) else 0) != 0) = graphBad x.g c.es := by cases graphBad x.g c.es <;> rfl
    rw [hgb]
    refine Ent.or (x.g.rows != (c.ws.length : Int)) (fun _ k2 hk2 => ?_) ?_
    · first | refine Ent.sem (Runs.fld rfl (by rfl)) ?_ | refine Ent.sem (Runs.fld2 (by rfl)) ?_
      first | refine Ent.sem (Runs.fld rfl (by rfl)) ?_ | refine Ent.sem (Runs.fld2 (by rfl)) ?_
      refine Ent.len hr.w.suf Try.underlying36 ?_
      exact hk2
    refine Ent.or (x.g.cols != (c.ds.length : Int)) (fun _ k2 hk2 => ?_) ?_
    · first | refine Ent.sem (Runs.fld rfl (by rfl)) ?_ | refine Ent.sem (Runs.fld2 (by rfl)) ?_
      first | refine Ent.sem (Runs.fld rfl (by rfl)) ?_ | refine Ent.sem (Runs.fld2 (by rfl)) ?_
      refine Ent.len hr.d.suf Try.underlying37 ?_
      exact hk2
    exact Ent.cst hk (by simp [fault2, Bool.or_assoc])
  refine Ent.ite (fun hy => ?_) (fun hy => ?_)
  · simp only [hy, if_true] at h
    exact Ent.ret (x := (170 : Int)) (Ent.drop h)
  simp only [hy, Bool.false_eq_true, if_false] at h
  refine Ent.sem (Runs.subV (x := x.g) rfl rfl) ?_
  refine Ent.sem (x := x.cert.pairs.val) (Runs.fld2 (by rfl)) ?_
  refine certPairs_spec (es := c.es) (ps := c.ps) hr.e.suf hr.p.suf ?_
  refine Ent.ite (fun hn => ?_) (fun hn => ?_)
  · have : certErr x.g c.es c.ps ≠ 0 := by simpa using hn
    simp only [this, ne_eq, not_false_eq_true, if_true] at h
    exact Ent.ret (x := certErr x.g c.es c.ps) (Ent.drop h)
  have hn0 : ¬ certErr x.g c.es c.ps ≠ 0 := by simpa using hn
  simp only [hn0, if_false] at h
  refine Ent.join1 (fault3 x c) (fun k hk => ?_) ?_
  · first | refine Ent.sem (Runs.fld rfl (by rfl)) ?_ | refine Ent.sem (Runs.fld2 (by rfl)) ?_
    refine Ent.len hr.y.suf Try.underlying42 ?_
    first | refine Ent.sem (Runs.fld rfl (by rfl)) ?_ | refine Ent.sem (Runs.fld2 (by rfl)) ?_
    refine Ent.or ((c.zs.length : Int) != x.g.cols) (fun _ k2 hk2 => ?_) ?_
    · first | refine Ent.sem (Runs.fld rfl (by rfl)) ?_ | refine Ent.sem (Runs.fld2 (by rfl)) ?_
      refine Ent.len hr.z.suf Try.underlying42 ?_
      first | refine Ent.sem (Runs.fld rfl (by rfl)) ?_ | refine Ent.sem (Runs.fld2 (by rfl)) ?_
      exact hk2
    exact hk
  refine Ent.ite (fun hy => ?_) (fun hy => ?_)
  · simp only [hy, if_true] at h
    exact Ent.ret (x := (1 : Int)) (Ent.drop h)
  · simp only [hy, Bool.false_eq_true, if_false] at h
    exact Ent.ret (x := (0 : Int)) (Ent.drop h)
end Go.Cab
