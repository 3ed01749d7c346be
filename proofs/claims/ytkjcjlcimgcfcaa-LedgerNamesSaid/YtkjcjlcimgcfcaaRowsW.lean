/- Contracts: fair.rows, slices.IndexFunc, fair.Good. -/
import Derived.Test.YtkjcjlcimgcfcaaFault2
namespace Go.Cab
set_option linter.unusedSimpArgs false
set_option linter.unusedVariables false
set_option linter.unusedSectionVars false
open Go Go.Proofs
variable [Milieu]
def marks (b : List Bool) : List Int → List Bool
  | [] => b
  | r :: l => marks (b.set r.toNat true) l
def goods (x : Record) (c : RecC) : List Bool := marks (List.replicate x.g.rows.toNat false) (c.es.map (·.r))
def mates (x : Record) (c : RecC) : List Bool := marks (List.replicate x.g.rows.toNat false) (c.ps.map (·.r))
theorem pairsGo_ok {es : List Edge} : ∀ {last : Int} {bits : List Bool} {ps : List Pair}, pairsGo es last bits ps = false → ∀ p ∈ ps, wt es p ≠ 0
  | _, _, [], _ => by simp
  | last, bits, q :: r, h => by
    simp only [pairsGo, Bool.or_eq_false_iff] at h
    intro p hp
    rcases List.mem_cons.1 hp with rfl | hp
    · simpa using h.1.1.2
    · exact pairsGo_ok h.2 p hp
structure Fine (x : Record) (c : RecC) : Prop where
  g : graphBad x.g c.es = false
  p : pairsBad c.es c.ps = false
  nr : x.g.rows = (c.ws.length : Int)
  nc : x.g.cols = (c.ds.length : Int)
  ny : (c.ys.length : Int) = x.g.rows
  nz : (c.zs.length : Int) = x.g.cols
  w64 : c.ws.length ≤ 64
  t1 : 1 ≤ x.tick
  t2 : x.tick ≤ 1099511627776
theorem fine_of {x : Record} {c : RecC} (h : faultE x c = 0) : Fine x c := by
  unfold faultE at h
  cases h1 : fault1 x c
  · cases h2 : waitBad x.tick (-1) c.ws
    · cases h3 : idleBad (-1) c.ds
      · cases h4 : fault2 x c
        · simp only [h1, h2, h3, h4, Bool.false_eq_true, if_false] at h
          by_cases h5 : certErr x.g c.es c.ps ≠ 0
          · simp [h5] at h
          · simp only [h5, if_false] at h
            cases h6 : fault3 x c
            · simp [fault2] at h4
              simp [fault1] at h1
              simp [fault3] at h6
              have hc : certErr x.g c.es c.ps = 0 := by omega
              unfold certErr at hc
              simp only [h4.1, Bool.false_eq_true, if_false] at hc
              exact ⟨h4.1, by cases hp : pairsBad c.es c.ps <;> simp_all, by omega, by omega, by omega, by omega, by omega, by omega, by omega⟩
            · simp [h6] at h
        · simp [h1, h2, h3, h4] at h
      · simp [h1, h2, h3] at h
    · simp [h1, h2] at h
  · simp [h1] at h
theorem marks_len : ∀ (l : List Int) (b : List Bool), (marks b l).length = b.length
  | [], _ => rfl
  | r :: l, b => by simp [marks, marks_len l]
theorem rows_spec {Γ : List Asn} {x : Record} {c : RecC} {K : Value → WP} (hr : RecR Γ x c) (hf : Fine x c) (h : ∀ v1 v2, Ent (ab (SlA Try.prog) v1 (goods x c) :: ab (SlA Try.prog) v2 (mates x c) :: Γ) (K (.tuple #[v1, v2]))) : Ent Γ (callH Try.prog 47 #[x.val] K) := by
  obtain ⟨n, hn⟩ : ∃ n : Nat, x.g.rows = (n : Int) := ⟨c.ws.length, hf.nr⟩
  have hn64 : n ≤ 64 := by have := hf.w64; have := hf.nr; omega
  refine Ent.byS (A := S.fair_rows _ _) S.fair_rows_ok ?_
  unfold S.fair_rows
  simp only [toT_V, toT_I, toT_B, toT_A, toT_rV, toT_rI, toT_rB, toT_pV, toT_pI, toT_pB, toT_pA, toT_cI, toT_cB]
  refine Ent.boxV (x := x) (fun b => ?_)
  refine Ent.join (fun y Δ => Δ = ab (SlA Try.prog) y.1 (List.replicate n false) :: ab (SlA Try.prog) y.2 (List.replicate n false) :: var Try.prog b x :: Γ) (fun k hk => ?_) ?_
  · refine Ent.draw ?_
    first | refine Ent.read (Runs.fld rfl (by rfl)) ?_ | refine Ent.read (Runs.fld2 (by rfl)) ?_
    first | refine Ent.read (Runs.fld rfl (by rfl)) ?_ | refine Ent.read (Runs.fld2 (by rfl)) ?_
    refine Ent.both ?_ ?_
    · refine Ent.makeSliceI (α := Bool) hn Try.underlying98 (by omega) (by show n * 1 ≤ _; omega) (by show n * 1 ≤ _; omega) fun v1 => ?_
      refine Ent.keep (Runs.fld2 (by rfl)) ?_
      refine Ent.makeSliceI (α := Bool) hn Try.underlying98 (by omega) (by show n * 1 ≤ _; omega) (by show n * 1 ≤ _; omega) fun v2 => ?_
      exact Ent.swap (hk _ _ rfl)
    · refine Ent.makeSliceI (α := Bool) hn Try.underlying98 (by omega) (by show n * 1 ≤ _; omega) (by show n * 1 ≤ _; omega) fun v1 => ?_
      refine Ent.keep (Runs.fld2 (by rfl)) ?_
      refine Ent.makeSliceI (α := Bool) hn Try.underlying98 (by omega) (by show n * 1 ≤ _; omega) (by show n * 1 ≤ _; omega) fun v2 => ?_
      exact hk _ _ rfl
  rintro ⟨v1, v2⟩ Δ rfl
  dsimp only
  have hes : ∀ e ∈ c.es, 0 ≤ e.r ∧ e.r < (n : Int) := by
    intro e he
    have hg := hf.g
    simp only [graphBad, Bool.or_eq_false_iff] at hg
    have := ((edgesBad_spec hg.2).1 e he).1
    simp [edgeOut] at this
    omega
  have hps : ∀ p ∈ c.ps, 0 ≤ p.r ∧ p.r < (n : Int) := by
    intro p hp
    have := wt_range hf.g (pairsGo_ok hf.p p hp)
    omega
  first | refine Ent.sem (Runs.fld rfl (by rfl)) ?_ | refine Ent.sem (Runs.fld2 (by rfl)) ?_
  refine Ent.len hr.e.suf Try.underlying38 ?_
  refine Ent.loop (γ := Nat × List Bool) (Inv := fun γ s => ab (SlA Try.prog) v1 γ.2 :: ab (SlA Try.prog) v2 (List.replicate n false) :: var Try.prog b x :: Γ) (pre := fun γ s => s = (γ.1 : Int) ∧ γ.1 ≤ c.es.length ∧ γ.2.length = n ∧ goods x c = marks γ.2 ((c.es.drop γ.1).map (·.r))) (μ := fun γ s => c.es.length - γ.1) (0, List.replicate n false) ⟨rfl, Nat.zero_le _, by simp, by simp [goods, hn]⟩ (fun _ h => h) ?_
  rintro ⟨i, gs⟩ s kc ⟨hs, hi, hlen, hb⟩ hkc
  dsimp only at hs hi hlen hb ⊢
  subst hs
  refine Ent.ite (fun hc => ?_) (fun hc => ?_)
  · have hlt : i < c.es.length := by simpa using hc
    have hx : c.es[i]? = some c.es[i] := List.getElem?_eq_getElem hlt
    have hm := hes c.es[i] (List.getElem_mem hlt)
    rw [List.drop_eq_getElem_cons hlt, List.map_cons, marks] at hb
    generalize c.es[i] = q at hx hb hm
    refine Ent.indexN (x := q) hr.e.suf Try.underlying38 hx fun hrd => ?_
    refine Ent.sem (Runs.rdV (x := q) hrd) ?_
    refine Ent.newV (x := q) fun b3 => ?_
    first | refine Ent.sem (Runs.fld rfl (by rfl)) ?_ | refine Ent.sem (Runs.fld2 (by rfl)) ?_
    refine Ent.drop ?_
    refine Ent.storeI (x := true) Has.here Try.underlying98 hm.1 (by omega) ?_
    refine hkc (i + 1, gs.set q.r.toNat true) _ ⟨by rw [wrap_succ hlt hr.e.max], hlt, by simpa using hlen, hb⟩ (by omega)
  have hgs : gs = goods x c := by
    have hge : i = c.es.length := by simp at hc; omega
    subst hge
    rw [hb]; simp [marks]
  subst hgs
  clear hb hkc hc hi
  first | refine Ent.sem (Runs.fld rfl (by rfl)) ?_ | refine Ent.sem (Runs.fld2 (by rfl)) ?_
  refine Ent.len hr.p.suf Try.underlying41 ?_
  refine Ent.loop (γ := Nat × List Bool) (Inv := fun γ s => ab (SlA Try.prog) v1 (goods x c) :: ab (SlA Try.prog) v2 γ.2 :: var Try.prog b x :: Γ) (pre := fun γ s => s = (γ.1 : Int) ∧ γ.1 ≤ c.ps.length ∧ γ.2.length = n ∧ mates x c = marks γ.2 ((c.ps.drop γ.1).map (·.r))) (μ := fun γ s => c.ps.length - γ.1) (0, List.replicate n false) ⟨rfl, Nat.zero_le _, by simp, by simp [mates, hn]⟩ (fun _ h => h) ?_
  rintro ⟨i, gs⟩ s kc ⟨hs, hi, hlen, hb⟩ hkc
  dsimp only at hs hi hlen hb ⊢
  subst hs
  refine Ent.ite (fun hc => ?_) (fun hc => ?_)
  · have hlt : i < c.ps.length := by simpa using hc
    have hx : c.ps[i]? = some c.ps[i] := List.getElem?_eq_getElem hlt
    have hm := hps c.ps[i] (List.getElem_mem hlt)
    rw [List.drop_eq_getElem_cons hlt, List.map_cons, marks] at hb
    generalize c.ps[i] = q at hx hb hm
    refine Ent.indexN (x := q) hr.p.suf Try.underlying41 hx fun hrd => ?_
    refine Ent.sem (Runs.rdV (x := q) hrd) ?_
    refine Ent.newV (x := q) fun b3 => ?_
    first | refine Ent.sem (Runs.fld rfl (by rfl)) ?_ | refine Ent.sem (Runs.fld2 (by rfl)) ?_
    refine Ent.drop (Ent.swap ?_)
    refine Ent.storeI (x := true) Has.here Try.underlying98 hm.1 (by omega) ?_
    refine Ent.swap (hkc (i + 1, gs.set q.r.toNat true) _ ⟨by rw [wrap_succ hlt hr.p.max], hlt, by simpa using hlen, hb⟩ (by omega))
  have hgs : gs = mates x c := by
    have hge : i = c.ps.length := by simp at hc; omega
    subst hge
    rw [hb]; simp [marks]
  subst hgs
  exact Ent.drop3 (h v1 v2)
omit [Milieu] in
theorem run_eq_ID (a b : ID) (x y : Operand) (w : World) : (eqM .eql 28 x y a.val b.val).run Try.prog w = .ok (.bool (decide (a = b))) w := by
  have h := run_eql_bytes (P := Try.prog) w 28 5 8 Try.underlying28 Try.underlying5 Try.sizeOf5 [a.b0, a.b1, a.b2, a.b3, a.b4, a.b5, a.b6, a.b7] [b.b0, b.b1, b.b2, b.b3, b.b4, b.b5, b.b6, b.b7] rfl rfl
  have hg : (eqGuard .eql 28 x y a.val b.val).run Try.prog w = .ok () w := run_eqGuard_agg w .eql 28 x y _ _ Try.eqGuardType28
  have hd : ([a.b0, a.b1, a.b2, a.b3, a.b4, a.b5, a.b6, a.b7] == [b.b0, b.b1, b.b2, b.b3, b.b4, b.b5, b.b6, b.b7]) = decide (a = b) := by
    rw [Bool.eq_iff_iff]
    cases a; cases b
    simp
  rw [hd] at h
  simp only [eqM, Sem.run_bind, hg, Result.andThen_ok]
  exact h
theorem good1_spec {Γ Δ : List Asn} {q : Waiting} {id : ID} {b : Nat} {K : Bool → WP} [hh : Has Blk b Γ (.cells (Enc.cells Try.prog id).toArray 28 (0, 0)) Δ] (h : Ent Γ (K (decide (q.id = id)))) : Ent Γ (callT Try.prog inB 45 #[q.val, .pointer (some ⟨b, 0, none⟩)] K) := by
  refine Ent.call ?_
  refine Ent.byS (A := S.fair_Good_1 _ _ _) S.fair_Good_1_ok ?_
  unfold S.fair_Good_1
  simp only [toT_V, toT_I, toT_B, toT_A, toT_rV, toT_rI, toT_rB, toT_pV, toT_pI, toT_pB, toT_pA, toT_cI, toT_cB]
  refine Ent.boxV (x := q) (fun b2 => ?_)
  refine Ent.sem (Runs.subV (x := q.id) (b := b2) (o := 0) rfl rfl) ?_
  refine Ent.asP rfl ?_
  refine Ent.sem (Runs.varV (x := id)) ?_
  refine Ent.pure (fun w => run_eq_ID q.id id _ _ w) ?_
  exact Ent.ret (f := inB) (x := decide (q.id = id)) (Ent.drop h)
end Go.Cab
