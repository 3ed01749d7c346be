/- Contracts: cert.Pairs. -/
import Derived.Test.YtkjcjlcimgcfcaaCert
namespace Go.Cab
set_option linter.unusedSimpArgs false
set_option linter.unusedVariables false
set_option linter.unusedSectionVars false
open Go Go.Proofs
variable [Milieu]
def pairsGo (es : List Edge) : Int → List Bool → List Pair → Bool
  | _, _, [] => false
  | last, bits, p :: r => decide (p.r ≤ last) || (wt es p == 0) || (bits[p.c.toNat]?.getD false) || pairsGo es p.r (bits.set p.c.toNat true) r
def pairsBad (es : List Edge) (ps : List Pair) : Bool := pairsGo es (-1) (List.replicate 64 false) ps
instance : ZeroT Try.prog 171 (.agg ((List.replicate 64 false).map Value.bool).toArray) := ⟨fun w => by kernel_rfl⟩
theorem wt_range {g : Graph} {es : List Edge} (h : graphBad g es = false) {p : Pair} (hw : wt es p ≠ 0) : 0 ≤ p.r ∧ p.r < g.rows ∧ 0 ≤ p.c ∧ p.c < g.cols ∧ g.rows ≤ 64 ∧ g.cols ≤ 64 := by
  simp only [graphBad, Bool.or_eq_false_iff] at h
  have hs := h.1
  simp [sizesBad] at hs
  unfold wt at hw
  cases hf : es.find? fun x => x.r == p.r && x.c == p.c with
  | none => rw [hf] at hw; simp at hw
  | some x =>
    have h1 := List.find?_some hf
    have h2 := List.mem_of_find?_eq_some hf
    have h3 := ((edgesBad_spec h.2).1 x h2).1
    simp [edgeOut] at h3
    simp at h1
    omega
theorem certPairs0_spec {Γ : List Asn} {c : Claim} {es : List Edge} {ps : List Pair} {K : Int → WP} (he : SlR Try.prog Γ c.g.edges.val es) (hp : SlR Try.prog Γ c.cert.pairs.val ps) (hg : graphBad c.g es = false) (h : Ent Γ (K (if pairsBad es ps then 180 else 0))) : Ent Γ (callT Try.prog (inI .i64) 98 #[c.val] K) := by
  have hs : es.Pairwise Edge.lt := by
    simp only [graphBad, Bool.or_eq_false_iff] at hg
    exact (edgesBad_spec hg.2).2
  have hl := graph_few hg
  refine Ent.call ?_
  refine Ent.byS (A := S.cert_claim_pairs _ _) S.cert_claim_pairs_ok ?_
  unfold S.cert_claim_pairs
  simp only [toT_V, toT_I, toT_B, toT_A, toT_rV, toT_rI, toT_rB, toT_pV, toT_pI, toT_pB, toT_pA, toT_cI, toT_cB]
  refine Ent.boxV (x := c) (fun b => ?_)
  refine Ent.alloc (fun b2 => ?_)
  first | refine Ent.sem (Runs.fld rfl (by rfl)) ?_ | refine Ent.sem (Runs.fld2 (by rfl)) ?_
  refine Ent.len (l := ps) hp.suf Try.underlying41 ?_
  refine Ent.loop (γ := Nat × Int × List Bool) (Inv := fun γ s => ab Blk b2 (.cells (γ.2.2.map Value.bool).toArray 171 (0, 0)) :: var Try.prog b c :: Γ) (pre := fun γ s => s.2 = (γ.2.1, (γ.1 : Int)) ∧ γ.1 ≤ ps.length ∧ γ.2.2.length = 64 ∧ pairsBad es ps = pairsGo es γ.2.1 γ.2.2 (ps.drop γ.1)) (μ := fun γ s => ps.length - γ.1) (0, -1, List.replicate 64 false) ⟨rfl, Nat.zero_le _, by simp, rfl⟩ (fun _ h => h) ?_
  rintro ⟨i, last, bits⟩ ⟨s1, s2⟩ kc ⟨hs2, hi, hb64, hb⟩ hkc
  dsimp only at hs2 hi hb64 hb ⊢
  subst hs2
  dsimp only
  refine Ent.ite (fun hc => ?_) (fun hc => ?_)
  · have hlt : i < ps.length := by simpa using hc
    have hx : ps[i]? = some ps[i] := List.getElem?_eq_getElem hlt
    have hstep : pairsGo es last bits (ps.drop i) = (decide (ps[i].r ≤ last) || (wt es ps[i] == 0) || (bits[ps[i].c.toNat]?.getD false) || pairsGo es ps[i].r (bits.set ps[i].c.toNat true) (ps.drop (i + 1))) := by
      rw [List.drop_eq_getElem_cons hlt]; rfl
    rw [hstep] at hb
    clear hstep
    generalize ps[i] = p at hx hb
    refine Ent.indexN (x := p) hp.suf Try.underlying41 hx fun hrd => ?_
    refine Ent.sem (Runs.rdV (x := p) hrd) ?_
    refine Ent.newV (x := p) fun b3 => ?_
    refine Ent.join1 (decide (p.r ≤ last) || (wt es p == 0) || (bits[p.c.toNat]?.getD false)) (fun k hk => ?_) ?_
    · first | refine Ent.sem (Runs.fld rfl (by rfl)) ?_ | refine Ent.sem (Runs.fld2 (by rfl)) ?_
      refine Ent.or (wt es p == 0) (fun _ k2 hk2 => ?_) ?_
      · refine Ent.sem (Runs.varV (x := c)) ?_
        refine Ent.sem (Runs.varV (x := p)) ?_
        refine certWeight_spec (es := es) he.suf hs hl ?_
        exact hk2
      · refine Ent.or (bits[p.c.toNat]?.getD false) (fun hf k2 hk2 => ?_) ?_
        · simp at hf
          have hr := wt_range hg hf.2
          first | refine Ent.sem (Runs.fld rfl (by rfl)) ?_ | refine Ent.sem (Runs.fld2 (by rfl)) ?_
          refine Ent.indexArr Try.underlying171 Try.sizeOf4 (by omega) (by omega) ?_
          have hcn : p.c.toNat < bits.length := by omega
          refine Ent.sem (x := bits[p.c.toNat]?.getD false) (Runs.fld (b := b2) (add_mk _ _ _) (by rw [nth_eq]; simp [hcn])) ?_
          exact hk2
        · exact hk
    · refine Ent.ite (fun hy => ?_) (fun hy => ?_)
      · have : pairsBad es ps = true := by rw [hb, hy]; simp
        rw [this] at h
        exact Ent.ret (x := (180 : Int)) (Ent.drop (Ent.drop (Ent.drop h)))
      · have hf := hy
        simp at hf
        have hr := wt_range hg hf.1.2
        first | refine Ent.sem (Runs.fld rfl (by rfl)) ?_ | refine Ent.sem (Runs.fld2 (by rfl)) ?_
        refine Ent.indexArr Try.underlying171 Try.sizeOf4 (by omega) (by omega) ?_
        refine Ent.storeC (b := b2) (add_mk _ _ _) rfl rfl (by simp [hb64]; omega) ?_
        first | refine Ent.sem (Runs.fld rfl (by rfl)) ?_ | refine Ent.sem (Runs.fld2 (by rfl)) ?_
        rw [Nat.zero_add, show (bits.map Value.bool).set p.c.toNat (Value.bool true) = (bits.set p.c.toNat true).map Value.bool from by rw [List.map_set]]
        refine Ent.swap (Ent.drop ?_)
        refine hkc (i + 1, p.r, bits.set p.c.toNat true) _ ⟨by rw [wrap_succ hlt hp.max], hlt, by simpa using hb64, ?_⟩ (by dsimp only; omega)
        rw [hb, hy]; simp
  · have hge : i = ps.length := by simp at hc; omega
    subst hge
    have : pairsBad es ps = false := by rw [hb]; simp [pairsGo]
    rw [this] at h
    exact Ent.ret (x := (0 : Int)) (Ent.drop (Ent.drop h))
end Go.Cab
