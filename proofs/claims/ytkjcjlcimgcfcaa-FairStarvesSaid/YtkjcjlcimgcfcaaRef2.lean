/- Contracts: the document's lists, Error, Good. -/
import Derived.Test.YtkjcjlcimgcfcaaRef
namespace Go.Cab
set_option linter.unusedSimpArgs false
set_option linter.unusedVariables false
set_option linter.unusedSectionVars false
open Go Go.Proofs
variable [Milieu]
/-- the slices of a record, as they read -/
class RecI (Γ : outParam (List Asn)) (x : Record) (c : outParam RecC) : Prop where
  w : SlH Try.prog Γ x.waiting.val Waiting enc_56 c.ws
  d : SlH Try.prog Γ x.idle.val Idle enc_126 c.ds
  e : SlH Try.prog Γ x.g.edges.val Edge enc_103 c.es
  p : SlH Try.prog Γ x.cert.pairs.val Pair enc_105 c.ps
  y : SlH Try.prog Γ x.cert.ys.val Int enc_3 c.ys
  z : SlH Try.prog Γ x.cert.zs.val Int enc_3 c.zs
theorem RecI.of {Γ : List Asn} {x : Record} {c : RecC} (hr : RecR Γ x c) : RecI Γ x c := ⟨.of hr.w, .of hr.d, .of hr.e, .of hr.p, .of hr.y, .of hr.z⟩
theorem Ent.recI {Γ : List Asn} {x : Record} {c : RecC} {k : WP} (hr : RecR Γ x c) (h : RecI Γ x c → Ent Γ k) : Ent Γ k := h ⟨.of hr.w, .of hr.d, .of hr.e, .of hr.p, .of hr.y, .of hr.z⟩
def prevN (ws : List Int) (i : Nat) : Int := if i = 0 then -1 else ws[i - 1]?.getD (-1)
theorem lists_spec {Γ : List Asn} {x : Record} {c : RecC} {K : Bool → WP} (hr : RecR Γ x c) (h : Ent Γ (K (!(fault1 x c || waitBad x.tick (-1) c.ws || idleBad (-1) c.ds)))) : Ent Γ (callT Try.prog inB 70 #[x.val] K) := by
  refine Ent.call ?_
  refine Ent.byS (A := S.ref21_lists _ _) S.ref21_lists_ok ?_
  unfold S.ref21_lists
  simp only [toT_V, toT_I, toT_B, toT_A, toT_rV, toT_rI, toT_rB, toT_pV, toT_pI, toT_pB, toT_pA, toT_cI, toT_cB]
  refine Ent.recI hr fun hi => ?_
  have hw := hi.w
  have hd := hi.d
  refine Ent.maxA (P := Try.prog) x.waiting.val fun hmax => ?_
  refine Ent.maxA (P := Try.prog) x.idle.val fun hmaxd => ?_
  (repeat (first | ((with_reducible apply Ent.ldA); exact rfl; exact rfl) | ((with_reducible apply Ent.rdA); exact rfl; exact rfl) | ((with_reducible apply Ent.kpA); exact rfl; exact rfl) | ((with_reducible apply Ent.lenA)) | ((with_reducible apply Ent.draw)) | ((with_reducible apply Ent.boxA); exact rfl; intro _) | ((with_reducible apply Ent.alA); intro _) | ((with_reducible apply Ent.stA); exact rfl; exact rfl) | ((with_reducible apply Ent.asP); exact rfl) | ((with_reducible apply Ent.exA); exact rfl) | ((with_reducible apply Ent.eqA); exact rfl; exact rfl) | ((with_reducible apply Ent.neA); exact rfl; exact rfl) | ((with_reducible apply Ent.seA); exact rfl) | ((with_reducible apply Ent.ixN); (first | (exact hx; exact rfl) | (exact hp; exact hpi) | (exact hx2; exact hxi2)); intro hrd)))
  rename_i b1
  refine Ent.joinB (fault1 x c) (fun k hk => ?_) ?_
  · repeat' (first | exact hk | exact hk _ (by simp [fault1, Bool.or_assoc]) | ((with_reducible apply Ent.ldA); exact rfl; exact rfl) | ((with_reducible apply Ent.rdA); exact rfl; exact rfl) | ((with_reducible apply Ent.kpA); exact rfl; exact rfl) | ((with_reducible apply Ent.lenA)) | ((with_reducible apply Ent.draw)) | ((with_reducible apply Ent.boxA); exact rfl; intro _) | ((with_reducible apply Ent.alA); intro _) | ((with_reducible apply Ent.stA); exact rfl; exact rfl) | ((with_reducible apply Ent.asP); exact rfl) | ((with_reducible apply Ent.exA); exact rfl) | ((with_reducible apply Ent.eqA); exact rfl; exact rfl) | ((with_reducible apply Ent.neA); exact rfl; exact rfl) | ((with_reducible apply Ent.seA); exact rfl) | ((with_reducible apply Ent.ixN); (first | (exact hx; exact rfl) | (exact hp; exact hpi) | (exact hx2; exact hxi2)); intro hrd) | ((with_reducible apply Ent.or); (focus intro _ k hk)) | ((with_reducible apply Ent.and); (focus intro _ k hk)))
  refine Ent.ite (fun hy => ?_) (fun hy => ?_)
  · rw [hy] at h
    refine h.retA rfl (by (repeat (first | exact Subs.tail | exact Subs.nil | refine Subs.cons inferInstance ?_)))
  rw [hy] at h
  refine Ent.loopA (γ := Nat) (fun _ => var Try.prog b1 x :: Γ) (fun i s => s.2 = (i : Int) ∧ i ≤ c.ws.length ∧ -1 ≤ prevN (c.ws.map (·.number)) i ∧ (0 < i → 0 ≤ prevN (c.ws.map (·.number)) i) ∧ waitBad x.tick (-1) c.ws = waitBad x.tick (prevN (c.ws.map (·.number)) i) (c.ws.drop i)) (fun i => c.ws.length - i) 0 ⟨rfl, Nat.zero_le _, by simp [prevN], by simp, rfl⟩ (by (repeat (first | exact Subs.tail | exact Subs.nil | refine Subs.cons inferInstance ?_))) ?_
  rintro i ⟨s1, s2⟩ kc ⟨hs2, hi, hm1, hm2, hb⟩ hkc
  dsimp only at hs2 hi hb ⊢
  subst hs2
  (repeat (first | ((with_reducible apply Ent.ldA); exact rfl; exact rfl) | ((with_reducible apply Ent.rdA); exact rfl; exact rfl) | ((with_reducible apply Ent.kpA); exact rfl; exact rfl) | ((with_reducible apply Ent.lenA)) | ((with_reducible apply Ent.draw)) | ((with_reducible apply Ent.boxA); exact rfl; intro _) | ((with_reducible apply Ent.alA); intro _) | ((with_reducible apply Ent.stA); exact rfl; exact rfl) | ((with_reducible apply Ent.asP); exact rfl) | ((with_reducible apply Ent.exA); exact rfl) | ((with_reducible apply Ent.eqA); exact rfl; exact rfl) | ((with_reducible apply Ent.neA); exact rfl; exact rfl) | ((with_reducible apply Ent.seA); exact rfl) | ((with_reducible apply Ent.ixN); (first | (exact hx; exact rfl) | (exact hp; exact hpi) | (exact hx2; exact hxi2)); intro hrd)))
  refine Ent.ite (fun hc => ?_) (fun hc => ?_)
  · have hlt : i < c.ws.length := by simpa using hc
    have hx : c.ws[i]? = some c.ws[i] := List.getElem?_eq_getElem hlt
    have hdr : c.ws.drop i = c.ws[i] :: c.ws.drop (i + 1) := List.drop_eq_getElem_cons hlt
    generalize c.ws[i] = q at hx hdr
    (repeat (first | ((with_reducible apply Ent.ldA); exact rfl; exact rfl) | ((with_reducible apply Ent.rdA); exact rfl; exact rfl) | ((with_reducible apply Ent.kpA); exact rfl; exact rfl) | ((with_reducible apply Ent.lenA)) | ((with_reducible apply Ent.draw)) | ((with_reducible apply Ent.boxA); exact rfl; intro _) | ((with_reducible apply Ent.alA); intro _) | ((with_reducible apply Ent.stA); exact rfl; exact rfl) | ((with_reducible apply Ent.asP); exact rfl) | ((with_reducible apply Ent.exA); exact rfl) | ((with_reducible apply Ent.eqA); exact rfl; exact rfl) | ((with_reducible apply Ent.neA); exact rfl; exact rfl) | ((with_reducible apply Ent.seA); exact rfl) | ((with_reducible apply Ent.ixN); (first | (exact hx; exact rfl) | (exact hp; exact hpi) | (exact hx2; exact hxi2)); intro hrd)))
    refine Ent.joinB (decide (q.number ≤ prevN (c.ws.map (·.number)) i) || (decide (q.since < 0) || decide (x.tick < q.since))) (fun k hk => ?_) ?_
    · (repeat (first | ((with_reducible apply Ent.ldA); exact rfl; exact rfl) | ((with_reducible apply Ent.rdA); exact rfl; exact rfl) | ((with_reducible apply Ent.kpA); exact rfl; exact rfl) | ((with_reducible apply Ent.lenA)) | ((with_reducible apply Ent.draw)) | ((with_reducible apply Ent.boxA); exact rfl; intro _) | ((with_reducible apply Ent.alA); intro _) | ((with_reducible apply Ent.stA); exact rfl; exact rfl) | ((with_reducible apply Ent.asP); exact rfl) | ((with_reducible apply Ent.exA); exact rfl) | ((with_reducible apply Ent.eqA); exact rfl; exact rfl) | ((with_reducible apply Ent.neA); exact rfl; exact rfl) | ((with_reducible apply Ent.seA); exact rfl) | ((with_reducible apply Ent.ixN); (first | (exact hx; exact rfl) | (exact hp; exact hpi) | (exact hx2; exact hxi2)); intro hrd)))
      refine Ent.or (decide (0 < (i : Int)) && decide (q.number ≤ prevN (c.ws.map (·.number)) i)) (fun _ k2 hk2 => ?_) ?_
      · refine Ent.andD (fun hc2 => ?_) (fun hc2 => ?_)
        · have hi0 : 0 < i := by simpa using hc2
          have hp : c.ws[i - 1]? = some c.ws[i - 1] := List.getElem?_eq_getElem (by omega)
          have hpi := wrap_pred hi0 hi hmax
          have hpr : prevN (c.ws.map (·.number)) i = c.ws[i - 1].number := by
            simp only [prevN, List.getElem?_map, hp]; rw [if_neg (by omega)]; rfl
          rw [hpr] at hk2
          generalize c.ws[i - 1] = p at hp hk2
          (repeat (first | ((with_reducible apply Ent.ldA); exact rfl; exact rfl) | ((with_reducible apply Ent.rdA); exact rfl; exact rfl) | ((with_reducible apply Ent.kpA); exact rfl; exact rfl) | ((with_reducible apply Ent.lenA)) | ((with_reducible apply Ent.draw)) | ((with_reducible apply Ent.boxA); exact rfl; intro _) | ((with_reducible apply Ent.alA); intro _) | ((with_reducible apply Ent.stA); exact rfl; exact rfl) | ((with_reducible apply Ent.asP); exact rfl) | ((with_reducible apply Ent.exA); exact rfl) | ((with_reducible apply Ent.eqA); exact rfl; exact rfl) | ((with_reducible apply Ent.neA); exact rfl; exact rfl) | ((with_reducible apply Ent.seA); exact rfl) | ((with_reducible apply Ent.ixN); (first | (exact hx; exact rfl) | (exact hp; exact hpi) | (exact hx2; exact hxi2)); intro hrd)))
          rw [hc2] at hk2
          exact hk2
        · rw [hc2] at hk2
          exact hk2
      · apply Ent.or
        · intro _ k3 hk3
          (repeat (first | ((with_reducible apply Ent.ldA); exact rfl; exact rfl) | ((with_reducible apply Ent.rdA); exact rfl; exact rfl) | ((with_reducible apply Ent.kpA); exact rfl; exact rfl) | ((with_reducible apply Ent.lenA)) | ((with_reducible apply Ent.draw)) | ((with_reducible apply Ent.boxA); exact rfl; intro _) | ((with_reducible apply Ent.alA); intro _) | ((with_reducible apply Ent.stA); exact rfl; exact rfl) | ((with_reducible apply Ent.asP); exact rfl) | ((with_reducible apply Ent.exA); exact rfl) | ((with_reducible apply Ent.eqA); exact rfl; exact rfl) | ((with_reducible apply Ent.neA); exact rfl; exact rfl) | ((with_reducible apply Ent.seA); exact rfl) | ((with_reducible apply Ent.ixN); (first | (exact hx; exact rfl) | (exact hp; exact hpi) | (exact hx2; exact hxi2)); intro hrd)))
          exact hk3
        apply Ent.or
        · intro _ k3 hk3
          (repeat (first | ((with_reducible apply Ent.ldA); exact rfl; exact rfl) | ((with_reducible apply Ent.rdA); exact rfl; exact rfl) | ((with_reducible apply Ent.kpA); exact rfl; exact rfl) | ((with_reducible apply Ent.lenA)) | ((with_reducible apply Ent.draw)) | ((with_reducible apply Ent.boxA); exact rfl; intro _) | ((with_reducible apply Ent.alA); intro _) | ((with_reducible apply Ent.stA); exact rfl; exact rfl) | ((with_reducible apply Ent.asP); exact rfl) | ((with_reducible apply Ent.exA); exact rfl) | ((with_reducible apply Ent.eqA); exact rfl; exact rfl) | ((with_reducible apply Ent.neA); exact rfl; exact rfl) | ((with_reducible apply Ent.seA); exact rfl) | ((with_reducible apply Ent.ixN); (first | (exact hx; exact rfl) | (exact hp; exact hpi) | (exact hx2; exact hxi2)); intro hrd)))
          exact hk3
        refine hk _ ?_
        rw [Bool.eq_iff_iff]
        have h0 : i = 0 → prevN (c.ws.map (·.number)) i = -1 := by intro h0; simp [prevN, h0]
        simp only [Bool.or_eq_true, Bool.and_eq_true, decide_eq_true_eq]
        generalize prevN (c.ws.map (·.number)) i = pn at hm1 hm2 h0
        omega
    refine Ent.ite (fun hz => ?_) (fun hz => ?_)
    · have : waitBad x.tick (-1) c.ws = true := by rw [hb, hdr, waitBad, hz]; simp
      rw [this] at h
      refine h.retA rfl (by (repeat (first | exact Subs.tail | exact Subs.nil | refine Subs.cons inferInstance ?_)))
    · have hnext : prevN (c.ws.map (·.number)) (i + 1) = q.number := by simp [prevN, hx]
      refine hkc (i + 1) _ ⟨wrap_succ hlt hmax, hlt, ?_, ?_, ?_⟩ (by omega) _ (by (repeat (first | exact Subs.tail | exact Subs.nil | refine Subs.cons inferInstance ?_)))
      · rw [hnext]; simp at hz; omega
      · rw [hnext]; simp at hz; omega
      · rw [hb, hdr, waitBad, hz, hnext]; rfl
  · have hge : i = c.ws.length := by simp at hc; omega
    subst hge
    have hwb : waitBad x.tick (-1) c.ws = false := by rw [hb]; simp [waitBad]
    rw [hwb] at h
    clear hb hkc hm1 hm2 hc hi
    refine Ent.loopA (γ := Nat) (fun _ => var Try.prog b1 x :: Γ) (fun i s => s.2 = (i : Int) ∧ i ≤ c.ds.length ∧ -1 ≤ prevN (c.ds.map (·.number)) i ∧ (0 < i → 0 ≤ prevN (c.ds.map (·.number)) i) ∧ idleBad (-1) c.ds = idleBad (prevN (c.ds.map (·.number)) i) (c.ds.drop i)) (fun i => c.ds.length - i) 0 ⟨rfl, Nat.zero_le _, by simp [prevN], by simp, rfl⟩ (by (repeat (first | exact Subs.tail | exact Subs.nil | refine Subs.cons inferInstance ?_))) ?_
    rintro i ⟨s1, s2⟩ kc ⟨hs2, hi, hm1, hm2, hb⟩ hkc
    dsimp only at hs2 hi hb ⊢
    subst hs2
    (repeat (first | ((with_reducible apply Ent.ldA); exact rfl; exact rfl) | ((with_reducible apply Ent.rdA); exact rfl; exact rfl) | ((with_reducible apply Ent.kpA); exact rfl; exact rfl) | ((with_reducible apply Ent.lenA)) | ((with_reducible apply Ent.draw)) | ((with_reducible apply Ent.boxA); exact rfl; intro _) | ((with_reducible apply Ent.alA); intro _) | ((with_reducible apply Ent.stA); exact rfl; exact rfl) | ((with_reducible apply Ent.asP); exact rfl) | ((with_reducible apply Ent.exA); exact rfl) | ((with_reducible apply Ent.eqA); exact rfl; exact rfl) | ((with_reducible apply Ent.neA); exact rfl; exact rfl) | ((with_reducible apply Ent.seA); exact rfl) | ((with_reducible apply Ent.ixN); (first | (exact hx; exact rfl) | (exact hp; exact hpi) | (exact hx2; exact hxi2)); intro hrd)))
    refine Ent.ite (fun hc => ?_) (fun hc => ?_)
    · have hlt : i < c.ds.length := by simpa using hc
      have hx : c.ds[i]? = some c.ds[i] := List.getElem?_eq_getElem hlt
      have hdr : c.ds.drop i = c.ds[i] :: c.ds.drop (i + 1) := List.drop_eq_getElem_cons hlt
      generalize c.ds[i] = q at hx hdr
      refine Ent.joinB (decide (q.number ≤ prevN (c.ds.map (·.number)) i)) (fun k hk => ?_) ?_
      · (repeat (first | ((with_reducible apply Ent.ldA); exact rfl; exact rfl) | ((with_reducible apply Ent.rdA); exact rfl; exact rfl) | ((with_reducible apply Ent.kpA); exact rfl; exact rfl) | ((with_reducible apply Ent.lenA)) | ((with_reducible apply Ent.draw)) | ((with_reducible apply Ent.boxA); exact rfl; intro _) | ((with_reducible apply Ent.alA); intro _) | ((with_reducible apply Ent.stA); exact rfl; exact rfl) | ((with_reducible apply Ent.asP); exact rfl) | ((with_reducible apply Ent.exA); exact rfl) | ((with_reducible apply Ent.eqA); exact rfl; exact rfl) | ((with_reducible apply Ent.neA); exact rfl; exact rfl) | ((with_reducible apply Ent.seA); exact rfl) | ((with_reducible apply Ent.ixN); (first | (exact hx; exact rfl) | (exact hp; exact hpi) | (exact hx2; exact hxi2)); intro hrd)))
        refine Ent.or (decide (0 < (i : Int)) && decide (q.number ≤ prevN (c.ds.map (·.number)) i)) (fun _ k2 hk2 => ?_) ?_
        · refine Ent.andD (fun hc2 => ?_) (fun hc2 => ?_)
          · have hi0 : 0 < i := by simpa using hc2
            have hp : c.ds[i - 1]? = some c.ds[i - 1] := List.getElem?_eq_getElem (by omega)
            have hpi := wrap_pred hi0 hi hmaxd
            have hpr : prevN (c.ds.map (·.number)) i = c.ds[i - 1].number := by
              simp only [prevN, List.getElem?_map, hp]; rw [if_neg (by omega)]; rfl
            rw [hpr] at hk2
            generalize c.ds[i - 1] = p at hp hk2
            (repeat (first | ((with_reducible apply Ent.ldA); exact rfl; exact rfl) | ((with_reducible apply Ent.rdA); exact rfl; exact rfl) | ((with_reducible apply Ent.kpA); exact rfl; exact rfl) | ((with_reducible apply Ent.lenA)) | ((with_reducible apply Ent.draw)) | ((with_reducible apply Ent.boxA); exact rfl; intro _) | ((with_reducible apply Ent.alA); intro _) | ((with_reducible apply Ent.stA); exact rfl; exact rfl) | ((with_reducible apply Ent.asP); exact rfl) | ((with_reducible apply Ent.exA); exact rfl) | ((with_reducible apply Ent.eqA); exact rfl; exact rfl) | ((with_reducible apply Ent.neA); exact rfl; exact rfl) | ((with_reducible apply Ent.seA); exact rfl) | ((with_reducible apply Ent.ixN); (first | (exact hx; exact rfl) | (exact hp; exact hpi) | (exact hx2; exact hxi2)); intro hrd)))
            rw [hc2] at hk2
            exact hk2
          · rw [hc2] at hk2
            exact hk2
        · refine hk _ ?_
          rw [Bool.eq_iff_iff]
          have h0 : i = 0 → prevN (c.ds.map (·.number)) i = -1 := by intro h0; simp [prevN, h0]
          simp only [Bool.or_eq_true, Bool.and_eq_true, decide_eq_true_eq]
          generalize prevN (c.ds.map (·.number)) i = pn at hm1 hm2 h0
          omega
      refine Ent.ite (fun hz => ?_) (fun hz => ?_)
      · have : idleBad (-1) c.ds = true := by rw [hb, hdr, idleBad, hz]; simp
        rw [this] at h
        refine h.retA rfl (by (repeat (first | exact Subs.tail | exact Subs.nil | refine Subs.cons inferInstance ?_)))
      · have hnext : prevN (c.ds.map (·.number)) (i + 1) = q.number := by simp [prevN, hx]
        refine hkc (i + 1) _ ⟨wrap_succ hlt hmaxd, hlt, ?_, ?_, ?_⟩ (by omega) _ (by (repeat (first | exact Subs.tail | exact Subs.nil | refine Subs.cons inferInstance ?_)))
        · rw [hnext]; simp at hz; omega
        · rw [hnext]; simp at hz; omega
        · rw [hb, hdr, idleBad, hz, hnext]; rfl
    · have hge : i = c.ds.length := by simp at hc; omega
      subst hge
      have hib : idleBad (-1) c.ds = false := by rw [hb]; simp [idleBad]
      rw [hib] at h
      refine h.retA rfl (by (repeat (first | exact Subs.tail | exact Subs.nil | refine Subs.cons inferInstance ?_)))
omit [Milieu] in
theorem getD_set {b : List Bool} {i j : Nat} : ((b.set i true)[j]?.getD false) = (decide (i = j ∧ i < b.length) || b[j]?.getD false) := by
  rw [List.getElem?_set]
  by_cases h : i = j
  · subst h
    by_cases h2 : i < b.length
    · simp [h2]
    · simp [h2]
  · simp [h]
theorem refPairs_go {g : Graph} {es : List Edge} (hg : graphBad g es = false) : ∀ (ps ahead : List Pair) (bits : List Bool) (last : Int), bits.length = 64 →
    (∀ p ∈ ahead, wt es p ≠ 0) → (∀ j : Nat, j < 64 → bits[j]?.getD false = ahead.any (fun q => q.c == (j : Int))) → (ahead = [] ∧ last = -1 ∨ ∃ p, ahead.getLast? = some p ∧ last = p.r) →
    refPairs es ahead ps = pairsGo es last bits ps
  | [], _, _, _, _, _, _, _ => by simp [refPairs, pairsGo]
  | p :: r, ahead, bits, last, hl, hw, hb, hlast => by
    simp only [refPairs, pairsGo]
    by_cases hz : wt es p = 0
    · simp [hz]
    · obtain ⟨h1, h2, h3, h4, h5, h6⟩ := wt_range hg hz
      obtain ⟨c, hc⟩ : ∃ c : Nat, p.c = (c : Int) := ⟨p.c.toNat, by omega⟩
      have hc64 : c < 64 := by omega
      have ih := refPairs_go hg r (ahead ++ [p]) (bits.set p.c.toNat true) p.r (by simpa using hl) (by
          intro q hq
          rcases List.mem_append.1 hq with h | h
          · exact hw q h
          · simp at h; subst h; exact hz) (by
          intro j hj
          rw [getD_set, hb j hj, hc]
          simp only [Int.toNat_natCast, List.any_append, List.any_cons, List.any_nil, Bool.or_false]
          rw [Bool.or_comm]
          congr 1
          rw [Bool.eq_iff_iff]; simp [hl, hc]; omega) (.inr ⟨p, by simp, rfl⟩)
      rw [ih]
      have hbit : (bits[p.c.toNat]?.getD false) = ahead.any (fun q => q.c == p.c) := by
        rw [hc, Int.toNat_natCast]; exact hb c hc64
      rw [hbit]
      have hle : (!ahead.isEmpty && decide (p.r ≤ (ahead.getLast?.getD p).r)) = decide (p.r ≤ last) := by
        rcases hlast with ⟨rfl, rfl⟩ | ⟨q, hq, rfl⟩
        · simp; omega
        · have : ahead.isEmpty = false := by cases ahead <;> simp_all
          simp [this, hq]
      rw [hle]
      cases decide (p.r ≤ last) <;> cases (wt es p == 0) <;> rfl
theorem refPairs_eq {g : Graph} {es : List Edge} {ps : List Pair} (hg : graphBad g es = false) : refPairs es [] ps = pairsBad es ps :=
  refPairs_go hg ps [] _ _ (by simp) (by simp) (by intro j hj; rw [List.getElem?_replicate, if_pos hj]; simp) (.inl ⟨rfl, rfl⟩)
theorem error_spec {Γ : List Asn} {x : Record} {c : RecC} {K : Int → WP} (hr : RecR Γ x c) (h : Ent Γ (K (faultE x c))) : Ent Γ (callT Try.prog (inI .i64) 49 #[x.val] K) := by
  refine Ent.call ?_
  refine Ent.byS (A := S.ref21_Error _ _) S.ref21_Error_ok ?_
  unfold S.ref21_Error
  simp only [toT_V, toT_I, toT_B, toT_A, toT_rV, toT_rI, toT_rB, toT_pV, toT_pI, toT_pB, toT_pA, toT_cI, toT_cB]
  refine Ent.recI hr fun hi => ?_
  obtain ⟨hw, hd, he, hp, hy, hz⟩ := hi
  (repeat (first | ((with_reducible apply Ent.ldA); exact rfl; exact rfl) | ((with_reducible apply Ent.rdA); exact rfl; exact rfl) | ((with_reducible apply Ent.kpA); exact rfl; exact rfl) | ((with_reducible apply Ent.lenA)) | ((with_reducible apply Ent.draw)) | ((with_reducible apply Ent.boxA); exact rfl; intro _) | ((with_reducible apply Ent.alA); intro _) | ((with_reducible apply Ent.stA); exact rfl; exact rfl) | ((with_reducible apply Ent.asP); exact rfl) | ((with_reducible apply Ent.exA); exact rfl) | ((with_reducible apply Ent.eqA); exact rfl; exact rfl) | ((with_reducible apply Ent.neA); exact rfl; exact rfl) | ((with_reducible apply Ent.seA); exact rfl) | ((with_reducible apply Ent.ixN); (first | (exact hx; exact rfl) | (exact hp; exact hpi) | (exact hx2; exact hxi2)); intro hrd)))
  rename_i b1
  refine lists_spec (c := c) hr.suf ?_
  refine Ent.ite (fun hc => ?_) (fun hc => ?_)
  · have : faultE x c = 1 := by
      unfold faultE
      cases h1 : fault1 x c <;> cases h2 : waitBad x.tick (-1) c.ws <;> cases h3 : idleBad (-1) c.ds <;> simp_all
    rw [this] at h
    refine h.retA rfl (by (repeat (first | exact Subs.tail | exact Subs.nil | refine Subs.cons inferInstance ?_)))
  have hf : faultE x c = if fault2 x c then 170 else if certErr x.g c.es c.ps ≠ 0 then certErr x.g c.es c.ps else if fault3 x c then 1 else 0 := by
    unfold faultE
    cases h1 : fault1 x c <;> cases h2 : waitBad x.tick (-1) c.ws <;> cases h3 : idleBad (-1) c.ds <;> simp_all
  rw [hf] at h
  refine Ent.joinB (fault2 x c) (fun k hk => ?_) ?_
  · (repeat (first | ((with_reducible apply Ent.ldA); exact rfl; exact rfl) | ((with_reducible apply Ent.rdA); exact rfl; exact rfl) | ((with_reducible apply Ent.kpA); exact rfl; exact rfl) | ((with_reducible apply Ent.lenA)) | ((with_reducible apply Ent.draw)) | ((with_reducible apply Ent.boxA); exact rfl; intro _) | ((with_reducible apply Ent.alA); intro _) | ((with_reducible apply Ent.stA); exact rfl; exact rfl) | ((with_reducible apply Ent.asP); exact rfl) | ((with_reducible apply Ent.exA); exact rfl) | ((with_reducible apply Ent.eqA); exact rfl; exact rfl) | ((with_reducible apply Ent.neA); exact rfl; exact rfl) | ((with_reducible apply Ent.seA); exact rfl) | ((with_reducible apply Ent.ixN); (first | (exact hx; exact rfl) | (exact hp; exact hpi) | (exact hx2; exact hxi2)); intro hrd)))
    refine check16_spec (es := c.es) ?_
    apply Ent.or
    · intro _ k2 hk2
      (repeat (first | ((with_reducible apply Ent.ldA); exact rfl; exact rfl) | ((with_reducible apply Ent.rdA); exact rfl; exact rfl) | ((with_reducible apply Ent.kpA); exact rfl; exact rfl) | ((with_reducible apply Ent.lenA)) | ((with_reducible apply Ent.draw)) | ((with_reducible apply Ent.boxA); exact rfl; intro _) | ((with_reducible apply Ent.alA); intro _) | ((with_reducible apply Ent.stA); exact rfl; exact rfl) | ((with_reducible apply Ent.asP); exact rfl) | ((with_reducible apply Ent.exA); exact rfl) | ((with_reducible apply Ent.eqA); exact rfl; exact rfl) | ((with_reducible apply Ent.neA); exact rfl; exact rfl) | ((with_reducible apply Ent.seA); exact rfl) | ((with_reducible apply Ent.ixN); (first | (exact hx; exact rfl) | (exact hp; exact hpi) | (exact hx2; exact hxi2)); intro hrd)))
      exact hk2
    apply Ent.or
    · intro _ k2 hk2
      (repeat (first | ((with_reducible apply Ent.ldA); exact rfl; exact rfl) | ((with_reducible apply Ent.rdA); exact rfl; exact rfl) | ((with_reducible apply Ent.kpA); exact rfl; exact rfl) | ((with_reducible apply Ent.lenA)) | ((with_reducible apply Ent.draw)) | ((with_reducible apply Ent.boxA); exact rfl; intro _) | ((with_reducible apply Ent.alA); intro _) | ((with_reducible apply Ent.stA); exact rfl; exact rfl) | ((with_reducible apply Ent.asP); exact rfl) | ((with_reducible apply Ent.exA); exact rfl) | ((with_reducible apply Ent.eqA); exact rfl; exact rfl) | ((with_reducible apply Ent.neA); exact rfl; exact rfl) | ((with_reducible apply Ent.seA); exact rfl) | ((with_reducible apply Ent.ixN); (first | (exact hx; exact rfl) | (exact hp; exact hpi) | (exact hx2; exact hxi2)); intro hrd)))
      exact hk2
    refine hk _ ?_
    unfold fault2
    cases graphBad x.g c.es <;> simp
  refine Ent.ite (fun hc2 => ?_) (fun hc2 => ?_)
  · rw [hc2] at h
    refine h.retA rfl (by (repeat (first | exact Subs.tail | exact Subs.nil | refine Subs.cons inferInstance ?_)))
  rw [hc2] at h
  have hg : graphBad x.g c.es = false := by simp [fault2] at hc2; exact hc2.1
  (repeat (first | ((with_reducible apply Ent.ldA); exact rfl; exact rfl) | ((with_reducible apply Ent.rdA); exact rfl; exact rfl) | ((with_reducible apply Ent.kpA); exact rfl; exact rfl) | ((with_reducible apply Ent.lenA)) | ((with_reducible apply Ent.draw)) | ((with_reducible apply Ent.boxA); exact rfl; intro _) | ((with_reducible apply Ent.alA); intro _) | ((with_reducible apply Ent.stA); exact rfl; exact rfl) | ((with_reducible apply Ent.asP); exact rfl) | ((with_reducible apply Ent.exA); exact rfl) | ((with_reducible apply Ent.eqA); exact rfl; exact rfl) | ((with_reducible apply Ent.neA); exact rfl; exact rfl) | ((with_reducible apply Ent.seA); exact rfl) | ((with_reducible apply Ent.ixN); (first | (exact hx; exact rfl) | (exact hp; exact hpi) | (exact hx2; exact hxi2)); intro hrd)))
  refine pairs18_spec (es := c.es) (ps := c.ps) ?_
  rw [refPairs_eq hg]
  have hce : certErr x.g c.es c.ps = if graphBad x.g c.es = true then 170 else if pairsBad c.es c.ps = true then 180 else 0 := rfl
  rw [← hce]
  refine Ent.ite (fun hc3 => ?_) (fun hc3 => ?_)
  · have : certErr x.g c.es c.ps ≠ 0 := by simpa using hc3
    rw [if_neg (by simp), if_pos this] at h
    refine h.retA rfl (by (repeat (first | exact Subs.tail | exact Subs.nil | refine Subs.cons inferInstance ?_)))
  have : ¬ certErr x.g c.es c.ps ≠ 0 := by simpa using hc3
  rw [if_neg (by simp), if_neg this] at h
  refine Ent.joinB (fault3 x c) (fun k hk => ?_) ?_
  · repeat' (first | exact hk | exact hk _ (by rfl) | ((with_reducible apply Ent.ldA); exact rfl; exact rfl) | ((with_reducible apply Ent.rdA); exact rfl; exact rfl) | ((with_reducible apply Ent.kpA); exact rfl; exact rfl) | ((with_reducible apply Ent.lenA)) | ((with_reducible apply Ent.draw)) | ((with_reducible apply Ent.boxA); exact rfl; intro _) | ((with_reducible apply Ent.alA); intro _) | ((with_reducible apply Ent.stA); exact rfl; exact rfl) | ((with_reducible apply Ent.asP); exact rfl) | ((with_reducible apply Ent.exA); exact rfl) | ((with_reducible apply Ent.eqA); exact rfl; exact rfl) | ((with_reducible apply Ent.neA); exact rfl; exact rfl) | ((with_reducible apply Ent.seA); exact rfl) | ((with_reducible apply Ent.ixN); (first | (exact hx; exact rfl) | (exact hp; exact hpi) | (exact hx2; exact hxi2)); intro hrd) | ((with_reducible apply Ent.or); (focus intro _ k hk)) | ((with_reducible apply Ent.and); (focus intro _ k hk)))
  refine Ent.ite (fun hc4 => ?_) (fun hc4 => ?_)
  · rw [hc4] at h
    refine h.retA rfl (by (repeat (first | exact Subs.tail | exact Subs.nil | refine Subs.cons inferInstance ?_)))
  · rw [hc4] at h
    refine h.retA rfl (by (repeat (first | exact Subs.tail | exact Subs.nil | refine Subs.cons inferInstance ?_)))
def refGood (x : Record) (c : RecC) (id : ID) : Bool × Bool × Bool := match rowOf c.ws id with
  | none => (false, false, false)
  | some i => if faultE x c = 0 then (true, c.es.any (fun e => e.r == (i : Int)), c.ps.any (fun p => p.r == (i : Int))) else (false, false, false)
theorem refGood_spec {Γ : List Asn} {x : Record} {c : RecC} {id : ID} {K : Value → WP} (hr : RecR Γ x c) (h : Ent Γ (K (bool3 (refGood x c id)))) : Ent Γ (callH Try.prog 19 #[x.val, id.val] K) := by
  refine Ent.byS (A := S.ref21_Good _ _ _) S.ref21_Good_ok ?_
  unfold S.ref21_Good
  simp only [toT_V, toT_I, toT_B, toT_A, toT_rV, toT_rI, toT_rB, toT_pV, toT_pI, toT_pB, toT_pA, toT_cI, toT_cB]
  refine Ent.recI hr fun hi => ?_
  obtain ⟨hw, hd, he, hp, hy, hz⟩ := hi
  refine Ent.maxA (P := Try.prog) x.g.edges.val fun hmaxe => ?_
  refine Ent.maxA (P := Try.prog) x.cert.pairs.val fun hmaxp => ?_
  (repeat (first | ((with_reducible apply Ent.ldA); exact rfl; exact rfl) | ((with_reducible apply Ent.rdA); exact rfl; exact rfl) | ((with_reducible apply Ent.kpA); exact rfl; exact rfl) | ((with_reducible apply Ent.lenA)) | ((with_reducible apply Ent.draw)) | ((with_reducible apply Ent.boxA); exact rfl; intro _) | ((with_reducible apply Ent.alA); intro _) | ((with_reducible apply Ent.stA); exact rfl; exact rfl) | ((with_reducible apply Ent.asP); exact rfl) | ((with_reducible apply Ent.exA); exact rfl) | ((with_reducible apply Ent.eqA); exact rfl; exact rfl) | ((with_reducible apply Ent.neA); exact rfl; exact rfl) | ((with_reducible apply Ent.seA); exact rfl) | ((with_reducible apply Ent.ixN); (first | (exact hx; exact rfl) | (exact hp; exact hpi) | (exact hx2; exact hxi2)); intro hrd)))
  rename_i b1 b2
  refine row_spec (ws := c.ws) ?_
  refine Ent.joinB (faultE x c != 0 || decide (rowI c.ws id < 0)) (fun k hk => ?_) ?_
  · (repeat (first | ((with_reducible apply Ent.ldA); exact rfl; exact rfl) | ((with_reducible apply Ent.rdA); exact rfl; exact rfl) | ((with_reducible apply Ent.kpA); exact rfl; exact rfl) | ((with_reducible apply Ent.lenA)) | ((with_reducible apply Ent.draw)) | ((with_reducible apply Ent.boxA); exact rfl; intro _) | ((with_reducible apply Ent.alA); intro _) | ((with_reducible apply Ent.stA); exact rfl; exact rfl) | ((with_reducible apply Ent.asP); exact rfl) | ((with_reducible apply Ent.exA); exact rfl) | ((with_reducible apply Ent.eqA); exact rfl; exact rfl) | ((with_reducible apply Ent.neA); exact rfl; exact rfl) | ((with_reducible apply Ent.seA); exact rfl) | ((with_reducible apply Ent.ixN); (first | (exact hx; exact rfl) | (exact hp; exact hpi) | (exact hx2; exact hxi2)); intro hrd)))
    refine error_spec (c := c) hr.suf ?_
    apply Ent.or
    · intro _ k2 hk2
      exact hk2
    exact hk _ rfl
  refine Ent.ite (fun hc => ?_) (fun hc => ?_)
  · have : refGood x c id = (false, false, false) := by
      unfold refGood
      simp at hc
      cases hrow : rowOf c.ws id with
      | none => rfl
      | some i =>
        simp [rowI, hrow] at hc
        have : ¬ faultE x c = 0 := by omega
        simp [this]
    rw [this] at h
    refine h.to (by (repeat (first | exact Subs.tail | exact Subs.nil | refine Subs.cons inferInstance ?_)))
  obtain ⟨row, hrow, hf⟩ : ∃ row : Nat, rowOf c.ws id = some row ∧ faultE x c = 0 := by
    simp at hc
    cases hrow : rowOf c.ws id with
    | none => simp [rowI, hrow] at hc
    | some i => exact ⟨i, rfl, hc.1⟩
  have hri : rowI c.ws id = (row : Int) := by simp [rowI, hrow]
  have hres : refGood x c id = (true, c.es.any (fun e => e.r == (row : Int)), c.ps.any (fun p => p.r == (row : Int))) := by simp [refGood, hrow, hf]
  rw [hri]
  rw [hres] at h
  refine Ent.loopA (γ := Nat) (fun _ => var Try.prog b2 id :: var Try.prog b1 x :: Γ) (fun i s => s.2 = (i : Int) ∧ i ≤ c.es.length ∧ c.es.any (fun e => e.r == (row : Int)) = (s.1 || (c.es.drop i).any (fun e => e.r == (row : Int)))) (fun i => c.es.length - i) 0 ⟨rfl, Nat.zero_le _, by simp⟩ (by (repeat (first | exact Subs.tail | exact Subs.nil | refine Subs.cons inferInstance ?_))) ?_
  rintro i ⟨s1, s2⟩ kc ⟨hs2, hi, hb⟩ hkc
  dsimp only at hs2 hi hb ⊢
  subst hs2
  (repeat (first | ((with_reducible apply Ent.ldA); exact rfl; exact rfl) | ((with_reducible apply Ent.rdA); exact rfl; exact rfl) | ((with_reducible apply Ent.kpA); exact rfl; exact rfl) | ((with_reducible apply Ent.lenA)) | ((with_reducible apply Ent.draw)) | ((with_reducible apply Ent.boxA); exact rfl; intro _) | ((with_reducible apply Ent.alA); intro _) | ((with_reducible apply Ent.stA); exact rfl; exact rfl) | ((with_reducible apply Ent.asP); exact rfl) | ((with_reducible apply Ent.exA); exact rfl) | ((with_reducible apply Ent.eqA); exact rfl; exact rfl) | ((with_reducible apply Ent.neA); exact rfl; exact rfl) | ((with_reducible apply Ent.seA); exact rfl) | ((with_reducible apply Ent.ixN); (first | (exact hx; exact rfl) | (exact hp; exact hpi) | (exact hx2; exact hxi2)); intro hrd)))
  refine Ent.ite (fun hc => ?_) (fun hc => ?_)
  · have hlt : i < c.es.length := by simpa using hc
    have hx : c.es[i]? = some c.es[i] := List.getElem?_eq_getElem hlt
    have hdr : c.es.drop i = c.es[i] :: c.es.drop (i + 1) := List.drop_eq_getElem_cons hlt
    generalize c.es[i] = q at hx hdr
    refine Ent.joinB (s1 || (q.r == (row : Int))) (fun k hk => ?_) ?_
    · repeat' (first | exact hk | exact hk _ (by rfl) | ((with_reducible apply Ent.ldA); exact rfl; exact rfl) | ((with_reducible apply Ent.rdA); exact rfl; exact rfl) | ((with_reducible apply Ent.kpA); exact rfl; exact rfl) | ((with_reducible apply Ent.lenA)) | ((with_reducible apply Ent.draw)) | ((with_reducible apply Ent.boxA); exact rfl; intro _) | ((with_reducible apply Ent.alA); intro _) | ((with_reducible apply Ent.stA); exact rfl; exact rfl) | ((with_reducible apply Ent.asP); exact rfl) | ((with_reducible apply Ent.exA); exact rfl) | ((with_reducible apply Ent.eqA); exact rfl; exact rfl) | ((with_reducible apply Ent.neA); exact rfl; exact rfl) | ((with_reducible apply Ent.seA); exact rfl) | ((with_reducible apply Ent.ixN); (first | (exact hx; exact rfl) | (exact hp; exact hpi) | (exact hx2; exact hxi2)); intro hrd) | ((with_reducible apply Ent.or); (focus intro _ k hk)) | ((with_reducible apply Ent.and); (focus intro _ k hk)))
    refine hkc (i + 1) _ ⟨wrap_succ hlt hmaxe, hlt, ?_⟩ (by omega) _ (by (repeat (first | exact Subs.tail | exact Subs.nil | refine Subs.cons inferInstance ?_)))
    rw [hb, hdr]; simp [Bool.or_assoc]
  · have hge : i = c.es.length := by simp at hc; omega
    subst hge
    have hb1 : c.es.any (fun e => e.r == (row : Int)) = s1 := by rw [hb]; simp
    rw [hb1] at h
    clear hb hkc hc hi
    refine Ent.loopA (γ := Nat) (fun _ => var Try.prog b2 id :: var Try.prog b1 x :: Γ) (fun i s => s.2 = (i : Int) ∧ i ≤ c.ps.length ∧ c.ps.any (fun e => e.r == (row : Int)) = (s.1 || (c.ps.drop i).any (fun e => e.r == (row : Int)))) (fun i => c.ps.length - i) 0 ⟨rfl, Nat.zero_le _, by simp⟩ (by (repeat (first | exact Subs.tail | exact Subs.nil | refine Subs.cons inferInstance ?_))) ?_
    rintro i ⟨s1, s2⟩ kc ⟨hs2, hi, hb⟩ hkc
    dsimp only at hs2 hi hb ⊢
    subst hs2
    (repeat (first | ((with_reducible apply Ent.ldA); exact rfl; exact rfl) | ((with_reducible apply Ent.rdA); exact rfl; exact rfl) | ((with_reducible apply Ent.kpA); exact rfl; exact rfl) | ((with_reducible apply Ent.lenA)) | ((with_reducible apply Ent.draw)) | ((with_reducible apply Ent.boxA); exact rfl; intro _) | ((with_reducible apply Ent.alA); intro _) | ((with_reducible apply Ent.stA); exact rfl; exact rfl) | ((with_reducible apply Ent.asP); exact rfl) | ((with_reducible apply Ent.exA); exact rfl) | ((with_reducible apply Ent.eqA); exact rfl; exact rfl) | ((with_reducible apply Ent.neA); exact rfl; exact rfl) | ((with_reducible apply Ent.seA); exact rfl) | ((with_reducible apply Ent.ixN); (first | (exact hx; exact rfl) | (exact hp; exact hpi) | (exact hx2; exact hxi2)); intro hrd)))
    refine Ent.ite (fun hc => ?_) (fun hc => ?_)
    · have hlt : i < c.ps.length := by simpa using hc
      have hx : c.ps[i]? = some c.ps[i] := List.getElem?_eq_getElem hlt
      have hdr : c.ps.drop i = c.ps[i] :: c.ps.drop (i + 1) := List.drop_eq_getElem_cons hlt
      generalize c.ps[i] = q at hx hdr
      refine Ent.joinB (s1 || (q.r == (row : Int))) (fun k hk => ?_) ?_
      · repeat' (first | exact hk | exact hk _ (by rfl) | ((with_reducible apply Ent.ldA); exact rfl; exact rfl) | ((with_reducible apply Ent.rdA); exact rfl; exact rfl) | ((with_reducible apply Ent.kpA); exact rfl; exact rfl) | ((with_reducible apply Ent.lenA)) | ((with_reducible apply Ent.draw)) | ((with_reducible apply Ent.boxA); exact rfl; intro _) | ((with_reducible apply Ent.alA); intro _) | ((with_reducible apply Ent.stA); exact rfl; exact rfl) | ((with_reducible apply Ent.asP); exact rfl) | ((with_reducible apply Ent.exA); exact rfl) | ((with_reducible apply Ent.eqA); exact rfl; exact rfl) | ((with_reducible apply Ent.neA); exact rfl; exact rfl) | ((with_reducible apply Ent.seA); exact rfl) | ((with_reducible apply Ent.ixN); (first | (exact hx; exact rfl) | (exact hp; exact hpi) | (exact hx2; exact hxi2)); intro hrd) | ((with_reducible apply Ent.or); (focus intro _ k hk)) | ((with_reducible apply Ent.and); (focus intro _ k hk)))
      refine hkc (i + 1) _ ⟨wrap_succ hlt hmaxp, hlt, ?_⟩ (by omega) _ (by (repeat (first | exact Subs.tail | exact Subs.nil | refine Subs.cons inferInstance ?_)))
      rw [hb, hdr]; simp [Bool.or_assoc]
    · have hge : i = c.ps.length := by simp at hc; omega
      subst hge
      have hb2 : c.ps.any (fun e => e.r == (row : Int)) = s1 := by rw [hb]; simp
      rw [hb2] at h
      refine h.to (by (repeat (first | exact Subs.tail | exact Subs.nil | refine Subs.cons inferInstance ?_)))
end Go.Cab
