/- The law FairStarves, as a call. -/
import Derived.Test.YtkjcjlcimgcfcaaStarve2
import Derived.Test.YtkjcjlcimgcfcaaRefSee
import Derived.Test.YtkjcjlcimgcfcaaAlive
import Derived.Test.YtkjcjlcimgcfcaaRecs
namespace Go.Cab
set_option linter.unusedSimpArgs false
set_option linter.unusedVariables false
set_option linter.unusedSectionVars false
open Go Go.Proofs
variable [Milieu]
def tfind (l : Times) (x : ID) : Option Int := (l.find? fun p => decide (p.1 = x)).map (·.2)
theorem tfind_tset (l : Times) (x y : ID) (n : Int) : tfind (tset l x n) y = if x = y then some n else tfind l y := by
  induction l with
  | nil => by_cases h : x = y <;> simp [tset, tfind, h]
  | cons p r ih =>
    by_cases h : p.1 = x
    · subst h
      by_cases h2 : p.1 = y <;> simp [tset, tfind, h2]
    · by_cases h2 : p.1 = y
      · subst h2
        have h3 : ¬ x = p.1 := fun e => h e.symm
        simp [tset, tfind, h, h3]
      · unfold tfind at ih ⊢
        simp only [tset, h, if_false, List.find?_cons, h2, decide_false]
        exact ih
theorem tv_find (l : Times) (x : ID) : (tv l).get x = (tfind l x).map (Value.int .i64) := by
  induction l with
  | nil => rfl
  | cons p r ih =>
    unfold tv AL.get tfind at *
    simp only [List.map_cons, List.find?_cons]
    by_cases h : p.1 = x
    · simp [h]
    · simpa [h] using ih
theorem hlk2 {Γ Δ : List Asn} {met : Nat} {mt : Times} (hh : Has (MapA ID.val) met Γ (tv mt) Δ) (id : ID) : Runs Try.prog Γ (Instr.lookup 62 (.map (some met)) id.val true) (.tuple #[.int .i64 ((tfind mt id).getD 0), .bool (tfind mt id).isSome]) := by
  have h := Runs.lookupOk (P := Try.prog) (x := id) (enc := ID.val) (K := 28) (E := 3) Try.underlying62 Try.zeroValue3 (MapAt.of hh)
  rw [tv_find] at h
  cases hf : tfind mt id <;> simpa [hf] using h
theorem Hist.snoc {L : List (Record × RecC)} {x : Record} {c : RecC} (h : Hist L) (ho : RecOK x c) (hl : ∀ r, L.getLast? = some r → r.1.tick < x.tick ∧ FolP r.1 r.2 c) (hs : ∀ r ∈ L, ∀ w ∈ r.2.ws, ∀ v ∈ c.ws, w.id = v.id → w.since = v.since) : Hist (L ++ [(x, c)]) := by
  have hat : ∀ (a : Nat) r, (L ++ [(x, c)])[a]? = some r → L[a]? = some r ∨ (a = L.length ∧ r = (x, c)) := fun a r ha => by
    rcases Nat.lt_or_ge a L.length with h1 | h1
    · rw [List.getElem?_append_left h1] at ha; exact .inl ha
    · have h2 : a = L.length := by have := (List.getElem?_eq_some_iff.1 ha).1; simp at this; omega
      subst h2; simp at ha; exact .inr ⟨rfl, ha.symm⟩
  have hnd := (dupB_nodup _ _ ho.d).1
  have hself : ∀ v ∈ c.ws, ∀ v' ∈ c.ws, v.id = v'.id → v.since = v'.since := fun v hv v' hv' he => by
    obtain ⟨i, hi⟩ := List.getElem?_of_mem hv
    obtain ⟨j, hj⟩ := List.getElem?_of_mem hv'
    have e1 := rowOf_nodup hnd hi
    have e2 := rowOf_nodup hnd hj
    rw [he, e2] at e1
    cases e1
    rw [hi] at hj; cases hj; rfl
  refine ⟨fun a r ha => ?_, fun a r r' ha hb => ?_, fun a r r' ha hb => ?_, fun a b r r' w w' ha hb hw hw' he => ?_⟩
  · rcases hat a r ha with h1 | ⟨_, rfl⟩
    · exact h.ok a r h1
    · exact ho
  · rcases hat _ r' hb with h1 | ⟨h1, rfl⟩
    · rcases hat a r ha with h2 | ⟨h2, _⟩
      · exact h.tick a r r' h2 h1
      · have := (List.getElem?_eq_some_iff.1 h1).1; omega
    · rcases hat a r ha with h2 | ⟨h2, _⟩
      · exact (hl r (by rw [List.getLast?_eq_getElem?, ← h1]; exact h2)).1
      · omega
  · rcases hat _ r' hb with h1 | ⟨h1, rfl⟩
    · rcases hat a r ha with h2 | ⟨h2, _⟩
      · exact h.fol a r r' h2 h1
      · have := (List.getElem?_eq_some_iff.1 h1).1; omega
    · rcases hat a r ha with h2 | ⟨h2, _⟩
      · exact (hl r (by rw [List.getLast?_eq_getElem?, ← h1]; exact h2)).2
      · omega
  · rcases hat a r ha with h1 | ⟨_, rfl⟩ <;> rcases hat b r' hb with h2 | ⟨_, rfl⟩
    · exact h.same a b r r' w w' h1 h2 hw hw' he
    · exact hs r (List.mem_of_getElem? h1) w hw w' hw' he
    · exact (hs r' (List.mem_of_getElem? h2) w' hw' w hw he.symm).symm
    · exact hself w hw w' hw' he
theorem refE_see {rs : List Record} {s : WS} {x : Record} {c : RecC} (ht : s.tick = lastTick rs) : refE rs x c = seeE s x c := by
  simp only [refE, seeE, ht]
structure StP (L : List (Record × RecC)) (s : WS) (rs : List Record) (sm : Times) (most : Int) : Prop where
  hist : Hist L
  num : NumOK s.times s.worst
  le : s.worst ≤ L.length
  tick : s.tick = lastTick rs
  rs : rs = L.map (·.1)
  cnt : ∀ id, tget s.times id ≤ (passN L id : Int)
  some_ : s.worst = 0 ∨ ∃ id, s.worst ≤ tget s.times id
  most : ∀ r ∈ L, (r.2.ws.length : Int) ≤ most
  since : ∀ r ∈ L, ∀ w ∈ r.2.ws, tfind sm w.id = some w.since
theorem lastTick_map {L : List (Record × RecC)} {r : Record × RecC} (h : L.getLast? = some r) : lastTick (L.map (·.1)) = r.1.tick := by
  simp [lastTick, List.getLast?_map, h]
theorem st_next {L : List (Record × RecC)} {s : WS} {rs : List Record} {sm sm' : Times} {most most' : Int} {x : Record} {c : RecC} (h : StP L s rs sm most) (hE : refE rs x c = 0) (ho : OrdP x c) (hfol : ∀ r, L.getLast? = some r → FolP r.1 r.2 c)
    (hsm : ∀ r ∈ L, ∀ w ∈ r.2.ws, tfind sm' w.id = some w.since) (hsm2 : ∀ w ∈ c.ws, tfind sm' w.id = some w.since) (hm : most ≤ most') (hm2 : (c.ws.length : Int) ≤ most') : StP (L ++ [(x, c)]) (seeS s x c) (rs ++ [x]) sm' most' := by
  have hsE : seeE s x c = 0 := by rw [← refE_see h.tick]; exact hE
  obtain ⟨hf, hd, _, htw, htk, htlt⟩ := seeS_ok hsE
  have hn := (dupB_nodup _ _ hd).1
  have h1 := congrArg Prod.fst htw
  have h2 := congrArg Prod.snd htw
  dsimp only at h1 h2
  have hb := bump_few h.num.le c.ws (goods x c) (mates x c) s.times s.worst hn (fun _ _ => rfl) (fun id => by omega) (by omega)
  refine ⟨h.hist.snoc ⟨hf, hd, ho⟩ (fun r hr => ⟨?_, hfol r hr⟩) (fun r hr w hw v hv he => ?_), ?_, ?_, ?_, ?_, fun id => ?_, ?_, fun r hr => ?_, fun r hr w hw => ?_⟩
  · rw [h.tick, h.rs, lastTick_map hr] at htlt; exact htlt
  · have e1 := hsm r hr w hw
    have e2 := hsm2 v hv
    rw [he, e2] at e1
    exact (Option.some.inj e1).symm
  · rw [h1, h2]; exact bump_ok _ _ _ _ _ h.num
  · rw [h2]; have := h.le; simp; omega
  · rw [htk]; simp [lastTick]
  · rw [h.rs]; simp
  · rw [h1]
    have h3 := bump_passes hf hn s.times s.worst id
    have h4 := h.cnt id
    have h5 : passN (L ++ [(x, c)]) id = passN L id + (if passes x c id = true then 1 else 0) := by
      unfold passN
      rw [List.filter_append, List.length_append, List.filter_cons]
      split <;> simp
    rw [h5]
    cases hps : passes x c id <;> simp [hps] at h3 ⊢ <;> omega
  · rw [h1, h2]; exact bump_some _ _ _ _ _ h.some_
  · rcases List.mem_append.1 hr with hr | hr
    · have := h.most r hr; omega
    · simp at hr; subst hr; exact hm2
  · rcases List.mem_append.1 hr with hr | hr
    · exact hsm r hr w hw
    · simp at hr; subst hr; exact hsm2 w hw
abbrev stCtx (b m m2 p3 : Nat) (sv sv2 : SV) (s : WS) (rs : List Record) (sm : Times) (Γ : List Asn) : List Asn := watch b m sv s (rwatch p3 sv2 rs (ab (MapA ID.val) m2 (tv sm) :: Γ))
theorem zip_at {xs : List Record} {cs : List RecC} {i : Nat} {x : Record} {c : RecC} (hx : xs[i]? = some x) (hc : cs[i]? = some c) : (xs.zip cs)[i]? = some (x, c) := by
  rw [List.getElem?_zip_eq_some]; exact ⟨hx, hc⟩
set_option maxHeartbeats 1000000 in
theorem fairStarves_spec {Γ : List Asn} {v : Value} {xs : List Record} {cs : List RecC} {K : Value → WP} [Sl Try.prog Γ v Record enc_46 xs] (hr : RecsR Γ xs cs) (hF : ∀ c ∈ cs, Fin64 c.ys) (h : Ent Γ (K (.bool true))) : Ent Γ (callH Try.prog 7 #[v] K) := by
  refine Ent.byS (A := S.law21_FairStarves _ _) S.law21_FairStarves_ok ?_
  unfold S.law21_FairStarves
  simp only [toT_V, toT_I, toT_B, toT_A, toT_rV, toT_rI, toT_rB, toT_pV, toT_pI, toT_pB, toT_pA, toT_cI, toT_cB]
  refine Ent.slhA (P := Try.prog) (v := v) fun hv => ?_
  refine Ent.maxA (P := Try.prog) v fun hmax => ?_
  have hmx : maxLen = 9223372036854775807 := rfl
  refine new_spec fun b m => ?_
  refine Ent.pure (x := (⟨⟨none, 0, 0⟩⟩ : RWatch).val) (fun w => run_build w _ _ _ (by kernel_rfl)) ?_
  apply Ent.boxA (x := (⟨⟨none, 0, 0⟩⟩ : RWatch)) rfl
  intro p3
  refine Ent.pure (x := false) (fun w => run_ptr_eql _ _ _ w) ?_
  refine Ent.iteF rfl ?_
  (repeat (first | ((with_reducible apply Ent.ldA); exact rfl; exact rfl) | ((with_reducible apply Ent.rdA); exact rfl; exact rfl) | ((with_reducible apply Ent.kpA); exact rfl; exact rfl) | ((with_reducible apply Ent.lenA)) | ((with_reducible apply Ent.draw)) | ((with_reducible apply Ent.boxA); exact rfl; intro _) | ((with_reducible apply Ent.alA); intro _) | ((with_reducible apply Ent.stA); exact rfl; exact rfl) | ((with_reducible apply Ent.asP); exact rfl) | ((with_reducible apply Ent.exA); exact rfl) | ((with_reducible apply Ent.eqA); exact rfl; exact rfl) | ((with_reducible apply Ent.neA); exact rfl; exact rfl) | ((with_reducible apply Ent.seA); exact rfl) | ((with_reducible apply Ent.ixN); (first | (exact hx; exact rfl) | (exact hp; exact hpi) | (exact hx2; exact hxi2)); intro hrd)))
  refine Ent.ite (fun hc => h.to (by (repeat (first | exact Subs.tail | exact Subs.nil | refine Subs.cons inferInstance ?_)))) (fun hc => ?_)
  have h200 : xs.length ≤ 200 := by simp at hc; omega
  refine Ent.makeMap fun m2 => ?_
  refine Ent.newMap ?_
  refine Ent.nilS (P := Try.prog) (E := enc_28) ?_
  refine Ent.nilS (P := Try.prog) (E := enc_46) ?_
  have hlz : (xs.zip cs).length = xs.length := by rw [List.length_zip, hr.1]; omega
  refine Ent.loopA (γ := Nat × SV × SV × WS × List Record × Times) (fun γ => stCtx b m m2 p3 γ.2.1 γ.2.2.1 γ.2.2.2.1 γ.2.2.2.2.1 γ.2.2.2.2.2 Γ) (fun γ s => s.2.2 = (γ.1 : Int) ∧ γ.1 ≤ xs.length ∧ StP ((xs.zip cs).take γ.1) γ.2.2.2.1 γ.2.2.2.2.1 γ.2.2.2.2.2 s.2.1) (fun γ => xs.length - γ.1) (0, ⟨none, 0, 0⟩, ⟨none, 0, 0⟩, ⟨[], 0, 0, []⟩, [], []) ⟨rfl, Nat.zero_le _, ⟨⟨by simp, by simp, by simp, by simp⟩, ⟨fun id => by simp [tget], fun id => by simp [tget]⟩, by simp, rfl, rfl, fun id => by simp [tget, passN], .inl rfl, by simp, by simp⟩⟩ (by (repeat (first | exact Subs.tail | exact Subs.nil | refine Subs.cons inferInstance ?_))) ?_
  rintro ⟨i, sv, sv2, s, rs, sm⟩ ⟨s1, most, s3⟩ kc ⟨hs3, hi, hP⟩ hkc
  dsimp only at hs3 hi hP ⊢
  subst hs3
  have hLl : ((xs.zip cs).take i).length = i := by rw [List.length_take]; omega
  (repeat (first | ((with_reducible apply Ent.ldA); exact rfl; exact rfl) | ((with_reducible apply Ent.rdA); exact rfl; exact rfl) | ((with_reducible apply Ent.kpA); exact rfl; exact rfl) | ((with_reducible apply Ent.lenA)) | ((with_reducible apply Ent.draw)) | ((with_reducible apply Ent.boxA); exact rfl; intro _) | ((with_reducible apply Ent.alA); intro _) | ((with_reducible apply Ent.stA); exact rfl; exact rfl) | ((with_reducible apply Ent.asP); exact rfl) | ((with_reducible apply Ent.exA); exact rfl) | ((with_reducible apply Ent.eqA); exact rfl; exact rfl) | ((with_reducible apply Ent.neA); exact rfl; exact rfl) | ((with_reducible apply Ent.seA); exact rfl) | ((with_reducible apply Ent.ixN); (first | (exact hx; exact rfl) | (exact hp; exact hpi) | (exact hx2; exact hxi2)); intro hrd)))
  refine Ent.ite (fun hc1 => ?_) (fun hc1 => ?_)
  · have hlt : i < xs.length := by simpa using hc1
    obtain ⟨x, hx⟩ : ∃ x, xs[i]? = some x := ⟨_, List.getElem?_eq_getElem hlt⟩
    obtain ⟨c, hc0⟩ : ∃ c, cs[i]? = some c := ⟨_, List.getElem?_eq_getElem (by rw [← hr.1]; exact hlt)⟩
    obtain ⟨hrc, hfit⟩ := hr.2 i x c hx hc0
    have hFc := hF c (List.mem_of_getElem? hc0)
    obtain ⟨hw, hd, he, hp, hy, hz⟩ := RecI.of hrc
    refine Ent.maxA (P := Try.prog) x.waiting.val fun hmaxw => ?_
    have htk : (xs.zip cs).take (i + 1) = (xs.zip cs).take i ++ [(x, c)] := by rw [List.take_add_one, zip_at hx hc0]; rfl
    (repeat (first | ((with_reducible apply Ent.ldA); exact rfl; exact rfl) | ((with_reducible apply Ent.rdA); exact rfl; exact rfl) | ((with_reducible apply Ent.kpA); exact rfl; exact rfl) | ((with_reducible apply Ent.lenA)) | ((with_reducible apply Ent.draw)) | ((with_reducible apply Ent.boxA); exact rfl; intro _) | ((with_reducible apply Ent.alA); intro _) | ((with_reducible apply Ent.stA); exact rfl; exact rfl) | ((with_reducible apply Ent.asP); exact rfl) | ((with_reducible apply Ent.exA); exact rfl) | ((with_reducible apply Ent.eqA); exact rfl; exact rfl) | ((with_reducible apply Ent.neA); exact rfl; exact rfl) | ((with_reducible apply Ent.seA); exact rfl) | ((with_reducible apply Ent.ixN); (first | (exact hx; exact rfl) | (exact hp; exact hpi) | (exact hx2; exact hxi2)); intro hrd)))
    rename_i p12
    refine Ent.joinA (γ := SV) (fun sv3 => var Try.prog p12 x :: stCtx b m m2 p3 sv sv3 s (refS rs x c) sm Γ) (fun _ y => y = false → refE rs x c = 0 ∧ OrdP x c ∧ ∀ r, ((xs.zip cs).take i).getLast? = some r → FolP r.1 r.2 c) (fun k hk => ?_) ?_
    · (repeat (first | ((with_reducible apply Ent.ldA); exact rfl; exact rfl) | ((with_reducible apply Ent.rdA); exact rfl; exact rfl) | ((with_reducible apply Ent.kpA); exact rfl; exact rfl) | ((with_reducible apply Ent.lenA)) | ((with_reducible apply Ent.draw)) | ((with_reducible apply Ent.boxA); exact rfl; intro _) | ((with_reducible apply Ent.alA); intro _) | ((with_reducible apply Ent.stA); exact rfl; exact rfl) | ((with_reducible apply Ent.asP); exact rfl) | ((with_reducible apply Ent.exA); exact rfl) | ((with_reducible apply Ent.eqA); exact rfl; exact rfl) | ((with_reducible apply Ent.neA); exact rfl; exact rfl) | ((with_reducible apply Ent.seA); exact rfl) | ((with_reducible apply Ent.ixN); (first | (exact hx; exact rfl) | (exact hp; exact hpi) | (exact hx2; exact hxi2)); intro hrd)))
      refine Ent.to (Δ := rwatch p3 sv2 rs (var Try.prog p12 x :: watch b m sv s (ab (MapA ID.val) m2 (tv sm) :: Γ))) ?_ (by (repeat (first | exact Subs.tail | exact Subs.nil | refine Subs.cons inferInstance ?_)))
      refine refSee_spec (c := c) hrc.suf (by rw [hP.rs]; simp; omega) fun sv3 => ?_
      refine Ent.orD (fun hc2 => ?_) (fun hc2 => ?_)
      · refine Ent.orD (fun _ => ?_) (fun hcc => by cases hcc)
        exact hk sv3 _ (fun h0 => by cases h0) _ (by (repeat (first | exact Subs.tail | exact Subs.nil | refine Subs.cons inferInstance ?_)))
      · (repeat (first | ((with_reducible apply Ent.ldA); exact rfl; exact rfl) | ((with_reducible apply Ent.rdA); exact rfl; exact rfl) | ((with_reducible apply Ent.kpA); exact rfl; exact rfl) | ((with_reducible apply Ent.lenA)) | ((with_reducible apply Ent.draw)) | ((with_reducible apply Ent.boxA); exact rfl; intro _) | ((with_reducible apply Ent.alA); intro _) | ((with_reducible apply Ent.stA); exact rfl; exact rfl) | ((with_reducible apply Ent.asP); exact rfl) | ((with_reducible apply Ent.exA); exact rfl) | ((with_reducible apply Ent.eqA); exact rfl; exact rfl) | ((with_reducible apply Ent.neA); exact rfl; exact rfl) | ((with_reducible apply Ent.seA); exact rfl) | ((with_reducible apply Ent.ixN); (first | (exact hx; exact rfl) | (exact hp; exact hpi) | (exact hx2; exact hxi2)); intro hrd)))
        refine ordered_spec (c := c) hrc.suf hFc fun bo hbo => ?_
        refine Ent.orD (fun hc3 => hk sv3 _ (fun h0 => by cases h0) _ (by (repeat (first | exact Subs.tail | exact Subs.nil | refine Subs.cons inferInstance ?_)))) (fun hc3 => ?_)
        have hord := hbo (by simpa using hc3)
        have hE : refE rs x c = 0 := by simpa using hc2
        refine Ent.andD (fun hc4 => ?_) (fun hc4 => ?_)
        · have hi0 : 0 < i := by simpa using hc4
          obtain ⟨x0, hx0⟩ : ∃ x0, xs[i - 1]? = some x0 := ⟨_, List.getElem?_eq_getElem (by omega)⟩
          obtain ⟨c0, hc00⟩ : ∃ c0, cs[i - 1]? = some c0 := ⟨_, List.getElem?_eq_getElem (by have := hr.1; omega)⟩
          have hpi := wrap_pred hi0 hi hmax
          have hp := hx0
          (repeat (first | ((with_reducible apply Ent.ldA); exact rfl; exact rfl) | ((with_reducible apply Ent.rdA); exact rfl; exact rfl) | ((with_reducible apply Ent.kpA); exact rfl; exact rfl) | ((with_reducible apply Ent.lenA)) | ((with_reducible apply Ent.draw)) | ((with_reducible apply Ent.boxA); exact rfl; intro _) | ((with_reducible apply Ent.alA); intro _) | ((with_reducible apply Ent.stA); exact rfl; exact rfl) | ((with_reducible apply Ent.asP); exact rfl) | ((with_reducible apply Ent.exA); exact rfl) | ((with_reducible apply Ent.eqA); exact rfl; exact rfl) | ((with_reducible apply Ent.neA); exact rfl; exact rfl) | ((with_reducible apply Ent.seA); exact rfl) | ((with_reducible apply Ent.ixN); (first | (exact hx; exact rfl) | (exact hp; exact hpi) | (exact hx2; exact hxi2)); intro hrd)))
          refine follows_spec (c0 := c0) (c := c) (hr.2 _ _ _ hx0 hc00).1.suf hrc.suf fun bf hbf => ?_
          refine hk sv3 _ (fun h0 => ⟨hE, hord, fun r hrl => ?_⟩) _ (by (repeat (first | exact Subs.tail | exact Subs.nil | refine Subs.cons inferInstance ?_)))
          have hz0 := zip_at hx0 hc00
          rw [List.getLast?_eq_getElem?, hLl, List.getElem?_take_of_lt (by omega), hz0] at hrl
          cases hrl
          exact hbf (by simpa using h0)
        · refine hk sv3 _ (fun h0 => ⟨hE, hord, fun r hrl => ?_⟩) _ (by (repeat (first | exact Subs.tail | exact Subs.nil | refine Subs.cons inferInstance ?_)))
          have hi0 : i = 0 := by simp at hc4; omega
          subst hi0; simp at hrl
    · rintro sv3 y hyy
      refine Ent.ite (fun hc2 => ?_) (fun hc2 => ?_)
      · refine alive_spec ?_
        exact h.to (by (repeat (first | exact Subs.tail | exact Subs.nil | refine Subs.cons inferInstance ?_)))
      obtain ⟨hE, hord, hfol⟩ := hyy hc2
      have hrefS : refS rs x c = rs ++ [x] := by simp [refS, hE]
      rw [hrefS]
      refine Ent.loopA (γ := Nat × Times) (fun γ => ab (MapA ID.val) m2 (tv γ.2) :: var Try.prog p12 x :: watch b m sv s (rwatch p3 sv3 (rs ++ [x]) Γ)) (fun γ r => r.2 = (γ.1 : Int) ∧ γ.1 ≤ c.ws.length ∧ (∀ r ∈ (xs.zip cs).take i, ∀ w ∈ r.2.ws, tfind γ.2 w.id = some w.since) ∧ ∀ (a : Nat) (w : Waiting), a < γ.1 → c.ws[a]? = some w → tfind γ.2 w.id = some w.since) (fun γ => c.ws.length - γ.1) (0, sm) ⟨rfl, Nat.zero_le _, hP.since, fun a w ha => by omega⟩ (by (repeat (first | exact Subs.tail | exact Subs.nil | refine Subs.cons inferInstance ?_))) ?_
      rintro ⟨j, t⟩ ⟨r1, r2⟩ kc2 ⟨hr2, hj, hold, hnew⟩ hkc2
      dsimp only at hr2 hj hold hnew ⊢
      subst hr2
      (repeat (first | ((with_reducible apply Ent.ldA); exact rfl; exact rfl) | ((with_reducible apply Ent.rdA); exact rfl; exact rfl) | ((with_reducible apply Ent.kpA); exact rfl; exact rfl) | ((with_reducible apply Ent.lenA)) | ((with_reducible apply Ent.draw)) | ((with_reducible apply Ent.boxA); exact rfl; intro _) | ((with_reducible apply Ent.alA); intro _) | ((with_reducible apply Ent.stA); exact rfl; exact rfl) | ((with_reducible apply Ent.asP); exact rfl) | ((with_reducible apply Ent.exA); exact rfl) | ((with_reducible apply Ent.eqA); exact rfl; exact rfl) | ((with_reducible apply Ent.neA); exact rfl; exact rfl) | ((with_reducible apply Ent.seA); exact rfl) | ((with_reducible apply Ent.ixN); (first | (exact hx; exact rfl) | (exact hp; exact hpi) | (exact hx2; exact hxi2)); intro hrd)))
      refine Ent.ite (fun hc3 => ?_) (fun hc3 => ?_)
      · have hjlt : j < c.ws.length := by simpa using hc3
        have hx2 : c.ws[j]? = some c.ws[j] := List.getElem?_eq_getElem hjlt
        have hxi2 : (j : Int) = ((j : Nat) : Int) := rfl
        generalize c.ws[j] = q at hx2
        (repeat (first | ((with_reducible apply Ent.ldA); exact rfl; exact rfl) | ((with_reducible apply Ent.rdA); exact rfl; exact rfl) | ((with_reducible apply Ent.kpA); exact rfl; exact rfl) | ((with_reducible apply Ent.lenA)) | ((with_reducible apply Ent.draw)) | ((with_reducible apply Ent.boxA); exact rfl; intro _) | ((with_reducible apply Ent.alA); intro _) | ((with_reducible apply Ent.stA); exact rfl; exact rfl) | ((with_reducible apply Ent.asP); exact rfl) | ((with_reducible apply Ent.exA); exact rfl) | ((with_reducible apply Ent.eqA); exact rfl; exact rfl) | ((with_reducible apply Ent.neA); exact rfl; exact rfl) | ((with_reducible apply Ent.seA); exact rfl) | ((with_reducible apply Ent.ixN); (first | (exact hx; exact rfl) | (exact hp; exact hpi) | (exact hx2; exact hxi2)); intro hrd)))
        refine Ent.sem (hlk2 (met := m2) (mt := t) Has.here q.id) ?_
        (repeat (first | ((with_reducible apply Ent.ldA); exact rfl; exact rfl) | ((with_reducible apply Ent.rdA); exact rfl; exact rfl) | ((with_reducible apply Ent.kpA); exact rfl; exact rfl) | ((with_reducible apply Ent.lenA)) | ((with_reducible apply Ent.draw)) | ((with_reducible apply Ent.boxA); exact rfl; intro _) | ((with_reducible apply Ent.alA); intro _) | ((with_reducible apply Ent.stA); exact rfl; exact rfl) | ((with_reducible apply Ent.asP); exact rfl) | ((with_reducible apply Ent.exA); exact rfl) | ((with_reducible apply Ent.eqA); exact rfl; exact rfl) | ((with_reducible apply Ent.neA); exact rfl; exact rfl) | ((with_reducible apply Ent.seA); exact rfl) | ((with_reducible apply Ent.ixN); (first | (exact hx; exact rfl) | (exact hp; exact hpi) | (exact hx2; exact hxi2)); intro hrd)))
        refine Ent.joinB ((tfind t q.id).isSome && ((tfind t q.id).getD 0 != q.since)) (fun k hk => ?_) ?_
        · repeat' (first | exact hk | exact hk _ (by rfl) | ((with_reducible apply Ent.ldA); exact rfl; exact rfl) | ((with_reducible apply Ent.rdA); exact rfl; exact rfl) | ((with_reducible apply Ent.kpA); exact rfl; exact rfl) | ((with_reducible apply Ent.lenA)) | ((with_reducible apply Ent.draw)) | ((with_reducible apply Ent.boxA); exact rfl; intro _) | ((with_reducible apply Ent.alA); intro _) | ((with_reducible apply Ent.stA); exact rfl; exact rfl) | ((with_reducible apply Ent.asP); exact rfl) | ((with_reducible apply Ent.exA); exact rfl) | ((with_reducible apply Ent.eqA); exact rfl; exact rfl) | ((with_reducible apply Ent.neA); exact rfl; exact rfl) | ((with_reducible apply Ent.seA); exact rfl) | ((with_reducible apply Ent.ixN); (first | (exact hx; exact rfl) | (exact hp; exact hpi) | (exact hx2; exact hxi2)); intro hrd) | ((with_reducible apply Ent.or); (focus intro _ k hk)) | ((with_reducible apply Ent.and); (focus intro _ k hk)))
        refine Ent.ite (fun hc4 => ?_) (fun hc4 => ?_)
        · refine alive_spec ?_
          exact h.to (by (repeat (first | exact Subs.tail | exact Subs.nil | refine Subs.cons inferInstance ?_)))
        have hkeep : ∀ w : Waiting, tfind t w.id = some w.since → tfind (tset t q.id q.since) w.id = some w.since := fun w hw => by
          rw [tfind_tset]
          split
          · rename_i he
            rw [← he] at hw
            rw [hw] at hc4
            simp at hc4
            rw [hc4]
          · exact hw
        (repeat (first | ((with_reducible apply Ent.ldA); exact rfl; exact rfl) | ((with_reducible apply Ent.rdA); exact rfl; exact rfl) | ((with_reducible apply Ent.kpA); exact rfl; exact rfl) | ((with_reducible apply Ent.lenA)) | ((with_reducible apply Ent.draw)) | ((with_reducible apply Ent.boxA); exact rfl; intro _) | ((with_reducible apply Ent.alA); intro _) | ((with_reducible apply Ent.stA); exact rfl; exact rfl) | ((with_reducible apply Ent.asP); exact rfl) | ((with_reducible apply Ent.exA); exact rfl) | ((with_reducible apply Ent.eqA); exact rfl; exact rfl) | ((with_reducible apply Ent.neA); exact rfl; exact rfl) | ((with_reducible apply Ent.seA); exact rfl) | ((with_reducible apply Ent.ixN); (first | (exact hx; exact rfl) | (exact hp; exact hpi) | (exact hx2; exact hxi2)); intro hrd)))
        refine Ent.mapUpdate (enc := ID.val) (K := 28) (E := 3) (x := q.id) Try.underlying62 Has.here ?_
        rw [tv_set]
        refine hkc2 (j + 1, _) _ ⟨wrap_succ hjlt hmaxw, hjlt, fun r hr w hw => hkeep w (hold r hr w hw), fun a w ha haw => ?_⟩ (by dsimp only; omega) _ (by (repeat (first | exact Subs.tail | exact Subs.nil | refine Subs.cons inferInstance ?_)))
        rcases Nat.lt_or_ge a j with ha' | ha'
        · exact hkeep w (hnew a w ha' haw)
        · have : a = j := by dsimp only at ha; omega
          subst this
          rw [hx2] at haw; cases haw
          dsimp only
          rw [tfind_tset, if_pos rfl]
      · have hge : j = c.ws.length := by simp at hc3; omega
        subst hge
        have hnew2 : ∀ w ∈ c.ws, tfind t w.id = some w.since := fun w hw => by
          obtain ⟨a, ha⟩ := List.getElem?_of_mem hw
          exact hnew a w (List.getElem?_eq_some_iff.1 ha).1 ha
        have hrest : ∀ most' : Int, most ≤ most' → (c.ws.length : Int) ≤ most' → Ent (ab (MapA ID.val) m2 (tv t) :: var Try.prog p12 x :: watch b m sv s (rwatch p3 sv3 (rs ++ [x]) Γ)) (callT Try.prog (inI .i64) 22 #[.pointer (some ⟨b, 0, none⟩), Enc.val Try.prog x] fun x73 => iteH (x73 != 0) (K (.bool false)) (kc (r1, most', IntKind.i64.wrap ((i : Int) + 1)))) := fun most' hm1 hm2 => by
          have hle := hP.le
          rw [hLl] at hle
          refine Ent.to (Δ := watch b m sv s (ab (MapA ID.val) m2 (tv t) :: var Try.prog p12 x :: rwatch p3 sv3 (rs ++ [x]) Γ)) ?_ (by (repeat (first | exact Subs.tail | exact Subs.nil | refine Subs.cons inferInstance ?_)))
          refine see_spec (c := c) (B := s.worst) hrc.suf (fun id => ⟨hP.num.pos id, hP.num.le id⟩) (by omega) fun sv' => ?_
          have hs0 : seeE s x c = 0 := by rw [← refE_see hP.tick]; exact hE
          rw [hs0]
          refine Ent.iteF rfl ?_
          refine hkc (i + 1, sv', sv3, seeS s x c, rs ++ [x], t) _ ⟨wrap_succ hlt hmax, hlt, ?_⟩ (by dsimp only; omega) _ (by (repeat (first | exact Subs.tail | exact Subs.nil | refine Subs.cons inferInstance ?_)))
          dsimp only
          rw [htk]
          exact st_next hP hE hord hfol hold hnew2 hm1 hm2
        (repeat (first | ((with_reducible apply Ent.ldA); exact rfl; exact rfl) | ((with_reducible apply Ent.rdA); exact rfl; exact rfl) | ((with_reducible apply Ent.kpA); exact rfl; exact rfl) | ((with_reducible apply Ent.lenA)) | ((with_reducible apply Ent.draw)) | ((with_reducible apply Ent.boxA); exact rfl; intro _) | ((with_reducible apply Ent.alA); intro _) | ((with_reducible apply Ent.stA); exact rfl; exact rfl) | ((with_reducible apply Ent.asP); exact rfl) | ((with_reducible apply Ent.exA); exact rfl) | ((with_reducible apply Ent.eqA); exact rfl; exact rfl) | ((with_reducible apply Ent.neA); exact rfl; exact rfl) | ((with_reducible apply Ent.seA); exact rfl) | ((with_reducible apply Ent.ixN); (first | (exact hx; exact rfl) | (exact hp; exact hpi) | (exact hx2; exact hxi2)); intro hrd)))
        refine Ent.joinD ?_
        refine Ent.ite (fun hc4 => ?_) (fun hc4 => ?_)
        · (repeat (first | ((with_reducible apply Ent.ldA); exact rfl; exact rfl) | ((with_reducible apply Ent.rdA); exact rfl; exact rfl) | ((with_reducible apply Ent.kpA); exact rfl; exact rfl) | ((with_reducible apply Ent.lenA)) | ((with_reducible apply Ent.draw)) | ((with_reducible apply Ent.boxA); exact rfl; intro _) | ((with_reducible apply Ent.alA); intro _) | ((with_reducible apply Ent.stA); exact rfl; exact rfl) | ((with_reducible apply Ent.asP); exact rfl) | ((with_reducible apply Ent.exA); exact rfl) | ((with_reducible apply Ent.eqA); exact rfl; exact rfl) | ((with_reducible apply Ent.neA); exact rfl; exact rfl) | ((with_reducible apply Ent.seA); exact rfl) | ((with_reducible apply Ent.ixN); (first | (exact hx; exact rfl) | (exact hp; exact hpi) | (exact hx2; exact hxi2)); intro hrd)))
          simp only [decide_eq_true_eq] at hc4
          exact hrest _ (by omega) (Int.le_refl _)
        · (repeat (first | ((with_reducible apply Ent.ldA); exact rfl; exact rfl) | ((with_reducible apply Ent.rdA); exact rfl; exact rfl) | ((with_reducible apply Ent.kpA); exact rfl; exact rfl) | ((with_reducible apply Ent.lenA)) | ((with_reducible apply Ent.draw)) | ((with_reducible apply Ent.boxA); exact rfl; intro _) | ((with_reducible apply Ent.alA); intro _) | ((with_reducible apply Ent.stA); exact rfl; exact rfl) | ((with_reducible apply Ent.asP); exact rfl) | ((with_reducible apply Ent.exA); exact rfl) | ((with_reducible apply Ent.eqA); exact rfl; exact rfl) | ((with_reducible apply Ent.neA); exact rfl; exact rfl) | ((with_reducible apply Ent.seA); exact rfl) | ((with_reducible apply Ent.ixN); (first | (exact hx; exact rfl) | (exact hp; exact hpi) | (exact hx2; exact hxi2)); intro hrd)))
          simp only [decide_eq_false_iff_not] at hc4
          exact hrest _ (Int.le_refl _) (by omega)
  · have hge : i = xs.length := by simp at hc1; omega
    subst hge
    have hfin : (decide (s.worst < most) || s.worst == 0) = true := by
      rcases hP.some_ with h0 | ⟨id, hid⟩
      · simp [h0]
      · by_cases hpos : s.worst ≤ 0
        · have := hP.num.w0
          have : s.worst = 0 := by omega
          simp [this]
        · have h1 := hP.cnt id
          obtain ⟨r, hrm, hrl⟩ := hist_few hP.hist (id := id) (by omega)
          have := hP.most r hrm
          have : s.worst < most := by omega
          simp [this]
    refine Ent.joinB true (fun k hk => ?_) ?_
    · refine worst_spec (wv := ⟨some m, s.worst, s.tick, sv⟩) Has.here ?_
      apply Ent.or
      · intro _ k2 hk2
        refine worst_spec (wv := ⟨some m, s.worst, s.tick, sv⟩) Has.here ?_
        exact hk2
      refine Ent.andT (by simpa using hfin) ?_
      refine alive_spec ?_
      exact hk _ rfl
    · exact h.to (by (repeat (first | exact Subs.tail | exact Subs.nil | refine Subs.cons inferInstance ?_)))
end Go.Cab
