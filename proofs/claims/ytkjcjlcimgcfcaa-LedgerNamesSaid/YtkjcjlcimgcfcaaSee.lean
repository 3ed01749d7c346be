/- Contracts: the watch sees a record. -/
import Derived.Test.YtkjcjlcimgcfcaaWatch
namespace Go.Cab
set_option linter.unusedSimpArgs false
set_option linter.unusedVariables false
set_option linter.unusedSectionVars false
open Go Go.Proofs
variable [Milieu]
def dupB : List ID → List Waiting → Bool
  | _, [] => false
  | seen, w :: r => decide (w.id ∈ seen) || dupB (seen ++ [w.id]) r
def seeGo : List Waiting → List Bool → List Bool → List ID → Times → Int → List ID × Times × Int
  | w :: r, g :: gs, m :: ms, ids, t, worst =>
    if m then seeGo r gs ms ids t worst
    else if g then seeGo r gs ms (ids ++ [w.id]) (tset t w.id (tget t w.id + 1)) (max worst (tget t w.id + 1))
    else seeGo r gs ms (ids ++ [w.id]) t worst
  | _, _, _, ids, t, worst => (ids, t, worst)
structure WS where
  times : Times
  worst : Int
  tick : Int
  ids : List ID
def seeE (s : WS) (x : Record) (c : RecC) : Int := if faultE x c ≠ 0 then faultE x c else if dupB [] c.ws then 130 else if x.tick ≤ s.tick then 4 else 0
def seeS (s : WS) (x : Record) (c : RecC) : WS := if seeE s x c ≠ 0 then s else
  let y := seeGo c.ws (goods x c) (mates x c) [] s.times s.worst
  ⟨y.2.1, y.2.2, x.tick, sortID y.1⟩
theorem hlk {Γ Δ : List Asn} {met : Nat} {mt : Times} (hh : Has (MapA ID.val) met Γ (tv mt) Δ) (id : ID) : Runs Try.prog Γ (Instr.lookup 62 (.map (some met)) id.val false) (inI .i64 (tget mt id)) := by
  show Runs _ _ _ (Value.int .i64 (tget _ id))
  rw [← tv_get]
  exact Runs.lookup (enc := ID.val) (K := 28) (E := 3) Try.underlying62 Try.zeroValue3 (MapAt.of hh)
theorem Ent.bump {Γ Δ : List Asn} {met : Nat} {mt : Times} {id : ID} {c : WP} (hh : Has (MapA ID.val) met Γ (tv mt) Δ) (h : Ent (ab (MapA ID.val) met (tv (tset mt id (IntKind.i64.wrap (tget mt id + 1)))) :: Δ) c) :
    Ent Γ (readT Try.prog (inI .i64) (Instr.lookup 62 (.map (some met)) id.val false) fun x => semT Try.prog inV (Instr.mapEntry 62 (.map (some met)) id.val) fun v => keepR Try.prog (Instr.lookup 62 (.map (some met)) id.val false) (.int .i64 x) (pureT Try.prog (inI .i64) (Instr.extract v 1) fun n => semU Try.prog (Instr.entryStore 62 (.map (some met)) (.int .i64 n) (.int .i64 (IntKind.i64.wrap (x + 1)))) c)) := by
  refine Ent.read (x := tget mt id) (hlk hh id) ?_
  refine Ent.mapEntry (enc := ID.val) (K := 28) (E := 3) Try.underlying62 Try.zeroValue3 hh fun sn => ?_
  rw [tv_get, tv_set]
  refine Ent.keep ?_ ?_
  · have h1 := Runs.lookup (P := Try.prog) (Γ := ab (MapE ID.val) met (tv (tset mt id (tget mt id)), id, sn) :: Δ) (x := id) (enc := ID.val) (K := 28) (E := 3) Try.underlying62 Try.zeroValue3 (MapAt.ofE Has.here)
    rw [tv_get, tget_tset, if_pos rfl] at h1
    exact h1
  · refine Ent.pure (x := (sn : Int)) (fun w => by simp [Instr.extract]) ?_
    refine Ent.entryStore (enc := ID.val) Has.here ?_
    rw [tv_set, tset_tset]
    exact h
theorem run_max (a b : Int) (w : World) : (Builtin.max_ #[3, 3] 3 #[.int .i64 a, .int .i64 b]).run Try.prog w = .ok (.int .i64 (max a b)) w := by
  have : (if b > a then b else a) = max a b := by rw [Int.max_def]; split <;> split <;> omega
  rw [← this]
  simp [Builtin.max_, Builtin.max2]
theorem Ent.drop4 {A B C D : Asn} {Γ : List Asn} {c : WP} (h : Ent (A :: B :: C :: Γ) c) : Ent (A :: B :: C :: D :: Γ) c :=
  Ent.conv (Γ := A :: B :: C :: D :: Γ) (Δ := D :: A :: B :: C :: Γ) (fun _ hh => star_left_comm (A := A) (B := D) (C := star B (star C (Sep Γ))) (star_mono (fun _ x => x) (fun _ y => star_left_comm (A := B) (B := D) (C := star C (Sep Γ)) (star_mono (fun _ x => x) (fun _ z => star_left_comm (A := C) (B := D) (C := Sep Γ) z) y)) hh)) (Ent.drop h)
theorem see_nil {Γ : List Asn} {x : Record} {K : Int → WP} (h : Ent Γ (K 2)) : Ent Γ (callT Try.prog (inI .i64) 22 #[.pointer none, x.val] K) := by
  refine Ent.call ?_
  refine Ent.byS (A := S.fair_Watch_See _ _ _) S.fair_Watch_See_ok ?_
  unfold S.fair_Watch_See
  simp only [toT_V, toT_I, toT_B, toT_A, toT_rV, toT_rI, toT_rB, toT_pV, toT_pI, toT_pB, toT_pA, toT_cI, toT_cB]
  refine Ent.boxV (x := x) (fun b => ?_)
  refine there_nil ?_
  exact Ent.ret (x := (2 : Int)) (Ent.drop h)
theorem see_none {Γ Δ : List Asn} {b : Nat} {wv : WatchV} {x : Record} {K : Int → WP} (hh : Has Blk b Γ (.cells (Enc.cells Try.prog wv).toArray 64 (0, 0)) Δ) (ht : wv.times = none) (h : Ent Γ (K 2)) : Ent Γ (callT Try.prog (inI .i64) 22 #[.pointer (some ⟨b, 0, none⟩), x.val] K) := by
  refine Ent.call ?_
  refine Ent.byS (A := S.fair_Watch_See _ _ _) S.fair_Watch_See_ok ?_
  unfold S.fair_Watch_See
  simp only [toT_V, toT_I, toT_B, toT_A, toT_rV, toT_rI, toT_rB, toT_pV, toT_pI, toT_pB, toT_pA, toT_cI, toT_cB]
  refine Ent.boxV (x := x) (fun b2 => ?_)
  refine there_spec Has.next ?_
  rw [ht]
  exact Ent.ret (x := (2 : Int)) (Ent.drop h)
/-- the watch as it lies -/
abbrev watch (b m : Nat) (sv : SV) (s : WS) (Γ : List Asn) : List Asn := var Try.prog b (⟨some m, s.worst, s.tick, sv⟩ : WatchV) :: ab (MapA ID.val) m (tv s.times) :: ab (SlA Try.prog) sv.val s.ids :: Γ
abbrev seeCtx (b b2 m : Nat) (sv0 : SV) (ids0 : List ID) (v1 v2 : Value) (gs ms : List Bool) (x : Record) (γ : SV × List ID × Times × Int) (Γ : List Asn) : List Asn :=
  ab (SlA Try.prog) γ.1.val γ.2.1 :: ab (SlA Try.prog) v1 gs :: ab (SlA Try.prog) v2 ms :: var Try.prog b (⟨some m, γ.2.2.2, x.tick, γ.1⟩ : WatchV) :: var Try.prog b2 x :: ab (MapA ID.val) m (tv γ.2.2.1) :: ab (SlA Try.prog) sv0.val ids0 :: Γ
structure SeeP (s : WS) (x : Record) (c : RecC) (B : Int) (i : Nat) (γ : SV × List ID × Times × Int) : Prop where
  le : i ≤ c.ws.length
  few : γ.2.1.length ≤ i
  bound : ∀ id, 0 ≤ tget γ.2.2.1 id ∧ tget γ.2.2.1 id ≤ B + i
  go : seeGo c.ws (goods x c) (mates x c) [] s.times s.worst = seeGo (c.ws.drop i) ((goods x c).drop i) ((mates x c).drop i) γ.2.1 γ.2.2.1 γ.2.2.2
set_option maxHeartbeats 1000000 in
theorem see_spec {Γ : List Asn} {b m : Nat} {sv : SV} {s : WS} {x : Record} {c : RecC} {B : Int} {K : Int → WP} (hr : RecR Γ x c) (hB : ∀ id, 0 ≤ tget s.times id ∧ tget s.times id ≤ B) (hB2 : B ≤ 4611686018427387904)
    (h : ∀ sv', Ent (watch b m sv' (seeS s x c) Γ) (K (seeE s x c))) : Ent (watch b m sv s Γ) (callT Try.prog (inI .i64) 22 #[.pointer (some ⟨b, 0, none⟩), x.val] K) := by
  refine Ent.call ?_
  refine Ent.byS (A := S.fair_Watch_See _ _ _) S.fair_Watch_See_ok ?_
  unfold S.fair_Watch_See
  simp only [toT_V, toT_I, toT_B, toT_A, toT_rV, toT_rI, toT_rB, toT_pV, toT_pI, toT_pB, toT_pA, toT_cI, toT_cB]
  refine Ent.boxV (x := x) (fun b2 => ?_)
  refine there_spec Has.next ?_
  refine Ent.iteF rfl ?_
  refine Ent.sem (Runs.varV (x := x)) ?_
  refine fault_spec (c := c) hr.suf ?_
  refine Ent.ite (fun hf => ?_) (fun hf => ?_)
  · have hf' : faultE x c ≠ 0 := by simpa using hf
    have h1 : seeE s x c = faultE x c := by simp [seeE, hf']
    have h2 : seeS s x c = s := by simp [seeS, h1, hf']
    rw [h1, h2] at h
    exact Ent.ret (x := faultE x c) (Ent.drop (h sv))
  have hf' : faultE x c = 0 := by simpa using hf
  have hfine := fine_of hf'
  have hmax : maxLen = 9223372036854775807 := rfl
  have h64 := hfine.w64
  refine Ent.makeMap fun met => ?_
  refine Ent.newMap ?_
  first | refine Ent.sem (Runs.fld rfl (by rfl)) ?_ | refine Ent.sem (Runs.fld2 (by rfl)) ?_
  refine Ent.len hr.w.suf Try.underlying36 ?_
  refine Ent.loop (γ := Nat × Times) (Inv := fun γ _ => ab (MapA ID.val) met (tv γ.2) :: var Try.prog b2 x :: watch b m sv s Γ) (pre := fun γ s => s.2 = (γ.1 : Int) ∧ γ.1 ≤ c.ws.length ∧ (∀ id, tget γ.2 id = if id ∈ (c.ws.take γ.1).map (·.id) then 1 else 0) ∧ dupB [] c.ws = dupB ((c.ws.take γ.1).map (·.id)) (c.ws.drop γ.1)) (μ := fun γ s => c.ws.length - γ.1) (0, []) ⟨rfl, Nat.zero_le _, fun id => by simp [tget], rfl⟩ (fun _ h => h) ?_
  rintro ⟨i, mt⟩ ⟨s1, s2⟩ kc ⟨hs2, hi, hmt, hb⟩ hkc
  dsimp only at hs2 hi hmt hb ⊢
  subst hs2
  refine Ent.ite (fun hc => ?_) (fun hc => ?_)
  · have hlt : i < c.ws.length := by simpa using hc
    have hx : c.ws[i]? = some c.ws[i] := List.getElem?_eq_getElem hlt
    have htk : c.ws.take (i + 1) = c.ws.take i ++ [c.ws[i]] := by rw [List.take_append_getElem hlt]
    have hstep : dupB ((c.ws.take i).map (·.id)) (c.ws.drop i) = (decide (c.ws[i].id ∈ (c.ws.take i).map (·.id)) || dupB ((c.ws.take i).map (·.id) ++ [c.ws[i].id]) (c.ws.drop (i + 1))) := by
      rw [List.drop_eq_getElem_cons hlt]; rfl
    rw [hstep] at hb
    clear hstep
    generalize c.ws[i] = q at hx hb htk
    refine Ent.indexN (x := q) hr.w.suf Try.underlying36 hx fun hrd => ?_
    refine Ent.sem (Runs.rdV (x := q) hrd) ?_
    refine Ent.newV (x := q) fun b3 => ?_
    refine Ent.sem (Runs.subV (x := q.id) (b := b3) (o := 0) rfl rfl) ?_
    refine Ent.sem (x := tget mt q.id) (hlk Has.next q.id) ?_
    refine Ent.ite (fun hy => ?_) (fun hy => ?_)
    · have hin : decide (q.id ∈ (c.ws.take i).map (·.id)) = true := by
        rw [hmt] at hy
        by_cases hq : q.id ∈ (c.ws.take i).map (·.id)
        · simpa using hq
        · rw [if_neg hq] at hy; simp at hy
      have hd : dupB [] c.ws = true := by rw [hb, hin]; simp
      have h1 : seeE s x c = 130 := by simp [seeE, hf', hd]
      have h2 : seeS s x c = s := by simp [seeS, h1]
      rw [h1, h2] at h
      exact Ent.ret (x := (130 : Int)) (Ent.drop (Ent.drop (Ent.drop (h sv))))
    · have hnin : ¬ q.id ∈ (c.ws.take i).map (·.id) := by
        intro hq
        rw [hmt, if_pos hq] at hy
        simp at hy
      have hz : tget mt q.id = 0 := by rw [hmt, if_neg hnin]
      refine Ent.draw ?_
      refine Ent.read (Runs.subV (x := q.id) (b := b3) (o := 0) rfl rfl) ?_
      refine Ent.bump (mt := mt) (id := q.id) Has.next ?_
      rw [hz]
      refine Ent.drop2 (hkc (i + 1, _) (s1, _) ⟨wrap_succ hlt hr.w.max, hlt, fun id => ?_, ?_⟩ (by omega))
      · rw [tget_tset, hmt, htk]
        by_cases hq : q.id = id
        · subst hq; simp; decide
        · have hq' : ¬ id = q.id := fun e => hq e.symm
          simp [hq, hq']
      · rw [hb, htk, decide_eq_false hnin]
        simp
  have hdup : dupB [] c.ws = false := by
    have hge : i = c.ws.length := by simp at hc; omega
    subst hge
    rw [hb]; simp [dupB]
  clear hb hkc hmt hc hi
  refine Ent.drop ?_
  refine Ent.draw ?_
  first | refine Ent.read (Runs.fld rfl (by rfl)) ?_ | refine Ent.read (Runs.fld2 (by rfl)) ?_
  refine Ent.asP rfl ?_
  refine Ent.read (x := s.tick) (Runs.fld (b := b) rfl rfl) ?_
  refine Ent.ite (fun hy => ?_) (fun hy => ?_)
  · have ht : x.tick ≤ s.tick := by simpa using hy
    have h1 : seeE s x c = 4 := by simp [seeE, hf', hdup, ht]
    have h2 : seeS s x c = s := by simp [seeS, h1]
    rw [h1, h2] at h
    exact Ent.ret (x := (4 : Int)) (Ent.drop (h sv))
  have ht : ¬ x.tick ≤ s.tick := by simpa using hy
  have h1 : seeE s x c = 0 := by simp [seeE, hf', hdup, ht]
  rw [h1] at h
  first | refine Ent.sem (Runs.fld rfl (by rfl)) ?_ | refine Ent.sem (Runs.fld2 (by rfl)) ?_
  refine Ent.asP rfl ?_
  refine Ent.storeF (b := b) (Enc.cells Try.prog (⟨some m, s.worst, x.tick, sv⟩ : WatchV)) rfl rfl rfl rfl rfl ?_
  refine Ent.asP rfl ?_
  refine Ent.storeF (b := b) (Enc.cells Try.prog (⟨some m, s.worst, x.tick, ⟨none, 0, 0⟩⟩ : WatchV)) rfl rfl rfl rfl rfl ?_
  refine Ent.sem (Runs.varV (x := x)) ?_
  refine rows_spec hr.suf hfine fun v1 v2 => ?_
  refine Ent.pure (x := v1) (fun w => by simp [Instr.extract]) ?_
  refine Ent.pure (x := v2) (fun w => by simp [Instr.extract]) ?_
  first | refine Ent.sem (Runs.fld rfl (by rfl)) ?_ | refine Ent.sem (Runs.fld2 (by rfl)) ?_
  refine Ent.len hr.w.suf Try.underlying36 ?_
  refine Ent.nilS (P := Try.prog) (α := ID) ?_
  have hn : x.g.rows.toNat = c.ws.length := by have := hfine.nr; omega
  have hgl : (goods x c).length = c.ws.length := by simp [goods, marks_len, hn]
  have hml : (mates x c).length = c.ws.length := by simp [mates, marks_len, hn]
  refine Ent.loop (γ := Nat × SV × List ID × Times × Int) (Inv := fun γ _ => seeCtx b b2 m sv s.ids v1 v2 (goods x c) (mates x c) x γ.2 Γ) (pre := fun γ j => j = (γ.1 : Int) ∧ SeeP s x c B γ.1 γ.2) (μ := fun γ s => c.ws.length - γ.1) (0, ⟨none, 0, 0⟩, [], s.times, s.worst) ⟨rfl, Nat.zero_le _, Nat.le_refl _, fun id => by have := hB id; simp; omega, rfl⟩ (fun _ h => h) ?_
  rintro ⟨i, sv1, ids, t, worst⟩ j kc ⟨hj, hi, hil, hbt, hgo⟩ hkc
  dsimp only at hj hi hil hbt hgo ⊢
  subst hj
  refine Ent.ite (fun hc => ?_) (fun hc => ?_)
  · have hlt : i < c.ws.length := by simpa using hc
    have hx : c.ws[i]? = some c.ws[i] := List.getElem?_eq_getElem hlt
    have hg : (goods x c)[i]? = some (goods x c)[i] := List.getElem?_eq_getElem (by omega)
    have hm : (mates x c)[i]? = some (mates x c)[i] := List.getElem?_eq_getElem (by omega)
    rw [List.drop_eq_getElem_cons hlt, List.drop_eq_getElem_cons (l := goods x c) (by omega), List.drop_eq_getElem_cons (l := mates x c) (by omega)] at hgo
    generalize c.ws[i] = q at hx hgo
    generalize (goods x c)[i] = g at hg hgo
    generalize (mates x c)[i] = mm at hm hgo
    refine Ent.join (fun _ Δ => ∃ γ', Δ = seeCtx b b2 m sv s.ids v1 v2 (goods x c) (mates x c) x γ' Γ ∧ SeeP s x c B (i + 1) γ') (fun k hk => ?_) ?_
    · refine Ent.indexN (x := q) hr.w.suf Try.underlying36 hx fun hrd => ?_
      refine Ent.sem (Runs.rdV (x := q) hrd) ?_
      refine Ent.newV (x := q) fun b3 => ?_
      refine Ent.slr (P := Try.prog) (α := Bool) (v := v2) (l := mates x c) Has.next fun hv2 => ?_
      refine Ent.indexN (x := mm) hv2 Try.underlying98 hm fun hrd2 => ?_
      refine Ent.sem (Runs.rdV (x := mm) hrd2) ?_
      cases mm with
      | true =>
        refine Ent.iteT rfl ?_
        refine Ent.drop (hk () _ ⟨(sv1, ids, t, worst), rfl, hlt, by simp only; omega, fun id => ?_, ?_⟩)
        · have := hbt id; simp only; omega
        · rw [hgo]; simp [seeGo]
      | false =>
        refine Ent.iteF rfl ?_
        refine Ent.sem (Runs.subV (x := q.id) (b := b3) (o := 0) rfl rfl) ?_
        refine Ent.newV (x := q.id) fun b4 => ?_
        refine Ent.draw ?_
        refine Ent.asP rfl ?_
        refine Ent.read (x := sv1.val) (Runs.fld (b := b) rfl rfl) ?_
        refine Ent.read (Runs.varV (x := q.id)) ?_
        refine Ent.buildSlice (l := [q.id]) Try.underlying34 rfl rfl (by simp) (by show 1 * 8 ≤ 16777216; decide) fun v3 => ?_
        refine Ent.keep (Runs.fld (b := b) rfl rfl) ?_
        refine Ent.slr (P := Try.prog) (α := ID) (v := v3) (l := [q.id]) Has.here fun hv3 => ?_
        refine Ent.append (P := Try.prog) (α := ID) (l := ids) Has.next hv3 Try.underlying34 (by simp) (by show ids.length + 1 ≤ maxLen; omega) (by show (ids.length + 1) * 8 ≤ _; omega) fun v4 => ?_
        refine Ent.sv (P := Try.prog) (α := ID) (l := ids ++ [q.id]) Has.here fun sv4 hsv4 => ?_
        subst hsv4
        refine Ent.drop2 ?_
        refine Ent.asP rfl ?_
        refine Ent.storeF (b := b) (Enc.cells Try.prog (⟨some m, worst, x.tick, sv4⟩ : WatchV)) rfl rfl rfl rfl rfl ?_
        refine Ent.sink5 ?_
        refine Ent.slr (P := Try.prog) (α := Bool) (v := v1) (l := goods x c) Has.next fun hv1 => ?_
        refine Ent.indexN (x := g) hv1 Try.underlying98 hg fun hrd1 => ?_
        refine Ent.sem (Runs.rdV (x := g) hrd1) ?_
        refine Ent.join (fun _ Δ => ∃ γ', Δ = seeCtx b b2 m sv s.ids v1 v2 (goods x c) (mates x c) x γ' Γ ∧ SeeP s x c B (i + 1) γ') (fun k2 hk2 => ?_) (fun y Δ hy => hk () Δ hy)
        cases g with
        | false =>
          refine Ent.iteF rfl ?_
          refine Ent.drop2 (Ent.drop2 ?_)
          refine hk2 () _ ⟨(sv4, ids ++ [q.id], t, worst), rfl, hlt, by simp; omega, fun id => ?_, ?_⟩
          · have := hbt id; simp only; omega
          · rw [hgo]; simp [seeGo]
        | true =>
          refine Ent.iteT rfl ?_
          have hwr : IntKind.i64.wrap (tget t q.id + 1) = tget t q.id + 1 := by
            have := hbt q.id
            rw [IntKind.wrap_i64]; omega
          refine Ent.draw ?_
          refine Ent.asP rfl ?_
          refine Ent.read (x := Value.map (some m)) (Runs.fld (b := b) rfl rfl) ?_
          refine Ent.read (Runs.varV (x := q.id)) ?_
          refine Ent.bump (mt := t) (id := q.id) Has.next ?_
          rw [hwr]
          refine Ent.draw ?_
          refine Ent.asP rfl ?_
          refine Ent.read (x := worst) (Runs.fld (b := b) rfl rfl) ?_
          refine Ent.asP rfl ?_
          refine Ent.read (x := Value.map (some m)) (Runs.fld (b := b) rfl rfl) ?_
          refine Ent.read (Runs.varV (x := q.id)) ?_
          refine Ent.read (x := tget (tset t q.id (tget t q.id + 1)) q.id) (hlk Has.here q.id) ?_
          rw [tget_tset, if_pos rfl]
          refine Ent.pure (x := max worst (tget t q.id + 1)) (fun w => run_max _ _ w) ?_
          refine Ent.asP rfl ?_
          refine Ent.storeF (b := b) (Enc.cells Try.prog (⟨some m, max worst (tget t q.id + 1), x.tick, sv4⟩ : WatchV)) rfl rfl rfl rfl rfl ?_
          refine Ent.sink6 (Ent.sink7 (Ent.drop2 (Ent.drop2 ?_)))
          refine hk2 () _ ⟨(sv4, ids ++ [q.id], tset t q.id (tget t q.id + 1), max worst (tget t q.id + 1)), rfl, hlt, by simp; omega, fun id => ?_, ?_⟩
          · have h1 := hbt id
            have h2 := hbt q.id
            simp only [tget_tset]
            split <;> omega
          · rw [hgo]; simp [seeGo]
    · rintro y Δ ⟨γ', rfl, hp⟩
      exact hkc (i + 1, γ') _ ⟨wrap_succ hlt hr.w.max, hp⟩ (by omega)
  · have hge : i = c.ws.length := by simp at hc; omega
    subst hge
    have hy : seeGo c.ws (goods x c) (mates x c) [] s.times s.worst = (ids, t, worst) := by
      rw [hgo]; simp [seeGo]
    have h2 : seeS s x c = ⟨t, worst, x.tick, sortID ids⟩ := by simp [seeS, h1, hy]
    rw [h2] at h
    refine Ent.asP rfl ?_
    refine Ent.sem (x := sv1.val) (Runs.fld (b := b) rfl rfl) ?_
    refine sort_spec (l := ids) Has.here (by omega) ?_
    refine Ent.ret (x := (0 : Int)) ?_
    refine Ent.drop2 (Ent.drop2 (Ent.swap (Ent.drop3 (Ent.rot (Ent.swap (Ent.drop4 (h sv1)))))))
end Go.Cab
