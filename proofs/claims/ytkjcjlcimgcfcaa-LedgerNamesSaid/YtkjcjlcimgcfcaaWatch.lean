/- Contracts: the watch. -/
import Derived.Test.YtkjcjlcimgcfcaaSortF
namespace Go.Cab
set_option linter.unusedSimpArgs false
set_option linter.unusedVariables false
set_option linter.unusedSectionVars false
open Go Go.Proofs
variable [Milieu]
theorem run_ptr_neq (p : Option Addr) (x y : Operand) (w : World) : (eqM .neq 61 x y (.pointer p) (.pointer none)).run Try.prog w = .ok (.bool p.isSome) w := by
  cases p <;> kernel_rfl
theorem run_ptr_eql (p : Option Addr) (x y : Operand) (w : World) : (eqM .eql 61 x y (.pointer p) (.pointer none)).run Try.prog w = .ok (.bool p.isNone) w := by
  cases p <;> kernel_rfl
theorem run_map_neq (p : Option Nat) (x y : Operand) (w : World) : (eqM .neq 62 x y (.map p) (.map none)).run Try.prog w = .ok (.bool p.isSome) w := by
  cases p <;> kernel_rfl
theorem there_nil {Γ : List Asn} {K : Bool → WP} (h : Ent Γ (K false)) : Ent Γ (callT Try.prog inB 55 #[.pointer none] K) := by
  refine Ent.call ?_
  refine Ent.byS (A := S.fair_Watch_there _ _) S.fair_Watch_there_ok ?_
  unfold S.fair_Watch_there
  simp only [toT_V, toT_I, toT_B, toT_A, toT_rV, toT_rI, toT_rB, toT_pV, toT_pI, toT_pB, toT_pA, toT_cI, toT_cB]
  refine Ent.join1 false (fun k hk => ?_) ?_
  · refine Ent.pure (x := false) (fun w => run_ptr_neq none _ _ w) ?_
    exact hk
  exact Ent.ret (f := inB) (x := false) h
theorem there_spec {Γ Δ : List Asn} {b : Nat} {wv : WatchV} {K : Bool → WP} (hh : Has Blk b Γ (.cells (Enc.cells Try.prog wv).toArray 64 (0, 0)) Δ) (h : Ent Γ (K wv.times.isSome)) : Ent Γ (callT Try.prog inB 55 #[.pointer (some ⟨b, 0, none⟩)] K) := by
  refine Ent.call ?_
  refine Ent.byS (A := S.fair_Watch_there _ _) S.fair_Watch_there_ok ?_
  unfold S.fair_Watch_there
  simp only [toT_V, toT_I, toT_B, toT_A, toT_rV, toT_rI, toT_rB, toT_pV, toT_pI, toT_pB, toT_pA, toT_cI, toT_cB]
  refine Ent.join1 wv.times.isSome (fun k hk => ?_) ?_
  · refine Ent.pure (x := true) (fun w => run_ptr_neq (some _) _ _ w) ?_
    refine Ent.and wv.times.isSome (fun _ k2 hk2 => ?_) ?_
    · refine Ent.asP rfl ?_
      first | refine Ent.sem (Runs.fld rfl (by rfl)) ?_ | refine Ent.sem (Runs.fld2 (by rfl)) ?_
      refine Ent.pure (x := wv.times.isSome) (fun w => run_map_neq wv.times _ _ w) ?_
      exact hk2
    · exact hk
  exact Ent.ret (f := inB) (x := wv.times.isSome) h
theorem Ent.newMap {Γ : List Asn} {b : Nat} {c : WP} (h : Ent (ab (MapA ID.val) b (tv []) :: Γ) c) : Ent (ab Blk b (.map #[] 0) :: Γ) c :=
  Ent.conv (Γ := ab Blk b (.map #[] 0) :: Γ) (Δ := ab (MapA ID.val) b (tv []) :: Γ) (fun _ hh => star_mono (A := ab Blk b (.map #[] 0)) (B := Sep Γ) (fun a ha => ⟨#[], 0, ha, rfl, List.nodup_nil, List.Pairwise.nil, by simp⟩) (fun _ x => x) hh) h
theorem new_spec {Γ : List Asn} {K : Value → WP} (h : ∀ b m, Ent (var Try.prog b (⟨some m, 0, 0, ⟨none, 0, 0⟩⟩ : WatchV) :: ab (MapA ID.val) m (tv []) :: Γ) (K (.pointer (some ⟨b, 0, none⟩)))) : Ent Γ (callH Try.prog 25 #[] K) := by
  refine Ent.byS (A := S.fair_New _) S.fair_New_ok ?_
  unfold S.fair_New
  simp only [toT_V, toT_I, toT_B, toT_A, toT_rV, toT_rI, toT_rB, toT_pV, toT_pI, toT_pB, toT_pA, toT_cI, toT_cB]
  refine Ent.makeMap fun m => ?_
  refine Ent.pure (x := (⟨some m, 0, 0, ⟨none, 0, 0⟩⟩ : WatchV).val) (fun w => run_build w _ _ _ (by kernel_rfl)) ?_
  refine Ent.newMap ?_
  refine Ent.boxV (x := (⟨some m, 0, 0, ⟨none, 0, 0⟩⟩ : WatchV)) fun b => ?_
  exact h b m
theorem worst_nil {Γ : List Asn} {K : Int → WP} (h : Ent Γ (K 0)) : Ent Γ (callT Try.prog (inI .i64) 23 #[.pointer none] K) := by
  refine Ent.call ?_
  refine Ent.byS (A := S.fair_Watch_Worst _ _) S.fair_Watch_Worst_ok ?_
  unfold S.fair_Watch_Worst
  simp only [toT_V, toT_I, toT_B, toT_A, toT_rV, toT_rI, toT_rB, toT_pV, toT_pI, toT_pB, toT_pA, toT_cI, toT_cB]
  refine there_nil ?_
  exact Ent.ret (x := (0 : Int)) h
theorem worst_spec {Γ Δ : List Asn} {b : Nat} {wv : WatchV} {K : Int → WP} (hh : Has Blk b Γ (.cells (Enc.cells Try.prog wv).toArray 64 (0, 0)) Δ) (h : Ent Γ (K (if wv.times.isSome then wv.worst else 0))) : Ent Γ (callT Try.prog (inI .i64) 23 #[.pointer (some ⟨b, 0, none⟩)] K) := by
  refine Ent.call ?_
  refine Ent.byS (A := S.fair_Watch_Worst _ _) S.fair_Watch_Worst_ok ?_
  unfold S.fair_Watch_Worst
  simp only [toT_V, toT_I, toT_B, toT_A, toT_rV, toT_rI, toT_rB, toT_pV, toT_pI, toT_pB, toT_pA, toT_cI, toT_cB]
  refine there_spec hh ?_
  cases ht : wv.times.isSome
  · rw [ht] at h
    exact Ent.ret (x := (0 : Int)) h
  · rw [ht] at h
    refine Ent.asP rfl ?_
    first | refine Ent.sem (Runs.fld rfl (by rfl)) ?_ | refine Ent.sem (Runs.fld2 (by rfl)) ?_
    exact Ent.ret (x := wv.worst) h
theorem standing_nil {Γ : List Asn} {K : Value → WP} (h : Ent Γ (K (.slice none 0 0))) : Ent Γ (callH Try.prog 24 #[.pointer none] K) := by
  refine Ent.byS (A := S.fair_Watch_Standing _ _) S.fair_Watch_Standing_ok ?_
  unfold S.fair_Watch_Standing
  simp only [toT_V, toT_I, toT_B, toT_A, toT_rV, toT_rI, toT_rB, toT_pV, toT_pI, toT_pB, toT_pA, toT_cI, toT_cB]
  refine there_nil ?_
  exact h
theorem standing_none {Γ Δ : List Asn} {b : Nat} {wv : WatchV} {K : Value → WP} (hh : Has Blk b Γ (.cells (Enc.cells Try.prog wv).toArray 64 (0, 0)) Δ) (ht : wv.times = none) (h : Ent Γ (K (.slice none 0 0))) : Ent Γ (callH Try.prog 24 #[.pointer (some ⟨b, 0, none⟩)] K) := by
  refine Ent.byS (A := S.fair_Watch_Standing _ _) S.fair_Watch_Standing_ok ?_
  unfold S.fair_Watch_Standing
  simp only [toT_V, toT_I, toT_B, toT_A, toT_rV, toT_rI, toT_rB, toT_pV, toT_pI, toT_pB, toT_pA, toT_cI, toT_cB]
  refine there_spec hh ?_
  rw [ht]
  exact h
def stands (t : Times) (ids : List ID) : List Standing := ids.map fun id => ⟨id, tget t id⟩
theorem standing_spec {Γ Δ1 Δ2 Δ3 : List Asn} {b m : Nat} {wv : WatchV} {t : Times} {ids : List ID} {K : Value → WP} (hh : Has Blk b Γ (.cells (Enc.cells Try.prog wv).toArray 64 (0, 0)) Δ1) (hm : Has (MapA ID.val) m Γ (tv t) Δ2) (hs : Has (SlA Try.prog) wv.standing.val Γ ids Δ3) (ht : wv.times = some m) (hl : ids.length ≤ 1000)
    (h : ∀ v, Ent (ab (SlA Try.prog) v (stands t ids) :: Γ) (K v)) : Ent Γ (callH Try.prog 24 #[.pointer (some ⟨b, 0, none⟩)] K) := by
  refine Ent.byS (A := S.fair_Watch_Standing _ _) S.fair_Watch_Standing_ok ?_
  unfold S.fair_Watch_Standing
  simp only [toT_V, toT_I, toT_B, toT_A, toT_rV, toT_rI, toT_rB, toT_pV, toT_pI, toT_pB, toT_pA, toT_cI, toT_cB]
  refine there_spec hh ?_
  rw [ht]
  refine Ent.iteF rfl ?_
  refine Ent.asP rfl ?_
  first | refine Ent.sem (Runs.fld rfl (by rfl)) ?_ | refine Ent.sem (Runs.fld2 (by rfl)) ?_
  refine Ent.slr hs fun hids => ?_
  refine Ent.len hids Try.underlying34 ?_
  refine Ent.nilS (P := Try.prog) (α := Standing) ?_
  refine Ent.loop (γ := Nat) (Inv := fun γ s => ab (SlA Try.prog) s.1 (stands t (ids.take γ)) :: Γ) (pre := fun γ s => s.2 = (γ : Int) ∧ γ ≤ ids.length) (μ := fun γ s => ids.length - γ) 0 ⟨rfl, Nat.zero_le _⟩ (fun _ h => h) ?_
  rintro i ⟨v, s2⟩ kc ⟨hs2, hi⟩ hkc
  dsimp only at hs2 hi ⊢
  subst hs2
  refine Ent.ite (fun hc => ?_) (fun hc => ?_)
  · have hlt : i < ids.length := by simpa using hc
    have hx : ids[i]? = some ids[i] := List.getElem?_eq_getElem hlt
    have htk : ids.take (i + 1) = ids.take i ++ [ids[i]] := by rw [List.take_append_getElem hlt]
    generalize ids[i] = x at hx htk
    refine Ent.indexN (x := x) hids.suf Try.underlying34 hx fun hrd => ?_
    refine Ent.sem (Runs.rdV (x := x) hrd) ?_
    refine Ent.newV (x := x) fun b3 => ?_
    refine Ent.draw ?_
    refine Ent.read (Runs.varV (x := x)) ?_
    refine Ent.asP rfl ?_
    refine Ent.read (x := Value.map (some m)) (Runs.fld (b := b) rfl (by rw [← ht]; rfl)) ?_
    refine Ent.read (Runs.varV (x := x)) ?_
    refine Ent.read (f := inI .i64) (x := tget t x) (by show Runs _ _ _ (Value.int .i64 (tget t x)); rw [← tv_get]; exact Runs.lookup (enc := ID.val) (K := 28) (E := 3) Try.underlying62 Try.zeroValue3 ((MapAt.of hm).suf)) ?_
    refine Ent.pure (x := (⟨x, tget t x⟩ : Standing).val) (fun w => run_build w _ _ _ (by kernel_rfl)) ?_
    refine Ent.buildSlice (l := [(⟨x, tget t x⟩ : Standing)]) Try.underlying67 rfl rfl (by simp) (by show 1 * 9 ≤ 16777216; decide) fun v2 => ?_
    refine Ent.slr (P := Try.prog) (α := Standing) (v := v2) (l := [(⟨x, tget t x⟩ : Standing)]) Has.here fun hv2 => ?_
    have hmax : maxLen = 9223372036854775807 := rfl
    have hln : (stands t (ids.take i)).length = i := by simp [stands]; omega
    refine Ent.append (P := Try.prog) (α := Standing) (l := stands t (ids.take i)) Has.next hv2 Try.underlying67 (by simp) (by rw [hln]; show i + 1 ≤ maxLen; omega) (by rw [hln]; show (i + 1) * 16 ≤ _; omega) fun v3 => ?_
    refine Ent.drop2 (Ent.drop2 ?_)
    have hst : stands t (ids.take i) ++ [(⟨x, tget t x⟩ : Standing)] = stands t (ids.take (i + 1)) := by rw [htk]; simp [stands]
    rw [hst]
    exact hkc (i + 1) (v3, _) ⟨wrap_succ hlt hids.max, hlt⟩ (by omega)
  · have hge : i = ids.length := by simp at hc; omega
    subst hge
    rw [List.take_length]
    exact h v
end Go.Cab
