/- Contracts: the document's record, and what the law says of it. -/
import Derived.Test.YtkjcjlcimgcfcaaSee
import Derived.Test.YtkjcjlcimgcfcaaAuto2
namespace Go.Cab
set_option linter.unusedSimpArgs false
set_option linter.unusedVariables false
set_option linter.unusedSectionVars false
open Go Go.Proofs
variable [Milieu]
def id1 : ID := ⟨0, 0, 0, 0, 0, 0, 0, 1⟩
def id2 : ID := ⟨0, 0, 0, 0, 0, 0, 0, 2⟩
def id7 : ID := ⟨0, 0, 0, 0, 0, 0, 0, 7⟩
def reqOf (i : ID) : Request := ⟨i, ⟨0, 0⟩, ⟨0, 0⟩, 0, 0, 0, 0⟩
def drvOf (i : ID) : Driver := ⟨i, ⟨0, 0⟩, 0, 0, 0⟩
def ws0 : List Waiting := [⟨reqOf id1, 0, 0⟩, ⟨reqOf id2, 0, 1⟩]
def ds0 : List Idle := [⟨drvOf id7, 0⟩]
def es0 : List Edge := [⟨0, 0, 13⟩, ⟨1, 0, 18⟩]
def ps0 : List Pair := [⟨1, 0⟩]
def c0 : RecC := ⟨ws0, ds0, es0, ps0, [0, 5], [13]⟩
def rec0 (a b c d e f : SV) : Record := ⟨2, a, b, ⟨2, 1, c⟩, ⟨d, e, f⟩⟩
abbrev recCtx (a b c d e f : SV) (Γ : List Asn) : List Asn := ab (SlA Try.prog) f.val ([13] : List Int) :: ab (SlA Try.prog) e.val ([0, 5] : List Int) :: ab (SlA Try.prog) d.val ps0 :: ab (SlA Try.prog) b.val ds0 :: ab (SlA Try.prog) c.val es0 :: ab (SlA Try.prog) a.val ws0 :: Γ
set_option maxHeartbeats 1000000 in
theorem first_spec {Γ : List Asn} {K : Value → WP} (h : ∀ a b c d e f, Ent (recCtx a b c d e f Γ) (K (rec0 a b c d e f).val)) : Ent Γ (callH Try.prog 54 #[] K) := by
  refine Ent.byS (A := S.law21_first _) S.law21_first_ok ?_
  unfold S.law21_first
  simp only [toT_V, toT_I, toT_B, toT_A, toT_rV, toT_rI, toT_rB, toT_pV, toT_pI, toT_pB, toT_pA, toT_cI, toT_cB]
  refine Ent.allocV (α := Record) fun b1 => ?_
  refine Ent.pure (x := id1.val) (fun w => run_build w _ _ _ (by kernel_rfl)) ?_
  refine Ent.pure (x := (reqOf id1).val) (fun w => run_build w _ _ _ (by kernel_rfl)) ?_
  refine Ent.pure (x := (⟨reqOf id1, 0, 0⟩ : Waiting).val) (fun w => run_build w _ _ _ (by kernel_rfl)) ?_
  refine Ent.pure (x := id2.val) (fun w => run_build w _ _ _ (by kernel_rfl)) ?_
  refine Ent.pure (x := (reqOf id2).val) (fun w => run_build w _ _ _ (by kernel_rfl)) ?_
  refine Ent.pure (x := (⟨reqOf id2, 0, 1⟩ : Waiting).val) (fun w => run_build w _ _ _ (by kernel_rfl)) ?_
  refine Ent.buildSlice (l := ws0) Try.underlying36 rfl rfl (by simp [ws0]) (by show 2 * 18 ≤ 16777216; decide) fun va => ?_
  refine Ent.sv (P := Try.prog) (α := Waiting) (l := ws0) Has.here fun a ha => ?_
  subst ha
  refine Ent.pure (x := (⟨0, 0, 13⟩ : Edge).val) (fun w => run_build w _ _ _ (by kernel_rfl)) ?_
  refine Ent.pure (x := (⟨1, 0, 18⟩ : Edge).val) (fun w => run_build w _ _ _ (by kernel_rfl)) ?_
  refine Ent.buildSlice (l := es0) Try.underlying38 rfl rfl (by simp [es0]) (by show 2 * 3 ≤ 16777216; decide) fun vc => ?_
  refine Ent.sv (P := Try.prog) (α := Edge) (l := es0) Has.here fun c hc => ?_
  subst hc
  refine Ent.pure (x := (⟨2, 1, c⟩ : Graph).val) (fun w => run_build w _ _ _ (by kernel_rfl)) ?_
  refine Ent.newV (x := (⟨2, 1, c⟩ : Graph)) fun b2 => ?_
  refine Ent.pure (x := id7.val) (fun w => run_build w _ _ _ (by kernel_rfl)) ?_
  refine Ent.pure (x := (drvOf id7).val) (fun w => run_build w _ _ _ (by kernel_rfl)) ?_
  refine Ent.pure (x := (⟨drvOf id7, 0⟩ : Idle).val) (fun w => run_build w _ _ _ (by kernel_rfl)) ?_
  refine Ent.buildSlice (l := ds0) Try.underlying37 rfl rfl (by simp [ds0]) (by show 1 * 14 ≤ 16777216; decide) fun vb => ?_
  refine Ent.sv (P := Try.prog) (α := Idle) (l := ds0) Has.here fun b hb => ?_
  subst hb
  refine Ent.sem (Runs.varV (x := (⟨2, 1, c⟩ : Graph))) ?_
  refine Ent.drop2 ?_
  refine Ent.pure (x := (⟨1, 0⟩ : Pair).val) (fun w => run_build w _ _ _ (by kernel_rfl)) ?_
  refine Ent.buildSlice (l := ps0) Try.underlying41 rfl rfl (by simp [ps0]) (by show 1 * 2 ≤ 16777216; decide) fun vd => ?_
  refine Ent.sv (P := Try.prog) (α := Pair) (l := ps0) Has.here fun d hd => ?_
  subst hd
  refine Ent.buildSlice (l := ([0, 5] : List Int)) Try.underlying42 rfl rfl (by simp) (by show 2 * 1 ≤ 16777216; decide) fun ve => ?_
  refine Ent.sv (P := Try.prog) (α := Int) (l := ([0, 5] : List Int)) Has.here fun e he => ?_
  subst he
  refine Ent.buildSlice (l := ([13] : List Int)) Try.underlying42 rfl rfl (by simp) (by show 1 * 1 ≤ 16777216; decide) fun vf => ?_
  refine Ent.sv (P := Try.prog) (α := Int) (l := ([13] : List Int)) Has.here fun f hf => ?_
  subst hf
  refine Ent.pure (x := (⟨d, e, f⟩ : Cert).val) (fun w => run_build w _ _ _ (by kernel_rfl)) ?_
  refine Ent.pure (x := (rec0 a b c d e f).val) (fun w => run_build w _ _ _ (by kernel_rfl)) ?_
  refine Ent.storeV (x := rec0 a b c d e f) (y := Enc.z Try.prog (α := Record)) ?_
  refine Ent.see (Runs.varV (x := rec0 a b c d e f)) ?_
  exact Ent.drop (h a b c d e f)
theorem recR_of {a b c d e f : SV} {Γ0 Γ : List Asn} {A : WP} [Suf (recCtx a b c d e f Γ0) Γ] (h : RecR Γ (rec0 a b c d e f) c0 → Ent Γ A) : Ent Γ A := fun w hs0 => by
  obtain ⟨p, hl, hp⟩ := hs0.1
  have hs' := ‹Suf (recCtx a b c d e f Γ0) Γ›
  obtain ⟨q, hq, hq2⟩ := hs'.out p hp
  have w0 : Sat (recCtx a b c d e f Γ0) w := ⟨⟨q, PH.le_trans hq hl, hq2⟩, hs0.2⟩
  have key : ∀ {α : Type} [Enc Try.prog α] (v : SV) (l : List α) (Δ : List Asn), Has (SlA Try.prog) v.val (recCtx a b c d e f Γ0) l Δ → SlR Try.prog (recCtx a b c d e f Γ0) v.val l := by
    intro α _ v l Δ hh
    apply Classical.byContradiction
    intro hn
    exact Ent.slr (c := fun _ => False) hh (fun hr => absurd hr hn) w w0
  refine h ⟨(key a ws0 _ Has.next).suf, (key b ds0 _ Has.next).suf, (key c es0 _ Has.next).suf, (key d ps0 _ Has.next).suf, (key e ([0, 5] : List Int) _ Has.next).suf, (key f ([13] : List Int) _ Has.here).suf⟩ w hs0
theorem good_first (a b c d e f : SV) : goodT (rec0 a b c d e f) c0 id1 = (true, true, false) := by kernel_rfl
theorem good_second (a b c d e f : SV) : goodT (rec0 a b c d e f) c0 id2 = (true, true, true) := by kernel_rfl
def st0 : WS := ⟨[], 0, 0, []⟩
def st1 : WS := ⟨[(id1, 1)], 1, 2, [id1]⟩
theorem see_first (a b c d e f : SV) : seeE st0 (rec0 a b c d e f) c0 = 0 := by kernel_rfl
theorem see_first' (a b c d e f : SV) : seeS st0 (rec0 a b c d e f) c0 = st1 := by
  have h : seeGo c0.ws (goods (rec0 a b c d e f) c0) (mates (rec0 a b c d e f) c0) [] st0.times st0.worst = ([id1], [(id1, 1)], 1) := by kernel_rfl
  simp only [seeS, see_first, h, ne_eq, not_true_eq_false, if_false]
  simp [st1, sortID, rec0]
theorem see_second (a b c d e f : SV) : seeE st1 (rec0 a b c d e f) c0 = 4 := by kernel_rfl
theorem see_second' (a b c d e f : SV) : seeS st1 (rec0 a b c d e f) c0 = st1 := by
  simp [seeS, see_second]
theorem run_eq_Standing (x y : Operand) (w : World) : (eqM .eql 112 x y (⟨id1, 1⟩ : Standing).val (⟨id1, 1⟩ : Standing).val).run Try.prog w = .ok (.bool true) w := by
  kernel_rfl
theorem alive_spec {Γ : List Asn} {K : Bool → WP} (h : Ent Γ (K true)) : Ent Γ (callT Try.prog inB 21 #[] K) := by
  refine Ent.call ?_
  refine Ent.byS (A := S.law21_alive _) S.law21_alive_ok ?_
  unfold S.law21_alive
  simp only [toT_V, toT_I, toT_B, toT_A, toT_rV, toT_rI, toT_rB, toT_pV, toT_pI, toT_pB, toT_pA, toT_cI, toT_cB]
  refine first_spec fun a b c d e f => ?_
  refine Ent.newV (x := rec0 a b c d e f) fun b1 => ?_
  refine recR_of (Γ0 := Γ) (a := a) (b := b) (c := c) (d := d) (e := e) (f := f) fun hr => ?_
  refine Ent.sem (Runs.varV (x := rec0 a b c d e f)) ?_
  refine Ent.pure (x := id1.val) (fun w => run_build w _ _ _ (by kernel_rfl)) ?_
  refine good_spec (id := id1) hr ?_
  rw [good_first]
  refine Ent.pure (x := true) (fun w => by simp [Instr.extract, bool3]) ?_
  refine Ent.pure (x := true) (fun w => by simp [Instr.extract, bool3]) ?_
  refine Ent.pure (x := false) (fun w => by simp [Instr.extract, bool3]) ?_
  refine Ent.sem (Runs.varV (x := rec0 a b c d e f)) ?_
  refine Ent.pure (x := id2.val) (fun w => run_build w _ _ _ (by kernel_rfl)) ?_
  refine good_spec (id := id2) hr ?_
  rw [good_second]
  refine Ent.pure (x := true) (fun w => by simp [Instr.extract, bool3]) ?_
  refine Ent.pure (x := true) (fun w => by simp [Instr.extract, bool3]) ?_
  refine Ent.pure (x := true) (fun w => by simp [Instr.extract, bool3]) ?_
  refine new_spec fun b2 m => ?_
  refine Ent.join (fun y Δ => y = false ∧ ∃ sv, Δ = watch b2 m sv st1 (var Try.prog b1 (rec0 a b c d e f) :: recCtx a b c d e f Γ)) (fun k hk => ?_) ?_
  · refine Ent.pure (x := false) (fun w => run_ptr_eql _ _ _ w) ?_
    refine Ent.orF rfl ?_
    refine Ent.orF rfl ?_
    refine Ent.orF rfl ?_
    refine Ent.orF rfl ?_
    refine Ent.orF rfl ?_
    refine Ent.orF rfl ?_
    refine Ent.orF rfl ?_
    refine worst_spec Has.here ?_
    refine Ent.orF rfl ?_
    refine Ent.sem (Runs.varV (x := rec0 a b c d e f)) ?_
    refine Ent.nilS (P := Try.prog) (α := ID) ?_
    refine Ent.sink2 ?_
    refine see_spec (sv := ⟨none, 0, 0⟩) (s := st0) (x := rec0 a b c d e f) (c := c0) (B := 0) hr (fun id => by simp [st0, tget]) (by decide) fun sv1 => ?_
    rw [see_first, see_first']
    refine Ent.orF rfl ?_
    refine Ent.sem (Runs.varV (x := rec0 a b c d e f)) ?_
    refine see_spec (sv := sv1) (s := st1) (x := rec0 a b c d e f) (c := c0) (B := 1) hr (fun id => ?_) (by decide) fun sv2 => ?_
    · simp only [st1, tget, List.find?_cons, List.find?_nil]
      split <;> simp
    rw [see_second, see_second']
    exact hk _ _ ⟨rfl, sv2, rfl⟩
  · rintro y Δ ⟨rfl, sv, rfl⟩
    refine Ent.iteF rfl ?_
    refine standing_spec (t := [(id1, 1)]) (ids := [id1]) (m := m) Has.here Has.next Has.next rfl (by decide) fun v => ?_
    have hst : stands [(id1, 1)] [id1] = [(⟨id1, 1⟩ : Standing)] := by kernel_rfl
    rw [hst]
    refine Ent.slr (P := Try.prog) (α := Standing) (v := v) (l := [(⟨id1, 1⟩ : Standing)]) Has.here fun hv => ?_
    refine Ent.join1 true (fun k hk => ?_) ?_
    · refine worst_spec Has.next ?_
      refine Ent.andT rfl ?_
      refine Ent.len hv Try.underlying67 ?_
      refine Ent.andT rfl ?_
      refine Ent.indexN (i := 0) (x := (⟨id1, 1⟩ : Standing)) hv Try.underlying67 rfl fun hrd => ?_
      refine Ent.sem (Runs.rdV (x := (⟨id1, 1⟩ : Standing)) hrd) ?_
      refine Ent.pure (x := id1.val) (fun w => run_build w _ _ _ (by kernel_rfl)) ?_
      refine Ent.pure (x := (⟨id1, 1⟩ : Standing).val) (fun w => run_build w _ _ _ (by kernel_rfl)) ?_
      refine Ent.pure (x := true) (fun w => run_eq_Standing _ _ w) ?_
      exact hk
    · refine Ent.ret (f := inB) (x := true) ?_
      refine Ent.drop (Ent.drop (Ent.drop (Ent.drop (Ent.drop (Ent.drop (Ent.drop (Ent.drop (Ent.drop (Ent.drop (Ent.drop h))))))))))
end Go.Cab
