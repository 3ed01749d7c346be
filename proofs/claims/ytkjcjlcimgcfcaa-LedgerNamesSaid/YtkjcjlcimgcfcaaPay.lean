/- Contracts: num.Add, the ledger's Pay. -/
import Derived.Test.YtkjcjlcimgcfcaaLedger
namespace Go.Cab
set_option linter.unusedSimpArgs false
set_option linter.unusedVariables false
set_option linter.unusedSectionVars false
open Go Go.Proofs
variable [Milieu]
instance sz77 : SizeT Try.prog 77 1 := ⟨Try.sizeOf77⟩
instance sz76 : SizeT Try.prog 76 1 := ⟨Try.sizeOf76⟩
def isN (n : Int) : Bool := decide (-4611686018427387903 ≤ n) && decide (n ≤ 4611686018427387903)
def addOk (a b : Int) : Bool := isN a && isN b && isN (IntKind.i64.wrap (a + b))
def addV (a b : Int) : Value := .tuple #[.int .i64 (if addOk a b then IntKind.i64.wrap (a + b) else 0), .bool (addOk a b)]
theorem add_spec {Γ : List Asn} {a b : Int} {K : Value → WP} (h : Ent Γ (K (addV a b))) : Ent Γ (callH Try.prog 35 #[.int .i64 a, .int .i64 b] K) := by
  refine Ent.byS (S.num_Add_ok (a0 := a) (a1 := b)) ?_
  unfold S.num_Add
  simp only [toT_V, toT_I, toT_B, toT_A, toT_rV, toT_rI, toT_rB, toT_pV, toT_pI, toT_pB, toT_pA, toT_cI, toT_cB]
  refine Ent.join1 (addOk a b) (fun k hk => ?_) ?_
  · refine is_spec ?_
    refine Ent.and (isN b) (fun _ k2 hk2 => ?_) ?_
    · refine is_spec ?_
      exact hk2
    refine Ent.and (isN (IntKind.i64.wrap (a + b))) (fun _ k2 hk2 => ?_) ?_
    · refine is_spec ?_
      exact hk2
    exact hk
  refine Ent.ite (fun hy => ?_) (fun hy => ?_)
  · have h1 : addV a b = .tuple #[.int .i64 (IntKind.i64.wrap (a + b)), .bool true] := by simp [addV, hy]
    rw [h1] at h
    exact h
  · have h1 : addV a b = .tuple #[.int .i64 0, .bool false] := by simp [addV, hy]
    rw [h1] at h
    exact h
noncomputable def payE (l : Accts) (f t : ID) (n : Int) : Int :=
  if decide (n < 1) || (decide (4611686018427387903 < n) || decide (f = t)) then 1
  else if IntKind.i64.wrap ((kget l f).balance - n) < IntKind.i64.wrap (0 - (kget l f).limit) then 230
  else if addOk (kget l t).balance n then 0 else 3
noncomputable def payA (l : Accts) (f t : ID) (n : Int) : Accts := if payE l f t n = 0 then bookA (bookA l f (IntKind.i64.wrap (0 - n))) t n else l
noncomputable def payS (l : Accts) (es : List Entry) (f t : ID) (n : Int) : List Entry := if payE l f t n = 0 then es ++ [⟨f, t, n⟩] else es
set_option maxHeartbeats 1000000 in
theorem pay_spec {Γ : List Asn} {b m : Nat} {sv : SV} {l : Accts} {es : List Entry} {f t : ID} {n : Int} {K : Int → WP} (hlen : es.length ≤ 1000000) (h : ∀ sv', Ent (led b m sv' (payA l f t n) (payS l es f t n) Γ) (K (payE l f t n))) :
    Ent (led b m sv l es Γ) (callT Try.prog (inI .i64) 12 #[.pointer (some ⟨b, 0, none⟩), f.val, t.val, .int .i64 n] K) := by
  refine Ent.call ?_
  refine Ent.byS (S.ledger_Ledger_Pay_ok (a3 := n)) ?_
  unfold S.ledger_Ledger_Pay
  simp only [toT_V, toT_I, toT_B, toT_A, toT_rV, toT_rI, toT_rB, toT_pV, toT_pI, toT_pB, toT_pA, toT_cI, toT_cB]
  refine Ent.boxV (x := f) fun b2 => ?_
  refine Ent.boxV (x := t) fun b3 => ?_
  refine lthere_spec (m := m) (sv := sv) Has.next ?_
  refine Ent.iteF rfl ?_
  refine Ent.join1 (decide (n < 1) || (decide (4611686018427387903 < n) || decide (f = t))) (fun k hk => ?_) ?_
  · refine Ent.or (decide (4611686018427387903 < n)) (fun _ k2 hk2 => hk2) ?_
    refine Ent.or (decide (f = t)) (fun _ k2 hk2 => ?_) ?_
    · refine Ent.sem (Runs.varV (x := f)) ?_
      refine Ent.sem (Runs.varV (x := t)) ?_
      refine Ent.pure (fun w => run_eq_ID f t _ _ w) ?_
      exact hk2
    exact Ent.cst hk (by simp [Bool.or_assoc])
  refine Ent.ite (fun hy => ?_) (fun hy => ?_)
  · have h1 : payE l f t n = 1 := by simp only [payE, hy, if_true]
    have h2 : payA l f t n = l := by simp [payA, h1]
    have h3 : payS l es f t n = es := by simp [payS, h1]
    rw [h1, h2, h3] at h
    exact Ent.ret (x := (1 : Int)) (Ent.drop (Ent.drop (h sv)))
  refine Ent.draw ?_
  refine Ent.asP rfl ?_
  refine Ent.read (x := Value.map (some m)) (Runs.fld (b := b) rfl rfl) ?_
  refine Ent.read (Runs.varV (x := f)) ?_
  refine Ent.read (x := (kget l f).val) (klk Has.next f) ?_
  refine Ent.allocV (α := Account) fun b4 => ?_
  refine Ent.keep (klk Has.next f) ?_
  refine Ent.keep (Runs.varV (x := f)) ?_
  refine Ent.keep (Runs.fld (b := b) rfl rfl) ?_
  refine Ent.storeV (x := kget l f) (y := Enc.z Try.prog (α := Account)) ?_
  first | refine Ent.sem (Runs.fld rfl (by rfl)) ?_ | refine Ent.sem (Runs.fld2 (by rfl)) ?_
  first | refine Ent.sem (Runs.fld rfl (by rfl)) ?_ | refine Ent.sem (Runs.fld2 (by rfl)) ?_
  refine Ent.drop ?_
  refine Ent.ite (fun hz => ?_) (fun hz => ?_)
  · have hz' : IntKind.i64.wrap ((kget l f).balance - n) < IntKind.i64.wrap (0 - (kget l f).limit) := by simpa using hz
    have h1 : payE l f t n = 230 := by simp only [payE, hy, hz', if_true, Bool.false_eq_true, if_false]
    have h2 : payA l f t n = l := by simp [payA, h1]
    have h3 : payS l es f t n = es := by simp [payS, h1]
    rw [h1, h2, h3] at h
    exact Ent.ret (x := (230 : Int)) (Ent.drop (Ent.drop (h sv)))
  have hz' : ¬ IntKind.i64.wrap ((kget l f).balance - n) < IntKind.i64.wrap (0 - (kget l f).limit) := by simpa using hz
  refine Ent.draw ?_
  refine Ent.asP rfl ?_
  refine Ent.read (x := Value.map (some m)) (Runs.fld (b := b) rfl rfl) ?_
  refine Ent.read (Runs.varV (x := t)) ?_
  refine Ent.read (x := (kget l t).val) (klk Has.next t) ?_
  refine Ent.pure (x := (kget l t).balance) (fun w => run_field0 _ w) ?_
  refine add_spec ?_
  refine Ent.pure (x := (if addOk (kget l t).balance n then IntKind.i64.wrap ((kget l t).balance + n) else 0)) (fun w => by simp [Instr.extract, addV]) ?_
  refine Ent.pure (x := addOk (kget l t).balance n) (fun w => by simp [Instr.extract, addV]) ?_
  refine Ent.ite (fun hq => ?_) (fun hq => ?_)
  · have hq' : addOk (kget l t).balance n = false := by simpa using hq
    have h1 : payE l f t n = 3 := by simp only [payE, hy, hz', hq', Bool.false_eq_true, if_false]
    have h2 : payA l f t n = l := by simp [payA, h1]
    have h3 : payS l es f t n = es := by simp [payS, h1]
    rw [h1, h2, h3] at h
    exact Ent.ret (x := (3 : Int)) (Ent.drop (Ent.drop (h sv)))
  have hq' : addOk (kget l t).balance n = true := by simpa using hq
  have h1 : payE l f t n = 0 := by simp only [payE, hy, hz', hq', Bool.false_eq_true, if_false, if_true]
  have h2 : payA l f t n = bookA (bookA l f (IntKind.i64.wrap (0 - n))) t n := by simp [payA, h1]
  have h3 : payS l es f t n = es ++ [⟨f, t, n⟩] := by simp [payS, h1]
  rw [h1, h2, h3] at h
  refine Ent.sem (Runs.varV (x := f)) ?_
  refine Ent.sink4 (A := var Try.prog b3 t) ?_
  refine Ent.sink3 (A := var Try.prog b2 f) ?_
  refine book_spec ?_
  refine Ent.sem (Runs.varV (x := t)) ?_
  refine book_spec ?_
  refine Ent.draw ?_
  refine Ent.asP rfl ?_
  refine Ent.read (x := sv.val) (Runs.fld (b := b) rfl rfl) ?_
  refine Ent.read (Runs.varV (x := f)) ?_
  refine Ent.read (Runs.varV (x := t)) ?_
  refine Ent.pure (x := (⟨f, t, n⟩ : Entry).val) (fun w => run_build w _ _ _ (by kernel_rfl)) ?_
  refine Ent.buildSlice (l := [(⟨f, t, n⟩ : Entry)]) Try.underlying77 rfl rfl (by simp) (by show 1 * 17 ≤ 16777216; decide) fun v3 => ?_
  refine Ent.keep (Runs.fld (b := b) rfl rfl) ?_
  have hmax : maxLen = 9223372036854775807 := rfl
  refine Ent.slr (P := Try.prog) (α := Entry) (v := v3) (l := [(⟨f, t, n⟩ : Entry)]) Has.here fun hv3 => ?_
  refine Ent.append (P := Try.prog) (α := Entry) (l := es) Has.next hv3 Try.underlying77 (by simp) (by show es.length + 1 ≤ maxLen; omega) (by show (es.length + 1) * 24 ≤ _; omega) fun v4 => ?_
  refine Ent.sv (P := Try.prog) (α := Entry) (l := es ++ [(⟨f, t, n⟩ : Entry)]) Has.here fun sv4 hsv4 => ?_
  subst hsv4
  refine Ent.drop2 ?_
  refine Ent.asP rfl ?_
  refine Ent.storeF (b := b) (Enc.cells Try.prog (⟨some m, sv4⟩ : LedgerV)) rfl rfl rfl rfl rfl ?_
  exact Ent.ret (x := (0 : Int)) (Ent.drop4 (Ent.drop4 (Ent.rot (Ent.swap (h sv4)))))
end Go.Cab
