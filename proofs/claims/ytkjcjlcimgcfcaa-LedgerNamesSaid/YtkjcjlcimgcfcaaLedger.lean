/- Contracts: the ledger's Balance, book, Credit, Pay. -/
import Derived.Test.YtkjcjlcimgcfcaaKV
namespace Go.Cab
set_option linter.unusedSimpArgs false
set_option linter.unusedVariables false
set_option linter.unusedSectionVars false
open Go Go.Proofs
variable [Milieu]
theorem klk {Γ Δ : List Asn} {m : Nat} {l : Accts} (hh : Has (MapA ID.val) m Γ (kv l) Δ) (id : ID) : Runs Try.prog Γ (Instr.lookup 76 (.map (some m)) id.val false) (kget l id).val := by
  have h := Runs.lookup (P := Try.prog) (enc := ID.val) (K := 28) (E := 86) (z := (Enc.val Try.prog (Enc.z Try.prog (α := Account)))) (x := id) Try.underlying76 Try.zeroValue86 (MapAt.of hh)
  rw [kv_get] at h
  exact h
theorem run_field0 (a : Account) (w : World) : (Instr.field 86 a.val 0).run Try.prog w = .ok (.int .i64 a.balance) w := by kernel_rfl
theorem balance_nil {Γ : List Asn} {id : ID} {K : Int → WP} (h : Ent Γ (K 0)) : Ent Γ (callT Try.prog (inI .i64) 14 #[.pointer none, id.val] K) := by
  refine Ent.call ?_
  refine Ent.byS (A := S.ledger_Ledger_Balance _ _ _) S.ledger_Ledger_Balance_ok ?_
  unfold S.ledger_Ledger_Balance
  simp only [toT_V, toT_I, toT_B, toT_A, toT_rV, toT_rI, toT_rB, toT_pV, toT_pI, toT_pB, toT_pA, toT_cI, toT_cB]
  refine Ent.boxV (x := id) fun b2 => ?_
  refine lthere_nil ?_
  exact Ent.ret (x := (0 : Int)) (Ent.drop h)
theorem balance_spec {Γ : List Asn} {b m : Nat} {sv : SV} {l : Accts} {es : List Entry} {id : ID} {K : Int → WP} (h : Ent (led b m sv l es Γ) (K (kget l id).balance)) : Ent (led b m sv l es Γ) (callT Try.prog (inI .i64) 14 #[.pointer (some ⟨b, 0, none⟩), id.val] K) := by
  refine Ent.call ?_
  refine Ent.byS (A := S.ledger_Ledger_Balance _ _ _) S.ledger_Ledger_Balance_ok ?_
  unfold S.ledger_Ledger_Balance
  simp only [toT_V, toT_I, toT_B, toT_A, toT_rV, toT_rI, toT_rB, toT_pV, toT_pI, toT_pB, toT_pA, toT_cI, toT_cB]
  refine Ent.boxV (x := id) fun b2 => ?_
  refine lthere_spec (m := m) (sv := sv) Has.next ?_
  refine Ent.iteF rfl ?_
  refine Ent.draw ?_
  refine Ent.asP rfl ?_
  refine Ent.read (x := Value.map (some m)) (Runs.fld (b := b) rfl rfl) ?_
  refine Ent.read (Runs.varV (x := id)) ?_
  refine Ent.read (x := (kget l id).val) (klk Has.next id) ?_
  refine Ent.pure (x := (kget l id).balance) (fun w => run_field0 _ w) ?_
  exact Ent.ret (x := (kget l id).balance) (Ent.drop h)
noncomputable def bookA (l : Accts) (id : ID) (n : Int) : Accts := kset l id ⟨IntKind.i64.wrap ((kget l id).balance + n), (kget l id).limit⟩
theorem book_spec {Γ : List Asn} {b m : Nat} {sv : SV} {l : Accts} {es : List Entry} {id : ID} {n : Int} {K : Value → WP} (h : Ent (led b m sv (bookA l id n) es Γ) (K (.tuple #[]))) : Ent (led b m sv l es Γ) (callH Try.prog 36 #[.pointer (some ⟨b, 0, none⟩), id.val, .int .i64 n] K) := by
  refine Ent.byS (S.ledger_Ledger_book_ok (a2 := n)) ?_
  unfold S.ledger_Ledger_book
  simp only [toT_V, toT_I, toT_B, toT_A, toT_rV, toT_rI, toT_rB, toT_pV, toT_pI, toT_pB, toT_pA, toT_cI, toT_cB]
  refine Ent.boxV (x := id) fun b2 => ?_
  refine Ent.draw ?_
  refine Ent.asP rfl ?_
  refine Ent.read (x := Value.map (some m)) (Runs.fld (b := b) rfl rfl) ?_
  refine Ent.read (Runs.varV (x := id)) ?_
  refine Ent.read (x := (kget l id).val) (klk Has.next id) ?_
  refine Ent.allocV (α := Account) fun b3 => ?_
  refine Ent.keep (klk Has.next id) ?_
  refine Ent.keep (Runs.varV (x := id)) ?_
  refine Ent.keep (Runs.fld (b := b) rfl rfl) ?_
  refine Ent.storeV (x := kget l id) (y := Enc.z Try.prog (α := Account)) ?_
  first | refine Ent.sem (Runs.fld rfl (by rfl)) ?_ | refine Ent.sem (Runs.fld2 (by rfl)) ?_
  refine Ent.storeF (b := b3) (Enc.cells Try.prog (⟨IntKind.i64.wrap ((kget l id).balance + n), (kget l id).limit⟩ : Account)) rfl rfl rfl rfl rfl ?_
  refine Ent.draw ?_
  refine Ent.asP rfl ?_
  refine Ent.read (x := Value.map (some m)) (Runs.fld (b := b) rfl rfl) ?_
  refine Ent.read (Runs.varV (x := id)) ?_
  refine Ent.read (Runs.varV (x := (⟨IntKind.i64.wrap ((kget l id).balance + n), (kget l id).limit⟩ : Account))) ?_
  refine Ent.mapUpdate (enc := ID.val) (K := 28) (E := 86) Try.underlying76 Has.next ?_
  rw [kv_set]
  exact Ent.drop2 (Ent.drop2 (Ent.swap h))
noncomputable def creditE (l : Accts) (id : ID) (n : Int) : Int := if decide (n < 0) || decide (4611686018427387903 < n) then 1 else if (kget l id).balance < IntKind.i64.wrap (0 - n) then 230 else 0
noncomputable def creditA (l : Accts) (id : ID) (n : Int) : Accts := if creditE l id n = 0 then kset l id ⟨(kget l id).balance, n⟩ else l
theorem credit_spec {Γ : List Asn} {b m : Nat} {sv : SV} {l : Accts} {es : List Entry} {id : ID} {n : Int} {K : Int → WP} (h : Ent (led b m sv (creditA l id n) es Γ) (K (creditE l id n))) : Ent (led b m sv l es Γ) (callT Try.prog (inI .i64) 10 #[.pointer (some ⟨b, 0, none⟩), id.val, .int .i64 n] K) := by
  refine Ent.call ?_
  refine Ent.byS (S.ledger_Ledger_Credit_ok (a2 := n)) ?_
  unfold S.ledger_Ledger_Credit
  simp only [toT_V, toT_I, toT_B, toT_A, toT_rV, toT_rI, toT_rB, toT_pV, toT_pI, toT_pB, toT_pA, toT_cI, toT_cB]
  refine Ent.boxV (x := id) fun b2 => ?_
  refine lthere_spec (m := m) (sv := sv) Has.next ?_
  refine Ent.iteF rfl ?_
  refine Ent.join1 (decide (n < 0) || decide (4611686018427387903 < n)) (fun k hk => ?_) ?_
  · refine Ent.or (decide (4611686018427387903 < n)) (fun _ k2 hk2 => hk2) ?_
    exact hk
  refine Ent.ite (fun hy => ?_) (fun hy => ?_)
  · have h1 : creditE l id n = 1 := by simp only [creditE, hy, if_true]
    have h2 : creditA l id n = l := by simp [creditA, h1]
    rw [h1, h2] at h
    exact Ent.ret (x := (1 : Int)) (Ent.drop h)
  refine Ent.draw ?_
  refine Ent.asP rfl ?_
  refine Ent.read (x := Value.map (some m)) (Runs.fld (b := b) rfl rfl) ?_
  refine Ent.read (Runs.varV (x := id)) ?_
  refine Ent.read (x := (kget l id).val) (klk Has.next id) ?_
  refine Ent.allocV (α := Account) fun b3 => ?_
  refine Ent.keep (klk Has.next id) ?_
  refine Ent.keep (Runs.varV (x := id)) ?_
  refine Ent.keep (Runs.fld (b := b) rfl rfl) ?_
  refine Ent.storeV (x := kget l id) (y := Enc.z Try.prog (α := Account)) ?_
  first | refine Ent.sem (Runs.fld rfl (by rfl)) ?_ | refine Ent.sem (Runs.fld2 (by rfl)) ?_
  refine Ent.ite (fun hz => ?_) (fun hz => ?_)
  · have hz' : (kget l id).balance < IntKind.i64.wrap (0 - n) := by simpa using hz
    have h1 : creditE l id n = 230 := by simp only [creditE, hy, hz', if_true, Bool.false_eq_true, if_false]
    have h2 : creditA l id n = l := by simp [creditA, h1]
    rw [h1, h2] at h
    exact Ent.ret (x := (230 : Int)) (Ent.drop (Ent.drop h))
  have hz' : ¬ (kget l id).balance < IntKind.i64.wrap (0 - n) := by simpa using hz
  have h1 : creditE l id n = 0 := by simp only [creditE, hy, hz', Bool.false_eq_true, if_false]
  have h2 : creditA l id n = kset l id ⟨(kget l id).balance, n⟩ := by simp [creditA, h1]
  rw [h1, h2] at h
  refine Ent.storeF (b := b3) (Enc.cells Try.prog (⟨(kget l id).balance, n⟩ : Account)) rfl rfl rfl rfl rfl ?_
  refine Ent.draw ?_
  refine Ent.asP rfl ?_
  refine Ent.read (x := Value.map (some m)) (Runs.fld (b := b) rfl rfl) ?_
  refine Ent.read (Runs.varV (x := id)) ?_
  refine Ent.read (Runs.varV (x := (⟨(kget l id).balance, n⟩ : Account))) ?_
  refine Ent.mapUpdate (enc := ID.val) (K := 28) (E := 86) Try.underlying76 Has.next ?_
  rw [kv_set]
  exact Ent.ret (x := (0 : Int)) (Ent.drop2 (Ent.drop2 (Ent.swap h)))
end Go.Cab
