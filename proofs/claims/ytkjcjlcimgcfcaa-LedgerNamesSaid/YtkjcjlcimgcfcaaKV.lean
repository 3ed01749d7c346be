/- Maps from ids to values of a type; the ledger's small functions. -/
import Derived.Test.YtkjcjlcimgcfcaaSee
import Derived.Test.YtkjcjlcimgcfcaaLedgerS
namespace Go.Cab
set_option linter.unusedSimpArgs false
set_option linter.unusedVariables false
set_option linter.unusedSectionVars false
open Go Go.Proofs
section
variable {β : Type} [E : Enc Try.prog β]
abbrev KV (β : Type) := List (ID × β)
noncomputable def kv (l : KV β) : AL ID := l.map fun p => (p.1, Enc.val Try.prog p.2)
noncomputable def kget (l : KV β) (x : ID) : β := ((l.find? fun p => decide (p.1 = x)).map (·.2)).getD (Enc.z Try.prog)
def kset : KV β → ID → β → KV β
  | [], x, v => [(x, v)]
  | p :: r, x, v => if p.1 = x then (x, v) :: r else p :: kset r x v
theorem kv_get (l : KV β) (x : ID) : ((kv l).get x).getD (Enc.val Try.prog (Enc.z Try.prog (α := β))) = Enc.val Try.prog (kget l x) := by
  induction l with
  | nil => rfl
  | cons p r ih =>
    unfold kv AL.get kget at *
    simp only [List.map_cons, List.find?_cons]
    by_cases h : p.1 = x
    · simp [h]
    · simpa [h] using ih
omit E in
theorem kset_keys (l : KV β) (x : ID) (v : β) : (kset l x v).map (·.1) = if x ∈ l.map (·.1) then l.map (·.1) else l.map (·.1) ++ [x] := by
  induction l with
  | nil => simp [kset]
  | cons p r ih =>
    by_cases h : p.1 = x
    · simp [kset, h]
    · have h' : ¬ x = p.1 := fun e => h e.symm
      simp only [kset, h, if_false, List.map_cons, ih, List.mem_cons, h', false_or]
      split <;> simp
theorem kv_set (l : KV β) (x : ID) (n : β) : (kv l).set x (Enc.val Try.prog n) = kv (kset l x n) := by
  induction l with
  | nil => rfl
  | cons p r ih =>
    unfold kv at *
    simp only [List.map_cons, AL.set, kset]
    by_cases h : p.1 = x
    · simp [h]
    · simp [h, ih]
theorem kget_kset (l : KV β) (x y : ID) (n : β) : kget (kset l x n) y = if x = y then n else kget l y := by
  induction l with
  | nil => by_cases h : x = y <;> simp [kset, kget, h]
  | cons p r ih =>
    by_cases h : p.1 = x
    · subst h
      by_cases h2 : p.1 = y <;> simp [kset, kget, h2]
    · by_cases h2 : p.1 = y
      · subst h2
        have h3 : ¬ x = p.1 := fun e => h e.symm
        simp [kset, kget, h, h3]
      · unfold kget at ih ⊢
        simp only [kset, h, if_false, List.find?_cons, h2, decide_false, Bool.false_eq_true]
        exact ih
end
variable [Milieu]
abbrev Accts := KV Account
theorem run_lptr_neq (p : Option Addr) (x y : Operand) (w : World) : (eqM .neq 22 x y (.pointer p) (.pointer none)).run Try.prog w = .ok (.bool p.isSome) w := by
  cases p <;> kernel_rfl
theorem run_lptr_eql (p : Option Addr) (x y : Operand) (w : World) : (eqM .eql 22 x y (.pointer p) (.pointer none)).run Try.prog w = .ok (.bool p.isNone) w := by
  cases p <;> kernel_rfl
theorem run_lmap_neq (p : Option Nat) (x y : Operand) (w : World) : (eqM .neq 76 x y (.map p) (.map none)).run Try.prog w = .ok (.bool p.isSome) w := by
  cases p <;> kernel_rfl
/-- the ledger as it lies -/
abbrev led (b m : Nat) (sv : SV) (l : Accts) (es : List Entry) (Γ : List Asn) : List Asn := var Try.prog b (⟨some m, sv⟩ : LedgerV) :: ab (MapA ID.val) m (kv l) :: ab (SlA Try.prog) sv.val es :: Γ
theorem lthere_nil {Γ : List Asn} {K : Bool → WP} (h : Ent Γ (K false)) : Ent Γ (callT Try.prog inB 34 #[.pointer none] K) := by
  refine Ent.call ?_
  refine Ent.byS (A := S.ledger_Ledger_there _ _) S.ledger_Ledger_there_ok ?_
  unfold S.ledger_Ledger_there
  simp only [toT_V, toT_I, toT_B, toT_A, toT_rV, toT_rI, toT_rB, toT_pV, toT_pI, toT_pB, toT_pA, toT_cI, toT_cB]
  refine Ent.join1 false (fun k hk => ?_) ?_
  · refine Ent.pure (x := false) (fun w => run_lptr_neq none _ _ w) ?_
    exact hk
  exact Ent.ret (f := inB) (x := false) h
theorem lthere_spec {Γ Δ : List Asn} {b m : Nat} {sv : SV} {K : Bool → WP} (hh : Has Blk b Γ (.cells (Enc.cells Try.prog (⟨some m, sv⟩ : LedgerV)).toArray 79 (0, 0)) Δ) (h : Ent Γ (K true)) : Ent Γ (callT Try.prog inB 34 #[.pointer (some ⟨b, 0, none⟩)] K) := by
  refine Ent.call ?_
  refine Ent.byS (A := S.ledger_Ledger_there _ _) S.ledger_Ledger_there_ok ?_
  unfold S.ledger_Ledger_there
  simp only [toT_V, toT_I, toT_B, toT_A, toT_rV, toT_rI, toT_rB, toT_pV, toT_pI, toT_pB, toT_pA, toT_cI, toT_cB]
  refine Ent.join1 true (fun k hk => ?_) ?_
  · refine Ent.pure (x := true) (fun w => run_lptr_neq (some _) _ _ w) ?_
    refine Ent.and true (fun _ k2 hk2 => ?_) ?_
    · refine Ent.asP rfl ?_
      first | refine Ent.sem (Runs.fld rfl (by rfl)) ?_ | refine Ent.sem (Runs.fld2 (by rfl)) ?_
      refine Ent.pure (x := true) (fun w => run_lmap_neq (some m) _ _ w) ?_
      exact hk2
    · exact hk
  exact Ent.ret (f := inB) (x := true) h
theorem Ent.newMapK {β : Type} [Enc Try.prog β] {Γ : List Asn} {b : Nat} {c : WP} (h : Ent (ab (MapA ID.val) b (kv ([] : KV β)) :: Γ) c) : Ent (ab Blk b (.map #[] 0) :: Γ) c :=
  Ent.conv (Γ := ab Blk b (.map #[] 0) :: Γ) (Δ := ab (MapA ID.val) b (kv ([] : KV β)) :: Γ) (fun _ hh => star_mono (A := ab Blk b (.map #[] 0)) (B := Sep Γ) (fun a ha => ⟨#[], 0, ha, rfl, List.nodup_nil, List.Pairwise.nil, by simp⟩) (fun _ x => x) hh) h
theorem lnew_spec {Γ : List Asn} {K : Value → WP} (h : ∀ b m, Ent (led b m ⟨none, 0, 0⟩ [] [] Γ) (K (.pointer (some ⟨b, 0, none⟩)))) : Ent Γ (callH Try.prog 8 #[] K) := by
  refine Ent.byS (A := S.ledger_New _) S.ledger_New_ok ?_
  unfold S.ledger_New
  simp only [toT_V, toT_I, toT_B, toT_A, toT_rV, toT_rI, toT_rB, toT_pV, toT_pI, toT_pB, toT_pA, toT_cI, toT_cB]
  refine Ent.makeMap fun m => ?_
  refine Ent.pure (x := (⟨some m, ⟨none, 0, 0⟩⟩ : LedgerV).val) (fun w => run_build w _ _ _ (by kernel_rfl)) ?_
  refine Ent.newMapK (β := Account) ?_
  refine Ent.boxV (x := (⟨some m, ⟨none, 0, 0⟩⟩ : LedgerV)) fun b => ?_
  refine Ent.nilS (P := Try.prog) (α := Entry) ?_
  exact Ent.sink2 (h b m)
def idOf (n : UInt8) : ID := ⟨0, 0, 0, 0, 0, 0, 0, n⟩
theorem id_spec {Γ : List Asn} {n : UInt8} {K : Value → WP} (h : Ent Γ (K (idOf n).val)) : Ent Γ (callH Try.prog 11 #[.int .u8 (n.toNat : Int)] K) := by
  refine Ent.byS (S.law23_id_ok (a0 := (n.toNat : Int))) ?_
  unfold S.law23_id
  simp only [toT_V, toT_I, toT_B, toT_A, toT_rV, toT_rI, toT_rB, toT_pV, toT_pI, toT_pB, toT_pA, toT_cI, toT_cB]
  refine Ent.allocV (α := ID) fun b => ?_
  refine Ent.pure (x := (idOf n).val) (fun w => run_build w _ _ _ (by kernel_rfl)) ?_
  refine Ent.storeV (x := idOf n) (y := Enc.z Try.prog (α := ID)) ?_
  refine Ent.see (Runs.varV (x := idOf n)) ?_
  exact Ent.drop h
theorem is_spec {Γ : List Asn} {n : Int} {K : Bool → WP} (h : Ent Γ (K (decide (-4611686018427387903 ≤ n) && decide (n ≤ 4611686018427387903)))) : Ent Γ (callT Try.prog inB 59 #[.int .i64 n] K) := by
  refine Ent.call ?_
  refine Ent.byS (S.num_is_ok (a0 := n)) ?_
  unfold S.num_is
  refine Ent.join1 (decide (-4611686018427387903 ≤ n) && decide (n ≤ 4611686018427387903)) (fun k hk => ?_) ?_
  · refine Ent.and (decide (n ≤ 4611686018427387903)) (fun _ k2 hk2 => hk2) ?_
    exact hk
  exact Ent.ret (f := inB) (x := (decide (-4611686018427387903 ≤ n) && decide (n ≤ 4611686018427387903))) h
end Go.Cab
