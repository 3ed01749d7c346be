/- The law LedgerNames, as a call. -/
import Derived.Test.YtkjcjlcimgcfcaaSettle
namespace Go.Cab
set_option linter.unusedSimpArgs false
set_option linter.unusedVariables false
set_option linter.unusedSectionVars false
open Go Go.Proofs
variable [Milieu]
abbrev i4 : ID := idOf 4
def L1 : Accts := [(i1, ⟨0, 100⟩)]
def L2 : Accts := [(i1, ⟨-50, 100⟩), (i2, ⟨50, 0⟩)]
def L3 : Accts := [(i1, ⟨-50, 100⟩), (i2, ⟨30, 0⟩), (i3, ⟨20, 0⟩)]
def E2 : List Entry := [⟨i1, i2, 50⟩, ⟨i2, i3, 20⟩]
def Q3 : List Entry := [⟨i3, i2, 5⟩, ⟨i3, i4, 16⟩, ⟨i4, i2, 1⟩]
theorem SlR.re {P : Program} {α : Type} {E : Enc P α} {Γ1 Γ2 : List Asn} {v : Value} {l : List α} (h : SlR P Γ1 v l) [hs : Sl P Γ2 v α E l] : SlR P Γ2 v l := ⟨h.shape, fun i x hx j u hu p hp => (hs.at_ p hp).rd i x hx j u hu⟩
theorem all_nil {Γ : List Asn} {v : Value} {K : Value → WP} (h : Ent Γ (K (.tuple #[.int .i64 0, .int .i64 2]))) : Ent Γ (callH Try.prog 13 #[.pointer none, v] K) := by
  refine Ent.byS (A := S.ledger_Ledger_All _ _ _) S.ledger_Ledger_All_ok ?_
  unfold S.ledger_Ledger_All
  simp only [toT_V, toT_I, toT_B, toT_A, toT_rV, toT_rI, toT_rB, toT_pV, toT_pI, toT_pB, toT_pA, toT_cI, toT_cB]
  refine lthere_nil ?_
  exact h
theorem accs3 : Accs3 L3 := ⟨by kernel_rfl, by kernel_rfl, by kernel_rfl, by kernel_rfl⟩
theorem lives_spec {Γ : List Asn} {K : Bool → WP} (h : Ent Γ (K true)) : Ent Γ (callT Try.prog inB 9 #[] K) := by
  refine Ent.call ?_
  refine Ent.byS (A := S.law23_lives _) S.law23_lives_ok ?_
  unfold S.law23_lives
  simp only [toT_V, toT_I, toT_B, toT_A, toT_rV, toT_rI, toT_rB, toT_pV, toT_pI, toT_pB, toT_pA, toT_cI, toT_cB]
  refine lnew_spec fun b m => ?_
  refine Ent.pure (x := false) (fun w => run_lptr_eql (some _) _ _ w) ?_
  refine Ent.iteF rfl ?_
  refine id_spec (n := 1) (id_spec (n := 2) ?_)
  refine pay_spec (by decide) fun sv1 => ?_
  rw [show payE [] (idOf 1) (idOf 2) 50 = 230 by kernel_rfl, show payA [] (idOf 1) (idOf 2) 50 = [] by kernel_rfl, show payS [] [] (idOf 1) (idOf 2) 50 = [] by kernel_rfl]
  refine id_spec (n := 1) ?_
  refine credit_spec ?_
  rw [show creditE [] (idOf 1) 100 = 0 by kernel_rfl, show creditA [] (idOf 1) 100 = L1 by kernel_rfl]
  refine id_spec (n := 1) (id_spec (n := 2) ?_)
  refine pay_spec (by decide) fun sv2 => ?_
  rw [show payE L1 (idOf 1) (idOf 2) 50 = 0 by kernel_rfl, show payA L1 (idOf 1) (idOf 2) 50 = L2 by kernel_rfl, show payS L1 [] (idOf 1) (idOf 2) 50 = [⟨i1, i2, 50⟩] by kernel_rfl]
  refine id_spec (n := 2) (id_spec (n := 3) ?_)
  refine pay_spec (by decide) fun sv3 => ?_
  rw [show payE L2 (idOf 2) (idOf 3) 20 = 0 by kernel_rfl, show payA L2 (idOf 2) (idOf 3) 20 = L3 by kernel_rfl, show payS L2 [⟨i1, i2, 50⟩] (idOf 2) (idOf 3) 20 = E2 by kernel_rfl]
  refine settle_spec accs3 fun sx => ?_
  refine entry_spec (f := 3) (t := 2) (entry_spec (f := 3) (t := 4) (entry_spec (f := 4) (t := 2) ?_))
  refine Ent.bsA (E := enc_82) (l := Q3) rfl rfl (by simp [Q3]) (by decide) fun sq hsq => ?_
  refine Ent.to (Δ := led b m sv3 L3 E2 (ab (@SlA Try.prog Entry enc_82) sx.val [⟨i2, i1, 30⟩, ⟨i3, i1, 20⟩] :: ab (@SlA Try.prog Entry enc_82) sq.val Q3 :: Γ)) ?_ (by (repeat (first | exact Subs.tail | exact Subs.nil | refine Subs.cons inferInstance ?_)))
  refine Ent.slrA (P := Try.prog) (E := enc_82) (v := sq.val) (l := Q3) fun hq => ?_
  have hgo : allGo L3 E2 Q3 0 = (1, 230, bookA (bookA L3 i3 (-5)) i2 5, E2 ++ [⟨i3, i2, 5⟩]) := by kernel_rfl
  refine all_spec (list := Q3) hq.re (by decide) (by simp [E2]) (fun sv' l' es' hg => ?_) (fun sv' i e l' es' m2 l2 hg hne hp => ?_)
  · rw [hgo] at hg; simp at hg
  rw [hgo] at hg
  simp only [Prod.mk.injEq] at hg
  obtain ⟨rfl, rfl, rfl, rfl⟩ := hg
  (repeat (first | ((with_reducible apply Ent.ldA); exact rfl; exact rfl) | ((with_reducible apply Ent.rdA); exact rfl; exact rfl) | ((with_reducible apply Ent.kpA); exact rfl; exact rfl) | ((with_reducible apply Ent.lenA)) | ((with_reducible apply Ent.draw)) | ((with_reducible apply Ent.boxA); exact rfl; intro _) | ((with_reducible apply Ent.alA); intro _) | ((with_reducible apply Ent.stA); exact rfl; exact rfl) | ((with_reducible apply Ent.asP); exact rfl) | ((with_reducible apply Ent.exA); exact rfl) | ((with_reducible apply Ent.eqA); exact rfl; exact rfl) | ((with_reducible apply Ent.neA); exact rfl; exact rfl) | ((with_reducible apply Ent.seA); exact rfl) | ((with_reducible apply Ent.ixN); (first | (exact hx; exact rfl) | (exact hp; exact hpi) | (exact hx2; exact hxi2)); intro hrd)))
  have hnd : (L3.map (·.1)).Nodup := by decide
  have hb1 : (kget l2 (idOf 1)).balance = -50 := by rw [kget_perm hp hnd]; kernel_rfl
  have hb2 : (kget l2 (idOf 2)).balance = 30 := by rw [kget_perm hp hnd]; kernel_rfl
  refine Ent.joinB true (fun k hk => ?_) ?_
  · refine Ent.andT rfl ?_
    refine Ent.andT rfl ?_
    refine Ent.andT rfl ?_
    refine Ent.andT rfl ?_
    refine id_spec (n := 1) ?_
    refine balance_specH (m := m2) (sv := ⟨sv'.b, 2, 2⟩) (l := l2) inferInstance inferInstance ?_
    refine Ent.andT (by rw [hb1]; rfl) ?_
    refine id_spec (n := 2) ?_
    refine balance_specH (m := m2) (sv := ⟨sv'.b, 2, 2⟩) (l := l2) inferInstance inferInstance ?_
    refine Ent.andT (by rw [hb2]; rfl) ?_
    refine Ent.slrA (P := Try.prog) (E := enc_82) (v := (⟨sv'.b, 2, 2⟩ : SV).val) (l := E2) (h := ⟨fun p hp => SlAt.upto (k := 2) (n := sv'.n) (c := sv'.c) ((inferInstance : Sl Try.prog (ledBad b m m2 sv' E2.length l2 (bookA (bookA L3 i3 (-5)) i2 5) (E2 ++ [⟨i3, i2, 5⟩]) (ab (@SlA Try.prog Entry enc_82) sx.val [⟨i2, i1, 30⟩, ⟨i3, i1, 20⟩] :: ab (@SlA Try.prog Entry enc_82) sq.val Q3 :: Γ)) sv'.val Entry enc_82 (E2 ++ [⟨i3, i2, 5⟩])).at_ p hp) (by decide)⟩) fun he2 => ?_
    refine entries_specH (m := m2) (sv := ⟨sv'.b, 2, 2⟩) (es := E2) inferInstance he2 (by simp [E2]) (by decide) fun ve => ?_
    (repeat (first | ((with_reducible apply Ent.ldA); exact rfl; exact rfl) | ((with_reducible apply Ent.rdA); exact rfl; exact rfl) | ((with_reducible apply Ent.kpA); exact rfl; exact rfl) | ((with_reducible apply Ent.lenA)) | ((with_reducible apply Ent.draw)) | ((with_reducible apply Ent.boxA); exact rfl; intro _) | ((with_reducible apply Ent.alA); intro _) | ((with_reducible apply Ent.stA); exact rfl; exact rfl) | ((with_reducible apply Ent.asP); exact rfl) | ((with_reducible apply Ent.exA); exact rfl) | ((with_reducible apply Ent.eqA); exact rfl; exact rfl) | ((with_reducible apply Ent.neA); exact rfl; exact rfl) | ((with_reducible apply Ent.seA); exact rfl) | ((with_reducible apply Ent.ixN); (first | (exact hx; exact rfl) | (exact hp; exact hpi) | (exact hx2; exact hxi2)); intro hrd)))
    refine Ent.andT rfl ?_
    refine entry_spec (f := 2) (t := 1) (entry_spec (f := 3) (t := 1) ?_)
    refine Ent.bsA (E := enc_82) (l := [⟨i2, i1, 30⟩, ⟨i3, i1, 20⟩]) rfl rfl (by simp) (by decide) fun sz hsz => ?_
    refine Ent.slrA (P := Try.prog) (E := enc_82) (v := sx.val) (l := [⟨i2, i1, 30⟩, ⟨i3, i1, 20⟩]) fun hx1 => ?_
    refine Ent.slrA (P := Try.prog) (E := enc_82) (v := sz.val) (l := [⟨i2, i1, 30⟩, ⟨i3, i1, 20⟩]) fun hx2 => ?_
    refine same_spec hx1 hx2 (fun e _ x y w => ?_) ?_
    · obtain ⟨r, _, h2, h3⟩ := (inferInstance : EqT Try.prog 82 Entry enc_82).op e e x y w
      have : r = true := h3.2 rfl
      rw [this] at h2; exact h2
    refine Ent.andT rfl ?_
    refine Ent.andT rfl ?_
    exact (hk _ rfl).to (by (repeat (first | exact Subs.tail | exact Subs.nil | refine Subs.cons inferInstance ?_)))
  · exact h.retA rfl (by (repeat (first | exact Subs.tail | exact Subs.nil | refine Subs.cons inferInstance ?_)))
def M1 : Accts := [(i1, ⟨0, 4611686018427387903⟩)]
def M2 : Accts := [(i1, ⟨-4611686018427387903, 4611686018427387903⟩), (i2, ⟨4611686018427387903, 0⟩)]
def M3 : Accts := [(i1, ⟨-4611686018427387903, 4611686018427387903⟩), (i2, ⟨4611686018427387903, 0⟩), (i3, ⟨0, 5⟩)]
def F1 : List Entry := [⟨i1, i2, 4611686018427387903⟩]
theorem ledgerNames_spec {Γ : List Asn} {K : Value → WP} (h : Ent Γ (K (.bool true))) : Ent Γ (callH Try.prog 3 #[] K) := by
  refine Ent.byS (A := S.law23_LedgerNames _) S.law23_LedgerNames_ok ?_
  unfold S.law23_LedgerNames
  simp only [toT_V, toT_I, toT_B, toT_A, toT_rV, toT_rI, toT_rB, toT_pV, toT_pI, toT_pB, toT_pA, toT_cI, toT_cB]
  refine lnew_spec fun b m => ?_
  refine Ent.joinB false (fun k hk => ?_) ?_
  · refine Ent.pure (x := false) (fun w => run_lptr_eql (some _) _ _ w) ?_
    refine Ent.orF rfl ?_
    refine lives_spec ?_
    exact hk _ rfl
  refine Ent.iteF rfl ?_
  refine id_spec (n := 1) ?_
  refine credit_spec ?_
  rw [show creditE [] (idOf 1) 4611686018427387903 = 0 by kernel_rfl, show creditA [] (idOf 1) 4611686018427387903 = M1 by kernel_rfl]
  refine id_spec (n := 1) ?_
  refine credit_spec ?_
  rw [show creditE M1 (idOf 1) 4611686018427387904 = 1 by kernel_rfl, show creditA M1 (idOf 1) 4611686018427387904 = M1 by kernel_rfl]
  refine id_spec (n := 1) (id_spec (n := 2) ?_)
  refine pay_spec (by decide) fun sv1 => ?_
  rw [show payE M1 (idOf 1) (idOf 2) 4611686018427387903 = 0 by kernel_rfl, show payA M1 (idOf 1) (idOf 2) 4611686018427387903 = M2 by kernel_rfl, show payS M1 [] (idOf 1) (idOf 2) 4611686018427387903 = F1 by kernel_rfl]
  refine id_spec (n := 1) (id_spec (n := 2) ?_)
  refine pay_spec (by decide) fun sv2 => ?_
  rw [show payE M2 (idOf 1) (idOf 2) 1 = 230 by kernel_rfl, show payA M2 (idOf 1) (idOf 2) 1 = M2 by kernel_rfl, show payS M2 F1 (idOf 1) (idOf 2) 1 = F1 by kernel_rfl]
  refine id_spec (n := 3) ?_
  refine credit_spec ?_
  rw [show creditA M2 (idOf 3) 5 = M3 by kernel_rfl]
  refine id_spec (n := 3) (id_spec (n := 2) ?_)
  refine pay_spec (by decide) fun sv3 => ?_
  rw [show payE M3 (idOf 3) (idOf 2) 1 = 3 by kernel_rfl, show payA M3 (idOf 3) (idOf 2) 1 = M3 by kernel_rfl, show payS M3 F1 (idOf 3) (idOf 2) 1 = F1 by kernel_rfl]
  refine id_spec (n := 1) ?_
  refine credit_spec ?_
  rw [show creditE M3 (idOf 1) 4611686018427387902 = 230 by kernel_rfl, show creditA M3 (idOf 1) 4611686018427387902 = M3 by kernel_rfl]
  refine id_spec (n := 2) (id_spec (n := 2) ?_)
  refine pay_spec (by decide) fun sv4 => ?_
  rw [show payE M3 (idOf 2) (idOf 2) 1 = 1 by kernel_rfl, show payA M3 (idOf 2) (idOf 2) 1 = M3 by kernel_rfl, show payS M3 F1 (idOf 2) (idOf 2) 1 = F1 by kernel_rfl]
  refine id_spec (n := 2) (id_spec (n := 1) ?_)
  refine pay_spec (by decide) fun sv5 => ?_
  rw [show payE M3 (idOf 2) (idOf 1) (-9223372036854775808) = 1 by kernel_rfl, show payA M3 (idOf 2) (idOf 1) (-9223372036854775808) = M3 by kernel_rfl, show payS M3 F1 (idOf 2) (idOf 1) (-9223372036854775808) = F1 by kernel_rfl]
  refine all_nil ?_
  (repeat (first | ((with_reducible apply Ent.ldA); exact rfl; exact rfl) | ((with_reducible apply Ent.rdA); exact rfl; exact rfl) | ((with_reducible apply Ent.kpA); exact rfl; exact rfl) | ((with_reducible apply Ent.lenA)) | ((with_reducible apply Ent.draw)) | ((with_reducible apply Ent.boxA); exact rfl; intro _) | ((with_reducible apply Ent.alA); intro _) | ((with_reducible apply Ent.stA); exact rfl; exact rfl) | ((with_reducible apply Ent.asP); exact rfl) | ((with_reducible apply Ent.exA); exact rfl) | ((with_reducible apply Ent.eqA); exact rfl; exact rfl) | ((with_reducible apply Ent.neA); exact rfl; exact rfl) | ((with_reducible apply Ent.seA); exact rfl) | ((with_reducible apply Ent.ixN); (first | (exact hx; exact rfl) | (exact hp; exact hpi) | (exact hx2; exact hxi2)); intro hrd)))
  refine Ent.joinB true (fun k hk => ?_) ?_
  · refine Ent.andT rfl ?_
    refine Ent.andT rfl ?_
    refine Ent.andT rfl ?_
    refine Ent.andT rfl ?_
    refine Ent.andT rfl ?_
    refine Ent.andT rfl ?_
    refine Ent.andT rfl ?_
    refine Ent.andT rfl ?_
    refine Ent.andT rfl ?_
    refine Ent.andT rfl ?_
    refine Ent.andT rfl ?_
    refine id_spec (n := 1) ?_
    refine balance_spec ?_
    refine Ent.andT (by kernel_rfl) ?_
    refine id_spec (n := 1) ?_
    refine balance_nil ?_
    refine Ent.andT rfl ?_
    refine accounts_spec (by decide) fun v ks hks => ?_
    have hlen : (sortID ks).length = 3 := by rw [show sortID ks = ks.mergeSort (fun x y => !(ltOf ID.cmp y x)) from rfl, List.length_mergeSort, hks.length_eq]; rfl
    (repeat (first | ((with_reducible apply Ent.ldA); exact rfl; exact rfl) | ((with_reducible apply Ent.rdA); exact rfl; exact rfl) | ((with_reducible apply Ent.kpA); exact rfl; exact rfl) | ((with_reducible apply Ent.lenA)) | ((with_reducible apply Ent.draw)) | ((with_reducible apply Ent.boxA); exact rfl; intro _) | ((with_reducible apply Ent.alA); intro _) | ((with_reducible apply Ent.stA); exact rfl; exact rfl) | ((with_reducible apply Ent.asP); exact rfl) | ((with_reducible apply Ent.exA); exact rfl) | ((with_reducible apply Ent.eqA); exact rfl; exact rfl) | ((with_reducible apply Ent.neA); exact rfl; exact rfl) | ((with_reducible apply Ent.seA); exact rfl) | ((with_reducible apply Ent.ixN); (first | (exact hx; exact rfl) | (exact hp; exact hpi) | (exact hx2; exact hxi2)); intro hrd)))
    exact (hk _ (by rw [hlen]; rfl)).to (by (repeat (first | exact Subs.tail | exact Subs.nil | refine Subs.cons inferInstance ?_)))
  · exact h.to (by (repeat (first | exact Subs.tail | exact Subs.nil | refine Subs.cons inferInstance ?_)))
end Go.Cab
