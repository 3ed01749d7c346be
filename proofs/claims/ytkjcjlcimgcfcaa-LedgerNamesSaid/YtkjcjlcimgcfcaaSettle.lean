/- Contract: Settle at the ledger of the law's own example. -/
import Derived.Test.YtkjcjlcimgcfcaaAll
import Derived.Test.YtkjcjlcimgcfcaaCut
namespace Go.Cab
set_option linter.unusedSimpArgs false
set_option linter.unusedVariables false
set_option linter.unusedSectionVars false
open Go Go.Proofs
variable [Milieu]
abbrev i1 : ID := idOf 1
abbrev i2 : ID := idOf 2
abbrev i3 : ID := idOf 3
def z0 : ID := ⟨0, 0, 0, 0, 0, 0, 0, 0⟩
def hasK : Nat → List Entry
  | 0 => [] | 1 => [] | 2 => [⟨i2, z0, 30⟩] | _ => [⟨i2, z0, 30⟩, ⟨i3, z0, 20⟩]
def owesK : Nat → List Entry
  | 0 => [] | _ => [⟨z0, i1, 50⟩]
def HL : Nat → List Entry
  | 0 => [⟨i2, z0, 30⟩, ⟨i3, z0, 20⟩] | 1 => [⟨i2, z0, 0⟩, ⟨i3, z0, 20⟩] | _ => [⟨i2, z0, 0⟩, ⟨i3, z0, 0⟩]
def OL : Nat → List Entry
  | 0 => [⟨z0, i1, 50⟩] | 1 => [⟨z0, i1, 20⟩] | _ => [⟨z0, i1, 0⟩]
def outK : Nat → List Entry
  | 0 => [] | 1 => [⟨i2, i1, 30⟩] | _ => [⟨i2, i1, 30⟩, ⟨i3, i1, 20⟩]
def atK (a1 : Addr) (c1 : Nat) (a2 : Addr) (c2 : Nat) (r : Nat) (vh vo : Value) : Prop := match r with
  | 0 => vh = .slice (some a1) 2 c1 ∧ vo = .slice (some a2) 1 c2
  | 1 => vh = .slice (some (a1.add (1 * 17))) (2 - 1) (c1 - 1) ∧ vo = .slice (some a2) 1 c2
  | _ => ∃ (b : Option Addr) (c : Nat) (v : Value), vh = .slice b 0 c ∧ vo = v
theorem run_min (a b : Int) (w : World) : (Builtin.min_ #[3, 3] 3 #[.int .i64 a, .int .i64 b]).run Try.prog w = .ok (.int .i64 (min a b)) w := by
  have : (if b < a then b else a) = min a b := by rw [Int.min_def]; split <;> split <;> omega
  rw [← this]
  simp [Builtin.min_, Builtin.min2]
theorem sort3 : sortID [i1, i2, i3] = [i1, i2, i3] := by
  unfold sortID
  refine List.mergeSort_of_pairwise ?_
  simp only [List.pairwise_cons, List.mem_cons, List.not_mem_nil, or_false, forall_eq_or_imp, forall_eq, List.Pairwise.nil, and_true, lt_num]
  refine ⟨⟨?_, ?_⟩, ?_, ?_⟩ <;> first | decide | simp
/-- one account's balance is 50 below, the others' 30 and 20 above 0 -/
structure Accs3 (l : Accts) : Prop where
  ids : l.map (·.1) = [i1, i2, i3]
  b1 : (kget l i1).balance = -50
  b2 : (kget l i2).balance = 30
  b3 : (kget l i3).balance = 20
theorem settle_spec {Γ : List Asn} {b m : Nat} {sv : SV} {l : Accts} {es : List Entry} {K : Value → WP} (ha : Accs3 l) (h : ∀ s : SV, Ent (ab (@SlA Try.prog Entry enc_82) s.val [⟨i2, i1, 30⟩, ⟨i3, i1, 20⟩] :: led b m sv l es Γ) (K s.val)) : Ent (led b m sv l es Γ) (callH Try.prog 30 #[.pointer (some ⟨b, 0, none⟩)] K) := by
  refine Ent.byS (A := S.ledger_Ledger_Settle _ _) S.ledger_Ledger_Settle_ok ?_
  unfold S.ledger_Ledger_Settle
  simp only [toT_V, toT_I, toT_B, toT_A, toT_rV, toT_rI, toT_rB, toT_pV, toT_pI, toT_pB, toT_pA, toT_cI, toT_cB]
  have hll : l.length = 3 := by have := congrArg List.length ha.ids; simpa using this
  refine accounts_spec (by omega) fun v ks hks => ?_
  have hsk : sortID ks = [i1, i2, i3] := by rw [sortID_perm hks, ha.ids, sort3]
  rw [hsk]
  refine Ent.nilS (P := Try.prog) (E := enc_82) ?_
  refine Ent.nilS (P := Try.prog) (E := enc_82) ?_
  (repeat (first | ((with_reducible apply Ent.ldA); exact rfl; exact rfl) | ((with_reducible apply Ent.rdA); exact rfl; exact rfl) | ((with_reducible apply Ent.kpA); exact rfl; exact rfl) | ((with_reducible apply Ent.lenA)) | ((with_reducible apply Ent.draw)) | ((with_reducible apply Ent.boxA); exact rfl; intro _) | ((with_reducible apply Ent.alA); intro _) | ((with_reducible apply Ent.stA); exact rfl; exact rfl) | ((with_reducible apply Ent.asP); exact rfl) | ((with_reducible apply Ent.exA); exact rfl) | ((with_reducible apply Ent.eqA); exact rfl; exact rfl) | ((with_reducible apply Ent.neA); exact rfl; exact rfl) | ((with_reducible apply Ent.seA); exact rfl) | ((with_reducible apply Ent.ixN); (first | (exact hx; exact rfl) | (exact hp; exact hpi) | (exact hx2; exact hxi2)); intro hrd)))
  refine Ent.loopA (γ := Nat × SV × SV) (fun γ => ab (@SlA Try.prog Entry enc_82) γ.2.1.val (hasK γ.1) :: ab (@SlA Try.prog Entry enc_82) γ.2.2.val (owesK γ.1) :: ab (@SlA Try.prog ID enc_28) v [i1, i2, i3] :: led b m sv l es Γ) (fun γ s => s = (γ.2.1.val, γ.2.2.val, (γ.1 : Int)) ∧ γ.1 ≤ 3) (fun γ => 3 - γ.1) (0, ⟨none, 0, 0⟩, ⟨none, 0, 0⟩) ⟨rfl, Nat.zero_le _⟩ (by (repeat (first | exact Subs.tail | exact Subs.nil | refine Subs.cons inferInstance ?_))) ?_
  rintro ⟨k, s1, s2⟩ s kc ⟨rfl, hk⟩ hkc
  dsimp only at hk ⊢
  refine Ent.ite (fun hc => ?_) (fun hc => ?_)
  · have hk3 : k = 0 ∨ k = 1 ∨ k = 2 := by simp at hc; omega
    rcases hk3 with rfl | rfl | rfl
    · have hx : [i1, i2, i3][0]? = some i1 := rfl
      (repeat (first | ((with_reducible apply Ent.ldA); exact rfl; exact rfl) | ((with_reducible apply Ent.rdA); exact rfl; exact rfl) | ((with_reducible apply Ent.kpA); exact rfl; exact rfl) | ((with_reducible apply Ent.lenA)) | ((with_reducible apply Ent.draw)) | ((with_reducible apply Ent.boxA); exact rfl; intro _) | ((with_reducible apply Ent.alA); intro _) | ((with_reducible apply Ent.stA); exact rfl; exact rfl) | ((with_reducible apply Ent.asP); exact rfl) | ((with_reducible apply Ent.exA); exact rfl) | ((with_reducible apply Ent.eqA); exact rfl; exact rfl) | ((with_reducible apply Ent.neA); exact rfl; exact rfl) | ((with_reducible apply Ent.seA); exact rfl) | ((with_reducible apply Ent.ixN); (first | (exact hx; exact rfl) | (exact hp; exact hpi) | (exact hx2; exact hxi2)); intro hrd)))
      rename_i b3
      refine balance_specH (m := m) (sv := sv) (l := l) inferInstance inferInstance ?_
      rw [ha.b1]
      refine Ent.joinD (Ent.joinD ?_)
      refine Ent.iteF (by decide) ?_
      refine Ent.joinD ?_
      refine Ent.iteT (by decide) ?_
      (repeat (first | ((with_reducible apply Ent.ldA); exact rfl; exact rfl) | ((with_reducible apply Ent.rdA); exact rfl; exact rfl) | ((with_reducible apply Ent.kpA); exact rfl; exact rfl) | ((with_reducible apply Ent.lenA)) | ((with_reducible apply Ent.draw)) | ((with_reducible apply Ent.boxA); exact rfl; intro _) | ((with_reducible apply Ent.alA); intro _) | ((with_reducible apply Ent.stA); exact rfl; exact rfl) | ((with_reducible apply Ent.asP); exact rfl) | ((with_reducible apply Ent.exA); exact rfl) | ((with_reducible apply Ent.eqA); exact rfl; exact rfl) | ((with_reducible apply Ent.neA); exact rfl; exact rfl) | ((with_reducible apply Ent.seA); exact rfl) | ((with_reducible apply Ent.ixN); (first | (exact hx; exact rfl) | (exact hp; exact hpi) | (exact hx2; exact hxi2)); intro hrd)))
      refine Ent.pure (x := (⟨z0, i1, 50⟩ : Entry).val) (fun w => run_build w _ _ _ (by kernel_rfl)) ?_
      refine Ent.b1A (E := enc_82) (x := ⟨z0, i1, 50⟩) rfl (by decide) fun s3 hs3 => ?_
      refine Ent.apA (E := enc_82) (l := owesK 0) (r := [⟨z0, i1, 50⟩]) (by decide) (by decide) fun s4 hs4 _ => ?_
      exact hkc (1, s1, s4) _ ⟨rfl, by simp⟩ (by simp) _ (by (repeat (first | exact Subs.tail | exact Subs.nil | refine Subs.cons inferInstance ?_)))
    · have hx : [i1, i2, i3][1]? = some i2 := rfl
      (repeat (first | ((with_reducible apply Ent.ldA); exact rfl; exact rfl) | ((with_reducible apply Ent.rdA); exact rfl; exact rfl) | ((with_reducible apply Ent.kpA); exact rfl; exact rfl) | ((with_reducible apply Ent.lenA)) | ((with_reducible apply Ent.draw)) | ((with_reducible apply Ent.boxA); exact rfl; intro _) | ((with_reducible apply Ent.alA); intro _) | ((with_reducible apply Ent.stA); exact rfl; exact rfl) | ((with_reducible apply Ent.asP); exact rfl) | ((with_reducible apply Ent.exA); exact rfl) | ((with_reducible apply Ent.eqA); exact rfl; exact rfl) | ((with_reducible apply Ent.neA); exact rfl; exact rfl) | ((with_reducible apply Ent.seA); exact rfl) | ((with_reducible apply Ent.ixN); (first | (exact hx; exact rfl) | (exact hp; exact hpi) | (exact hx2; exact hxi2)); intro hrd)))
      rename_i b3
      refine balance_specH (m := m) (sv := sv) (l := l) inferInstance inferInstance ?_
      rw [ha.b2]
      refine Ent.joinD (Ent.joinD ?_)
      refine Ent.iteT (by decide) ?_
      (repeat (first | ((with_reducible apply Ent.ldA); exact rfl; exact rfl) | ((with_reducible apply Ent.rdA); exact rfl; exact rfl) | ((with_reducible apply Ent.kpA); exact rfl; exact rfl) | ((with_reducible apply Ent.lenA)) | ((with_reducible apply Ent.draw)) | ((with_reducible apply Ent.boxA); exact rfl; intro _) | ((with_reducible apply Ent.alA); intro _) | ((with_reducible apply Ent.stA); exact rfl; exact rfl) | ((with_reducible apply Ent.asP); exact rfl) | ((with_reducible apply Ent.exA); exact rfl) | ((with_reducible apply Ent.eqA); exact rfl; exact rfl) | ((with_reducible apply Ent.neA); exact rfl; exact rfl) | ((with_reducible apply Ent.seA); exact rfl) | ((with_reducible apply Ent.ixN); (first | (exact hx; exact rfl) | (exact hp; exact hpi) | (exact hx2; exact hxi2)); intro hrd)))
      refine Ent.pure (x := (⟨i2, z0, 30⟩ : Entry).val) (fun w => run_build w _ _ _ (by kernel_rfl)) ?_
      refine Ent.b1A (E := enc_82) (x := ⟨i2, z0, 30⟩) rfl (by decide) fun s3 hs3 => ?_
      refine Ent.apA (E := enc_82) (l := hasK 1) (r := [⟨i2, z0, 30⟩]) (by decide) (by decide) fun s4 hs4 _ => ?_
      exact hkc (2, s4, s2) _ ⟨rfl, by simp⟩ (by simp) _ (by (repeat (first | exact Subs.tail | exact Subs.nil | refine Subs.cons inferInstance ?_)))
    · have hx : [i1, i2, i3][2]? = some i3 := rfl
      (repeat (first | ((with_reducible apply Ent.ldA); exact rfl; exact rfl) | ((with_reducible apply Ent.rdA); exact rfl; exact rfl) | ((with_reducible apply Ent.kpA); exact rfl; exact rfl) | ((with_reducible apply Ent.lenA)) | ((with_reducible apply Ent.draw)) | ((with_reducible apply Ent.boxA); exact rfl; intro _) | ((with_reducible apply Ent.alA); intro _) | ((with_reducible apply Ent.stA); exact rfl; exact rfl) | ((with_reducible apply Ent.asP); exact rfl) | ((with_reducible apply Ent.exA); exact rfl) | ((with_reducible apply Ent.eqA); exact rfl; exact rfl) | ((with_reducible apply Ent.neA); exact rfl; exact rfl) | ((with_reducible apply Ent.seA); exact rfl) | ((with_reducible apply Ent.ixN); (first | (exact hx; exact rfl) | (exact hp; exact hpi) | (exact hx2; exact hxi2)); intro hrd)))
      rename_i b3
      refine balance_specH (m := m) (sv := sv) (l := l) inferInstance inferInstance ?_
      rw [ha.b3]
      refine Ent.joinD (Ent.joinD ?_)
      refine Ent.iteT (by decide) ?_
      (repeat (first | ((with_reducible apply Ent.ldA); exact rfl; exact rfl) | ((with_reducible apply Ent.rdA); exact rfl; exact rfl) | ((with_reducible apply Ent.kpA); exact rfl; exact rfl) | ((with_reducible apply Ent.lenA)) | ((with_reducible apply Ent.draw)) | ((with_reducible apply Ent.boxA); exact rfl; intro _) | ((with_reducible apply Ent.alA); intro _) | ((with_reducible apply Ent.stA); exact rfl; exact rfl) | ((with_reducible apply Ent.asP); exact rfl) | ((with_reducible apply Ent.exA); exact rfl) | ((with_reducible apply Ent.eqA); exact rfl; exact rfl) | ((with_reducible apply Ent.neA); exact rfl; exact rfl) | ((with_reducible apply Ent.seA); exact rfl) | ((with_reducible apply Ent.ixN); (first | (exact hx; exact rfl) | (exact hp; exact hpi) | (exact hx2; exact hxi2)); intro hrd)))
      refine Ent.pure (x := (⟨i3, z0, 20⟩ : Entry).val) (fun w => run_build w _ _ _ (by kernel_rfl)) ?_
      refine Ent.b1A (E := enc_82) (x := ⟨i3, z0, 20⟩) rfl (by decide) fun s3 hs3 => ?_
      refine Ent.apA (E := enc_82) (l := hasK 2) (r := [⟨i3, z0, 20⟩]) (by decide) (by decide) fun s4 hs4 _ => ?_
      exact hkc (3, s4, s2) _ ⟨rfl, by simp⟩ (by simp) _ (by (repeat (first | exact Subs.tail | exact Subs.nil | refine Subs.cons inferInstance ?_)))
  · have hk3 : k = 3 := by simp at hc; omega
    subst hk3
    clear hkc hc hk
    -- the rounds of the second loop
    refine Ent.svA (P := Try.prog) (E := enc_82) (v := s1.val) fun t1 ht1 hn1 hc1 _ hb1 => ?_
    refine Ent.svA (P := Try.prog) (E := enc_82) (v := s2.val) fun t2 ht2 hn2 hc2 _ hb2 => ?_
    obtain ⟨o1, n1, c1⟩ := t1
    obtain ⟨o2, n2, c2⟩ := t2
    rw [ht1, ht2]
    have hn1' : n1 = 2 := hn1
    have hn2' : n2 = 1 := hn2
    subst hn1'; subst hn2'
    cases o1 with
    | none => exact absurd (hb1 rfl) (by simp [hasK])
    | some a1 =>
    cases o2 with
    | none => exact absurd (hb2 rfl) (by simp [owesK])
    | some a2 =>
    clear hb1 hb2 hn1 hn2 ht1 ht2
    refine Ent.nilS (P := Try.prog) (E := enc_82) ?_
    have hc1' : 2 ≤ c1 := hc1
    refine Ent.loopA (γ := Nat × SV) (fun γ => ab (@SlA Try.prog Entry enc_82) γ.2.val (outK γ.1) :: ab (@SlA Try.prog Entry enc_82) (.slice (some a1) 2 c1) (HL γ.1) :: ab (@SlA Try.prog Entry enc_82) (.slice (some a2) 1 c2) (OL γ.1) :: led b m sv l es Γ) (fun γ s => γ.1 ≤ 2 ∧ s.2.2 = γ.2.val ∧ atK a1 c1 a2 c2 γ.1 s.1 s.2.1) (fun γ => 2 - γ.1) (0, ⟨none, 0, 0⟩) ⟨by simp, rfl, rfl, rfl⟩ (by (repeat (first | exact Subs.tail | exact Subs.nil | refine Subs.cons inferInstance ?_))) ?_
    rintro ⟨r, s3⟩ ⟨vh, vo, vx⟩ kc ⟨hr, hvx, hat⟩ hkc
    dsimp only at hr hvx hat ⊢
    subst hvx
    have hr3 : r = 0 ∨ r = 1 ∨ r = 2 := by omega
    have hz : (Enc.size Try.prog Entry) = 17 := rfl
    rcases hr3 with rfl | rfl | rfl
    · obtain ⟨rfl, rfl⟩ := hat
      have hx : (HL 0)[0]? = some ⟨i2, z0, 30⟩ := rfl
      have hx2 : (OL 0)[0]? = some ⟨z0, i1, 50⟩ := rfl
      have hxi2 : (0 : Int) = ((0 : Nat) : Int) := rfl
      refine Ent.joinB true (fun k hk => ?_) ?_
      · (repeat (first | ((with_reducible apply Ent.ldA); exact rfl; exact rfl) | ((with_reducible apply Ent.rdA); exact rfl; exact rfl) | ((with_reducible apply Ent.kpA); exact rfl; exact rfl) | ((with_reducible apply Ent.lenA)) | ((with_reducible apply Ent.draw)) | ((with_reducible apply Ent.boxA); exact rfl; intro _) | ((with_reducible apply Ent.alA); intro _) | ((with_reducible apply Ent.stA); exact rfl; exact rfl) | ((with_reducible apply Ent.asP); exact rfl) | ((with_reducible apply Ent.exA); exact rfl) | ((with_reducible apply Ent.eqA); exact rfl; exact rfl) | ((with_reducible apply Ent.neA); exact rfl; exact rfl) | ((with_reducible apply Ent.seA); exact rfl) | ((with_reducible apply Ent.ixN); (first | (exact hx; exact rfl) | (exact hp; exact hpi) | (exact hx2; exact hxi2)); intro hrd)))
        refine Ent.andT rfl ?_
        (repeat (first | ((with_reducible apply Ent.ldA); exact rfl; exact rfl) | ((with_reducible apply Ent.rdA); exact rfl; exact rfl) | ((with_reducible apply Ent.kpA); exact rfl; exact rfl) | ((with_reducible apply Ent.lenA)) | ((with_reducible apply Ent.draw)) | ((with_reducible apply Ent.boxA); exact rfl; intro _) | ((with_reducible apply Ent.alA); intro _) | ((with_reducible apply Ent.stA); exact rfl; exact rfl) | ((with_reducible apply Ent.asP); exact rfl) | ((with_reducible apply Ent.exA); exact rfl) | ((with_reducible apply Ent.eqA); exact rfl; exact rfl) | ((with_reducible apply Ent.neA); exact rfl; exact rfl) | ((with_reducible apply Ent.seA); exact rfl) | ((with_reducible apply Ent.ixN); (first | (exact hx; exact rfl) | (exact hp; exact hpi) | (exact hx2; exact hxi2)); intro hrd)))
        exact hk _ rfl
      refine Ent.iteT rfl (Ent.joinD ?_)
      (repeat (first | ((with_reducible apply Ent.ldA); exact rfl; exact rfl) | ((with_reducible apply Ent.rdA); exact rfl; exact rfl) | ((with_reducible apply Ent.kpA); exact rfl; exact rfl) | ((with_reducible apply Ent.lenA)) | ((with_reducible apply Ent.draw)) | ((with_reducible apply Ent.boxA); exact rfl; intro _) | ((with_reducible apply Ent.alA); intro _) | ((with_reducible apply Ent.stA); exact rfl; exact rfl) | ((with_reducible apply Ent.asP); exact rfl) | ((with_reducible apply Ent.exA); exact rfl) | ((with_reducible apply Ent.eqA); exact rfl; exact rfl) | ((with_reducible apply Ent.neA); exact rfl; exact rfl) | ((with_reducible apply Ent.seA); exact rfl) | ((with_reducible apply Ent.ixN); (first | (exact hx; exact rfl) | (exact hp; exact hpi) | (exact hx2; exact hxi2)); intro hrd)))
      refine Ent.pure (x := (30 : Int)) (fun w => run_min 30 50 w) ?_
      (repeat (first | ((with_reducible apply Ent.ldA); exact rfl; exact rfl) | ((with_reducible apply Ent.rdA); exact rfl; exact rfl) | ((with_reducible apply Ent.kpA); exact rfl; exact rfl) | ((with_reducible apply Ent.lenA)) | ((with_reducible apply Ent.draw)) | ((with_reducible apply Ent.boxA); exact rfl; intro _) | ((with_reducible apply Ent.alA); intro _) | ((with_reducible apply Ent.stA); exact rfl; exact rfl) | ((with_reducible apply Ent.asP); exact rfl) | ((with_reducible apply Ent.exA); exact rfl) | ((with_reducible apply Ent.eqA); exact rfl; exact rfl) | ((with_reducible apply Ent.neA); exact rfl; exact rfl) | ((with_reducible apply Ent.seA); exact rfl) | ((with_reducible apply Ent.ixN); (first | (exact hx; exact rfl) | (exact hp; exact hpi) | (exact hx2; exact hxi2)); intro hrd)))
      refine Ent.pure (x := (⟨i2, i1, 30⟩ : Entry).val) (fun w => run_build w _ _ _ (by kernel_rfl)) ?_
      refine Ent.b1A (E := enc_82) (x := ⟨i2, i1, 30⟩) rfl (by decide) fun s4 hs4 => ?_
      refine Ent.apA (E := enc_82) (l := outK 0) (r := [⟨i2, i1, 30⟩]) (by decide) (by decide) fun s5 hs5 _ => ?_
      (repeat (first | ((with_reducible apply Ent.ldA); exact rfl; exact rfl) | ((with_reducible apply Ent.rdA); exact rfl; exact rfl) | ((with_reducible apply Ent.kpA); exact rfl; exact rfl) | ((with_reducible apply Ent.lenA)) | ((with_reducible apply Ent.draw)) | ((with_reducible apply Ent.boxA); exact rfl; intro _) | ((with_reducible apply Ent.alA); intro _) | ((with_reducible apply Ent.stA); exact rfl; exact rfl) | ((with_reducible apply Ent.asP); exact rfl) | ((with_reducible apply Ent.exA); exact rfl) | ((with_reducible apply Ent.eqA); exact rfl; exact rfl) | ((with_reducible apply Ent.neA); exact rfl; exact rfl) | ((with_reducible apply Ent.seA); exact rfl) | ((with_reducible apply Ent.ixN); (first | (exact hx; exact rfl) | (exact hp; exact hpi) | (exact hx2; exact hxi2)); intro hrd)))
      apply Ent.stEF (E := enc_82) (F := enc_3) (i := 0) (y := (0 : Int)) rfl hx rfl rfl
      (repeat (first | ((with_reducible apply Ent.ldA); exact rfl; exact rfl) | ((with_reducible apply Ent.rdA); exact rfl; exact rfl) | ((with_reducible apply Ent.kpA); exact rfl; exact rfl) | ((with_reducible apply Ent.lenA)) | ((with_reducible apply Ent.draw)) | ((with_reducible apply Ent.boxA); exact rfl; intro _) | ((with_reducible apply Ent.alA); intro _) | ((with_reducible apply Ent.stA); exact rfl; exact rfl) | ((with_reducible apply Ent.asP); exact rfl) | ((with_reducible apply Ent.exA); exact rfl) | ((with_reducible apply Ent.eqA); exact rfl; exact rfl) | ((with_reducible apply Ent.neA); exact rfl; exact rfl) | ((with_reducible apply Ent.seA); exact rfl) | ((with_reducible apply Ent.ixN); (first | (exact hx; exact rfl) | (exact hp; exact hpi) | (exact hx2; exact hxi2)); intro hrd)))
      apply Ent.stEF (E := enc_82) (F := enc_3) (i := 0) (y := (20 : Int)) rfl hx2 rfl rfl
      have hx : (HL 1)[0]? = some ⟨i2, z0, 0⟩ := rfl
      have hx2 : (OL 1)[0]? = some ⟨z0, i1, 20⟩ := rfl
      refine Ent.to (Δ := ab (@SlA Try.prog Entry enc_82) (.slice (some a1) 2 c1) (HL 1) :: ab (@SlA Try.prog Entry enc_82) (.slice (some a2) 1 c2) (OL 1) :: ab (@SlA Try.prog Entry enc_82) s5.val (outK 1) :: led b m sv l es Γ) ?_ (by (repeat (first | exact Subs.tail | exact Subs.nil | refine Subs.cons inferInstance ?_)))
      (repeat (first | ((with_reducible apply Ent.ldA); exact rfl; exact rfl) | ((with_reducible apply Ent.rdA); exact rfl; exact rfl) | ((with_reducible apply Ent.kpA); exact rfl; exact rfl) | ((with_reducible apply Ent.lenA)) | ((with_reducible apply Ent.draw)) | ((with_reducible apply Ent.boxA); exact rfl; intro _) | ((with_reducible apply Ent.alA); intro _) | ((with_reducible apply Ent.stA); exact rfl; exact rfl) | ((with_reducible apply Ent.asP); exact rfl) | ((with_reducible apply Ent.exA); exact rfl) | ((with_reducible apply Ent.eqA); exact rfl; exact rfl) | ((with_reducible apply Ent.neA); exact rfl; exact rfl) | ((with_reducible apply Ent.seA); exact rfl) | ((with_reducible apply Ent.ixN); (first | (exact hx; exact rfl) | (exact hp; exact hpi) | (exact hx2; exact hxi2)); intro hrd)))
      refine Ent.joinD ?_
      refine Ent.iteT rfl ?_
      refine Ent.loA (E := enc_82) (m := 1) rfl rfl (by decide) ?_
      rw [if_neg (by omega)]
      (repeat (first | ((with_reducible apply Ent.ldA); exact rfl; exact rfl) | ((with_reducible apply Ent.rdA); exact rfl; exact rfl) | ((with_reducible apply Ent.kpA); exact rfl; exact rfl) | ((with_reducible apply Ent.lenA)) | ((with_reducible apply Ent.draw)) | ((with_reducible apply Ent.boxA); exact rfl; intro _) | ((with_reducible apply Ent.alA); intro _) | ((with_reducible apply Ent.stA); exact rfl; exact rfl) | ((with_reducible apply Ent.asP); exact rfl) | ((with_reducible apply Ent.exA); exact rfl) | ((with_reducible apply Ent.eqA); exact rfl; exact rfl) | ((with_reducible apply Ent.neA); exact rfl; exact rfl) | ((with_reducible apply Ent.seA); exact rfl) | ((with_reducible apply Ent.ixN); (first | (exact hx; exact rfl) | (exact hp; exact hpi) | (exact hx2; exact hxi2)); intro hrd)))
      refine Ent.joinD (Ent.iteF rfl ?_)
      exact hkc (1, s5) _ ⟨by simp, rfl, rfl, rfl⟩ (by simp) _ (by (repeat (first | exact Subs.tail | exact Subs.nil | refine Subs.cons inferInstance ?_)))
    · obtain ⟨rfl, rfl⟩ := hat
      have hh : (HL 1)[1]? = some ⟨i3, z0, 20⟩ := rfl
      have hx2 : (OL 1)[0]? = some ⟨z0, i1, 20⟩ := rfl
      have hxi2 : (0 : Int) = ((0 : Nat) : Int) := rfl
      refine Ent.joinB true (fun k hk => ?_) ?_
      · refine Ent.lenV (E := enc_82) rfl ?_
        refine Ent.andT rfl ?_
        (repeat (first | ((with_reducible apply Ent.ldA); exact rfl; exact rfl) | ((with_reducible apply Ent.rdA); exact rfl; exact rfl) | ((with_reducible apply Ent.kpA); exact rfl; exact rfl) | ((with_reducible apply Ent.lenA)) | ((with_reducible apply Ent.draw)) | ((with_reducible apply Ent.boxA); exact rfl; intro _) | ((with_reducible apply Ent.alA); intro _) | ((with_reducible apply Ent.stA); exact rfl; exact rfl) | ((with_reducible apply Ent.asP); exact rfl) | ((with_reducible apply Ent.exA); exact rfl) | ((with_reducible apply Ent.eqA); exact rfl; exact rfl) | ((with_reducible apply Ent.neA); exact rfl; exact rfl) | ((with_reducible apply Ent.seA); exact rfl) | ((with_reducible apply Ent.ixN); (first | (exact hx; exact rfl) | (exact hp; exact hpi) | (exact hx2; exact hxi2)); intro hrd)))
        exact hk _ rfl
      refine Ent.iteT rfl (Ent.joinD ?_)
      (repeat (first | ((with_reducible apply Ent.ldA); exact rfl; exact rfl) | ((with_reducible apply Ent.rdA); exact rfl; exact rfl) | ((with_reducible apply Ent.kpA); exact rfl; exact rfl) | ((with_reducible apply Ent.lenA)) | ((with_reducible apply Ent.draw)) | ((with_reducible apply Ent.boxA); exact rfl; intro _) | ((with_reducible apply Ent.alA); intro _) | ((with_reducible apply Ent.stA); exact rfl; exact rfl) | ((with_reducible apply Ent.asP); exact rfl) | ((with_reducible apply Ent.exA); exact rfl) | ((with_reducible apply Ent.eqA); exact rfl; exact rfl) | ((with_reducible apply Ent.neA); exact rfl; exact rfl) | ((with_reducible apply Ent.seA); exact rfl) | ((with_reducible apply Ent.ixN); (first | (exact hx; exact rfl) | (exact hp; exact hpi) | (exact hx2; exact hxi2)); intro hrd)))
      refine Ent.ix0 (E := enc_82) (a := a1) (n := 2) (c := c1) 1 hh rfl fun hrd => ?_
      (repeat (first | ((with_reducible apply Ent.ldA); exact rfl; exact rfl) | ((with_reducible apply Ent.rdA); exact rfl; exact rfl) | ((with_reducible apply Ent.kpA); exact rfl; exact rfl) | ((with_reducible apply Ent.lenA)) | ((with_reducible apply Ent.draw)) | ((with_reducible apply Ent.boxA); exact rfl; intro _) | ((with_reducible apply Ent.alA); intro _) | ((with_reducible apply Ent.stA); exact rfl; exact rfl) | ((with_reducible apply Ent.asP); exact rfl) | ((with_reducible apply Ent.exA); exact rfl) | ((with_reducible apply Ent.eqA); exact rfl; exact rfl) | ((with_reducible apply Ent.neA); exact rfl; exact rfl) | ((with_reducible apply Ent.seA); exact rfl) | ((with_reducible apply Ent.ixN); (first | (exact hx; exact rfl) | (exact hp; exact hpi) | (exact hx2; exact hxi2)); intro hrd)))
      refine Ent.pure (x := (20 : Int)) (fun w => run_min 20 20 w) ?_
      (repeat (first | ((with_reducible apply Ent.ldA); exact rfl; exact rfl) | ((with_reducible apply Ent.rdA); exact rfl; exact rfl) | ((with_reducible apply Ent.kpA); exact rfl; exact rfl) | ((with_reducible apply Ent.lenA)) | ((with_reducible apply Ent.draw)) | ((with_reducible apply Ent.boxA); exact rfl; intro _) | ((with_reducible apply Ent.alA); intro _) | ((with_reducible apply Ent.stA); exact rfl; exact rfl) | ((with_reducible apply Ent.asP); exact rfl) | ((with_reducible apply Ent.exA); exact rfl) | ((with_reducible apply Ent.eqA); exact rfl; exact rfl) | ((with_reducible apply Ent.neA); exact rfl; exact rfl) | ((with_reducible apply Ent.seA); exact rfl) | ((with_reducible apply Ent.ixN); (first | (exact hx; exact rfl) | (exact hp; exact hpi) | (exact hx2; exact hxi2)); intro hrd)))
      refine Ent.ix0 (E := enc_82) (a := a1) (n := 2) (c := c1) 1 hh rfl fun hrd => ?_
      (repeat (first | ((with_reducible apply Ent.ldA); exact rfl; exact rfl) | ((with_reducible apply Ent.rdA); exact rfl; exact rfl) | ((with_reducible apply Ent.kpA); exact rfl; exact rfl) | ((with_reducible apply Ent.lenA)) | ((with_reducible apply Ent.draw)) | ((with_reducible apply Ent.boxA); exact rfl; intro _) | ((with_reducible apply Ent.alA); intro _) | ((with_reducible apply Ent.stA); exact rfl; exact rfl) | ((with_reducible apply Ent.asP); exact rfl) | ((with_reducible apply Ent.exA); exact rfl) | ((with_reducible apply Ent.eqA); exact rfl; exact rfl) | ((with_reducible apply Ent.neA); exact rfl; exact rfl) | ((with_reducible apply Ent.seA); exact rfl) | ((with_reducible apply Ent.ixN); (first | (exact hx; exact rfl) | (exact hp; exact hpi) | (exact hx2; exact hxi2)); intro hrd)))
      refine Ent.pure (x := (⟨i3, i1, 20⟩ : Entry).val) (fun w => run_build w _ _ _ (by kernel_rfl)) ?_
      refine Ent.b1A (E := enc_82) (x := ⟨i3, i1, 20⟩) rfl (by decide) fun s4 hs4 => ?_
      refine Ent.apA (E := enc_82) (l := outK 1) (r := [⟨i3, i1, 20⟩]) (by decide) (by decide) fun s5 hs5 _ => ?_
      refine Ent.ix0 (E := enc_82) (a := a1) (n := 2) (c := c1) 1 hh rfl fun hrd => ?_
      (repeat (first | ((with_reducible apply Ent.ldA); exact rfl; exact rfl) | ((with_reducible apply Ent.rdA); exact rfl; exact rfl) | ((with_reducible apply Ent.kpA); exact rfl; exact rfl) | ((with_reducible apply Ent.lenA)) | ((with_reducible apply Ent.draw)) | ((with_reducible apply Ent.boxA); exact rfl; intro _) | ((with_reducible apply Ent.alA); intro _) | ((with_reducible apply Ent.stA); exact rfl; exact rfl) | ((with_reducible apply Ent.asP); exact rfl) | ((with_reducible apply Ent.exA); exact rfl) | ((with_reducible apply Ent.eqA); exact rfl; exact rfl) | ((with_reducible apply Ent.neA); exact rfl; exact rfl) | ((with_reducible apply Ent.seA); exact rfl) | ((with_reducible apply Ent.ixN); (first | (exact hx; exact rfl) | (exact hp; exact hpi) | (exact hx2; exact hxi2)); intro hrd)))
      refine Ent.ix0 (E := enc_82) (a := a1) (n := 2) (c := c1) 1 hh rfl fun hrd => ?_
      apply Ent.stEF (E := enc_82) (F := enc_3) (i := 1) (y := (0 : Int)) rfl hh rfl rfl
      (repeat (first | ((with_reducible apply Ent.ldA); exact rfl; exact rfl) | ((with_reducible apply Ent.rdA); exact rfl; exact rfl) | ((with_reducible apply Ent.kpA); exact rfl; exact rfl) | ((with_reducible apply Ent.lenA)) | ((with_reducible apply Ent.draw)) | ((with_reducible apply Ent.boxA); exact rfl; intro _) | ((with_reducible apply Ent.alA); intro _) | ((with_reducible apply Ent.stA); exact rfl; exact rfl) | ((with_reducible apply Ent.asP); exact rfl) | ((with_reducible apply Ent.exA); exact rfl) | ((with_reducible apply Ent.eqA); exact rfl; exact rfl) | ((with_reducible apply Ent.neA); exact rfl; exact rfl) | ((with_reducible apply Ent.seA); exact rfl) | ((with_reducible apply Ent.ixN); (first | (exact hx; exact rfl) | (exact hp; exact hpi) | (exact hx2; exact hxi2)); intro hrd)))
      apply Ent.stEF (E := enc_82) (F := enc_3) (i := 0) (y := (0 : Int)) rfl hx2 rfl rfl
      have hh : (HL 2)[1]? = some ⟨i3, z0, 0⟩ := rfl
      have hx2 : (OL 2)[0]? = some ⟨z0, i1, 0⟩ := rfl
      refine Ent.to (Δ := ab (@SlA Try.prog Entry enc_82) (.slice (some a1) 2 c1) (HL 2) :: ab (@SlA Try.prog Entry enc_82) (.slice (some a2) 1 c2) (OL 2) :: ab (@SlA Try.prog Entry enc_82) s5.val (outK 2) :: led b m sv l es Γ) ?_ (by (repeat (first | exact Subs.tail | exact Subs.nil | refine Subs.cons inferInstance ?_)))
      refine Ent.ix0 (E := enc_82) (a := a1) (n := 2) (c := c1) 1 hh rfl fun hrd => ?_
      (repeat (first | ((with_reducible apply Ent.ldA); exact rfl; exact rfl) | ((with_reducible apply Ent.rdA); exact rfl; exact rfl) | ((with_reducible apply Ent.kpA); exact rfl; exact rfl) | ((with_reducible apply Ent.lenA)) | ((with_reducible apply Ent.draw)) | ((with_reducible apply Ent.boxA); exact rfl; intro _) | ((with_reducible apply Ent.alA); intro _) | ((with_reducible apply Ent.stA); exact rfl; exact rfl) | ((with_reducible apply Ent.asP); exact rfl) | ((with_reducible apply Ent.exA); exact rfl) | ((with_reducible apply Ent.eqA); exact rfl; exact rfl) | ((with_reducible apply Ent.neA); exact rfl; exact rfl) | ((with_reducible apply Ent.seA); exact rfl) | ((with_reducible apply Ent.ixN); (first | (exact hx; exact rfl) | (exact hp; exact hpi) | (exact hx2; exact hxi2)); intro hrd)))
      refine Ent.joinD ?_
      refine Ent.iteT rfl ?_
      refine Ent.loA (E := enc_82) (m := 1) rfl rfl (by decide) ?_
      (repeat (first | ((with_reducible apply Ent.ldA); exact rfl; exact rfl) | ((with_reducible apply Ent.rdA); exact rfl; exact rfl) | ((with_reducible apply Ent.kpA); exact rfl; exact rfl) | ((with_reducible apply Ent.lenA)) | ((with_reducible apply Ent.draw)) | ((with_reducible apply Ent.boxA); exact rfl; intro _) | ((with_reducible apply Ent.alA); intro _) | ((with_reducible apply Ent.stA); exact rfl; exact rfl) | ((with_reducible apply Ent.asP); exact rfl) | ((with_reducible apply Ent.exA); exact rfl) | ((with_reducible apply Ent.eqA); exact rfl; exact rfl) | ((with_reducible apply Ent.neA); exact rfl; exact rfl) | ((with_reducible apply Ent.seA); exact rfl) | ((with_reducible apply Ent.ixN); (first | (exact hx; exact rfl) | (exact hp; exact hpi) | (exact hx2; exact hxi2)); intro hrd)))
      refine Ent.joinD (Ent.iteT rfl ?_)
      refine Ent.loA (E := enc_82) (m := 1) rfl rfl (by decide) ?_
      exact hkc (2, s5) _ ⟨by simp, rfl, ⟨_, _, _, rfl, rfl⟩⟩ (by simp) _ (by (repeat (first | exact Subs.tail | exact Subs.nil | refine Subs.cons inferInstance ?_)))
    · obtain ⟨b1, d1, v2, rfl, rfl⟩ := hat
      refine Ent.joinB false (fun k hk => ?_) ?_
      · refine Ent.lenV (E := enc_82) rfl ?_
        exact hk _ rfl
      refine Ent.iteF rfl ?_
      exact (h s3).to (by (repeat (first | exact Subs.tail | exact Subs.nil | refine Subs.cons inferInstance ?_)))
end Go.Cab
