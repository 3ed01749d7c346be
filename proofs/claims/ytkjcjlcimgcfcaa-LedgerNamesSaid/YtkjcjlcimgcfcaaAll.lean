/- Contracts: the ledger's All. -/
import Derived.Test.YtkjcjlcimgcfcaaSame
namespace Go.Cab
set_option linter.unusedSimpArgs false
set_option linter.unusedVariables false
set_option linter.unusedSectionVars false
open Go Go.Proofs
variable [Milieu]
instance sz77b : SizeT Try.prog 77 1 := ⟨Try.sizeOf77⟩
instance sz76b : SizeT Try.prog 76 1 := ⟨Try.sizeOf76⟩
theorem Ent.nodup {Γ Δ : List Asn} {m : Nat} {l : Accts} {c : WP} (hh : Has (MapA ID.val) m Γ (kv l) Δ) (h : (l.map (·.1)).Nodup → Ent Γ c) : Ent Γ c := fun w hs => by
  obtain ⟨p, hl, hp⟩ := hs.1
  obtain ⟨x, y, hd, rfl, ⟨es, clock, _, he⟩, hy⟩ := hh.out p hp
  exact h (by rw [← kv_keys]; exact he.nodup) w hs
theorem Ent.cap {α : Type} [Enc Try.prog α] {Γ Δ : List Asn} {v : Value} {l : List α} {c : WP} (hh : Has (SlA Try.prog) v Γ l Δ) (h : (∀ a n k, v = .slice (some a) n k → l.length ≤ k) → Ent Γ c) : Ent Γ c := fun w hs => by
  obtain ⟨p, hl, hp⟩ := hs.1
  obtain ⟨x, y, hd, rfl, hx, hy⟩ := hh.out p hp
  refine h (fun a n k e => ?_) w hs
  rcases hx with ⟨rfl, rfl⟩ | ⟨g, cap, cur, rfl, _, h1, _⟩
  · cases e
  · cases e; exact h1
theorem kset_new {l : Accts} {x : ID} {v : Account} (h : ¬ x ∈ l.map (·.1)) : kset l x v = l ++ [(x, v)] := by
  induction l with
  | nil => rfl
  | cons p r ih =>
    simp only [List.map_cons, List.mem_cons, not_or] at h
    have h' : ¬ p.1 = x := fun e => h.1 e.symm
    simp [kset, h', ih h.2]
theorem run_sub (a : Addr) (n c k : Nat) (hk : k ≤ c) (w : World) : (Instr.sliceAt 77 (.slice (some a) n c) none (some (.int .i64 (k : Int))) (some (.int .i64 (k : Int)))).run Try.prog w = .ok (.slice (some a) k k) w := by
  simp [Instr.sliceAt, Instr.slice, Instr.sliceBounds, Instr.sliceBound, asIntOf, run_underlying Try.underlying77 w, Sem.run_bind, Sem.run_pure, Try.sizeOf82, hk]
  intro _
  rfl
theorem kv_split {l : Accts} {l1 l2 : AL ID} {x : ID} {u : Value} (h : kv l = l1 ++ (x, u) :: l2) : ∃ (a : Accts) (v : Account) (b : Accts), l = a ++ (x, v) :: b ∧ l1 = kv a ∧ u = v.val ∧ l2 = kv b := by
  unfold kv at h
  obtain ⟨a, c, rfl, rfl, hc⟩ := List.map_eq_append_iff.1 h
  obtain ⟨q, b, rfl, hq, rfl⟩ := List.map_eq_cons_iff.1 hc
  simp only [Prod.mk.injEq] at hq
  obtain ⟨rfl, rfl⟩ := hq
  exact ⟨a, q.2, b, rfl, rfl, rfl, rfl⟩
theorem kget_perm {a b : Accts} (hp : a.Perm b) (hn : (b.map (·.1)).Nodup) (x : ID) : kget a x = kget b x := by
  have key : ∀ {l : Accts} {v : Account}, (l.map (·.1)).Nodup → (x, v) ∈ l → kget l x = v := by
    intro l v hl hm
    induction l with
    | nil => cases hm
    | cons p r ih =>
      simp only [List.map_cons, List.nodup_cons] at hl
      rcases List.mem_cons.1 hm with rfl | hm
      · simp [kget]
      · have hne : ¬ p.1 = x := fun e => hl.1 (e ▸ List.mem_map_of_mem (f := (·.1)) hm)
        have := ih hl.2 hm
        unfold kget at this ⊢
        simp only [List.find?_cons, hne, decide_false]
        exact this
  have none : ∀ {l : Accts}, ¬ x ∈ l.map (·.1) → kget l x = Enc.z Try.prog := by
    intro l hx
    have : (l.find? fun p => decide (p.1 = x)) = none := by
      rw [List.find?_eq_none]
      intro p hp
      have : p.1 ≠ x := fun e => hx (e ▸ List.mem_map_of_mem (f := (·.1)) hp)
      simpa using this
    simp [kget, this]
  have hna : (a.map (·.1)).Nodup := ((hp.map (·.1)).nodup_iff).2 hn
  by_cases hx : x ∈ b.map (·.1)
  · obtain ⟨q, hq, rfl⟩ := List.mem_map.1 hx
    have hq' : (q.1, q.2) ∈ b := hq
    rw [key hn hq', key hna (hp.mem_iff.2 hq')]
  · rw [none hx, none (fun h => hx ((hp.map (·.1)).mem_iff.1 h))]
noncomputable def allGo : Accts → List Entry → List Entry → Nat → Nat × Int × Accts × List Entry
  | l, es, [], _ => (0, 0, l, es)
  | l, es, e :: r, i => if payE l e.from_ e.to_ e.amount = 0 then allGo (payA l e.from_ e.to_ e.amount) (payS l es e.from_ e.to_ e.amount) r (i + 1) else (i, payE l e.from_ e.to_ e.amount, l, es)
abbrev ledBad (b m m2 : Nat) (sv : SV) (n : Nat) (l2 l : Accts) (es : List Entry) (Γ : List Asn) : List Asn :=
  var Try.prog b (⟨some m2, ⟨sv.b, n, n⟩⟩ : LedgerV) :: ab (MapA ID.val) m (kv l) :: ab (SlA Try.prog) sv.val es :: ab (MapA ID.val) m2 (kv l2) :: Γ
set_option maxHeartbeats 1000000 in
theorem all_spec {Γ : List Asn} {b m : Nat} {sv : SV} {l : Accts} {es list : List Entry} {v : Value} {K : Value → WP} (hv : SlR Try.prog Γ v list) (hlen : es.length + list.length ≤ 100000) (hne : es ≠ [])
    (hok : ∀ sv' l' es', allGo l es list 0 = (0, 0, l', es') → Ent (led b m sv' l' es' Γ) (K (.tuple #[.int .i64 0, .int .i64 0])))
    (hbad : ∀ sv' i e l' es' m2 l2, allGo l es list 0 = (i, e, l', es') → e ≠ 0 → l2.Perm l → Ent (ledBad b m m2 sv' es.length l2 l' es' Γ) (K (.tuple #[.int .i64 (i : Int), .int .i64 e]))) :
    Ent (led b m sv l es Γ) (callH Try.prog 13 #[.pointer (some ⟨b, 0, none⟩), v] K) := by
  refine Ent.byS (A := S.ledger_Ledger_All _ _ _) S.ledger_Ledger_All_ok ?_
  unfold S.ledger_Ledger_All
  simp only [toT_V, toT_I, toT_B, toT_A, toT_rV, toT_rI, toT_rB, toT_pV, toT_pI, toT_pB, toT_pA, toT_cI, toT_cB]
  refine lthere_spec (m := m) (sv := sv) Has.here ?_
  refine Ent.iteF rfl ?_
  refine Ent.makeMap fun m2 => ?_
  refine Ent.newMapK (β := Account) ?_
  refine Ent.asP rfl ?_
  refine Ent.sem (x := Value.map (some m)) (Runs.fld (b := b) rfl rfl) ?_
  refine Ent.nodup (l := l) (m := m) Has.next fun hnd => ?_
  refine Ent.range (enc := ID.val) (K := 28) (E := 86) Try.underlying76 Has.next fun it => ?_
  refine Ent.loop (γ := Accts × Accts × Option (ID × Value)) (Inv := fun γ _ => ab (MapIt ID.val) (m, it) (kv l, kv γ.2.1, γ.2.2) :: ab (MapA ID.val) m2 (kv γ.1) :: var Try.prog b (⟨some m, sv⟩ : LedgerV) :: ab (SlA Try.prog) sv.val es :: Γ) (pre := fun γ _ => (γ.1 ++ γ.2.1).Perm l) (μ := fun γ _ => γ.2.1.length) ([], l, none) (by simp) (fun _ h => h) ?_
  rintro ⟨done, left, last⟩ s kc hp hkc
  dsimp only at hp ⊢
  refine Ent.next (enc := ID.val) (b := m) (it := it) (l := kv l) (left := kv left) (last := last) Has.here (fun hleft => ?_) (fun x u l1 l2 hsp => ?_)
  · have hl0 : left = [] := by simpa [kv] using hleft
    subst hl0
    simp only [List.append_nil] at hp
    refine Ent.pure (x := false) (fun w => by simp [Instr.extract]) ?_
    refine Ent.iteF rfl ?_
    refine Ent.asP rfl ?_
    refine Ent.sem (x := sv.val) (Runs.fld (b := b) rfl rfl) ?_
    refine Ent.slr (P := Try.prog) (α := Entry) (v := sv.val) (l := es) Has.next fun hsv => ?_
    refine Ent.len hsv Try.underlying77 ?_
    refine Ent.len hv.suf Try.underlying77 ?_
    refine Ent.rangeEnd (enc := ID.val) (k := (m, it)) Has.here ?_
    refine Ent.sink2 (Ent.sink3 ?_)
    refine Ent.loop (γ := Nat × SV × Accts × List Entry) (Inv := fun γ _ => led b m γ.2.1 γ.2.2.1 γ.2.2.2 (ab (MapA ID.val) m2 (kv done) :: Γ)) (pre := fun γ s => s.2.2 = (γ.1 : Int) ∧ γ.1 ≤ list.length ∧ allGo l es list 0 = allGo γ.2.2.1 γ.2.2.2 (list.drop γ.1) γ.1 ∧ γ.2.2.2.length ≤ es.length + γ.1 ∧ es.length ≤ γ.2.2.2.length) (μ := fun γ _ => list.length - γ.1) (0, sv, l, es) ⟨rfl, Nat.zero_le _, rfl, by simp, Nat.le_refl _⟩ (fun _ h => h) ?_
    rintro ⟨i, sv1, l1, es1⟩ ⟨s1, s2, s3⟩ kc ⟨hs2, hi, hb, hbn, hbm⟩ hkc
    dsimp only at hs2 hi hb hbn hbm ⊢
    subst hs2
    refine Ent.ite (fun hc => ?_) (fun hc => ?_)
    · have hlt : i < list.length := by simpa using hc
      have hx : list[i]? = some list[i] := List.getElem?_eq_getElem hlt
      rw [List.drop_eq_getElem_cons hlt] at hb
      generalize list[i] = e at hx hb
      refine Ent.indexN (x := e) hv.suf Try.underlying77 hx fun hrd => ?_
      refine Ent.sem (Runs.rdV (x := e) hrd) ?_
      refine Ent.newV (x := e) fun b3 => ?_
      refine Ent.sem (Runs.subV (x := e.from_) (b := b3) (o := 0) rfl rfl) ?_
      refine Ent.sem (Runs.subV (x := e.to_) (b := b3) (o := 8) rfl rfl) ?_
      first | refine Ent.sem (Runs.fld rfl (by rfl)) ?_ | refine Ent.sem (Runs.fld2 (by rfl)) ?_
      refine Ent.drop ?_
      refine pay_spec (by omega) fun sv2 => ?_
      refine Ent.ite (fun hy => ?_) (fun hy => ?_)
      · have hy' : payE l1 e.from_ e.to_ e.amount ≠ 0 := by simpa using hy
        have h2 : payA l1 e.from_ e.to_ e.amount = l1 := by simp [payA, hy']
        have h3 : payS l1 es1 e.from_ e.to_ e.amount = es1 := by simp [payS, hy']
        have h4 : allGo l es list 0 = (i, payE l1 e.from_ e.to_ e.amount, l1, es1) := by rw [hb]; simp [allGo, hy']
        rw [h2, h3]
        refine Ent.slr (P := Try.prog) (α := Entry) (v := sv2.val) (l := es1) Has.next fun hsv2 => ?_
        refine Ent.cap (v := sv2.val) (l := es1) Has.next fun hcap => ?_
        obtain ⟨sb, sn, sc⟩ := sv2
        obtain ⟨a, rfl⟩ : ∃ a, sb = some a := by
          obtain ⟨bs, cp, hv2, hnb, _⟩ := hsv2.shape
          cases sb with
          | some a => exact ⟨a, rfl⟩
          | none =>
            simp only [SV.val, Value.slice.injEq] at hv2
            have := hnb hv2.1.symm
            have hz : es.length = 0 := by rw [this] at hbm; simpa using hbm
            exact absurd (List.eq_nil_of_length_eq_zero hz) hne
        have hk := hcap a sn sc rfl
        refine Ent.draw ?_
        refine Ent.asP rfl ?_
        refine Ent.read (x := Value.slice (some a) sn sc) (Runs.fld (b := b) rfl rfl) ?_
        refine Ent.pure (x := Value.slice (some a) es.length es.length) (fun w => run_sub a sn sc es.length (by omega) w) ?_
        refine Ent.asP rfl ?_
        refine Ent.storeF (b := b) (Enc.cells Try.prog (⟨some m2, ⟨some a, sn, sc⟩⟩ : LedgerV)) rfl rfl rfl rfl rfl ?_
        refine Ent.asP rfl ?_
        refine Ent.storeF (b := b) (Enc.cells Try.prog (⟨some m2, ⟨some a, es.length, es.length⟩⟩ : LedgerV)) rfl rfl rfl rfl rfl ?_
        exact hbad ⟨some a, sn, sc⟩ i _ l1 es1 m2 done h4 hy' hp
      · have hy' : payE l1 e.from_ e.to_ e.amount = 0 := by simpa using hy
        have h3 : payS l1 es1 e.from_ e.to_ e.amount = es1 ++ [⟨e.from_, e.to_, e.amount⟩] := by simp [payS, hy']
        refine hkc (i + 1, sv2, payA l1 e.from_ e.to_ e.amount, payS l1 es1 e.from_ e.to_ e.amount) (s1, s2, _) ⟨wrap_succ hlt hv.max, hlt, ?_, by rw [h3]; simp; omega, by rw [h3]; simp; omega⟩ (by omega)
        rw [hb]; simp [allGo, hy']
    · have hge : i = list.length := by simp at hc; omega
      subst hge
      exact Ent.drop4 (hok sv1 l1 es1 (by rw [hb]; simp [allGo]))
  · obtain ⟨a, q, c, rfl, rfl, rfl, rfl⟩ := kv_split hsp
    refine Ent.pure (x := true) (fun w => by simp [Instr.extract]) ?_
    refine Ent.iteT rfl ?_
    refine Ent.sem (x := Value.tuple #[x.val, q.val]) (Runs.entry (enc := ID.val) Has.here) ?_
    refine Ent.pure (x := x.val) (fun w => by simp [Instr.extract]) ?_
    refine Ent.pure (x := q.val) (fun w => by simp [Instr.extract]) ?_
    refine Ent.allocV (α := ID) fun b3 => ?_
    refine Ent.allocV (α := Account) fun b4 => ?_
    refine Ent.storeV (x := x) (y := Enc.z Try.prog (α := ID)) ?_
    refine Ent.storeV (x := q) (y := Enc.z Try.prog (α := Account)) ?_
    refine Ent.sem (Runs.varV (x := x)) ?_
    refine Ent.sem (Runs.varV (x := q)) ?_
    refine Ent.mapUpdate (enc := ID.val) (K := 28) (E := 86) Try.underlying76 Has.next ?_
    rw [kv_set]
    have hnew : ¬ x ∈ done.map (·.1) := by
      intro hx
      have h1 : ((done ++ (a ++ (x, q) :: c)).map (·.1)).Nodup := ((hp.map (·.1)).nodup_iff).2 hnd
      simp only [List.map_append, List.map_cons] at h1
      exact (List.nodup_append.1 h1).2.2 x hx x (by simp) rfl
    rw [kset_new hnew]
    refine Ent.drop2 (Ent.drop2 (Ent.swap ?_))
    have hkv : kv a ++ kv c = kv (a ++ c) := by simp [kv]
    rw [hkv]
    refine hkc (done ++ [(x, q)], a ++ c, some (x, q.val)) () ?_ (by simp)
    refine List.Perm.trans ?_ hp
    simp only [List.append_assoc, List.singleton_append]
    exact List.Perm.append_left _ List.perm_middle.symm
end Go.Cab
