/- ident.Cmp as a contract; ids by number; sorted ids. -/
import Derived.Test.YtkjcjlcimgcfcaaSortF
import Derived.Test.YtkjcjlcimgcfcaaAuto2
namespace Go.Cab
set_option linter.unusedSimpArgs false
set_option linter.unusedVariables false
set_option linter.unusedSectionVars false
open Go Go.Proofs
def ID.num (a : ID) : Nat := numL a.bytes
theorem cmp_lt (a b : ID) : ID.cmp a b < 0 ↔ a.num < b.num := by
  have := lt_num a b
  simp only [ltOf] at this
  rw [decide_eq_decide] at this
  exact this
theorem num_inj {a b : ID} (h : a.num = b.num) : a = b := ID.bytes_inj (numL_inj rfl h)
theorem sortID_perm_self (l : List ID) : (sortID l).Perm l := List.mergeSort_perm ..
theorem sortID_le (l : List ID) : (sortID l).Pairwise fun a b => a.num ≤ b.num := by
  have h := List.pairwise_mergeSort (le := fun x y => !(ltOf ID.cmp y x)) (fun a b c h1 h2 => by
    simp only [Bool.not_eq_true', lt_num, decide_eq_false_iff_not] at *; omega) (fun a b => by
    simp only [Bool.or_eq_true, Bool.not_eq_true', lt_num, decide_eq_false_iff_not]; omega) l
  refine h.imp fun {a b} hab => ?_
  simp only [Bool.not_eq_true', lt_num, decide_eq_false_iff_not] at hab
  show numL a.bytes ≤ numL b.bytes
  omega
theorem sortID_lt {l : List ID} (hn : l.Nodup) : (sortID l).Pairwise fun a b => a.num < b.num := by
  have h1 := sortID_le l
  have h2 : (sortID l).Nodup := (sortID_perm_self l).nodup_iff.2 hn
  refine (h1.and h2).imp fun {a b} ⟨h3, h4⟩ => ?_
  rcases Nat.lt_or_ge a.num b.num with h | h
  · exact h
  · exact absurd (num_inj (by omega)) h4
variable [Milieu]
theorem cmp_spec {Γ : List Asn} {a b : ID} {K : Int → WP} (h : Ent Γ (K (ID.cmp a b))) : Ent Γ (callT Try.prog (inI .i64) 38 #[a.val, b.val] K) := by
  refine Ent.call ?_
  intro w hs
  refine Calls.mono (identCmp a b w) fun e w' ⟨he, q, os', hw⟩ => ?_
  refine ⟨_, he, _, rfl, h w' ⟨?_, ?_⟩⟩
  · obtain ⟨p, hl, hp⟩ := hs.1
    refine ⟨p, PH.le_trans hl ?_, hp⟩
    intro i o hi
    subst hw
    simp only [PH.of] at hi ⊢
    have hlt := (Array.getElem?_eq_some_iff.1 hi).1
    show ((w.drewN q).heap ++ os')[i]? = some o
    rw [Array.getElem?_append_left (by exact hlt)]
    exact hi
  · subst hw; exact hs.2
end Go.Cab
