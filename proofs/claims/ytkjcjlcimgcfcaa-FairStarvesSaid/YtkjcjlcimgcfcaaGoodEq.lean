/- Plain: what Good says and what the document says are one. -/
import Derived.Test.YtkjcjlcimgcfcaaRef2
namespace Go.Cab
set_option linter.unusedSimpArgs false
set_option linter.unusedVariables false
set_option linter.unusedSectionVars false
open Go Go.Proofs
variable [Milieu]
theorem marks_at (n : Nat) : ∀ (rs : List Int) (b : List Bool) (i : Nat), b.length = n → i < n → (∀ r ∈ rs, 0 ≤ r) → (marks b rs)[i]?.getD false = (b[i]?.getD false || rs.any (fun r => r == (i : Int)))
  | [], b, i, _, _, _ => by simp [marks]
  | r :: rs, b, i, hb, hi, hr => by
    have h0 := hr r (by simp)
    rw [marks, marks_at n rs _ i (by simpa using hb) hi (fun r' h => hr r' (by simp [h])), getD_set]
    obtain ⟨k, rfl⟩ : ∃ k : Nat, r = (k : Int) := ⟨r.toNat, by omega⟩
    simp only [Int.toNat_natCast, List.any_cons, hb]
    by_cases hk : k = i
    · subst hk; simp [hi]
    · have : ((k : Int) == (i : Int)) = false := by simp; omega
      simp [hk, this]
theorem goodT_ref (x : Record) (c : RecC) (id : ID) : goodT x c id = refGood x c id := by
  unfold goodT refGood
  cases hrow : rowOf c.ws id with
  | none => rfl
  | some i =>
    simp only
    split
    · rename_i hz
      have hf := fine_of hz
      have hlt := rowOf_lt hrow
      have hn : x.g.rows.toNat = c.ws.length := by have := hf.nr; omega
      have hes : ∀ r ∈ c.es.map (·.r), 0 ≤ r := by
        intro r hr
        obtain ⟨e, he, rfl⟩ := List.mem_map.1 hr
        have hg := hf.g
        simp only [graphBad, Bool.or_eq_false_iff] at hg
        have := ((edgesBad_spec hg.2).1 e he).1
        simp [edgeOut] at this
        exact this.1
      have hps : ∀ r ∈ c.ps.map (·.r), 0 ≤ r := by
        intro r hr
        obtain ⟨p, hp, rfl⟩ := List.mem_map.1 hr
        exact (wt_range hf.g (pairsGo_ok hf.p p hp)).1
      have hrep : (List.replicate x.g.rows.toNat false)[i]?.getD false = false := by
        rw [List.getElem?_replicate]; split <;> rfl
      have e1 : (goods x c)[i]?.getD false = c.es.any (fun e => e.r == (i : Int)) := by
        rw [goods, marks_at _ _ _ i List.length_replicate (by omega) hes, hrep, List.any_map]; rfl
      have e2 : (mates x c)[i]?.getD false = c.ps.any (fun e => e.r == (i : Int)) := by
        rw [mates, marks_at _ _ _ i List.length_replicate (by omega) hps, hrep, List.any_map]; rfl
      rw [e1, e2]
    · rfl
end Go.Cab
