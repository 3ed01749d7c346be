/- Records that were read: what their lists hold. -/
import Derived.Test.YtkjcjlcimgcfcaaTop2
import Derived.Test.YtkjcjlcimgcfcaaRecs
namespace Go.Cab
set_option linter.unusedSimpArgs false
set_option linter.unusedVariables false
set_option linter.unusedSectionVars false
open Go Go.Proofs
theorem slLen {α : Type} {E : Enc Try.prog α} {I : World → α → Prop} {W : World} {s : SV} (h : InSl Try.prog E I W s) : ∃ l : List α, SlW Try.prog E W s.val l ∧ l.length * E.bytes ≤ reachBytes ∧ ∀ x ∈ l, I W x := by
  obtain ⟨l, h1, h2, h3⟩ := h; exact ⟨l, h1, h2, h3⟩
theorem rec_in {W : World} {x : Record} (h : InRecord W x) : ∃ c : RecC, (∀ [Milieu] (Γ : List Asn), RecR (ab Old () W :: Γ) x c) ∧ c.fit ∧ ∀ y ∈ c.ys, InI64 W y := by
  obtain ⟨_, h1, h2, ⟨_, _, h3⟩, ⟨h4, h5, h6⟩⟩ := h
  obtain ⟨ws, a1, b1, _⟩ := slLen h1
  obtain ⟨ds, a2, b2, _⟩ := slLen h2
  obtain ⟨es, a3, b3, _⟩ := slLen h3
  obtain ⟨ps, a4, b4, _⟩ := slLen h4
  obtain ⟨ys, a5, b5, i5⟩ := slLen h5
  obtain ⟨zs, a6, b6, _⟩ := slLen h6
  refine ⟨⟨ws, ds, es, ps, ys, zs⟩, fun Γ => ⟨a1.slR, a2.slR, a3.slR, a4.slR, a5.slR, a6.slR⟩, ?_, i5⟩
  have c1 : ws.length * 56 ≤ 140737488351232 := b1
  have c2 : ds.length * 32 ≤ 140737488351232 := b2
  have c3 : es.length * 24 ≤ 140737488351232 := b3
  have c4 : ps.length * 16 ≤ 140737488351232 := b4
  have c5 : ys.length * 8 ≤ 140737488351232 := b5
  have c6 : zs.length * 8 ≤ 140737488351232 := b6
  unfold RecC.fit RecC.size
  show 1 + ws.length + ds.length + es.length + ps.length + ys.length + zs.length ≤ _
  omega
theorem recs_in {W : World} {s : SV} (h : InSl Try.prog enc_46 InRecord W s) : ∃ (xs : List Record) (cs : List RecC), SlW Try.prog enc_46 W s.val xs ∧ xs.length * 168 ≤ reachBytes ∧ (∀ [Milieu] (Γ : List Asn), RecsR (ab Old () W :: Γ) xs cs) ∧ ∀ c ∈ cs, ∀ y ∈ c.ys, InI64 W y := by
  obtain ⟨xs, h1, h2, h3⟩ := h
  obtain ⟨cs, hl, hq⟩ := choose_list (Q := fun i c => ∀ x, xs[i]? = some x → (∀ [Milieu] (Γ : List Asn), RecR (ab Old () W :: Γ) x c) ∧ c.fit ∧ ∀ y ∈ c.ys, InI64 W y) xs.length fun i hi => by
    obtain ⟨c, hc⟩ := rec_in (h3 xs[i] (List.getElem_mem hi))
    exact ⟨c, fun x hx => by rw [List.getElem?_eq_getElem hi] at hx; cases hx; exact hc⟩
  refine ⟨xs, cs, h1, h2, fun Γ => ⟨hl.symm, fun i x c hx hc => ⟨(hq i c hc x hx).1 Γ, (hq i c hc x hx).2.1⟩⟩, fun c hc => ?_⟩
  obtain ⟨i, hi⟩ := List.getElem?_of_mem hc
  have hlt : i < xs.length := by rw [← hl]; exact (List.getElem?_eq_some_iff.1 hi).1
  exact (hq i c hi xs[i] (List.getElem?_eq_getElem hlt)).2.2
end Go.Cab
