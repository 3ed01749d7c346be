/- FairCounts holds of any records: the watch says what Good says, record by record; what was handed in reads as before. No condition. -/
import Derived.Test.YtkjcjlcimgcfcaaTop2
import Derived.Test.YtkjcjlcimgcfcaaCountsLaw
import Derived.Test.YtkjcjlcimgcfcaaRows
import Derived.Stop.Joined
import Derived.SizedLaws
namespace Go.Proofs.Ytkjcjlcimgcfcaa
set_option linter.unusedSimpArgs false
set_option linter.unusedVariables false
set_option linter.unusedSectionVars false
open Go Go.Cab Go.ChangeShapes Go.WideShapes Go.ChangeAt Go.WideMaps Go.WideElems Go.RowKit

theorem own : ownKnob Try.prog.godebug = none := by kernel_rfl

theorem slLen {α : Type} {E : Enc Try.prog α} {I : World → α → Prop} {W : World} {s : SV} (h : InSl Try.prog E I W s) : ∃ l : List α, SlW Try.prog E W s.val l ∧ l.length * E.bytes ≤ reachBytes := by
  obtain ⟨l, h1, h2, _⟩ := h; exact ⟨l, h1, h2⟩
theorem rec_in {W : World} {x : Record} (h : InRecord W x) : ∃ c : RecC, (∀ [Milieu] (Γ : List Asn), RecR (ab Old () W :: Γ) x c) ∧ c.fit := by
  obtain ⟨_, h1, h2, ⟨_, _, h3⟩, ⟨h4, h5, h6⟩⟩ := h
  obtain ⟨ws, a1, b1⟩ := slLen h1
  obtain ⟨ds, a2, b2⟩ := slLen h2
  obtain ⟨es, a3, b3⟩ := slLen h3
  obtain ⟨ps, a4, b4⟩ := slLen h4
  obtain ⟨ys, a5, b5⟩ := slLen h5
  obtain ⟨zs, a6, b6⟩ := slLen h6
  refine ⟨⟨ws, ds, es, ps, ys, zs⟩, fun Γ => ⟨a1.slR, a2.slR, a3.slR, a4.slR, a5.slR, a6.slR⟩, ?_⟩
  have c1 : ws.length * 56 ≤ 140737488351232 := b1
  have c2 : ds.length * 32 ≤ 140737488351232 := b2
  have c3 : es.length * 24 ≤ 140737488351232 := b3
  have c4 : ps.length * 16 ≤ 140737488351232 := b4
  have c5 : ys.length * 8 ≤ 140737488351232 := b5
  have c6 : zs.length * 8 ≤ 140737488351232 := b6
  unfold RecC.fit RecC.size
  show 1 + ws.length + ds.length + es.length + ps.length + ys.length + zs.length ≤ _
  omega
theorem recs_in {W : World} {s : SV} (h : InSl Try.prog enc_46 InRecord W s) : ∃ (xs : List Record) (cs : List RecC), SlW Try.prog enc_46 W s.val xs ∧ xs.length * 168 ≤ reachBytes ∧ ∀ [Milieu] (Γ : List Asn), RecsR (ab Old () W :: Γ) xs cs := by
  obtain ⟨xs, h1, h2, h3⟩ := h
  obtain ⟨cs, hl, hq⟩ := choose_list (Q := fun i c => ∀ x, xs[i]? = some x → (∀ [Milieu] (Γ : List Asn), RecR (ab Old () W :: Γ) x c) ∧ c.fit) xs.length fun i hi => by
    obtain ⟨c, hc⟩ := rec_in (h3 xs[i] (List.getElem_mem hi))
    exact ⟨c, fun x hx => by rw [List.getElem?_eq_getElem hi] at hx; cases hx; exact hc⟩
  exact ⟨xs, cs, h1, h2, fun Γ => ⟨hl.symm, fun i x c hx hc => ⟨(hq i c hc x hx).1 Γ, (hq i c hc x hx).2⟩⟩⟩

theorem walkFairCounts (s : SV) (W : World) (hx : InSl Try.prog enc_46 InRecord W s) : Calls Try.prog 6 #[s.val] W fun e W' => e = .returned (.bool true) ∧ (∀ (i : Nat) (o : Obj), W.heap[i]? = some o → W'.heap[i]? = some o) ∧ W'.os = W.os ∧ W'.output = W.output := by
  obtain ⟨xs, cs, h1, _, h2⟩ := recs_in hx
  refine law_top fun {_ Γ K} h => ?_
  have := h1.slH (Γ := Γ)
  exact fairCounts_spec (h2 _) h

set_option maxRecDepth 100000 in
theorem contractFairCounts (H : Type) (enc : TypeId × Value → H) (W : World) (base : Nat) (args : Array Value) (ds gs : List (DataW H)) (before : List MemPlace)
    (hval : ∀ (j : Nat) t v, Try.f6.params[j]? = some t → args[j]? = some v → Value.okWide Try.prog W .any base t v)
    (hW : DataW.Whole enc Try.prog Try.f6.params.toList Rows.fairCountsSpec.vars false W args.toList ds gs before)
    (hw : (DataW.weightsEach Try.prog (Try.f6.params.toList ++ Rows.fairCountsSpec.plain.varTypes Try.prog) (ds ++ gs)).all (fun n => decide (n ≤ reachBytes)) = true) :
    Calls Try.prog 6 args W fun e W' => ∃ v, e = .returned v ∧ Rows.fairCountsSpec.post enc Try.prog Try.f6 false true false false W args v W' := by
  have hW' := hW
  have hlt := hW.lt
  obtain ⟨p, q, hA0, hV, rfl, hfz, hnd⟩ := hW
  have hA : DataW.TrodAll enc Try.prog W 0 (fun _ => true) true Try.f6.params.toList args.toList ds p := hA0
  rw [Try.params6] at hA hval hw
  obtain ⟨v0, d0, hargs, rfl, h0⟩ := trodAll_one hA
  obtain rfl : args = #[v0] := by cases args; simp_all
  obtain ⟨rfl, rfl⟩ := trodVars_none hV
  have hw0 := weightsEach_at (i := 0) hw rfl rfl
  obtain ⟨k0, t0⟩ := h0
  obtain ⟨x0, e0, i0⟩ := rdr_48.rd t0 hw0
  obtain rfl := val_slice (E := enc_48) Try.underlying48 (hval 0 48 v0 rfl rfl) rfl rfl e0
  refine (walkFairCounts x0 W i0).mono fun e W' ⟨he, hk, ho, hu⟩ => ?_
  subst he
  refine ⟨_, rfl, [d0], [], p ++ [], [], p, [], hW', trodAll_mk1 (shut_bool Try.underlying4 _), ?_, rfl, kept_of hk ho hu, fun h => by cases h⟩
  exact trodAll_mk1 (trod_later (by kernel_rfl) (of_decide_eq_true (by kernel_rfl)) ⟨k0, t0⟩ hk (fun x hx => hlt x (by simp [hx])))

set_option maxRecDepth 100000 in
theorem liftedFairCounts (os : Os) (started : os.Started) (H : Type) (enc : TypeId × Value → H) :
    ReturnsInHanded {} Try.checked os 6 .any (Rows.fairCountsSpec.pre6 enc Try.prog Try.f6 Rows.fairCountsRow.domain false) (Rows.fairCountsSpec.post enc Try.prog Try.f6 false true false false) := by
  refine returnsInHanded_of_change_sized (C := Try.checked) own started (by kernel_rfl) Try.func6
    (ChangeSpec.witness6 (enc := enc) (C := Try.checked) false ⟨#[], #[.slice none 0 0], []⟩ 8 (by kernel_rfl) (by kernel_rfl) (by kernel_rfl) (by kernel_rfl)) ?_
  intro W base args ds gs before hval hW _ hw _
  exact contractFairCounts H enc W base args ds gs before hval hW hw

theorem fairCounts_holds : Rows.FairCountsSaid :=
  OpenClaim.holds_of_wide 6 Try.f6 rfl rfl rfl rfl rfl rfl rfl ⟨rfl, rfl, rfl, rfl, rfl⟩ rfl rfl rfl rfl rfl (by kernel_rfl) Try.func6 (by kernel_rfl)
    (of_decide_eq_true (by kernel_rfl)) (by unfold Func.isWrapper; first | (rw [if_pos (by decide +kernel)]; kernel_rfl) | (rw [if_neg (by decide +kernel)]; exact ⟨rfl, rfl⟩))
    (fun os started H enc _ => liftedFairCounts os started H enc)
end Go.Proofs.Ytkjcjlcimgcfcaa
