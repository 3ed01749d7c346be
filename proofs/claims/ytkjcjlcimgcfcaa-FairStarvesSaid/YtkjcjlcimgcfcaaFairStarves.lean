/- FairStarves holds of any records: where the best matching is made each time, who came earlier counts for more, and nobody comes late, the watch says at most one less than wait at one time; what was handed in reads as before. No condition. -/
import Derived.Test.YtkjcjlcimgcfcaaFairInp
import Derived.Test.YtkjcjlcimgcfcaaStarveLaw
import Derived.Test.YtkjcjlcimgcfcaaRows
import Derived.Stop.Joined
import Derived.SizedLaws
namespace Go.Proofs.Ytkjcjlcimgcfcaa
set_option linter.unusedSimpArgs false
set_option linter.unusedVariables false
set_option linter.unusedSectionVars false
open Go Go.Cab Go.ChangeShapes Go.WideShapes Go.ChangeAt Go.WideMaps Go.WideElems Go.RowKit

theorem own : ownKnob Try.prog.godebug = none := by kernel_rfl

theorem walkFairStarves (s : SV) (W : World) (hx : InSl Try.prog enc_46 InRecord W s) : Calls Try.prog 7 #[s.val] W fun e W' => e = .returned (.bool true) ∧ (∀ (i : Nat) (o : Obj), W.heap[i]? = some o → W'.heap[i]? = some o) ∧ W'.os = W.os ∧ W'.output = W.output := by
  obtain ⟨xs, cs, h1, _, h2, h3⟩ := recs_in hx
  refine law_top fun {_ Γ K} h => ?_
  have := h1.slH (Γ := Γ)
  exact fairStarves_spec (h2 _) (fun c hc y hy => h3 c hc y hy) h

set_option maxRecDepth 100000 in
theorem contractFairStarves (H : Type) (enc : TypeId × Value → H) (W : World) (base : Nat) (args : Array Value) (ds gs : List (DataW H)) (before : List MemPlace)
    (hval : ∀ (j : Nat) t v, Try.f7.params[j]? = some t → args[j]? = some v → Value.okWide Try.prog W .any base t v)
    (hW : DataW.Whole enc Try.prog Try.f7.params.toList Rows.fairStarvesSpec.vars false W args.toList ds gs before)
    (hw : (DataW.weightsEach Try.prog (Try.f7.params.toList ++ Rows.fairStarvesSpec.plain.varTypes Try.prog) (ds ++ gs)).all (fun n => decide (n ≤ reachBytes)) = true) :
    Calls Try.prog 7 args W fun e W' => ∃ v, e = .returned v ∧ Rows.fairStarvesSpec.post enc Try.prog Try.f7 false true false false W args v W' := by
  have hW' := hW
  have hlt := hW.lt
  obtain ⟨p, q, hA0, hV, rfl, hfz, hnd⟩ := hW
  have hA : DataW.TrodAll enc Try.prog W 0 (fun _ => true) true Try.f7.params.toList args.toList ds p := hA0
  rw [Try.params7] at hA hval hw
  obtain ⟨v0, d0, hargs, rfl, h0⟩ := trodAll_one hA
  obtain rfl : args = #[v0] := by cases args; simp_all
  obtain ⟨rfl, rfl⟩ := trodVars_none hV
  have hw0 := weightsEach_at (i := 0) hw rfl rfl
  obtain ⟨k0, t0⟩ := h0
  obtain ⟨x0, e0, i0⟩ := rdr_48.rd t0 hw0
  obtain rfl := val_slice (E := enc_48) Try.underlying48 (hval 0 48 v0 rfl rfl) rfl rfl e0
  refine (walkFairStarves x0 W i0).mono fun e W' ⟨he, hk, ho, hu⟩ => ?_
  subst he
  refine ⟨_, rfl, [d0], [], p ++ [], [], p, [], hW', trodAll_mk1 (shut_bool Try.underlying4 _), ?_, rfl, kept_of hk ho hu, fun h => by cases h⟩
  exact trodAll_mk1 (trod_later (by kernel_rfl) (of_decide_eq_true (by kernel_rfl)) ⟨k0, t0⟩ hk (fun x hx => hlt x (by simp [hx])))

set_option maxRecDepth 100000 in
theorem liftedFairStarves (os : Os) (started : os.Started) (H : Type) (enc : TypeId × Value → H) :
    ReturnsInHanded {} Try.checked os 7 .any (Rows.fairStarvesSpec.pre6 enc Try.prog Try.f7 Rows.fairStarvesRow.domain false) (Rows.fairStarvesSpec.post enc Try.prog Try.f7 false true false false) := by
  refine returnsInHanded_of_change_sized (C := Try.checked) own started (by kernel_rfl) Try.func7
    (ChangeSpec.witness6 (enc := enc) (C := Try.checked) false ⟨#[], #[.slice none 0 0], []⟩ 8 (by kernel_rfl) (by kernel_rfl) (by kernel_rfl) (by kernel_rfl)) ?_
  intro W base args ds gs before hval hW _ hw _
  exact contractFairStarves H enc W base args ds gs before hval hW hw

theorem fairStarves_holds : Rows.FairStarvesSaid :=
  OpenClaim.holds_of_wide 7 Try.f7 rfl rfl rfl rfl rfl rfl rfl ⟨rfl, rfl, rfl, rfl, rfl⟩ rfl rfl rfl rfl rfl (by kernel_rfl) Try.func7 (by kernel_rfl)
    (of_decide_eq_true (by kernel_rfl)) (by unfold Func.isWrapper; first | (rw [if_pos (by decide +kernel)]; kernel_rfl) | (rw [if_neg (by decide +kernel)]; exact ⟨rfl, rfl⟩))
    (fun os started H enc _ => liftedFairStarves os started H enc)
end Go.Proofs.Ytkjcjlcimgcfcaa
