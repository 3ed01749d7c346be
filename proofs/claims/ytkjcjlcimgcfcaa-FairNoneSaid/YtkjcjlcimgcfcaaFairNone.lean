/- FairNone holds of every record: a watch that is not there, and one that no call made, refuse it, and what was handed in reads as before. -/
import Derived.Test.YtkjcjlcimgcfcaaTop
import Derived.Test.YtkjcjlcimgcfcaaRows
import Derived.Stop.Joined
namespace Go.Proofs.Ytkjcjlcimgcfcaa
set_option linter.unusedSimpArgs false
set_option linter.unusedVariables false
set_option linter.unusedSectionVars false
open Go Go.Cab Go.ChangeShapes Go.WideShapes Go.ChangeAt Go.WideMaps Go.WideElems Go.RowKit

theorem own : ownKnob Try.prog.godebug = none := by kernel_rfl

theorem walkNone (x : Record) (W : World) : Calls Try.prog 5 #[x.val] W fun e W' => e = .returned (.bool true) ∧ (∀ (i : Nat) (o : Obj), W.heap[i]? = some o → W'.heap[i]? = some o) ∧ W'.os = W.os ∧ W'.output = W.output :=
  law_top fun h => fairNone_spec h

set_option maxRecDepth 100000 in
theorem contractNone (H : Type) (enc : TypeId × Value → H) (W : World) (base : Nat) (args : Array Value) (ds gs : List (DataW H)) (before : List MemPlace)
    (hval : ∀ (j : Nat) t v, Try.f5.params[j]? = some t → args[j]? = some v → Value.okWide Try.prog W .any base t v)
    (hW : DataW.Whole enc Try.prog Try.f5.params.toList Rows.fairNoneSpec.vars false W args.toList ds gs before) :
    Calls Try.prog 5 args W fun e W' => ∃ v, e = .returned v ∧ Rows.fairNoneSpec.post enc Try.prog Try.f5 false true false false W args v W' := by
  have hW' := hW
  have hlt := hW.lt
  obtain ⟨p, q, hA0, hV, rfl, hfz, hnd⟩ := hW
  have hA : DataW.TrodAll enc Try.prog W 0 (fun _ => true) true Try.f5.params.toList args.toList ds p := hA0
  rw [Try.params5] at hA hval
  obtain ⟨v0, d0, hargs, rfl, h0⟩ := trodAll_one hA
  obtain rfl : args = #[v0] := by cases args; simp_all
  obtain ⟨rfl, rfl⟩ := trodVars_none hV
  obtain ⟨x, rfl⟩ := rec_of (hval 0 46 v0 rfl rfl)
  refine (walkNone x W).mono fun e W' ⟨he, hk, ho, hu⟩ => ?_
  subst he
  refine ⟨_, rfl, [d0], [], p ++ [], [], p, [], hW', trodAll_mk1 (shut_bool Try.underlying4 _), ?_, rfl, kept_of hk ho hu, fun h => by cases h⟩
  exact trodAll_mk1 (trod_later (by kernel_rfl) (of_decide_eq_true (by kernel_rfl)) h0 hk (fun x hx => hlt x (by simpa using hx)))

set_option maxRecDepth 100000 in
theorem liftedNone (os : Os) (started : os.Started) (H : Type) (enc : TypeId × Value → H) :
    ReturnsInHanded {} Try.checked os 5 .any (Rows.fairNoneSpec.pre6 enc Try.prog Try.f5 Rows.fairNoneRow.domain false) (Rows.fairNoneSpec.post enc Try.prog Try.f5 false true false false) := by
  refine returnsInHanded_of_change (C := Try.checked) own started (by kernel_rfl) Try.func5
    (ChangeSpec.witness6 (enc := enc) (C := Try.checked) false ⟨#[], #[(⟨0, ⟨none, 0, 0⟩, ⟨none, 0, 0⟩, ⟨0, 0, ⟨none, 0, 0⟩⟩, ⟨⟨none, 0, 0⟩, ⟨none, 0, 0⟩, ⟨none, 0, 0⟩⟩⟩ : Record).val], []⟩ 8 (by kernel_rfl) (by kernel_rfl) (by kernel_rfl) (by kernel_rfl)) ?_
  intro W base args ds gs before hval hW _ _
  exact contractNone H enc W base args ds gs before hval hW

theorem fairNone_holds : Rows.FairNoneSaid :=
  OpenClaim.holds_of_wide 5 Try.f5 rfl rfl rfl rfl rfl rfl rfl ⟨rfl, rfl, rfl, rfl, rfl⟩ rfl rfl rfl rfl rfl (by kernel_rfl) Try.func5 (by kernel_rfl)
    (of_decide_eq_true (by kernel_rfl)) (by unfold Func.isWrapper; first | (rw [if_pos (by decide +kernel)]; kernel_rfl) | (rw [if_neg (by decide +kernel)]; exact ⟨rfl, rfl⟩))
    (fun os started H enc _ => liftedNone os started H enc)
end Go.Proofs.Ytkjcjlcimgcfcaa
