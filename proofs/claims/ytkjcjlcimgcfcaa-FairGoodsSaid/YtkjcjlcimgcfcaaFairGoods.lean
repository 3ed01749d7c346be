/- FairGoods holds of every record and every id: what Good says of each, and of those that wait there, is what the document says; what was handed in reads as before. No condition. -/
import Derived.Test.YtkjcjlcimgcfcaaTop2
import Derived.Test.YtkjcjlcimgcfcaaGoodsLaw
import Derived.Test.YtkjcjlcimgcfcaaRows
import Derived.Stop.Joined
import Derived.SizedLaws
namespace Go.Proofs.Ytkjcjlcimgcfcaa
set_option linter.unusedSimpArgs false
set_option linter.unusedVariables false
set_option linter.unusedSectionVars false
open Go Go.Cab Go.ChangeShapes Go.WideShapes Go.ChangeAt Go.WideMaps Go.WideElems Go.RowKit

theorem own : ownKnob Try.prog.godebug = none := by kernel_rfl

theorem slLen {α : Type} {E : Enc Try.prog α} {I : World → α → Prop} {W : World} {s : SV} (h : InSl Try.prog E I W s) : ∃ l : List α, SlW Try.prog E W s.val l ∧ l.length * E.bytes ≤ reachBytes := by
  obtain ⟨l, h1, h2, _⟩ := h; exact ⟨l, h1, h2⟩
theorem rec_in {W : World} {x : Record} (h : InRecord W x) : ∃ c : RecC, (∀ [Milieu] (Γ : List Asn), RecR (ab Old () W :: Γ) x c) ∧ c.fit := by
  obtain ⟨_, h1, h2, ⟨_, _, h3⟩, ⟨h4, h5, h6⟩⟩ := h
  obtain ⟨ws, a1, b1⟩ := slLen h1
  obtain ⟨ds, a2, b2⟩ := slLen h2
  obtain ⟨es, a3, b3⟩ := slLen h3
  obtain ⟨ps, a4, b4⟩ := slLen h4
  obtain ⟨ys, a5, b5⟩ := slLen h5
  obtain ⟨zs, a6, b6⟩ := slLen h6
  refine ⟨⟨ws, ds, es, ps, ys, zs⟩, fun Γ => ⟨a1.slR, a2.slR, a3.slR, a4.slR, a5.slR, a6.slR⟩, ?_⟩
  have c1 : ws.length * 56 ≤ 140737488351232 := b1
  have c2 : ds.length * 32 ≤ 140737488351232 := b2
  have c3 : es.length * 24 ≤ 140737488351232 := b3
  have c4 : ps.length * 16 ≤ 140737488351232 := b4
  have c5 : ys.length * 8 ≤ 140737488351232 := b5
  have c6 : zs.length * 8 ≤ 140737488351232 := b6
  unfold RecC.fit RecC.size
  show 1 + ws.length + ds.length + es.length + ps.length + ys.length + zs.length ≤ _
  omega

theorem walkGoods (x : Record) (id : ID) (W : World) (hx : InRecord W x) : Calls Try.prog 4 #[x.val, id.val] W fun e W' => e = .returned (.bool true) ∧ (∀ (i : Nat) (o : Obj), W.heap[i]? = some o → W'.heap[i]? = some o) ∧ W'.os = W.os ∧ W'.output = W.output := by
  obtain ⟨c, hr, hf⟩ := rec_in hx
  exact law_top fun h => fairGoods_spec (hr _) hf h

set_option maxRecDepth 100000 in
theorem contractGoods (H : Type) (enc : TypeId × Value → H) (W : World) (base : Nat) (args : Array Value) (ds gs : List (DataW H)) (before : List MemPlace)
    (hval : ∀ (j : Nat) t v, Try.f4.params[j]? = some t → args[j]? = some v → Value.okWide Try.prog W .any base t v)
    (hW : DataW.Whole enc Try.prog Try.f4.params.toList Rows.fairGoodsSpec.vars false W args.toList ds gs before)
    (hw : (DataW.weightsEach Try.prog (Try.f4.params.toList ++ Rows.fairGoodsSpec.plain.varTypes Try.prog) (ds ++ gs)).all (fun n => decide (n ≤ reachBytes)) = true) :
    Calls Try.prog 4 args W fun e W' => ∃ v, e = .returned v ∧ Rows.fairGoodsSpec.post enc Try.prog Try.f4 false true false false W args v W' := by
  have hW' := hW
  have hlt := hW.lt
  obtain ⟨p, q, hA0, hV, rfl, hfz, hnd⟩ := hW
  have hA : DataW.TrodAll enc Try.prog W 0 (fun _ => true) true Try.f4.params.toList args.toList ds p := hA0
  rw [Try.params4] at hA hval hw
  obtain ⟨v0, v1, d0, d1, p0, p1, rfl, rfl, rfl, h0, h1⟩ := trodAll_two hA
  obtain ⟨rfl, rfl⟩ := trodVars_none hV
  have hw0 := weightsEach_at (i := 0) hw rfl rfl
  have hw1 := weightsEach_at (i := 1) hw rfl rfl
  obtain ⟨k0, t0⟩ := h0
  obtain ⟨k1, t1⟩ := h1
  obtain ⟨x, e0, hx⟩ := rdr_46.rd t0 hw0
  obtain ⟨id, e1, _⟩ := rdr_28.rd t1 hw1
  obtain rfl := val_struct (E := enc_46) Try.underlying46 (hval 0 46 v0 rfl rfl) rfl e0
  obtain rfl := val_array (E := enc_28) Try.underlying28 (hval 1 28 v1 rfl rfl) rfl e1
  refine (walkGoods x id W hx).mono fun e W' ⟨he, hk, ho, hu⟩ => ?_
  subst he
  refine ⟨_, rfl, [d0, d1], [], p0 ++ p1 ++ [], [], p0 ++ p1, [], hW', trodAll_mk1 (shut_bool Try.underlying4 _), ?_, rfl, kept_of hk ho hu, fun h => by cases h⟩
  exact trodAll_mk2 (trod_later (by kernel_rfl) (of_decide_eq_true (by kernel_rfl)) ⟨k0, t0⟩ hk (fun x hx => hlt x (by simp [hx]))) (trod_later (by kernel_rfl) (of_decide_eq_true (by kernel_rfl)) ⟨k1, t1⟩ hk (fun x hx => hlt x (by simp [hx])))

set_option maxRecDepth 100000 in
theorem liftedGoods (os : Os) (started : os.Started) (H : Type) (enc : TypeId × Value → H) :
    ReturnsInHanded {} Try.checked os 4 .any (Rows.fairGoodsSpec.pre6 enc Try.prog Try.f4 Rows.fairGoodsRow.domain false) (Rows.fairGoodsSpec.post enc Try.prog Try.f4 false true false false) := by
  refine returnsInHanded_of_change_sized (C := Try.checked) own started (by kernel_rfl) Try.func4
    (ChangeSpec.witness6 (enc := enc) (C := Try.checked) false ⟨#[], #[(Enc.z Try.prog (α := Record)).val, (Enc.z Try.prog (α := ID)).val], []⟩ 8 (by kernel_rfl) (by kernel_rfl) (by kernel_rfl) (by kernel_rfl)) ?_
  intro W base args ds gs before hval hW _ hw _
  exact contractGoods H enc W base args ds gs before hval hW hw

theorem fairGoods_holds : Rows.FairGoodsSaid :=
  OpenClaim.holds_of_wide 4 Try.f4 rfl rfl rfl rfl rfl rfl rfl ⟨rfl, rfl, rfl, rfl, rfl⟩ rfl rfl rfl rfl rfl (by kernel_rfl) Try.func4 (by kernel_rfl)
    (of_decide_eq_true (by kernel_rfl)) (by unfold Func.isWrapper; first | (rw [if_pos (by decide +kernel)]; kernel_rfl) | (rw [if_neg (by decide +kernel)]; exact ⟨rfl, rfl⟩))
    (fun os started H enc _ => liftedGoods os started H enc)
end Go.Proofs.Ytkjcjlcimgcfcaa
