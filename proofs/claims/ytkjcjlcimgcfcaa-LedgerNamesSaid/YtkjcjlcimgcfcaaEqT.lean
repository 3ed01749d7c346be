/- Equality of values of a type. -/
import Derived.Test.YtkjcjlcimgcfcaaAuto
import Derived.Laws.StructEq
namespace Go.Cab
set_option linter.unusedSimpArgs false
set_option linter.unusedVariables false
set_option linter.unusedSectionVars false
open Go
theorem u8_inj (a b : UInt8) : ((a.toNat : Int) = (b.toNat : Int)) ↔ a = b := by
  rw [Int.ofNat_inj]; exact UInt8.toNat_inj
/-- '==' at a type -/
class EqT (P : Program) (T : TypeId) (α : outParam Type) (E : outParam (Enc P α)) : Prop where
  op : ∀ (a b : α) (x y : Operand) (w : World), ∃ r : Bool, (eqM .eql T x y (E.val a) (E.val b)).run P w = .ok (.bool r) w ∧ (eqM .neq T x y (E.val a) (E.val b)).run P w = .ok (.bool (!r)) w ∧ (r = true ↔ a = b)
theorem eqFields_step {P : Program} {w : World} {d : Nat} {xs ys : Array Value} {f : Field} {fs : List Field} {va vb : Value} {r : Bool} {T o : Nat} (hT : f.type = T) (ho : f.offset = o) (hn : (f.name != "_") = true) (ha : (part T xs o).run P w = .ok va w) (hb : (part T ys o).run P w = .ok vb w) (he : (Op.equalIn d T va vb).run P w = .ok r w) {s : Bool} (hs : (Op.eqFields d xs ys fs).run P w = .ok s w) :
    (Op.eqFields d xs ys (f :: fs)).run P w = .ok (r && s) w := by
  subst hT; subst ho
  have hn' : f.name ≠ "_" := by simpa using hn
  simp only [Op.eqFields, hn', ne_eq, not_false_eq_true, if_true, Sem.run_bind, ha, hb, he, Result.andThen_ok]
  cases r
  · simp [Sem.run_pure]
  · simp [hs]
theorem eqFields_nil {P : Program} {w : World} {d : Nat} {xs ys : Array Value} : (Op.eqFields d xs ys []).run P w = .ok true w := rfl
theorem EqT.of {P : Program} {T : TypeId} {α : Type} {E : Enc P α} (n : Nat) (hn : n = 10000) (cs : α → Array Value) (hc : ∀ a, E.val a = .agg (cs a)) (hm : P.eqGuardType P.depth T = false)
    (hin : ∀ (a b : α) (w : World), ∃ r, (Op.equalIn n T (E.val a) (E.val b)).run P w = .ok r w ∧ (r = true ↔ a = b)) : EqT P T α E := by
  subst hn
  refine ⟨fun a b x y w => ?_⟩
  obtain ⟨r, h1, h2⟩ := hin a b w
  refine ⟨r, ?_, ?_, h2⟩
  · rw [hc, hc] at h1 ⊢
    simp only [eqM, Sem.run_bind, run_eqGuard_agg w .eql T x y _ _ hm, Result.andThen_ok, run_eql_struct, h1]
  · rw [hc, hc] at h1 ⊢
    simp only [eqM, Sem.run_bind, run_eqGuard_agg w .neq T x y _ _ hm, Result.andThen_ok, run_neq_struct, h1]
variable [Milieu]
section
variable {P : Program} {Γ : List Asn} {T : TypeId} {α : Type} {E : Enc P α} {a b : α} {x y : Operand} {u v : Value} {K : Bool → WP}
theorem Ent.eqA [DecidableEq α] [h : EqT P T α E] (hu : u = E.val a) (hv : v = E.val b) (hk : Ent Γ (K (decide (a = b)))) : Ent Γ (pureT P inB (eqM .eql T x y u v) K) := by
  subst hu; subst hv
  refine Ent.pure (fun w => ?_) hk
  obtain ⟨r, h1, _, h2⟩ := h.op a b x y w
  rw [h1]; congr 2; rw [Bool.eq_iff_iff, h2]; simp
theorem Ent.neA [DecidableEq α] [h : EqT P T α E] (hu : u = E.val a) (hv : v = E.val b) (hk : Ent Γ (K (!decide (a = b)))) : Ent Γ (pureT P inB (eqM .neq T x y u v) K) := by
  subst hu; subst hv
  refine Ent.pure (fun w => ?_) hk
  obtain ⟨r, _, h1, h2⟩ := h.op a b x y w
  rw [h1]; congr 3; rw [Bool.eq_iff_iff, h2]; simp
end
end Go.Cab
