/- The top step: old memory stays, the answer is true. -/
import Derived.Test.YtkjcjlcimgcfcaaFairIn
import Derived.ProofKit
import Derived.OpenShut
import Derived.RowKit3
import Derived.Carry
import Derived.ChangeFn
namespace Go.Cab
set_option linter.unusedSimpArgs false
set_option linter.unusedVariables false
set_option linter.unusedSectionVars false
open Go Go.Proofs Go.ChangeShapes Go.WideShapes
theorem law_top {f : FuncId} {args : Array Value} {W : World} (hE : ∀ [Milieu] {Γ : List Asn} {K : Value → WP}, Ent (ab Old () W :: Γ) (K (.bool true)) → Ent (ab Old () W :: Γ) (callH Try.prog f args K)) :
    Calls Try.prog f args W fun e W' => e = .returned (.bool true) ∧ (∀ (i : Nat) (o : Obj), W.heap[i]? = some o → W'.heap[i]? = some o) ∧ W'.os = W.os ∧ W'.output = W.output := by
  letI : Milieu := ⟨W.os, W.output⟩
  have h0 : Sat [ab Old () W] W := ⟨⟨PH.of W, PH.le_refl _, PH.of W, fun _ => none, fun _ => .inr rfl, by funext i; simp [PH.join], fun i o h => h, trivial⟩, rfl, rfl⟩
  have h1 : Ent [ab Old () W] (fun w' => (∀ (i : Nat) (o : Obj), W.heap[i]? = some o → w'.heap[i]? = some o) ∧ w'.os = W.os ∧ w'.output = W.output) := by
    intro w hs
    obtain ⟨⟨p, hl, a, b, hd, rfl, ha, _⟩, h2, h3⟩ := hs
    exact ⟨fun i o hi => hl i o (PH.le_left a b i o (ha i o hi)), h2, h3⟩
  have h2 := hE (Γ := []) (K := fun v w' => v = .bool true ∧ (∀ (i : Nat) (o : Obj), W.heap[i]? = some o → w'.heap[i]? = some o) ∧ w'.os = W.os ∧ w'.output = W.output) (fun w hs => ⟨rfl, h1 w hs⟩) W h0
  exact Calls.mono h2 fun e w' ⟨v, hv, hb, hr⟩ => ⟨by rw [hv, hb], hr⟩
theorem kept_of {W W' : World} {may : MemPlace → Prop} (h : ∀ (i : Nat) (o : Obj), W.heap[i]? = some o → W'.heap[i]? = some o) (ho : W'.os = W.os) (hu : W'.output = W.output) : W.keptBut W' may := by
  refine ⟨ho, hu, fun i hi => ?_⟩
  have hi' : W.heap[i]? = some W.heap[i] := Array.getElem?_eq_getElem hi
  rw [hi', h i _ hi']
  cases W.heap[i] with
  | cells c t fr => exact ⟨rfl, rfl, rfl, fun _ _ => rfl⟩
  | map es clock => exact .inr ⟨rfl, rfl⟩
  | _ => rfl
/-- what was read reads as it did, where old memory stays -/
theorem trod_later {H : Type} {enc : TypeId × Value → H} {t : TypeId} (hr : Try.prog.readableRec t = true) (hrow : t < Try.prog.types.size) {W W' : World} {v : Value} {d : DataW H} {ps : List MemPlace}
    (h : DataW.Trod enc Try.prog W 0 (fun _ => true) true t v d ps) (hk : ∀ (i : Nat) (o : Obj), W.heap[i]? = some o → W'.heap[i]? = some o) (hlt : ∀ x ∈ ps, x.block < W.heap.size) :
    DataW.Trod enc Try.prog W' 0 (fun b => decide (b < W.heap.size)) true t v d ps := by
  have hl : laidOutB Try.prog = true := by kernel_rfl
  have hsz : W.heap.size ≤ W'.heap.size := by
    rcases Nat.eq_zero_or_pos W.heap.size with h0 | h0
    · omega
    · have hi : W.heap[W.heap.size - 1]? = some W.heap[W.heap.size - 1] := Array.getElem?_eq_getElem (by omega)
      have := (Array.getElem?_eq_some_iff.1 (hk _ _ hi)).1
      omega
  have hb : RowKit.Below W.heap.size W { W' with os := W.os, tape := W.tape, output := W.output } := ⟨rfl, rfl, rfl, hsz, fun k hlt => by
    have hi : W.heap[k]? = some W.heap[k] := Array.getElem?_eq_getElem hlt
    show W'.heap[k]? = W.heap[k]?
    rw [hi]; exact hk k _ hi⟩
  exact DataW.Trod.of_heap (w := { W' with os := W.os, tape := W.tape, output := W.output }) (w' := W') rfl (RowKit.Below.trod hl hr hrow h hb hlt)
theorem val_struct {P : Program} {W : World} {base : Nat} {T : TypeId} {fs : Array Field} {α : Type} {E : Enc P α} {x : α} {v : Value} (hu : P.underlying T = some (.struct fs)) (h : Value.okWide P W .any base T v) (hv : E.val x = .agg (E.cells x).toArray) (hc : v.cells.toList = E.cells x) : E.val x = v := by
  unfold Value.okWide at h
  simp only [hu] at h
  obtain ⟨cs, rfl, _⟩ := h
  rw [hv, ← hc]; rfl
theorem val_array {P : Program} {W : World} {base : Nat} {T e : TypeId} {n : Nat} {α : Type} {E : Enc P α} {x : α} {v : Value} (hu : P.underlying T = some (.array n e)) (h : Value.okWide P W .any base T v) (hv : E.val x = .agg (E.cells x).toArray) (hc : v.cells.toList = E.cells x) : E.val x = v := by
  unfold Value.okWide at h
  simp only [hu] at h
  obtain ⟨cs, rfl, _⟩ := h
  rw [hv, ← hc]; rfl
theorem val_slice {P : Program} {W : World} {base : Nat} {T e : TypeId} {E : Enc P SV} {x : SV} {v : Value} (hu : P.underlying T = some (.slice e)) (h : Value.okWide P W .any base T v) (hv : E.val x = x.val) (hcs : E.cells x = [x.val]) (hc : v.cells.toList = E.cells x) : E.val x = v := by
  unfold Value.okWide at h
  simp only [hu] at h
  unfold Cell.okWide at h
  simp only [hu] at h
  unfold Cell.ok at h
  simp only [hu] at h
  rw [hcs] at hc
  cases v with
  | slice b n c => simp [Value.cells] at hc; rw [hv]; obtain ⟨rfl, rfl, rfl⟩ := hc; rfl
  | _ => exact h.elim
theorem val_int {P : Program} {W : World} {base : Nat} {T : TypeId} {E : Enc P Int} {x : Int} {v : Value} (hu : P.underlying T = some (.int .i64)) (h : Value.okWide P W .any base T v) (hv : E.val x = .int .i64 x) (hcs : E.cells x = [.int .i64 x]) (hc : v.cells.toList = E.cells x) : E.val x = v := by
  unfold Value.okWide at h
  simp only [hu] at h
  unfold Cell.okWide at h
  simp only [hu] at h
  unfold Cell.ok at h
  simp only [hu] at h
  rw [hcs] at hc
  cases v with
  | int k n => simp [Value.cells] at hc; rw [hv, hc.1, hc.2]
  | _ => exact h.elim
end Go.Cab
