/- The top step: old memory stays, the answer is true. -/
import Derived.Test.YtkjcjlcimgcfcaaNoneW
import Derived.ProofKit
import Derived.OpenShut
import Derived.RowKit3
import Derived.Carry
import Derived.ChangeFn
namespace Go.Cab
set_option linter.unusedSimpArgs false
set_option linter.unusedVariables false
set_option linter.unusedSectionVars false
open Go Go.Proofs Go.ChangeShapes Go.WideShapes
/-- all memory of a world, as it was -/
def Old (_ : Unit) (W : World) : Asn := fun h => ∀ (i : Nat) (o : Obj), W.heap[i]? = some o → h i = some o
theorem law_top {f : FuncId} {args : Array Value} {W : World} (hE : ∀ [Milieu] {Γ : List Asn} {K : Value → WP}, Ent (ab Old () W :: Γ) (K (.bool true)) → Ent (ab Old () W :: Γ) (callH Try.prog f args K)) :
    Calls Try.prog f args W fun e W' => e = .returned (.bool true) ∧ (∀ (i : Nat) (o : Obj), W.heap[i]? = some o → W'.heap[i]? = some o) ∧ W'.os = W.os ∧ W'.output = W.output := by
  letI : Milieu := ⟨W.os, W.output⟩
  have h0 : Sat [ab Old () W] W := ⟨⟨PH.of W, PH.le_refl _, PH.of W, fun _ => none, fun _ => .inr rfl, by funext i; simp [PH.join], fun i o h => h, trivial⟩, rfl, rfl⟩
  have h1 : Ent [ab Old () W] (fun w' => (∀ (i : Nat) (o : Obj), W.heap[i]? = some o → w'.heap[i]? = some o) ∧ w'.os = W.os ∧ w'.output = W.output) := by
    intro w hs
    obtain ⟨⟨p, hl, a, b, hd, rfl, ha, _⟩, h2, h3⟩ := hs
    exact ⟨fun i o hi => hl i o (PH.le_left a b i o (ha i o hi)), h2, h3⟩
  have h2 := hE (Γ := []) (K := fun v w' => v = .bool true ∧ (∀ (i : Nat) (o : Obj), W.heap[i]? = some o → w'.heap[i]? = some o) ∧ w'.os = W.os ∧ w'.output = W.output) (fun w hs => ⟨rfl, h1 w hs⟩) W h0
  exact Calls.mono h2 fun e w' ⟨v, hv, hb, hr⟩ => ⟨by rw [hv, hb], hr⟩
theorem kept_of {W W' : World} {may : MemPlace → Prop} (h : ∀ (i : Nat) (o : Obj), W.heap[i]? = some o → W'.heap[i]? = some o) (ho : W'.os = W.os) (hu : W'.output = W.output) : W.keptBut W' may := by
  refine ⟨ho, hu, fun i hi => ?_⟩
  have hi' : W.heap[i]? = some W.heap[i] := Array.getElem?_eq_getElem hi
  rw [hi', h i _ hi']
  cases W.heap[i] with
  | cells c t fr => exact ⟨rfl, rfl, rfl, fun _ _ => rfl⟩
  | map es clock => exact .inr ⟨rfl, rfl⟩
  | _ => rfl
theorem cellInt {P : Program} {T : TypeId} {W : World} {base : Nat} {v : Value} (hu : P.underlying T = some (.int .i64)) (h : Cell.okWide P W .any base T v) : ∃ n, v = .int .i64 n := by
  unfold Cell.okWide at h
  simp only [hu] at h
  unfold Cell.ok at h
  simp only [hu] at h
  cases v with
  | int k n => exact ⟨n, by rw [h.1]⟩
  | _ => exact h.elim
theorem cellSl {P : Program} {W : World} {base : Nat} {T e : TypeId} {v : Value} (hu : P.underlying T = some (.slice e)) (h : Cell.okWide P W .any base T v) : ∃ s : SV, v = s.val := by
  unfold Cell.okWide at h
  simp only [hu] at h
  unfold Cell.ok at h
  simp only [hu] at h
  cases v with
  | slice b n c => exact ⟨⟨b, n, c⟩, rfl⟩
  | _ => exact h.elim
theorem aggOf {P : Program} {W : World} {base : Nat} {T : TypeId} {fs : Array Field} {v : Value} (hu : P.underlying T = some (.struct fs)) (h : Value.okWide P W .any base T v) : ∃ cs, v = .agg cs ∧ cs.size = P.cellsOf T ∧ Row.okWide P W .any base T cs := by
  unfold Value.okWide at h
  simp only [hu] at h
  exact h
set_option maxRecDepth 100000 in
theorem rec_of {W : World} {base : Nat} {v : Value} (h : Value.okWide Try.prog W .any base 46 v) : ∃ x : Record, v = x.val := by
  obtain ⟨cs, rfl, hsz, ts, hts, _, hcell⟩ := aggOf (P := Try.prog) (W := W) (base := base) (T := 46) (v := v) Try.underlying46 h
  have h9 : Try.prog.cellsOf 46 = 9 := by kernel_rfl
  have ht : Try.prog.cellTypes Try.prog.depth 46 = some [3, 36, 37, 3, 3, 38, 41, 42, 42] := by kernel_rfl
  rw [ht] at hts
  obtain rfl := (Option.some.inj hts).symm
  rw [h9] at hsz
  obtain ⟨l⟩ := cs
  match l, hsz with
  | [c0, c1, c2, c3, c4, c5, c6, c7, c8], _ =>
    have g : ∀ (i : Nat) (v : Value) (u : TypeId), ([c0, c1, c2, c3, c4, c5, c6, c7, c8] : List Value)[i]? = some v → ([3, 36, 37, 3, 3, 38, 41, 42, 42] : List Nat)[i % 9]? = some u → Cell.okWide Try.prog W .any base u v := by
      intro i v u hv hu
      obtain ⟨u', hu', hc⟩ := hcell i v (by simpa using hv)
      have : u' = u := Option.some.inj (hu'.symm.trans hu)
      subst this; exact hc
    obtain ⟨n0, rfl⟩ := cellInt Try.underlying3 (g 0 c0 3 rfl rfl)
    obtain ⟨s1, rfl⟩ := cellSl Try.underlying36 (g 1 c1 36 rfl rfl)
    obtain ⟨s2, rfl⟩ := cellSl Try.underlying37 (g 2 c2 37 rfl rfl)
    obtain ⟨n3, rfl⟩ := cellInt Try.underlying3 (g 3 c3 3 rfl rfl)
    obtain ⟨n4, rfl⟩ := cellInt Try.underlying3 (g 4 c4 3 rfl rfl)
    obtain ⟨s5, rfl⟩ := cellSl Try.underlying38 (g 5 c5 38 rfl rfl)
    obtain ⟨s6, rfl⟩ := cellSl Try.underlying41 (g 6 c6 41 rfl rfl)
    obtain ⟨s7, rfl⟩ := cellSl Try.underlying42 (g 7 c7 42 rfl rfl)
    obtain ⟨s8, rfl⟩ := cellSl Try.underlying42 (g 8 c8 42 rfl rfl)
    exact ⟨⟨n0, s1, s2, ⟨n3, n4, s5⟩, ⟨s6, s7, s8⟩⟩, rfl⟩
/-- what was read reads as it did, where old memory stays -/
theorem trod_later {H : Type} {enc : TypeId × Value → H} {t : TypeId} (hr : Try.prog.readableRec t = true) (hrow : t < Try.prog.types.size) {W W' : World} {v : Value} {d : DataW H} {ps : List MemPlace}
    (h : DataW.Trod enc Try.prog W 0 (fun _ => true) true t v d ps) (hk : ∀ (i : Nat) (o : Obj), W.heap[i]? = some o → W'.heap[i]? = some o) (hlt : ∀ x ∈ ps, x.block < W.heap.size) :
    DataW.Trod enc Try.prog W' 0 (fun b => decide (b < W.heap.size)) true t v d ps := by
  have hl : laidOutB Try.prog = true := by kernel_rfl
  have hsz : W.heap.size ≤ W'.heap.size := by
    rcases Nat.eq_zero_or_pos W.heap.size with h0 | h0
    · omega
    · have hi : W.heap[W.heap.size - 1]? = some W.heap[W.heap.size - 1] := Array.getElem?_eq_getElem (by omega)
      have := (Array.getElem?_eq_some_iff.1 (hk _ _ hi)).1
      omega
  have hb : RowKit.Below W.heap.size W { W' with os := W.os, tape := W.tape, output := W.output } := ⟨rfl, rfl, rfl, hsz, fun k hlt => by
    have hi : W.heap[k]? = some W.heap[k] := Array.getElem?_eq_getElem hlt
    show W'.heap[k]? = W.heap[k]?
    rw [hi]; exact hk k _ hi⟩
  exact DataW.Trod.of_heap (w := { W' with os := W.os, tape := W.tape, output := W.output }) (w' := W') rfl (RowKit.Below.trod hl hr hrow h hb hlt)
end Go.Cab
