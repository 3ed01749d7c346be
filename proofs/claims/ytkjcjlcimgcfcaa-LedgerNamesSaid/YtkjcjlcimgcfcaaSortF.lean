/- slices.SortFunc at the ids. -/
import Derived.Test.YtkjcjlcimgcfcaaSort
import Derived.Test.YtkjcjlcimgcfcaaShelf
namespace Go.Cab
set_option linter.unusedSimpArgs false
set_option linter.unusedVariables false
set_option linter.unusedSectionVars false
open Go Go.Proofs Go.Sort Go.Shelf
def sortID (l : List ID) : List ID := l.mergeSort fun x y => !(ltOf ID.cmp y x)
instance : Inhabited ID := ⟨⟨0, 0, 0, 0, 0, 0, 0, 0⟩⟩
theorem cmp_zero {a b : List UInt8} (hl : a.length = b.length) (h : Lib.compareBytes a b = 0) : a = b := by
  induction a generalizing b with
  | nil => cases b with
    | nil => rfl
    | cons => simp at hl
  | cons x r ih => cases b with
    | nil => simp at hl
    | cons y s =>
      unfold Lib.compareBytes at h
      by_cases h1 : x < y
      · simp [h1] at h
      · by_cases h2 : y < x
        · simp [h1, h2] at h
        · simp only [h1, h2, if_false] at h
          have : x = y := UInt8.le_antisymm (UInt8.not_lt.1 h2) (UInt8.not_lt.1 h1)
          rw [this, ih (by simpa using hl) h]
def numL : List UInt8 → Nat
  | [] => 0
  | x :: r => x.toNat * 256 ^ r.length + numL r
theorem numL_lt : ∀ l : List UInt8, numL l < 256 ^ l.length
  | [] => by simp [numL]
  | x :: r => by
    have := numL_lt r
    have hx := x.toNat_lt
    have h2 : (x.toNat + 1) * 256 ^ r.length ≤ 256 * 256 ^ r.length := Nat.mul_le_mul_right _ (by omega)
    rw [Nat.add_mul] at h2
    simp only [numL, List.length_cons, Nat.pow_succ]
    omega
theorem cmp_num : ∀ (a b : List UInt8), a.length = b.length → (Lib.compareBytes a b < 0 ↔ numL a < numL b)
  | [], [], _ => by simp [Lib.compareBytes, numL]
  | [], _ :: _, h => by simp at h
  | _ :: _, [], h => by simp at h
  | x :: r, y :: s, h => by
    have hl : r.length = s.length := by simpa using h
    have ih := cmp_num r s hl
    have h1 := numL_lt r
    have h2 := numL_lt s
    unfold Lib.compareBytes
    simp only [numL]
    rw [hl] at h1 ⊢
    have hp : 0 < 256 ^ s.length := Nat.pow_pos (by decide)
    by_cases hxy : x < y
    · have : x.toNat + 1 ≤ y.toNat := UInt8.lt_iff_toNat_lt.1 hxy
      have h3 : (x.toNat + 1) * 256 ^ s.length ≤ y.toNat * 256 ^ s.length := Nat.mul_le_mul_right _ this
      rw [Nat.add_mul] at h3
      simp only [hxy, if_true]
      constructor
      · intro _; omega
      · intro _; decide
    · by_cases hyx : y < x
      · have : y.toNat + 1 ≤ x.toNat := UInt8.lt_iff_toNat_lt.1 hyx
        have h3 : (y.toNat + 1) * 256 ^ s.length ≤ x.toNat * 256 ^ s.length := Nat.mul_le_mul_right _ this
        rw [Nat.add_mul] at h3
        simp only [hxy, hyx, if_true, if_false]
        constructor
        · intro h; exact absurd h (by decide)
        · intro h; omega
      · have : x = y := UInt8.le_antisymm (UInt8.not_lt.1 hyx) (UInt8.not_lt.1 hxy)
        subst this
        simp only [hxy, if_false]
        rw [ih]
        omega
theorem lt_num (a b : ID) : ltOf ID.cmp a b = decide (numL a.bytes < numL b.bytes) := by
  unfold ltOf
  rw [Bool.eq_iff_iff, decide_eq_true_iff, decide_eq_true_iff]
  exact cmp_num _ _ rfl
theorem numL_inj : ∀ {a b : List UInt8}, a.length = b.length → numL a = numL b → a = b := by
  intro a b hl h
  apply cmp_zero hl
  have h1 := cmp_num a b hl
  have h2 := cmp_num b a hl.symm
  have h3 : ∀ (a b : List UInt8), a.length = b.length → ¬ Lib.compareBytes a b < 0 → ¬ Lib.compareBytes b a < 0 → Lib.compareBytes a b = 0 := by
    intro a
    induction a with
    | nil => intro b hl _ _; cases b with
      | nil => rfl
      | cons => simp at hl
    | cons x r ih => intro b hl h1 h2; cases b with
      | nil => simp at hl
      | cons y s =>
        unfold Lib.compareBytes at h1 h2 ⊢
        by_cases hxy : x < y
        · simp [hxy] at h1
        · by_cases hyx : y < x
          · simp [hyx] at h2
          · simp only [hxy, hyx, if_false] at h1 h2 ⊢
            exact ih s (by simpa using hl) h1 h2
  exact h3 a b hl (by omega) (by omega)
theorem ID.bytes_inj {a b : ID} (h : a.bytes = b.bytes) : a = b := by
  cases a; cases b
  simp [ID.bytes] at h
  simp [h]
theorem swoID : SWO (ltOf ID.cmp) where
  irrefl x := by rw [lt_num]; simp
  trans x y z h1 h2 := by rw [lt_num] at *; simp at *; omega
  ntrans x y z h1 h2 := by rw [lt_num] at *; simp at *; omega
theorem totID : ∀ x y, ltOf ID.cmp x y = false → ltOf ID.cmp y x = false → x = y := by
  intro x y h1 h2
  rw [lt_num] at h1 h2
  simp at h1 h2
  exact ID.bytes_inj (numL_inj rfl (by omega))
theorem flatK_list (d : Array ID) : (flatK ID.cells 8 d).toList = d.toList.flatMap (Enc.cells Try.prog) := by
  apply List.ext_getElem?
  intro k
  have hfl : (d.toList.flatMap (Enc.cells Try.prog)).length = d.size * 8 := by rw [flat_len]; simp; rfl
  rcases Nat.lt_or_ge k (d.size * 8) with hk | hk
  · have hi : k / 8 < d.size := by omega
    have hx : d.toList[k / 8]? = some d[k / 8] := by simp [hi]
    have hc : (Enc.cells Try.prog d[k / 8])[k % 8]? = some ((Enc.cells Try.prog d[k / 8])[k % 8]'(by show _ < 8; omega)) := List.getElem?_eq_getElem _
    have := flat_at (P := Try.prog) _ _ _ _ _ hx hc
    have hjj : k / 8 * Enc.size Try.prog ID + k % 8 = k := by show k / 8 * 8 + k % 8 = k; omega
    rw [hjj] at this
    rw [this]
    have hkk : k < (flatK ID.cells 8 d).size := by rw [size_flatK]; exact hk
    rw [Array.getElem?_toList, Array.getElem?_eq_getElem hkk, ← getElem!_pos (flatK ID.cells 8 d) k hkk, get_flatK _ _ _ _ hk]
    rw [getElem!_pos d (k / 8) hi, getElem!_pos]
    rfl
  · rw [List.getElem?_eq_none (by simp; omega), List.getElem?_eq_none (by omega)]
theorem sort_spec [Milieu] {Γ Δ : List Asn} {v : Value} {l : List ID} {K : Value → WP} (hh : Has (SlA Try.prog) v Γ l Δ) (hlen : l.length < 4611686018427387904) (h : Ent (ab (SlA Try.prog) v (sortID l) :: Δ) (K (.tuple #[]))) : Ent Γ (callH Try.prog 37 #[v, .func (.func 38) #[] #[]] K) := fun w hs0 => by
  have hs := hs0.1
  have hs1 := hs.mono hh.out
  obtain ⟨hown, hnew⟩ := own_of hs1
  rcases hown.2 with ⟨hv, h0⟩ | ⟨g, cap, cur, hv, _, hg, h1, h2, h3, h4⟩
  · have : l = [] := List.eq_nil_of_length_eq_zero h0
    subst this
    subst hv
    have hc := AnyF.slices_SortFunc_none Try.sortID none 0 (.func (.func 38) #[] #[]) w
    refine hc.mono ?_
    rintro e w' ⟨rfl, rfl⟩
    exact ⟨_, rfl, h w' ⟨by simpa [sortID] using hs1, hs0.2⟩⟩
  · subst hv
    have hblk : g < w.heap.size := (Array.getElem?_eq_some_iff.1 hg).1
    have hcurl : ∀ j, j < l.length * 8 → cur[j]? = (l.flatMap (Enc.cells Try.prog))[j]? := by
      intro j hj
      rw [← h4, List.getElem?_take_of_lt (show j < l.length * Enc.size Try.prog ID from hj)]
      simp
    have hH : HoldsK ID.cells 8 w g 0 l.toArray := by
      intro j hj
      have hj8 : j < l.length * 8 := by simpa using hj
      have hcur := hcurl j hj8
      refine ⟨?_, by simp [World.frozen?, hg]⟩
      have hkk : j < (flatK ID.cells 8 l.toArray).size := hj
      have : (flatK ID.cells 8 l.toArray).toList[j]? = some (flatK ID.cells 8 l.toArray)[j]! := by
        rw [Array.getElem?_toList, Array.getElem?_eq_getElem hkk, getElem!_pos (flatK ID.cells 8 l.toArray) j hkk]
      rw [flatK_list] at this
      rw [show l.toArray.toList = l from rfl] at this
      simp only [World.cell?, hg, Nat.zero_add, hcur, id]
      exact this
    have hcmp : CmpLays Try.prog 38 #[] ID.cells 8 ID.cmp g 0 l.toArray.size w := fun m os dk hdk x y => identCmp x y _
    have hc := AnyQ.slices_SortFunc_total Try.sortID 8 Try.isAgg28 Try.sizeOf28 ID.cells (fun _ => rfl) (fun x v hv => Enc.one (P := Try.prog) x v hv) ID.cmp swoID 38 #[] g 0 cap l.toArray w Try.call38 hcmp hH hblk (by simpa using hlen) totID
    refine Calls.mono hc ?_
    rintro e w' ⟨rfl, n, os, rfl⟩
    have hd : (l.toArray.toList.mergeSort fun x y => !ltOf ID.cmp y x) = sortID l := rfl
    rw [hd]
    have hheap : ∀ k, k < w.heap.size → (sortWorldK ID.cells 8 w g 0 n (sortID l).toArray os).heap[k]? = if g = k then some (.cells (putCells id 0 (flatK ID.cells 8 (sortID l).toArray) cur) 28 (0, 0)) else w.heap[k]? := by
      intro k hk
      have hsz : k < (w.heap.modify g (onCells (putCells id 0 (flatK ID.cells 8 (sortID l).toArray)))).size := by simpa using hk
      show ((w.heap.modify g (onCells (putCells id 0 (flatK ID.cells 8 (sortID l).toArray)))) ++ os)[k]? = _
      rw [Array.getElem?_append_left hsz, Array.getElem?_modify]
      by_cases hgk : g = k
      · subst hgk
        simp only [if_true, hg, Option.map_some, onCells]
        rfl
      · simp only [hgk, if_false]
    have hlen2 : (sortID l).length = l.length := List.length_mergeSort _
    refine ⟨_, rfl, h _ ⟨hnew _ (.slice (some ⟨g, 0, none⟩) l.length cap) (sortID l) ?_ (.inl rfl) ?_, hs0.2⟩⟩
    · refine ⟨rfl, rfl, rfl, ?_, fun k hk hne => ?_⟩
      · show w.heap.size ≤ ((w.heap.modify g (onCells (putCells id 0 (flatK ID.cells 8 (sortID l).toArray)))) ++ os).size
        simp
      · rw [hheap k hk, if_neg]
        intro e
        subst e
        exact hne rfl
    · refine ⟨flat_len _, .inr ⟨g, cap, _, by rw [hlen2], Nat.zero_le _, by rw [hheap g hblk, if_pos rfl]; rfl, by rw [hlen2]; exact h1, h2, ?_, ?_⟩⟩
      · simp only [putCells, Array.size_mapIdx]; exact h3
      · have hfl := flatK_list (sortID l).toArray
        rw [show (sortID l).toArray.toList = sortID l from rfl] at hfl
        rw [← hfl]
        have hcs : cur.size = cap * 8 := h3
        apply List.ext_getElem?
        intro k
        have hfs : (flatK ID.cells 8 (sortID l).toArray).size = l.length * 8 := by rw [size_flatK]; simp [hlen2]
        rcases Nat.lt_or_ge k (l.length * 8) with hk | hk
        · have hkc : k < cur.size := by omega
          rw [List.getElem?_take_of_lt (by show k < (sortID l).length * 8; omega), Array.getElem?_toList, Array.getElem?_toList]
          simp only [putCells, Array.getElem?_mapIdx, Array.getElem?_eq_getElem hkc, Option.map_some]
          rw [if_pos (by omega), Array.getElem?_eq_getElem (by omega : k < (flatK ID.cells 8 (sortID l).toArray).size)]
          simp only [id, Nat.sub_zero]
          rw [getElem!_pos]
        · rw [List.getElem?_eq_none (by rw [List.length_take]; show min ((sortID l).length * 8) _ ≤ k; omega), List.getElem?_eq_none (by rw [Array.length_toList, hfs]; exact hk)]
end Go.Cab
