/- bytes.Compare, by the kit's own walk; ident.Cmp, its world told just. -/
import Derived.Test.YtkjcjlcimgcfcaaGood
import Derived.Laws.Externs
import Derived.Lib.BytesEntry
import Derived.Deep.Draws
import Derived.Sort.Grow
import Derived.Tactics
namespace Go.Proofs
set_option linter.unusedSimpArgs false
set_option linter.unusedVariables false
set_option linter.unusedSectionVars false
open Go
set_option maxHeartbeats 1000000 in
set_option maxRecDepth 100000 in
theorem Try.bytesCompare (a b : Value) (n : Int) (w : World) (hc : (Extern.BytealgCompare.compare #[a, b]).run Try.prog w = .ok (.int .i64 n) w) :
    Calls Try.prog 62 #[a, b] w fun e w' => e = .returned (.int .i64 n) ∧ w' = w := by
  go_enter Try.func62, Try.ntmps62
  go_wp2
  rw [run_callFunc_extern Try.func92 (by kernel_rfl) (by kernel_rfl) (by kernel_rfl) (e := Extern.BytealgCompare.compare) (by kernel_rfl)]
  rw [hc]
  simp only [Result.andThen]
  rw [Oper.upon_value]
  go_wp2
  go_ret
  exact ⟨rfl, rfl⟩
end Go.Proofs
namespace Go.Cab
set_option linter.unusedSimpArgs false
set_option linter.unusedVariables false
set_option linter.unusedSectionVars false
open Go Go.Proofs Go.Sort
def ID.bytes (a : ID) : List UInt8 := [a.b0, a.b1, a.b2, a.b3, a.b4, a.b5, a.b6, a.b7]
def ID.cmp (a b : ID) : Int := Lib.compareBytes a.bytes b.bytes
theorem ints_bytes (a : ID) : Lib.bytesOf (a.bytes.map fun x => (x.toNat : Int)) = a.bytes := by
  simp [Lib.bytesOf, Function.comp_def]
theorem ints_cells (a : ID) : a.cells = (a.bytes.map fun x => (x.toNat : Int)).map fun n => Value.int .u8 n := rfl
theorem run_compare {a b : ID} {p q : Addr} {m n : Nat} {w : World} (ha : ∀ j u, a.cells[j]? = some u → w.cell? (p.add j) = some u) (hb : ∀ j u, b.cells[j]? = some u → w.cell? (q.add j) = some u) :
    (Extern.BytealgCompare.compare #[.slice (some p) 8 m, .slice (some q) 8 n]).run Try.prog w = .ok (.int .i64 (ID.cmp a b)) w := by
  have h1 := Lib.run_loadBytesX (P := Try.prog) w (a.bytes.map fun x => (x.toNat : Int)) p .empty (fun j x hx => ha j _ (by rw [ints_cells, List.getElem?_map, hx]; rfl))
  have h2 := Lib.run_loadBytesX (P := Try.prog) w (b.bytes.map fun x => (x.toNat : Int)) q .empty (fun j x hx => hb j _ (by rw [ints_cells, List.getElem?_map, hx]; rfl))
  rw [ints_bytes] at h1 h2
  have e1 : (a.bytes.map fun x => (x.toNat : Int)).length = 8 := rfl
  have e2 : (b.bytes.map fun x => (x.toNat : Int)).length = 8 := rfl
  rw [e1] at h1
  rw [e2] at h2
  have hdef : Extern.BytealgCompare.compare #[.slice (some p) 8 m, .slice (some q) 8 n] = (do pure (goInt (Extern.BytealgCompare.cmp (← Extern.Bytes.bytesOf (.slice (some p) 8 m)) (← Extern.Bytes.bytesOf (.slice (some q) 8 n))))) := rfl
  rw [hdef]
  simp only [Extern.Bytes.bytesOf, Sem.run_bind, h1, h2, Result.andThen_ok, Sem.run_pure, Lib.cmp_eq]
  simp [goInt, ID.cmp]
theorem cmp_self (a : ID) : ID.cmp a a = 0 := by simp [ID.cmp, ID.bytes, Lib.compareBytes]
theorem run_box (T : TypeId) (v : Value) (w : World) : (Instr.box T v).run Try.prog w = .ok (.pointer (some ⟨w.heap.size, 0, none⟩)) (w.alloc (.cells v.cells T)) := by
  simp [Instr.box, newVar, Sem.run_bind, run_newRow, Sem.run_pure]
theorem identCmp (a b : ID) (w : World) : Calls Try.prog 38 #[a.val, b.val] w fun e w' => e = .returned (.int .i64 (ID.cmp a b)) ∧ ∃ q os', w' = grow (w.drewN q) os' := by
  have key : callH Try.prog 38 #[a.val, b.val] (fun v w' => v = .int .i64 (ID.cmp a b) ∧ ∃ q os', w' = grow (w.drewN q) os') w := by
    apply S.ident_Cmp_ok
    unfold S.ident_Cmp
    have h1 : (Instr.box 28 a.val).run Try.prog w = .ok (.pointer (some ⟨w.heap.size, 0, none⟩)) (w.alloc (.cells a.cells.toArray 28)) := by
      exact run_box 28 a.val w
    refine ⟨_, _, h1, _, rfl, ?_⟩
    have h2 : (Instr.box 28 b.val).run Try.prog (w.alloc (.cells a.cells.toArray 28)) = .ok (.pointer (some ⟨w.heap.size + 1, 0, none⟩)) ((w.alloc (.cells a.cells.toArray 28)).alloc (.cells b.cells.toArray 28)) := by
      have hb := run_box 28 b.val (w.alloc (.cells a.cells.toArray 28))
      rw [show (w.alloc (.cells a.cells.toArray 28)).heap.size = w.heap.size + 1 from Array.size_push ..] at hb
      exact hb
    refine ⟨_, _, h2, _, rfl, ?_⟩
    generalize hw2 : (w.alloc (.cells a.cells.toArray 28)).alloc (.cells b.cells.toArray 28) = w2
    have hg2 : w2 = grow w #[.cells a.cells.toArray 28, .cells b.cells.toArray 28] := by
      rw [← hw2, alloc_eq_grow, alloc_eq_grow, grow_grow]; rfl
    have ha : ∀ j u, a.cells[j]? = some u → w2.cell? ((⟨w.heap.size, 0, none⟩ : Addr).add j) = some u := by
      intro j u hu
      rw [add_mk, hg2]
      have : j < a.cells.length := (List.getElem?_eq_some_iff.1 hu).1
      simp [World.cell?, grow, hu]
    have hb : ∀ j u, b.cells[j]? = some u → w2.cell? ((⟨w.heap.size + 1, 0, none⟩ : Addr).add j) = some u := by
      intro j u hu
      rw [add_mk, hg2]
      simp [World.cell?, grow, hu]
    refine ⟨_, _, (Enc.loads (P := Try.prog) (α := ID) a _ w2 ha), ?_⟩
    refine ⟨_, _, (Enc.loads (P := Try.prog) (α := ID) b _ w2 hb), ?_⟩
    refine ⟨_, fun w => run_eq_ID a b _ _ w, _, rfl, ?_⟩
    by_cases hab : a = b
    · rw [decide_eq_true hab]
      refine ⟨?_, 0, _, hg2⟩
      subst hab
      rw [cmp_self]
    · rw [decide_eq_false hab]
      have hsl : ∀ (p : Addr) (w : World), (Instr.sliceAt 28 (.pointer (some p)) none none none).run Try.prog w = .ok (.slice (some p) 8 8) w := by
        intro p w; kernel_rfl
      refine ⟨_, hsl _, _, hsl _, ?_⟩
      have hw3 : ({ w2 with drawn := w2.drawn + 1 } : World) = grow (w.drewN 1) #[.cells a.cells.toArray 28, .cells b.cells.toArray 28] := by rw [hg2]; rfl
      refine (Try.bytesCompare _ _ (ID.cmp a b) { w2 with drawn := w2.drawn + 1 } (run_compare (m := 8) (n := 8) (a := a) (b := b) (fun j u hu => ha j u hu) (fun j u hu => hb j u hu))).mono ?_
      rintro e w' ⟨rfl, rfl⟩
      exact ⟨_, rfl, _, rfl, rfl, 1, _, hw3⟩
  exact key.mono fun e w' ⟨v, h1, h2, h3⟩ => ⟨by rw [h1, h2], h3⟩
end Go.Cab
