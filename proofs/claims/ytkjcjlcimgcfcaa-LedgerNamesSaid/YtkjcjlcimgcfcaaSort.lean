/- The ids' sort. -/
import Derived.Test.YtkjcjlcimgcfcaaCmp
import Derived.WideKeyPair
namespace Go.Cab
set_option linter.unusedSimpArgs false
set_option linter.unusedVariables false
set_option linter.unusedSectionVars false
open Go Go.Proofs Go.WideMaps
theorem arrID : ArrKey Try.prog 28 5 8 := ⟨Try.underlying28, by kernel_rfl, by kernel_rfl, by kernel_rfl⟩
theorem wf8 (x : UInt8) : (Lit.int .u8 (x.toNat : Int)).wf = true := by
  have := x.toNat_lt
  simp [Lit.wf, IntKind.min, IntKind.max, IntKind.signed, IntKind.bits]
  omega
theorem keyOf_ID (a : ID) : keyOf Try.prog 28 a.val = some (.string (keyBytes (a.bytes.map fun x => Lit.int .u8 (x.toNat : Int)))) := by
  have hkt := arrID.keyType ⟨Try.prog.types.size - 1, by kernel_rfl⟩
  obtain ⟨m, hm⟩ : ∃ m, Try.prog.types.size = m + 1 := ⟨Try.prog.types.size - 1, by kernel_rfl⟩
  unfold keyOf
  simp only [arrID.hu]
  rw [if_pos (by simp [hkt, Value.formed, arrID.hu, arrID.size]), hm]
  unfold Program.keyLits
  simp only [arrID.hu, Value.cells]
  rw [if_pos (by rw [arrID.size]; rfl), show List.range 8 = [0, 1, 2, 3, 4, 5, 6, 7] from rfl]
  simp only [List.mapM_cons, List.mapM_nil]
  simp [arrID.one, Program.keyLits, Try.underlying5, wf8, ID.bytes]
theorem ID.val_inj (x y : ID) (h : x.val = y.val) : x = y := by
  cases x; cases y
  simp [ID.val] at h
  have e : ∀ {a b : UInt8}, (a.toNat : Int) = (b.toNat : Int) → a = b := fun h => UInt8.toNat_inj.1 (by omega)
  obtain ⟨h0, h1, h2, h3, h4, h5, h6, h7⟩ := h
  simp only [ID.mk.injEq]
  exact ⟨e h0, e h1, e h2, e h3, e h4, e h5, e h6, e h7⟩
instance keyID : KeyT Try.prog 28 ID.val := ⟨arrID.law, fun x => ⟨_, keyOf_ID x⟩, ID.val_inj⟩
/-! counts by ids -/
abbrev Times := List (ID × Int)
def tv (l : Times) : AL ID := l.map fun p => (p.1, Value.int .i64 p.2)
def tget (l : Times) (x : ID) : Int := ((l.find? fun p => decide (p.1 = x)).map (·.2)).getD 0
def tset : Times → ID → Int → Times
  | [], x, v => [(x, v)]
  | p :: r, x, v => if p.1 = x then (x, v) :: r else p :: tset r x v
theorem tv_get (l : Times) (x : ID) : ((tv l).get x).getD (.int .i64 0) = .int .i64 (tget l x) := by
  induction l with
  | nil => rfl
  | cons p r ih =>
    unfold tv AL.get tget at *
    simp only [List.map_cons, List.find?_cons]
    by_cases h : p.1 = x
    · simp [h]
    · simpa [h] using ih
theorem tv_set (l : Times) (x : ID) (n : Int) : (tv l).set x (.int .i64 n) = tv (tset l x n) := by
  induction l with
  | nil => rfl
  | cons p r ih =>
    unfold tv at *
    simp only [List.map_cons, AL.set, tset]
    by_cases h : p.1 = x
    · simp [h]
    · simp [h, ih]
theorem tset_tset (l : Times) (x : ID) (m n : Int) : tset (tset l x m) x n = tset l x n := by
  induction l with
  | nil => simp [tset]
  | cons p r ih =>
    by_cases h : p.1 = x
    · simp [tset, h]
    · simp [tset, h, ih]
theorem tget_tset (l : Times) (x y : ID) (n : Int) : tget (tset l x n) y = if x = y then n else tget l y := by
  induction l with
  | nil => by_cases h : x = y <;> simp [tset, tget, h]
  | cons p r ih =>
    by_cases h : p.1 = x
    · subst h
      by_cases h2 : p.1 = y <;> simp [tset, tget, h2]
    · by_cases h2 : p.1 = y
      · subst h2
        have h3 : ¬ x = p.1 := fun e => h e.symm
        simp [tset, tget, h, h3]
      · unfold tget at ih ⊢
        simp only [tset, h, if_false, List.find?_cons, h2, decide_false, Bool.false_eq_true]
        exact ih
end Go.Cab
