/- Typed cells, slices that are read, slices that are owned: the rules of the shallow programs' words at them. -/
import Derived.Test.YtkjcjlcimgcfcaaSL
import Derived.Maps.AppendAt
import Derived.Laws.OwnMore
import Derived.Laws.Tables
import Derived.Great.BuildSlice
import Derived.Laws.BitsLemmas
namespace Go.Cab
set_option linter.unusedSimpArgs false
set_option linter.unusedVariables false
set_option linter.unusedSectionVars false
open Go

def nth {α : Type} : List α → Nat → Option α
  | [], _ => none
  | x :: _, 0 => some x
  | _ :: r, n + 1 => nth r n
theorem nth_eq {α : Type} : ∀ (l : List α) (n : Nat), nth l n = l[n]?
  | [], _ => by simp [nth]
  | x :: _, 0 => by simp [nth]
  | _ :: r, n + 1 => by simp [nth, nth_eq r n]

/-- how a Go value of a type is laid in cells -/
class Enc (P : Program) (α : Type) where
  ty : TypeId
  size : Nat
  bytes : Nat
  info : TypeInfo
  z : α
  cells : α → List Value
  val : α → Value
  len : ∀ x, (cells x).length = size
  one : ∀ x, ∀ u ∈ cells x, u.oneCell' = true
  vcells : ∀ x, (val x).cells = (cells x).toArray
  pos : 0 < size
  hi : P.info? ty = some info
  hz : info.zero = some (val z)
  hs : info.size = size
  hb : info.bytes = bytes
  loads : ∀ (x : α) (a : Addr) (w : World), (∀ j u, (cells x)[j]? = some u → w.cell? (a.add j) = some u) → (loadVar ty a).run P w = .ok (val x) w

variable [Milieu]
section
variable {P : Program} {α : Type} [E : Enc P α] {Γ : List Asn}
omit [Milieu] in
theorem Enc.run_zero (w : World) : (zeroValue (Enc.ty P α)).run P w = .ok (Enc.val P (Enc.z P (α := α))) w := by
  simp [zeroValue, typeInfo, E.hi, E.hz, Sem.run_bind]
omit [Milieu] in
theorem Enc.run_size (w : World) : (sizeOf (Enc.ty P α)).run P w = .ok (Enc.size P α) w := by
  simp [sizeOf, typeInfo, E.hi, E.hs, Sem.run_bind]
omit [Milieu] in
instance : ZeroT P (Enc.ty P α) (Enc.val P (Enc.z P (α := α))) := ⟨Enc.run_zero⟩
omit [Milieu] in
instance : SizeT P (Enc.ty P α) (Enc.size P α) := ⟨Enc.run_size⟩

/-- the block of a variable of a type -/
abbrev var (P : Program) {α : Type} [Enc P α] (b : Nat) (x : α) : Asn := ab Blk b (.cells (Enc.cells P x).toArray (Enc.ty P α) (0, 0))
theorem Ent.boxV {x : α} {K : Addr → WP} (h : ∀ b, Ent (var P b x :: Γ) (K ⟨b, 0, none⟩)) : Ent Γ (semT P inA (Instr.box (Enc.ty P α) (Enc.val P x)) K) :=
  Ent.box fun b => by rw [E.vcells]; exact h b
theorem Ent.allocV {K : Addr → WP} (h : ∀ b, Ent (var P b (Enc.z P (α := α)) :: Γ) (K ⟨b, 0, none⟩)) : Ent Γ (semT P inA (Instr.alloc (Enc.ty P α) true (.tuple #[])) K) :=
  Ent.alloc fun b => by rw [E.vcells]; exact h b
theorem wrote_all : ∀ (vs pre old post : List Value), old.length = vs.length → wrote (pre ++ (old ++ post)) pre.length vs = pre ++ (vs ++ post)
  | [], pre, old, post, h => by
    have : old = [] := List.eq_nil_of_length_eq_zero h
    subst this; simp [wrote]
  | v :: r, pre, [], post, h => by simp at h
  | v :: r, pre, o :: old, post, h => by
    have h1 : (pre ++ (o :: old ++ post)).set pre.length v = (pre ++ [v]) ++ (old ++ post) := by
      rw [List.set_append_right _ _ (Nat.le_refl _)]; simp
    have := wrote_all r (pre ++ [v]) old post (by simpa using h)
    simp only [wrote, h1]
    simp only [List.length_append, List.length_cons, List.length_nil, Nat.zero_add] at this
    rw [this]; simp
theorem Ent.storeV {x y : α} {b : Nat} {Δ : List Asn} {c : WP} [hh : Has Blk b Γ (.cells (Enc.cells P y).toArray (Enc.ty P α) (0, 0)) Δ] (h : Ent (var P b x :: Δ) c) : Ent Γ (semU P (storeVar (Enc.ty P α) ⟨b, 0, none⟩ (Enc.val P x)) c) := by
  refine Ent.store (n := Enc.size P α) hh (by rw [E.vcells]; simp [E.len]) (by rw [E.len]; omega) (by rw [E.vcells]; exact E.one x) ?_
  have := wrote_all (Enc.cells P x) [] (Enc.cells P y) [] (by rw [E.len, E.len])
  simp only [List.nil_append, List.append_nil, List.length_nil] at this
  rw [E.vcells]
  show Ent (ab Blk b (.cells (wrote (Enc.cells P y) 0 (Enc.cells P x)).toArray _ (0, 0)) :: Δ) c
  rw [this]; exact h
theorem Ent.newV {x : α} {c : Addr → WP} (h : ∀ b, Ent (var P b x :: Γ) (c ⟨b, 0, none⟩)) : Ent Γ (semT P inA (Instr.alloc (Enc.ty P α) true (.tuple #[])) fun p => semU P (storeVar (Enc.ty P α) p (Enc.val P x)) (c p)) :=
  Ent.allocV fun b => Ent.storeV (y := Enc.z P (α := α)) (h b)
theorem Runs.varV {x : α} {b : Nat} {Δ : List Asn} [hh : Has Blk b Γ (.cells (Enc.cells P x).toArray (Enc.ty P α) (0, 0)) Δ] : Runs P Γ (loadVar (Enc.ty P α) ⟨b, 0, none⟩) (Enc.val P x) := fun w hs =>
  E.loads x _ w fun j u hu => (RdN.blk (hh := hh) (cs := Enc.cells P x) (fun j v hv => by simpa using hv) j u hu).at_ hs
theorem Runs.subV {β : Type} [F : Enc P β] {x : β} {a : Addr} {b o : Nat} {cs : List Value} {T : TypeId} {Δ : List Asn} [hh : Has Blk b Γ (.cells cs.toArray T (0, 0)) Δ] (ha : a = ⟨b, o, none⟩) (hc : (cs.drop o).take (Enc.size P β) = Enc.cells P x) : Runs P Γ (loadVar (Enc.ty P β) a) (Enc.val P x) := fun w hs => by
  subst ha
  refine F.loads x _ w fun j u hu => (RdN.blk (hh := hh) (cs := Enc.cells P x) (fun j v hv => ?_) j u hu).at_ hs
  rw [← hc] at hv
  have hj : j < Enc.size P β := by
    rcases Nat.lt_or_ge j (Enc.size P β) with h | h
    · exact h
    · rw [List.getElem?_eq_none (by simp; omega)] at hv; cases hv
  rw [List.getElem?_take_of_lt hj, List.getElem?_drop] at hv
  simpa using hv
theorem Runs.fld {T U : TypeId} {a : Addr} {b i : Nat} {cs : List Value} {v : Value} {Δ : List Asn} [h1 : OneT P T] [hh : Has Blk b Γ (.cells cs.toArray U (0, 0)) Δ] (ha : a = ⟨b, i, none⟩) (hc : nth cs i = some v) : Runs P Γ (loadVar T a) v := by
  subst ha
  exact Runs.load1 (Rd.blk (hh := hh) (by rw [nth_eq] at hc; simpa using hc))
theorem Runs.fld2 {T U : TypeId} {b i j : Nat} {cs : List Value} {v : Value} {Δ : List Asn} [h1 : OneT P T] [hh : Has Blk b Γ (.cells cs.toArray U (0, 0)) Δ] (hc : nth cs (i + j) = some v) : Runs P Γ (loadVar T (((⟨b, 0, none⟩ : Addr).add i).add j)) v :=
  Runs.fld (by rw [add_mk, add_mk, Nat.zero_add]) hc
theorem Runs.rdV {x : α} {a : Addr} (h : RdN Γ a (Enc.cells P x)) : Runs P Γ (loadVar (Enc.ty P α) a) (Enc.val P x) := fun w hs =>
  E.loads x _ w fun j u hu => (h j u hu).at_ hs
/-- a field of what is read -/
theorem Runs.rdF {T : TypeId} {a p : Addr} {cs : List Value} {i : Nat} {v : Value} [h1 : OneT P T] (h : RdN Γ p cs) (ha : a = p.add i) (hc : nth cs i = some v) : Runs P Γ (loadVar T a) v := by
  subst ha
  exact Runs.load1 (h i v (by rw [← nth_eq]; exact hc))

/-! ### slices -/
def slAddr (v : Value) (k : Nat) : Addr := match v with
  | .slice (some a) _ _ => a.add k
  | _ => ⟨0, 0, none⟩
structure SlR (P : Program) {α : Type} [Enc P α] (Γ : List Asn) (v : Value) (l : List α) : Prop where
  shape : ∃ b cap, v = .slice b l.length cap ∧ (b = none → l = []) ∧ l.length ≤ maxLen
  rd : ∀ (i : Nat) (x : α), l[i]? = some x → RdN Γ (slAddr v (i * Enc.size P α)) (Enc.cells P x)
theorem SlR.suf {Γ0 : List Asn} [Suf Γ0 Γ] {v : Value} {l : List α} (h : SlR P Γ0 v l) : SlR P Γ v l := ⟨h.shape, fun i x hx => (h.rd i x hx).suf⟩
theorem SlR.nil : SlR P Γ (.slice none 0 0) ([] : List α) := ⟨⟨none, 0, rfl, fun _ => rfl, Nat.zero_le _⟩, fun i x h => by simp at h⟩
theorem SlR.max {v : Value} {l : List α} (h : SlR P Γ v l) : l.length ≤ maxLen := by obtain ⟨_, _, _, _, h⟩ := h.shape; exact h
theorem Ent.len {v : Value} {l : List α} {T U : TypeId} {K : Int → WP} (hr : SlR P Γ v l) (hu : P.underlying T = some (.slice (Enc.ty P α))) (h : Ent Γ (K l.length)) : Ent Γ (pureT P (inI .i64) (Builtin.len_ #[T] U #[v]) K) := by
  obtain ⟨b, cap, rfl, _⟩ := hr.shape
  exact Ent.pure (fun w => by simp [Builtin.len_, run_underlying hu w, Sem.run_bind, goInt, Sem.run_pure]) h
theorem Ent.index {v : Value} {l : List α} {T : TypeId} {i : Int} {K : Addr → WP} (hr : SlR P Γ v l) (hu : P.underlying T = some (.slice (Enc.ty P α))) (h0 : 0 ≤ i) (h1 : i < l.length) (h : Ent Γ (K (slAddr v (i.toNat * Enc.size P α)))) : Ent Γ (pureT P inA (Instr.indexAt T v (.int .i64 i)) K) := by
  obtain ⟨b, cap, rfl, hb, _⟩ := hr.shape
  cases b with
  | none => have := hb rfl; subst this; simp at h1; omega
  | some a =>
    exact Ent.pure (fun w => by simp [Instr.indexAt, asIntOf, run_underlying hu w, Sem.run_bind, Sem.run_pure, h0, h1, Enc.run_size, slAddr]) h

theorem Ent.indexN {v : Value} {l : List α} {T : TypeId} {i : Nat} {x : α} {K : Addr → WP} (hr : SlR P Γ v l) (hu : P.underlying T = some (.slice (Enc.ty P α))) (hx : l[i]? = some x) (h : RdN Γ (slAddr v (i * Enc.size P α)) (Enc.cells P x) → Ent Γ (K (slAddr v (i * Enc.size P α)))) : Ent Γ (pureT P inA (Instr.indexAt T v (.int .i64 (i : Int))) K) :=
  Ent.index hr hu (by omega) (by have := (List.getElem?_eq_some_iff.1 hx).1; omega) (by rw [Int.toNat_natCast]; exact h (hr.rd i x hx))
/-- a slice of one's own: its block, and what room it has -/
def SlA (P : Program) {α : Type} [Enc P α] (v : Value) (l : List α) : Asn := fun h =>
  (v = .slice none 0 0 ∧ l = []) ∨ ∃ g cap cur, v = .slice (some ⟨g, 0, none⟩) l.length cap ∧ h g = some (.cells cur (Enc.ty P α) (0, 0)) ∧ l.length ≤ cap ∧ cap ≤ maxLen ∧ cur.size = cap * Enc.size P α ∧ cur.toList.take (l.length * Enc.size P α) = l.flatMap (Enc.cells P)
omit [Milieu] in
theorem flat_len (l : List α) : (l.flatMap (Enc.cells P)).length = l.length * Enc.size P α := by
  induction l with
  | nil => simp
  | cons x r ih => simp [ih, E.len, Nat.add_mul, Nat.add_comm]
omit [Milieu] in
theorem flat_at : ∀ (l : List α) (i j : Nat) (x : α) (u : Value), l[i]? = some x → (Enc.cells P x)[j]? = some u → (l.flatMap (Enc.cells P))[i * Enc.size P α + j]? = some u
  | [], i, j, x, u, h, _ => by simp at h
  | y :: r, 0, j, x, u, h, hj => by
    simp at h; subst h
    have hlt : j < (Enc.cells P y).length := (List.getElem?_eq_some_iff.1 hj).1
    simp only [List.flatMap_cons, Nat.zero_mul, Nat.zero_add]
    rw [List.getElem?_append_left hlt]; exact hj
  | y :: r, i + 1, j, x, u, h, hj => by
    simp only [List.getElem?_cons_succ] at h
    simp only [List.flatMap_cons]
    rw [List.getElem?_append_right (by rw [E.len, Nat.add_mul]; omega), E.len]
    have := flat_at r i j x u h hj
    rw [← this]; congr 1; rw [Nat.add_mul]; omega
theorem SlA.shape {v : Value} {l : List α} {h : PH} (hs : SlA P v l h) : ∃ b cap, v = .slice b l.length cap ∧ (b = none → l = []) ∧ l.length ≤ maxLen := by
  rcases hs with ⟨rfl, rfl⟩ | ⟨g, cap, cur, rfl, _, h1, h2, _⟩
  · exact ⟨none, 0, rfl, fun _ => rfl, Nat.zero_le _⟩
  · exact ⟨_, cap, rfl, by simp, by omega⟩
theorem SlA.rdA {v : Value} {l : List α} {h : PH} (hs : SlA P v l h) {i j : Nat} {x : α} {u : Value} (hi : l[i]? = some x) (hj : (Enc.cells P x)[j]? = some u) : cellP h ((slAddr v (i * Enc.size P α)).add j) = some u := by
  rcases hs with ⟨rfl, rfl⟩ | ⟨g, cap, cur, rfl, hg, h1, h2, h3, h4⟩
  · simp at hi
  · simp only [slAddr, add_mk]
    have := flat_at l i j x u hi hj
    rw [← h4] at this
    have hlt : i * Enc.size P α + j < l.length * Enc.size P α := by
      rcases Nat.lt_or_ge (i * Enc.size P α + j) (l.length * Enc.size P α) with h | h
      · exact h
      · rw [List.getElem?_eq_none (by simp; omega)] at this; cases this
    rw [List.getElem?_take_of_lt hlt] at this
    simp [cellP, hg, add_mk]
    simpa using this
theorem Ent.slr {v : Value} {l : List α} {Δ : List Asn} {c : WP} (hh : Has (SlA P) v Γ l Δ) (h : SlR P Γ v l → Ent Γ c) : Ent Γ c := fun w hs0 => by
  obtain ⟨p, hl, hp⟩ := hs0.1
  obtain ⟨x, y, hd, rfl, hx, hy⟩ := hh.out p hp
  exact h ⟨hx.shape, fun i x hi j u hj => hh.rd fun h hb => SlA.rdA hb hi hj⟩ w ⟨⟨_, hl, hp⟩, hs0.2⟩
theorem Ent.nilS {c : WP} (h : Ent (ab (SlA P) (.slice none 0 0) ([] : List α) :: Γ) c) : Ent Γ c := fun w hs0 => by
  obtain ⟨p, hl, hp⟩ := hs0.1
  refine h w ⟨⟨p, hl, fun _ => none, p, fun _ => .inl rfl, by funext i; simp [PH.join], .inl ⟨rfl, rfl⟩, hp⟩, hs0.2⟩

theorem own_of {v : Value} {l : List α} {Δ : List Asn} {w : World} (hs : SatH (ab (SlA P) v l :: Δ) w) : w.ownsRow 0 (Enc.ty P α) (Enc.size P α) v l.length (l.flatMap (Enc.cells P)) ∧
    ∀ (w' : World) (v' : Value) (l' : List α), w.grownBy w' v.ownBlock → (v'.ownBlock = v.ownBlock ∨ v'.ownBlock = some w.heap.size) → w'.ownsRow 0 (Enc.ty P α) (Enc.size P α) v' l'.length (l'.flatMap (Enc.cells P)) → SatH (ab (SlA P) v' l' :: Δ) w' := by
  obtain ⟨p, hl, x, y, hd, rfl, hx, hy⟩ := hs
  refine ⟨⟨flat_len l, ?_⟩, ?_⟩
  · rcases hx with ⟨rfl, rfl⟩ | ⟨g, cap, cur, rfl, hg, h1, h2, h3, h4⟩
    · exact .inl ⟨rfl, rfl⟩
    · exact .inr ⟨g, cap, cur, rfl, Nat.zero_le _, hl _ _ (PH.le_left x y _ _ hg), h1, h2, h3, h4⟩
  · intro w' v' l' hg hat hown
    have hyl : y.le (PH.of w) := PH.le_trans (PH.le_right hd) hl
    have hysz : ∀ i u, y i = some u → i < w.heap.size := fun i u hu => by
      have := hyl i u hu; simp only [PH.of] at this; exact (Array.getElem?_eq_some_iff.1 this).1
    -- y lives on
    have hyrow : ∀ i u, y i = some u → some i ≠ v.ownBlock := by
      intro i u hu he
      rcases hx with ⟨rfl, rfl⟩ | ⟨g, cap, cur, rfl, hg, _⟩
      · simp [Value.ownBlock] at he
      · simp [Value.ownBlock] at he
        subst he
        rcases hd i with h | h
        · rw [hg] at h; cases h
        · rw [h] at hu; cases hu
    have hy' : y.le (PH.of w') := fun i u hu => by
      have := hg.block i (hysz i u hu) (hyrow i u hu)
      simp only [PH.of]; rw [this]; exact hyl i u hu
    rcases hown.2 with ⟨rfl, h0⟩ | ⟨g, cap, cur, rfl, _, hgg, h1, h2, h3, h4⟩
    · have : l' = [] := List.eq_nil_of_length_eq_zero h0
      subst this
      exact ⟨y, hy', fun _ => none, y, fun _ => .inl rfl, by funext i; simp [PH.join], .inl ⟨rfl, rfl⟩, hy⟩
    · have hgy : y g = none := by
        cases hyg : y g with
        | none => rfl
        | some u =>
          exfalso
          have hlt := hysz g u hyg
          rcases hat with h | h
          · exact hyrow g u hyg (by simpa [Value.ownBlock] using h)
          · simp [Value.ownBlock] at h; omega
      refine ⟨PH.join (fun i => if i = g then some (.cells cur (Enc.ty P α) (0, 0)) else none) y, ?_, _, y, ?_, rfl, .inr ⟨g, cap, cur, rfl, by simp, h1, h2, h3, h4⟩, hy⟩
      · intro i u hu
        simp only [PH.join] at hu
        by_cases hi : i = g
        · subst hi; simp at hu; subst hu; exact hgg
        · simp [hi] at hu; exact hy' i u hu
      · intro i
        by_cases hi : i = g
        · subst hi; exact .inr hgy
        · exact .inl (by simp [hi])
omit [Milieu] in
theorem addr_add (a : Addr) (m n : Nat) : (a.add m).add n = a.add (m + n) := by
  by_cases hm : m = 0
  · subst hm; simp [Addr.add]
  · by_cases hn : n = 0
    · subst hn; simp [Addr.add]
    · simp [Addr.add, hm, hn]; omega
theorem RdN.flat {v : Value} {l : List α} (h : SlR P Γ v l) {a : Addr} {n cap : Nat} (hv : v = .slice (some a) n cap) : ∀ j u, (l.flatMap (Enc.cells P))[j]? = some u → Rd Γ (a.add j) u := by
  intro j u hj
  have hp := E.pos
  have hlt : j < l.length * Enc.size P α := by rw [← flat_len (P := P)]; exact (List.getElem?_eq_some_iff.1 hj).1
  have hi : j / Enc.size P α < l.length := Nat.div_lt_of_lt_mul (by rw [Nat.mul_comm]; exact hlt)
  have hx := List.getElem?_eq_getElem hi
  have hm := Nat.mod_lt j hp
  have hjj : j / Enc.size P α * Enc.size P α + j % Enc.size P α = j := by rw [Nat.mul_comm]; exact Nat.div_add_mod _ _
  have hc : (Enc.cells P l[j / Enc.size P α])[j % Enc.size P α]? = some ((Enc.cells P l[j / Enc.size P α])[j % Enc.size P α]'(by rw [E.len]; exact hm)) := List.getElem?_eq_getElem _
  have hf := flat_at (P := P) l _ _ _ _ hx hc
  rw [hjj, hj] at hf
  have := h.rd _ _ hx _ _ hc
  rw [hv] at this
  simp only [slAddr] at this
  have hadd : (a.add (j / Enc.size P α * Enc.size P α)).add (j % Enc.size P α) = a.add j := by
    rw [addr_add]; rw [hjj]
  rw [hadd] at this
  rw [Option.some.inj hf]; exact this
theorem Ent.append {v s : Value} {l r : List α} {Δ : List Asn} {T U : TypeId} {K : Value → WP} (hh : Has (SlA P) v Γ l Δ) (hr : SlR P Γ s r) (hu : P.underlying T = some (.slice (Enc.ty P α))) (hne0 : r ≠ [])
    (h63 : l.length + r.length ≤ maxLen) (hbytes : (l.length + r.length) * Enc.bytes P α ≤ 140737488355328) (h : ∀ v', Ent (ab (SlA P) v' (l ++ r) :: Δ) (K v')) : Ent Γ (semT P inV (Builtin.append_ #[T, T] U #[v, s]) K) := fun w hs0 => by
  have hs := hs0.1
  have hs1 := hs.mono hh.out
  obtain ⟨hown, hnew⟩ := own_of hs1
  obtain ⟨b, cap, rfl, hb, hm⟩ := hr.shape
  cases b with
  | none => exact absurd (hb rfl) hne0
  | some a =>
    have hrd := RdN.flat hr rfl
    obtain ⟨v', w', hrun, hown', hg, _, hat⟩ := run_append_own_at (P := P) w 0 T U (Enc.ty P α) E.info (Enc.val P (Enc.z P (α := α))) (Enc.size P α) (Enc.bytes P α) hu E.hi E.hz E.hs E.hb (by rw [E.vcells]; simp [E.len]) E.pos v l.length _ hown a r.length cap (r.flatMap (Enc.cells P)) (flat_len r)
      (fun j u hu => (hrd j u hu).at_ hs) (by intro u hu; obtain ⟨x, _, hx⟩ := List.mem_flatMap.1 hu; exact E.one x u hx) h63 hbytes (Nat.zero_le _)
    exact ⟨v', w', hrun, h v' w' ⟨hnew w' v' (l ++ r) hg hat (by simpa using hown'), hs0.2.of ⟨hg.os, hg.output⟩⟩⟩
/-- a row is made -/
theorem SatH.newRow {w : World} {l : List α} {cap : Nat} {cur : Array Value} (hs : SatH Γ w) (h1 : l.length ≤ cap) (h2 : cap ≤ maxLen) (h3 : cur.size = cap * Enc.size P α) (h4 : cur.toList.take (l.length * Enc.size P α) = l.flatMap (Enc.cells P)) :
    SatH (ab (SlA P) (.slice (some ⟨w.heap.size, 0, none⟩) l.length cap) l :: Γ) (w.alloc (.cells cur (Enc.ty P α) (0, 0))) := by
  have := SatH.alloc (o := .cells cur (Enc.ty P α) (0, 0)) hs
  exact SatH.mono (Γ := ab Blk w.heap.size (.cells cur (Enc.ty P α) (0, 0)) :: Γ) (Δ := ab (SlA P) (.slice (some ⟨w.heap.size, 0, none⟩) l.length cap) l :: Γ) (w := w.alloc (.cells cur (Enc.ty P α) (0, 0))) (hs := this) fun h hh => star_mono (A := ab Blk w.heap.size _) (B := Sep Γ) (fun x hx => .inr ⟨_, cap, cur, rfl, hx, h1, h2, h3, h4⟩) (fun _ x => x) hh
theorem set_fold (off : Nat) : ∀ (vs pre old post : List Value) (k : Nat), old.length = vs.length → pre.length = off + k →
    (vs.zipIdx k).foldl (fun (cs : Array Value) p => cs.setIfInBounds (off + p.2) p.1) (pre ++ (old ++ post)).toArray = (pre ++ (vs ++ post)).toArray
  | [], pre, old, post, k, h, _ => by have : old = [] := List.eq_nil_of_length_eq_zero h; subst this; simp
  | v :: r, pre, [], post, k, h, _ => by simp at h
  | v :: r, pre, o :: old, post, k, h, hk => by
    have h1 : (pre ++ (o :: old ++ post)).toArray.setIfInBounds (off + k) v = ((pre ++ [v]) ++ (old ++ post)).toArray := by
      rw [← hk]; simp [List.set_append_right]
    have := set_fold off r (pre ++ [v]) old post (k + 1) (by simpa using h) (by simp [hk]; omega)
    simp only [List.zipIdx_cons, List.foldl_cons, h1, this]
    simp
theorem fill_one (place : Nat → Option (Nat × Nat)) (i off size : Nat) (v : Value) (vs : List Value) (pre old post : List Value) (rest : List (Nat × Value)) (hp : place i = some (off, size)) (hv : v.cells = vs.toArray) (hn : vs.length = size) (ho : old.length = vs.length) (hpre : pre.length = off) :
    Instr.fill place (pre ++ (old ++ post)).toArray ((i, v) :: rest) = Instr.fill place (pre ++ (vs ++ post)).toArray rest := by
  have h1 := set_fold off vs pre old post 0 ho (by simp [hpre])
  simp only [Instr.fill, hp, hv]
  rw [if_neg (by simp; omega)]
  congr 1
  rw [← h1]
  simp
/-- elements laid one behind the other -/
theorem fill_all : ∀ (l : List α) (i : Nat) (pre old : List Value), old.length = l.length * Enc.size P α → pre.length = i * Enc.size P α →
    Instr.fill (fun i => some (i * Enc.size P α, Enc.size P α)) (pre ++ old).toArray ((l.map (Enc.val P)).zipIdx i |>.map fun p => (p.2, p.1)) = some (pre ++ l.flatMap (Enc.cells P)).toArray
  | [], i, pre, old, h, _ => by
    have : old = [] := List.eq_nil_of_length_eq_zero (by simpa using h)
    subst this; simp [Instr.fill]
  | x :: r, i, pre, old, h, hp => by
    have hsz : Enc.size P α ≤ old.length := by rw [h]; simp [Nat.add_mul]
    have hsplit : old = old.take (Enc.size P α) ++ old.drop (Enc.size P α) := (List.take_append_drop _ _).symm
    simp only [List.map_cons, List.zipIdx_cons]
    rw [hsplit, fill_one _ i (i * Enc.size P α) (Enc.size P α) (Enc.val P x) (Enc.cells P x) pre _ _ _ rfl (E.vcells x) (E.len x) (by rw [E.len]; simp; omega) hp, ← List.append_assoc]
    have := fill_all r (i + 1) (pre ++ Enc.cells P x) (old.drop (Enc.size P α)) (by simp [h, Nat.add_mul]) (by simp [hp, E.len, Nat.add_mul])
    rw [this]; simp
theorem Ent.buildSlice {l : List α} {T n : Nat} {parts : Array (Nat × Value)} {K : Value → WP} (hu : P.underlying T = some (.slice (Enc.ty P α))) (hn : n = l.length) (hparts : parts.toList = ((l.map (Enc.val P)).zipIdx 0 |>.map fun p => (p.2, p.1))) (h0 : l ≠ []) (hsmall : l.length * Enc.size P α ≤ 16777216)
    (h : ∀ v', Ent (ab (SlA P) v' l :: Γ) (K v')) : Ent Γ (semT P inV (Instr.buildSlice T n parts) K) := fun w hs0 => by
  have hs := hs0.1
  subst hn
  have hp := E.pos
  have hl : 0 < l.length := by cases l with | nil => exact absurd rfl h0 | cons => simp
  have hpos : ¬ l.length * Enc.size P α = 0 := by
    have := Nat.mul_pos hl hp; omega
  have hf : Instr.fill (fun i => some (i * E.info.size, E.info.size)) ((Array.range (l.length * E.info.size)).map ((Enc.val P (Enc.z P (α := α))).cells[· % (Enc.val P (Enc.z P (α := α))).cells.size]!)) parts.toList = some (l.flatMap (Enc.cells P)).toArray := by
    rw [hparts, E.hs]
    have := fill_all (P := P) l 0 [] ((Array.range (l.length * Enc.size P α)).map ((Enc.val P (Enc.z P (α := α))).cells[· % (Enc.val P (Enc.z P (α := α))).cells.size]!)).toList (by simp) (by simp)
    simp only [List.nil_append, Array.toArray_toList] at this; exact this
  have hr := run_buildSlice (P := P) w T (Enc.ty P α) l.length parts _ E.info _ hu E.hi E.hz (by rw [E.hs]; omega) (by rw [E.hs]; exact hpos) hf
  refine ⟨_, _, hr, h _ _ ⟨hs.newRow (Nat.le_refl _) (by have : maxLen = 9223372036854775807 := rfl; have : l.length ≤ l.length * Enc.size P α := Nat.le_mul_of_pos_right _ hp; omega) (by rw [List.size_toArray]; exact flat_len l) (List.take_of_length_le (by have := flat_len (P := P) l; simp only [List.length] at *; omega)), hs0.2⟩⟩
theorem made_flat (n : Nat) : (madeCells (Enc.val P (Enc.z P (α := α))).cells (n * Enc.size P α)).toList = (List.replicate n (Enc.z P (α := α))).flatMap (Enc.cells P) := by
  have hp := E.pos
  apply List.ext_getElem?
  intro k
  rcases Nat.lt_or_ge k (n * Enc.size P α) with hk | hk
  · have hi : k / Enc.size P α < n := Nat.div_lt_of_lt_mul (by rw [Nat.mul_comm]; exact hk)
    have hm := Nat.mod_lt k hp
    have hjj : k / Enc.size P α * Enc.size P α + k % Enc.size P α = k := by rw [Nat.mul_comm]; exact Nat.div_add_mod _ _
    have hx : (List.replicate n (Enc.z P (α := α)))[k / Enc.size P α]? = some (Enc.z P (α := α)) := by simp [hi]
    have hc : (Enc.cells P (Enc.z P (α := α)))[k % Enc.size P α]? = some ((Enc.cells P (Enc.z P (α := α)))[k % Enc.size P α]'(by rw [E.len]; exact hm)) := List.getElem?_eq_getElem _
    have := flat_at (P := P) _ _ _ _ _ hx hc
    rw [hjj] at this
    rw [this, E.vcells]
    have hlt : k % Enc.size P α < (Enc.cells P (Enc.z P (α := α))).length := by rw [E.len]; exact hm
    simp [madeCells, hk, E.len, hc]
  · rw [List.getElem?_eq_none (by simp [madeCells]; omega), List.getElem?_eq_none (by rw [flat_len]; simpa using hk)]
theorem Ent.makeSlice {T n : Nat} {K : Value → WP} (hu : P.underlying T = some (.slice (Enc.ty P α))) (hn : n ≤ 16777216) (hb : n * Enc.bytes P α ≤ 16777216) (hsz : n * Enc.size P α ≤ 16777216)
    (h : ∀ v', Ent (ab (SlA P) v' (List.replicate n (Enc.z P (α := α))) :: Γ) (K v')) : Ent Γ (semT P inV (Instr.makeSlice T (.int .i64 n) (.int .i64 n)) K) :=
  Ent.nilS (P := P) (α := α) fun w hs0 => by
  have hs := hs0.1
  have hmax : maxLen = 9223372036854775807 := rfl
  obtain ⟨w', hr, hown, hg⟩ := run_makeSlice_full (P := P) w 0 T (Enc.ty P α) E.info _ (Enc.size P α) hu E.hi E.hz E.hs .i64 .i64 n hsz (by rw [E.hb, Nat.mul_comm]; omega) (by omega) (Nat.zero_le _)
  rw [made_flat] at hown
  exact ⟨_, w', hr, h _ w' ⟨(own_of hs).2 w' _ _ hg (.inr rfl) (by rw [List.length_replicate]; exact hown), hs0.2.of ⟨hg.os, hg.output⟩⟩⟩
theorem Ent.makeSliceI {T : TypeId} {m : Int} {n : Nat} {K : Value → WP} (hm : m = (n : Int)) (hu : P.underlying T = some (.slice (Enc.ty P α))) (hn : n ≤ 16777216) (hb : n * Enc.bytes P α ≤ 16777216) (hsz : n * Enc.size P α ≤ 16777216)
    (h : ∀ v', Ent (ab (SlA P) v' (List.replicate n (Enc.z P (α := α))) :: Γ) (K v')) : Ent Γ (semT P inV (Instr.makeSlice T (.int .i64 m) (.int .i64 m)) K) := by
  subst hm; exact Ent.makeSlice hu hn hb hsz h
/-- an element is written over -/
theorem flat_set : ∀ (l : List α) (i : Nat) (x : α) (rest : List Value), i < l.length → wrote (l.flatMap (Enc.cells P) ++ rest) (i * Enc.size P α) (Enc.cells P x) = (l.set i x).flatMap (Enc.cells P) ++ rest := by
  intro l i x rest hi
  have hl : l = l.take i ++ l[i] :: l.drop (i + 1) := by
    conv => lhs; rw [← List.take_append_drop i l, List.drop_eq_getElem_cons hi]
  have hset : l.set i x = l.take i ++ x :: l.drop (i + 1) := by
    rw [List.set_eq_take_append_cons_drop, if_pos hi]
  have h1 : l.flatMap (Enc.cells P) = (l.take i).flatMap (Enc.cells P) ++ (Enc.cells P l[i] ++ (l.drop (i + 1)).flatMap (Enc.cells P)) := by
    rw [← List.flatMap_cons, ← List.flatMap_append, ← hl]
  have hlen : ((l.take i).flatMap (Enc.cells P)).length = i * Enc.size P α := by rw [flat_len, List.length_take, Nat.min_eq_left (by omega)]
  rw [h1, hset]
  have := wrote_all (Enc.cells P x) ((l.take i).flatMap (Enc.cells P)) (Enc.cells P l[i]) ((l.drop (i + 1)).flatMap (Enc.cells P) ++ rest) (by rw [E.len, E.len])
  rw [hlen] at this
  simp only [List.append_assoc, List.flatMap_append, List.flatMap_cons] at this ⊢
  exact this
theorem Ent.storeAt {v : Value} {l : List α} {Δ : List Asn} {i : Nat} {x : α} {c : WP} (hh : Has (SlA P) v Γ l Δ) (hi : i < l.length) (h : Ent (ab (SlA P) v (l.set i x) :: Δ) c) : Ent Γ (semU P (storeVar (Enc.ty P α) (slAddr v (i * Enc.size P α)) (Enc.val P x)) c) := fun w hs0 => by
  have hs := hs0.1
  obtain ⟨p, hl, x1, y, hd, rfl, hx, hy⟩ := hs.mono hh.out
  rcases hx with ⟨rfl, rfl⟩ | ⟨g, cap, cur, rfl, hg, h1, h2, h3, h4⟩
  · simp at hi
  · have hs2 : SatH (ab Blk g (.cells cur.toList.toArray (Enc.ty P α) (0, 0)) :: Δ) w := ⟨_, hl, x1, y, hd, rfl, by simpa [ab, Blk] using hg, hy⟩
    have hb := hs2.blk_at
    have hp := E.pos
    have hle : (i + 1) * Enc.size P α ≤ l.length * Enc.size P α := Nat.mul_le_mul_right _ hi
    have hle2 : l.length * Enc.size P α ≤ cap * Enc.size P α := Nat.mul_le_mul_right _ h1
    obtain ⟨w', hr, hb', ho, hev⟩ := run_storeCells_at (P := P) (Enc.cells P x) (i * Enc.size P α) 0 cur.toList w hb (by rw [E.len]; simp only [Array.length_toList, h3]; rw [Nat.add_mul] at hle; omega) (E.one x)
    have hcur : cur.toList = l.flatMap (Enc.cells P) ++ cur.toList.drop (l.length * Enc.size P α) := by rw [← h4, List.take_append_drop]
    have hw : wrote cur.toList (i * Enc.size P α + 0) (Enc.cells P x) = (l.set i x).flatMap (Enc.cells P) ++ cur.toList.drop (l.length * Enc.size P α) := by
      conv => lhs; rw [hcur]
      exact flat_set l i x _ hi
    rw [hw] at hb'
    refine ⟨w', ?_, h w' ⟨SatH.mono (Γ := ab Blk g (.cells ((l.set i x).flatMap (Enc.cells P) ++ cur.toList.drop (l.length * Enc.size P α)).toArray (Enc.ty P α) (0, 0)) :: Δ) (Δ := ab (SlA P) (.slice (some ⟨g, 0, none⟩) l.length cap) (l.set i x) :: Δ) (w := w') (hs := hs2.write ho hb') ?_, hs0.2.of hev⟩⟩
    · have hvs : (Enc.val P x).cells.toList = Enc.cells P x := by rw [E.vcells]
      have hvz : (Enc.val P x).cells.size = Enc.size P α := by rw [E.vcells]; simp [E.len]
      simp [storeVar, Enc.run_size, Sem.run_bind, hvs, hvz, slAddr, add_mk, hr]
    · intro h hh
      refine star_mono (A := ab Blk g _) (B := Sep Δ) (fun a ha => .inr ⟨g, cap, _, by simp, ha, by simpa using h1, h2, ?_, ?_⟩) (fun _ x => x) hh
      · have hcl : cur.toList.length = cap * Enc.size P α := by simpa using h3
        simp only [List.size_toArray, List.length_append, List.length_drop, flat_len, List.length_set, hcl]; omega
      · have hfl : ((l.set i x).flatMap (Enc.cells P)).length = (l.set i x).length * Enc.size P α := flat_len _
        rw [← hfl]; exact List.take_left
/-- an element of one's own slice is written over: the address and the store -/
theorem Ent.storeI {v : Value} {l : List α} {Δ : List Asn} {T : TypeId} {i : Int} {x : α} {c : WP} (hh : Has (SlA P) v Γ l Δ) (hu : P.underlying T = some (.slice (Enc.ty P α))) (h0 : 0 ≤ i) (h1 : i < l.length) (h : Ent (ab (SlA P) v (l.set i.toNat x) :: Δ) c) : Ent Γ (pureT P inA (Instr.indexAt T v (.int .i64 i)) fun a => semU P (storeVar (Enc.ty P α) a (Enc.val P x)) c) :=
  Ent.slr hh fun hr => Ent.index hr hu h0 h1 (Ent.storeAt hh (by omega) h)
omit [Milieu] in
theorem loads_agg {ty n : Nat} (ha : ∀ w, (isAgg ty).run P w = .ok true w) (hs : ∀ w, (sizeOf ty).run P w = .ok n w) (cs : List Value) (hn : cs.length = n) (a : Addr) (w : World) (h : ∀ j u, cs[j]? = some u → w.cell? (a.add j) = some u) : (loadVar ty a).run P w = .ok (.agg cs.toArray) w := by
  subst hn
  simp [loadVar, ha, hs, Sem.run_bind, run_loadCells_list w a cs h, Sem.run_pure]
omit [Milieu] in
theorem loads_one {ty : Nat} (ha : ∀ w, (isAgg ty).run P w = .ok false w) (v : Value) (a : Addr) (w : World) (h : ∀ j u, [v][j]? = some u → w.cell? (a.add j) = some u) : (loadVar ty a).run P w = .ok v w := by
  have := h 0 v rfl
  rw [show a.add 0 = a from rfl] at this
  simp [loadVar, ha, Sem.run_bind, load, Sem.run, this]
end
omit [Milieu] in
theorem wrap_succ {i n : Nat} (h : i < n) (hn : n ≤ maxLen) : IntKind.i64.wrap ((i : Int) + 1) = ((i + 1 : Nat) : Int) := by
  have : maxLen = 9223372036854775807 := rfl
  rw [IntKind.wrap_i64]; omega
theorem Ent.cst {Γ : List Asn} {β : Type} {k : β → WP} {a b : β} (h : Ent Γ (k a)) (e : b = a) : Ent Γ (k b) := e ▸ h
theorem Ent.iteOr {Γ : List Asn} {c d : Bool} {k : Bool → WP} {rest : WP} (hk : Ent Γ (k (c || d))) (hr : Ent Γ (k d) → Ent Γ rest) : Ent Γ (iteH c (k c) rest) := by
  cases c
  · exact hr hk
  · exact hk
theorem Ent.iteAnd {Γ : List Asn} {c d : Bool} {k : Bool → WP} {rest : WP} (hk : Ent Γ (k (c && d))) (hr : Ent Γ (k d) → Ent Γ rest) : Ent Γ (iteH c rest (k c)) := by
  cases c
  · exact hk
  · exact hr hk
theorem Ent.joinK {Γ : List Asn} {v : Bool} {k : Bool → WP} {body : (Bool → WP) → WP} (hk : Ent Γ (k v)) (hb : ∀ k' : Bool → WP, Ent Γ (k' v) → Ent Γ (body k')) : Ent Γ (joinH (fun y => k y) body) := hb _ hk
theorem Ent.drop2 {A B : Asn} {Γ : List Asn} {c : WP} (h : Ent (A :: Γ) c) : Ent (A :: B :: Γ) c := Ent.swap (Ent.drop h)
theorem Sep.drop1 {A : Asn} {Γ : List Asn} {h : PH} (hs : Sep (A :: Γ) h) : ∃ h', h'.le h ∧ Sep Γ h' := by
  obtain ⟨a, b, hd, rfl, _, hb⟩ := hs
  exact ⟨b, PH.le_right hd, hb⟩
theorem Ent.rot {A B C : Asn} {Γ : List Asn} {c : WP} (h : Ent (C :: A :: B :: Γ) c) : Ent (A :: B :: C :: Γ) c :=
  Ent.conv (Γ := A :: B :: C :: Γ) (Δ := C :: A :: B :: Γ) (fun _ hh => star_left_comm (A := A) (B := C) (C := star B (Sep Γ)) (star_mono (fun _ x => x) (fun _ y => star_left_comm (A := B) (B := C) (C := Sep Γ) y) hh)) h
theorem Ent.drop3 {A B C : Asn} {Γ : List Asn} {c : WP} (h : Ent (A :: B :: Γ) c) : Ent (A :: B :: C :: Γ) c := Ent.rot (Ent.drop h)
theorem Ent.byS {Γ : List Asn} {A B : WP} (h : ∀ {w}, A w → B w) (hA : Ent Γ A) : Ent Γ B := fun w hs => h (hA w hs)
theorem Ent.ret {Γ : List Asn} {β : Type} {f : β → Value} {x : β} {K : β → WP} (h : Ent Γ (K x)) : Ent Γ (fun w => ∃ y, f x = f y ∧ K y w) := fun w hs => ⟨x, rfl, h w hs⟩
/-- a slice's own three words -/
structure SV where
  b : Option Addr
  n : Nat
  c : Nat
deriving DecidableEq
@[reducible] def SV.val (s : SV) : Value := .slice s.b s.n s.c
/-- a function's value -/
inductive FV where
  | none
  | f (g : FuncId) (first : List Value)
@[reducible] def FV.val : FV → Value
  | .none => .nilFunc
  | .f g first => .func (.func g) first.toArray #[]
theorem Ent.storeC {P : Program} {Γ : List Asn} {T : TypeId} {b o : Nat} {cs : List Value} {E : TypeId} {Δ : List Asn} {v : Value} {a : Addr} {c : WP} [hh : Has Blk b Γ (.cells cs.toArray E (0, 0)) Δ] [hz : SizeT P T 1] (ha : a = ⟨b, o, none⟩) (hv : v.cells = #[v]) (h1 : v.oneCell' = true) (ho : o < cs.length)
    (h : Ent (ab Blk b (.cells (cs.set o v).toArray E (0, 0)) :: Δ) c) : Ent Γ (semU P (storeVar T a v) c) := by
  subst ha
  refine Ent.store (n := 1) hh (by rw [hv]; rfl) (by omega) (by rw [hv]; intro u hu; simp at hu; subst hu; exact h1) ?_
  rw [hv]; exact h
theorem Sep.sink {A B : Asn} {Γ Δ : List Asn} (hs : ∀ h, Sep (A :: Γ) h → Sep Δ h) : ∀ h, Sep (A :: B :: Γ) h → Sep (B :: Δ) h := fun _ hh => star_mono (fun _ x => x) hs (star_left_comm hh)
theorem Ent.sink1 {A B0 : Asn} {Γ : List Asn} {c : WP} (h : Ent (B0 :: A :: Γ) c) : Ent (A :: B0 :: Γ) c := Ent.conv (Sep.sink (fun _ x => x)) h
theorem Ent.sink2 {A B0 B1 : Asn} {Γ : List Asn} {c : WP} (h : Ent (B0 :: B1 :: A :: Γ) c) : Ent (A :: B0 :: B1 :: Γ) c := Ent.conv (Sep.sink (Sep.sink (fun _ x => x))) h
theorem Ent.sink3 {A B0 B1 B2 : Asn} {Γ : List Asn} {c : WP} (h : Ent (B0 :: B1 :: B2 :: A :: Γ) c) : Ent (A :: B0 :: B1 :: B2 :: Γ) c := Ent.conv (Sep.sink (Sep.sink (Sep.sink (fun _ x => x)))) h
theorem Ent.sink4 {A B0 B1 B2 B3 : Asn} {Γ : List Asn} {c : WP} (h : Ent (B0 :: B1 :: B2 :: B3 :: A :: Γ) c) : Ent (A :: B0 :: B1 :: B2 :: B3 :: Γ) c := Ent.conv (Sep.sink (Sep.sink (Sep.sink (Sep.sink (fun _ x => x))))) h
theorem Ent.sink5 {A B0 B1 B2 B3 B4 : Asn} {Γ : List Asn} {c : WP} (h : Ent (B0 :: B1 :: B2 :: B3 :: B4 :: A :: Γ) c) : Ent (A :: B0 :: B1 :: B2 :: B3 :: B4 :: Γ) c := Ent.conv (Sep.sink (Sep.sink (Sep.sink (Sep.sink (Sep.sink (fun _ x => x)))))) h
theorem Ent.sink6 {A B0 B1 B2 B3 B4 B5 : Asn} {Γ : List Asn} {c : WP} (h : Ent (B0 :: B1 :: B2 :: B3 :: B4 :: B5 :: A :: Γ) c) : Ent (A :: B0 :: B1 :: B2 :: B3 :: B4 :: B5 :: Γ) c := Ent.conv (Sep.sink (Sep.sink (Sep.sink (Sep.sink (Sep.sink (Sep.sink (fun _ x => x))))))) h
theorem Ent.sink7 {A B0 B1 B2 B3 B4 B5 B6 : Asn} {Γ : List Asn} {c : WP} (h : Ent (B0 :: B1 :: B2 :: B3 :: B4 :: B5 :: B6 :: A :: Γ) c) : Ent (A :: B0 :: B1 :: B2 :: B3 :: B4 :: B5 :: B6 :: Γ) c := Ent.conv (Sep.sink (Sep.sink (Sep.sink (Sep.sink (Sep.sink (Sep.sink (Sep.sink (fun _ x => x)))))))) h
theorem Ent.sink8 {A B0 B1 B2 B3 B4 B5 B6 B7 : Asn} {Γ : List Asn} {c : WP} (h : Ent (B0 :: B1 :: B2 :: B3 :: B4 :: B5 :: B6 :: B7 :: A :: Γ) c) : Ent (A :: B0 :: B1 :: B2 :: B3 :: B4 :: B5 :: B6 :: B7 :: Γ) c := Ent.conv (Sep.sink (Sep.sink (Sep.sink (Sep.sink (Sep.sink (Sep.sink (Sep.sink (Sep.sink (fun _ x => x))))))))) h
theorem Ent.sink9 {A B0 B1 B2 B3 B4 B5 B6 B7 B8 : Asn} {Γ : List Asn} {c : WP} (h : Ent (B0 :: B1 :: B2 :: B3 :: B4 :: B5 :: B6 :: B7 :: B8 :: A :: Γ) c) : Ent (A :: B0 :: B1 :: B2 :: B3 :: B4 :: B5 :: B6 :: B7 :: B8 :: Γ) c := Ent.conv (Sep.sink (Sep.sink (Sep.sink (Sep.sink (Sep.sink (Sep.sink (Sep.sink (Sep.sink (Sep.sink (fun _ x => x)))))))))) h
theorem Ent.storeF {P : Program} {Γ : List Asn} {T : TypeId} {b o : Nat} {cs : List Value} (cs' : List Value) {E : TypeId} {Δ : List Asn} {v : Value} {a : Addr} {c : WP} [hh : Has Blk b Γ (.cells cs.toArray E (0, 0)) Δ] [hz : SizeT P T 1] (ha : a = ⟨b, o, none⟩) (hv : v.cells = #[v]) (h1 : v.oneCell' = true) (ho : (nth cs o).isSome = true) (he : cs.set o v = cs')
    (h : Ent (ab Blk b (.cells cs'.toArray E (0, 0)) :: Δ) c) : Ent Γ (semU P (storeVar T a v) c) := by
  subst ha; subst he
  refine Ent.store (n := 1) hh (by rw [hv]; rfl) (by rw [nth_eq] at ho; have := (List.getElem?_eq_some_iff.1 (Option.eq_some_of_isSome ho)).1; omega) (by rw [hv]; intro u hu; simp at hu; subst hu; exact h1) ?_
  rw [hv]; exact h
/-- an array's element -/
theorem Ent.indexArr {P : Program} {Γ : List Asn} {T n e : TypeId} {a : Addr} {i : Int} {K : Addr → WP} (hu : P.underlying T = some (.array n e)) (hs : ∀ w, (sizeOf e).run P w = .ok 1 w) (h0 : 0 ≤ i) (h1 : i < n) (h : Ent Γ (K (a.add i.toNat))) : Ent Γ (pureT P inA (Instr.indexAt T (.pointer (some a)) (.int .i64 i)) K) :=
  Ent.pure (fun w => by simp [Instr.indexAt, asIntOf, run_underlying hu w, Sem.run_bind, Sem.run_pure, h0, h1, hs, Instr.sureAddr]) h
theorem Ent.sv {P : Program} {α : Type} [Enc P α] {Γ Δ : List Asn} {v : Value} {l : List α} {c : WP} (hh : Has (SlA P) v Γ l Δ) (h : ∀ s : SV, v = s.val → Ent Γ c) : Ent Γ c := fun w hs0 => by
  obtain ⟨p, hl, hp⟩ := hs0.1
  obtain ⟨x, y, hd, rfl, hx, hy⟩ := hh.out p hp
  obtain ⟨b, cap, hv, _⟩ := SlA.shape hx
  exact h ⟨b, l.length, cap⟩ hv w ⟨⟨_, hl, hp⟩, hs0.2⟩
theorem Ent.callF {P : Program} {Γ : List Asn} {g : FuncId} {first args cap : Array Value} {K : Value → WP} (hc : ∀ args w, (callFunc g args).run P w = .ok (.enter g args) w) (h : Ent Γ (callH P g ((first ++ args) ++ cap) K)) : Ent Γ (callF P (.func (.func g) first cap) args K) := fun w hs => ⟨g, first, cap, rfl, hc, h w hs⟩
end Go.Cab
