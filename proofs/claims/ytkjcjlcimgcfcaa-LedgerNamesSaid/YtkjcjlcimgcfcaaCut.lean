/- Slices cut at the front; a field of an element written over. -/
import Derived.Test.YtkjcjlcimgcfcaaAuto2
namespace Go.Cab
set_option linter.unusedSimpArgs false
set_option linter.unusedVariables false
set_option linter.unusedSectionVars false
open Go
variable [Milieu]
section
variable {P : Program} {Γ : List Asn}
theorem SlAt.cut {α : Type} {E : Enc P α} {h : PH} {a : Addr} {n c c' k : Nat} {l : List α} (hs : SlAt P E h (.slice (some a) n c) l) : SlAt P E h (.slice (some (a.add (k * E.size))) (n - k) c') (l.drop k) := by
  obtain ⟨⟨b, cap, hv, _, hm⟩, hr⟩ := hs
  simp only [Value.slice.injEq] at hv
  obtain ⟨rfl, hn, rfl⟩ := hv
  refine ⟨⟨some (a.add (k * E.size)), c', by simp [hn], by simp, by simp; omega⟩, fun i x hx j u hu => ?_⟩
  rw [List.getElem?_drop] at hx
  have := hr (k + i) x hx j u hu
  simp only [slAddr] at this ⊢
  rw [addr_add a (k * E.size), ← Nat.add_mul]
  exact this
theorem SlAt.upto {α : Type} {E : Enc P α} {h : PH} {b : Option Addr} {n c c' k : Nat} {l : List α} (hs : SlAt P E h (.slice b n c) l) (hk : k ≤ l.length) : SlAt P E h (.slice b k c') (l.take k) := by
  obtain ⟨⟨b', cap, hv, hb, hm⟩, hr⟩ := hs
  simp only [Value.slice.injEq] at hv
  obtain ⟨rfl, hn, rfl⟩ := hv
  refine ⟨⟨b, c', by simp [Nat.min_eq_left hk], fun h0 => by rw [hb h0]; simp, by simp; omega⟩, fun i x hx j u hu => ?_⟩
  have hik : i < k := by have := (List.getElem?_eq_some_iff.1 hx).1; simp at this; omega
  rw [List.getElem?_take_of_lt hik] at hx
  have := hr i x hx j u hu
  cases b <;> exact this
theorem Ent.loA {α : Type} {E : Enc P α} {T : TypeId} {b : Option Addr} {n c m : Nat} {h : Int} {v : Value} {K : Value → WP} [hu : SliceTy P T α E] (hv : v = .slice b n c) (hm : h = (m : Int)) (h2 : m ≤ n) (hk : Ent Γ (K (.slice (if c = m then b else b.map (·.add (m * E.size))) (n - m) (c - m)))) : Ent Γ (pureT P inV (Instr.sliceAt T v (some (.int .i64 h)) none none) K) := by
  subst hv; subst hm
  have he := elem_of hu.hu
  have hee : P.elem T = E.ty := by simp [Program.elem, hu.hu]
  refine Ent.pure (fun w => ?_) hk
  rw [run_sliceAt_slice w T _ _ _ _ he, run_slice_l w T b n c he .i64 m (by omega) (by omega), hee, E.run_size w]
  simp only [Result.andThen_ok, sliced, inV, Int.toNat_natCast]
theorem Ent.lenV {α : Type} {E : Enc P α} {T U : TypeId} {b : Option Addr} {n c : Nat} {v : Value} {K : Int → WP} [hu : SliceTy P T α E] (hv : v = .slice b n c) (hk : Ent Γ (K n)) : Ent Γ (pureT P (inI .i64) (Builtin.len_ #[T] U #[v]) K) := by
  subst hv
  exact Ent.pure (fun w => by simp [Builtin.len_, run_underlying hu.hu w, Sem.run_bind, goInt, Sem.run_pure]) hk
/-- the first element of a slice that was cut -/
theorem Ent.ix0 {α : Type} {E : Enc P α} {T : TypeId} {a : Addr} {n c c' : Nat} (k : Nat) {l : List α} {Δ : List Asn} {x : α} {v : Value} {K : Addr → WP} [h : OwnIn P (.slice (some a) n c) Γ α E l Δ] [hu : SliceTy P T α E] (hx : l[k]? = some x) (hv : v = .slice (some (a.add (k * E.size))) (n - k) c')
    (hk : PlH P Γ (slAddr (.slice (some a) n c) (k * E.size)) α E x → Ent Γ (K (slAddr (.slice (some a) n c) (k * E.size)))) : Ent Γ (pureT P inA (Instr.indexAt T v (.int .i64 0)) K) := by
  subst hv
  refine Ent.slrA (P := P) (E := E) (v := .slice (some a) n c) fun hr => ?_
  have hp := hr.rd k x hx
  have hlt := (List.getElem?_eq_some_iff.1 hx).1
  have hn : n = l.length := by
    obtain ⟨b, cap, hv, _⟩ := hr.shape
    simp at hv; exact hv.2.1
  refine Ent.pure (fun w => ?_) (hk ⟨hp⟩)
  have h0 : (0 : Int) < ((n - k : Nat) : Int) := by omega
  have ha : ∀ b : Addr, b.add (0 * E.size) = b := fun b => by simp [Addr.add]
  simp only [Instr.indexAt, asIntOf, run_underlying hu.hu w, Sem.run_bind, Sem.run_pure, Result.andThen_ok]
  simp [h0, Enc.run_size, slAddr, ha, Sem.run_bind, Sem.run_pure, Addr.add]
  intro hk0; omega
theorem flat_put {α β : Type} {E : Enc P α} {F : Enc P β} {o : Nat} {g : α → β} {p : α → β → α} [hf : FldOf P α E o β F g p] (l : List α) (i : Nat) (x : α) (y : β) (rest : List Value) (hx : l[i]? = some x) :
    wrote (l.flatMap E.cells ++ rest) (i * E.size + o) (F.cells y) = (l.set i (p x y)).flatMap E.cells ++ rest := by
  obtain ⟨hi, hxe⟩ := List.getElem?_eq_some_iff.1 hx
  have hl : l = l.take i ++ x :: l.drop (i + 1) := by
    conv => lhs; rw [← List.take_append_drop i l, List.drop_eq_getElem_cons hi, hxe]
  have hset : l.set i (p x y) = l.take i ++ p x y :: l.drop (i + 1) := by
    rw [List.set_eq_take_append_cons_drop, if_pos hi]
  have h1 : l.flatMap E.cells = (l.take i).flatMap E.cells ++ (E.cells x ++ (l.drop (i + 1)).flatMap E.cells) := by
    rw [← List.flatMap_cons, ← List.flatMap_append, ← hl]
  have hlen : ((l.take i).flatMap E.cells).length = i * E.size := by rw [flat_len (P := P), List.length_take, Nat.min_eq_left (by omega)]
  rw [h1, hset]
  have hm := wrote_mid ((l.take i).flatMap E.cells) (E.cells x) ((l.drop (i + 1)).flatMap E.cells ++ rest) (F.cells y) o (by rw [F.len, E.len]; exact hf.fits)
  rw [hlen] at hm
  simp only [List.append_assoc, List.flatMap_append, List.flatMap_cons] at hm ⊢
  rw [hm, hf.put]
/-- a field of an element is written over -/
theorem Ent.stEF {α β : Type} {E : Enc P α} {F : Enc P β} {o : Nat} {g : α → β} {p : α → β → α} {v u : Value} {l : List α} {Δ : List Asn} {T : TypeId} {i : Nat} {x : α} {y : β} {c : WP} {a : Addr} [h : OwnIn P v Γ α E l Δ] [hf : FldOf P α E o β F g p] (ha : a = (slAddr v (i * E.size)).add o) (hx : l[i]? = some x) (hT : F.ty = T) (hv : u = F.val y)
    (hk : Ent (ab (@SlA P α E) v (l.set i (p x y)) :: Δ) c) : Ent Γ (semU P (storeVar T a u) c) := by
  subst ha; subst hT; subst hv
  intro w hs0
  have hs := hs0.1
  have hi := (List.getElem?_eq_some_iff.1 hx).1
  obtain ⟨q, hl, x1, y1, hd, rfl, hx1, hy1⟩ := hs.mono h.has.out
  rcases hx1 with ⟨rfl, rfl⟩ | ⟨b, cap, cur, rfl, hg, h1, h2, h3, h4⟩
  · simp at hi
  · have hs2 : SatH (ab Blk b (.cells cur.toList.toArray E.ty (0, 0)) :: Δ) w := ⟨_, hl, x1, y1, hd, rfl, by simpa [ab, Blk] using hg, hy1⟩
    have hb := hs2.blk_at
    have hfit := hf.fits
    have hle : (i + 1) * E.size ≤ l.length * E.size := Nat.mul_le_mul_right _ hi
    have hle2 : l.length * E.size ≤ cap * E.size := Nat.mul_le_mul_right _ h1
    obtain ⟨w', hr, hb', ho, hev⟩ := run_storeCells_at (P := P) (F.cells y) (i * E.size + o) 0 cur.toList w hb (by rw [F.len]; simp only [Array.length_toList, h3]; rw [Nat.add_mul] at hle; omega) (F.one y)
    have hcur : cur.toList = l.flatMap E.cells ++ cur.toList.drop (l.length * E.size) := by rw [← h4, List.take_append_drop]
    have hw : wrote cur.toList (i * E.size + o + 0) (F.cells y) = (l.set i (p x y)).flatMap E.cells ++ cur.toList.drop (l.length * E.size) := by
      conv => lhs; rw [hcur]
      exact flat_put l i x y _ hx
    rw [hw] at hb'
    refine ⟨w', ?_, hk w' ⟨SatH.mono (Γ := ab Blk b (.cells ((l.set i (p x y)).flatMap E.cells ++ cur.toList.drop (l.length * E.size)).toArray E.ty (0, 0)) :: Δ) (Δ := ab (@SlA P α E) (.slice (some ⟨b, 0, none⟩) l.length cap) (l.set i (p x y)) :: Δ) (w := w') (hs := hs2.write ho hb') ?_, hs0.2.of hev⟩⟩
    · have hvs : (F.val y).cells.toList = F.cells y := by rw [F.vcells]
      have hvz : (F.val y).cells.size = F.size := by rw [F.vcells]; simp [F.len]
      simp [storeVar, F.run_size, Sem.run_bind, hvs, hvz, slAddr, add_mk, hr]
    · intro h hh
      refine star_mono (A := ab Blk b _) (B := Sep Δ) (fun a ha => .inr ⟨b, cap, _, by simp, ha, by simpa using h1, h2, ?_, ?_⟩) (fun _ x => x) hh
      · have hcl : cur.toList.length = cap * E.size := by simpa using h3
        simp only [List.size_toArray, List.length_append, List.length_drop, flat_len (P := P), List.length_set, hcl]; omega
      · have hfl : ((l.set i (p x y)).flatMap E.cells).length = (l.set i (p x y)).length * E.size := flat_len (P := P) _
        rw [← hfl]; exact List.take_left
end
end Go.Cab
