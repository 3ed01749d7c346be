/- Slices made, grown and cut, by instances. -/
import Derived.Test.YtkjcjlcimgcfcaaAuto
import Derived.Laws.Slices
namespace Go.Cab
set_option linter.unusedSimpArgs false
set_option linter.unusedVariables false
set_option linter.unusedSectionVars false
open Go
variable [Milieu]
section
variable {P : Program} {Γ : List Asn}
/-- a slice of one's own has three words -/
theorem Ent.svA {α : Type} {E : Enc P α} {v : Value} {l : List α} {Δ : List Asn} {c : WP} [h : OwnIn P v Γ α E l Δ] (hk : ∀ s : SV, v = s.val → s.n = l.length → s.n ≤ s.c → s.c ≤ maxLen → (s.b = none → l = []) → Ent Γ c) : Ent Γ c := fun w hs0 => by
  obtain ⟨p, hl, hp⟩ := hs0.1
  obtain ⟨x, y, hd, rfl, hx, hy⟩ := h.has.out p hp
  refine (?_ : Ent Γ c) w ⟨⟨_, hl, hp⟩, hs0.2⟩
  rcases hx with ⟨hv, h0⟩ | ⟨g, cap, cur, hv, _, h1, h2, _⟩
  · exact hk ⟨none, 0, 0⟩ hv (by rw [h0]; rfl) (Nat.le_refl _) (Nat.zero_le _) fun _ => h0
  · exact hk ⟨some ⟨g, 0, none⟩, l.length, cap⟩ hv rfl h1 h2 (fun h => by cases h)
theorem Ent.svH {α : Type} {E : Enc P α} {v : Value} {l : List α} {c : WP} [h : Sl P Γ v α E l] (hk : ∀ s : SV, v = s.val → s.n = l.length → (s.b = none → l = []) → Ent Γ c) : Ent Γ c :=
  Ent.slrA (E := E) (v := v) fun hr => by
    obtain ⟨b, cap, hv, hb, _⟩ := hr.shape
    exact hk ⟨b, l.length, cap⟩ hv rfl hb
theorem Ent.makeSlice2 {α : Type} {E : Enc P α} {T n : Nat} {K : Value → WP} (hu : P.underlying T = some (.slice E.ty)) (hb : E.bytes * n ≤ 281474976710656) (hn : n ≤ maxLen)
    (h : ∀ v', Ent (ab (@SlA P α E) v' (List.replicate n E.z) :: Γ) (K v')) : Ent Γ (semT P inV (Instr.makeSlice T (.int .i64 n) (.int .i64 n)) K) :=
  Ent.nilS (P := P) (E := E) fun w hs0 => by
  have hs := hs0.1
  obtain ⟨w', hr, hown, hg⟩ := run_make_full (P := P) w 0 T E.ty E.info _ E.size hu E.hi E.hz E.hs .i64 .i64 n (by rw [E.hb]; exact_mod_cast hb) hn (Nat.zero_le _)
  rw [made_flat] at hown
  exact ⟨_, w', hr, h _ w' ⟨(own_of hs).2 w' _ _ hg (.inr rfl) (by rw [List.length_replicate]; exact hown), hs0.2.of ⟨hg.os, hg.output⟩⟩⟩
theorem Ent.mkA {α : Type} {E : Enc P α} {T : TypeId} {m : Int} {n : Nat} {K : Value → WP} [hu : SliceTy P T α E] (hm : m = (n : Int)) (hb : E.bytes * n ≤ 281474976710656) (hn : n ≤ maxLen)
    (hk : ∀ s : SV, s.n = n → n ≤ s.c → Ent (ab (@SlA P α E) s.val (List.replicate n E.z) :: Γ) (K s.val)) : Ent Γ (semT P inV (Instr.makeSlice T (.int .i64 m) (.int .i64 m)) K) := by
  subst hm
  exact Ent.makeSlice2 hu.hu hb hn fun v' => Ent.svA (P := P) (E := E) (v := v') fun s hv hs hc _ _ => by
    subst hv; rw [List.length_replicate] at hs; exact hk s hs (by omega)
theorem Ent.ap0 {v s : Value} {b : Option Addr} {n c : Nat} {α : Type} {E : Enc P α} {T U : TypeId} {K : Value → WP} [hu : SliceTy P T α E] [hs : Sl P Γ s α E []] (hv : v = .slice b n c) (hnc : n ≤ c) (hk : Ent Γ (K v)) : Ent Γ (semT P inV (Builtin.append_ #[T, T] U #[v, s]) K) :=
  Ent.slrA (E := E) (v := s) fun hr => by
    obtain ⟨b', cap', rfl, _, _⟩ := hr.shape
    subst hv
    refine Ent.sem (fun w _ => ?_) hk
    have hz : (sizeOf E.ty).run P w = .ok E.size w := E.run_size w
    have hun : (underlying T).run P w = .ok (.slice E.ty) w := run_underlying hu.hu w
    have hl : ∀ a : Addr, (loadCells a 0).run P w = .ok #[] w := fun a => run_loadCells_list w a [] (by simp)
    cases b' <;> cases b <;> simp [hl, Builtin.append_, Sem.run_bind, hun, hz, Sem.run_pure, Builtin.lenOf, Builtin.firstCells, hnc, storeCells, inV]
theorem Ent.apA {α : Type} {E : Enc P α} {v s : Value} {l r : List α} {Δ : List Asn} {T U : TypeId} {K : Value → WP} [h : OwnIn P v Γ α E l Δ] [hs : Sl P Γ s α E r] [hu : SliceTy P T α E] (h63 : l.length + r.length ≤ maxLen) (hbytes : (l.length + r.length) * E.bytes ≤ 140737488355328)
    (hk : ∀ s' : SV, s'.n = l.length + r.length → s'.n ≤ s'.c → Ent (ab (@SlA P α E) s'.val (l ++ r) :: Δ) (K s'.val)) : Ent Γ (semT P inV (Builtin.append_ #[T, T] U #[v, s]) K) := by
  by_cases hr : r = []
  · subst hr
    refine Ent.svA (P := P) (E := E) (v := v) fun s0 hv hn hc hm h0 => ?_
    subst hv
    refine Ent.ap0 (E := E) rfl hc ?_
    have := hk s0 (by simpa using hn) hc
    rw [List.append_nil] at this
    exact Ent.conv h.has.out this
  · exact Ent.slrA (E := E) (v := s) fun hsr => Ent.append h.has hsr hu.hu hr h63 hbytes fun v' => Ent.svA (P := P) (E := E) (v := v') fun s' hv hn hc _ _ => by
      subst hv; rw [List.length_append] at hn; exact hk s' hn hc
/-- an empty slice that is no nil -/
theorem Ent.bs0 {α : Type} {E : Enc P α} {T : TypeId} {K : Value → WP} [hu : SliceTy P T α E] (hk : ∀ s : SV, s.n = 0 → Ent (ab (@SlA P α E) s.val ([] : List α) :: Γ) (K s.val)) : Ent Γ (semT P inV (Instr.buildSlice T 0 #[]) K) := by
  have hun : ∀ w, (underlying T).run P w = .ok (.slice E.ty) w := run_underlying hu.hu
  have hz : ∀ w, (sizeOf E.ty).run P w = .ok E.size w := E.run_size
  intro w hs
  refine ⟨.slice (some ⟨w.heap.size, 0, none⟩) 0 0, w.alloc (.cells #[] E.ty), ?_, ?_⟩
  · simp [Instr.buildSlice, Sem.run_bind, hun, hz, Instr.fill, run_newRow, Sem.run_pure, inV, show (Array.range 0 : Array Nat) = #[] from rfl]
  · have h1 := SatH.newRow (P := P) (E := E) (w := w) (Γ := Γ) (l := []) (cap := 0) (cur := #[]) hs.1 (Nat.le_refl _) (Nat.zero_le _) (by simp) (by simp)
    exact hk ⟨some ⟨w.heap.size, 0, none⟩, 0, 0⟩ rfl _ ⟨h1, hs.2⟩
theorem Ent.bsA {α : Type} {E : Enc P α} {l : List α} {T n : Nat} {parts : Array (Nat × Value)} {K : Value → WP} [hu : SliceTy P T α E] (hn : n = l.length) (hparts : parts.toList = ((l.map E.val).zipIdx 0 |>.map fun p => (p.2, p.1))) (h0 : l ≠ []) (hsmall : l.length * E.size ≤ 16777216)
    (hk : ∀ s : SV, s.n = l.length → Ent (ab (@SlA P α E) s.val l :: Γ) (K s.val)) : Ent Γ (semT P inV (Instr.buildSlice T n parts) K) :=
  Ent.buildSlice hu.hu hn hparts h0 hsmall fun v' => Ent.svA (P := P) (E := E) (v := v') fun s hv hs _ _ _ => by subst hv; exact hk s hs
/-- one element -/
theorem Ent.b1A {α : Type} {E : Enc P α} {x : α} {T : Nat} {u : Value} {K : Value → WP} [hu : SliceTy P T α E] (hx : u = E.val x) (hsmall : E.size ≤ 16777216)
    (hk : ∀ s : SV, s.n = 1 → Ent (ab (@SlA P α E) s.val [x] :: Γ) (K s.val)) : Ent Γ (semT P inV (Instr.buildSlice T 1 #[(0, u)]) K) := by
  subst hx; exact Ent.bsA (l := [x]) rfl rfl (by simp) (by simpa using hsmall) hk
/-! ### cutting -/
theorem elem_of {T e : TypeId} (h : P.underlying T = some (.slice e)) : P.underlying T = some (.slice (P.elem T)) := by
  simp [Program.elem, h]
theorem Ent.hiA {α : Type} {E : Enc P α} {T : TypeId} {b : Option Addr} {n c m : Nat} {h : Int} {v : Value} {K : Value → WP} [hu : SliceTy P T α E] (hv : v = .slice b n c) (hm : h = (m : Int)) (h2 : m ≤ c) (hk : Ent Γ (K (.slice b m c))) : Ent Γ (pureT P inV (Instr.sliceAt T v none (some (.int .i64 h)) none) K) := by
  subst hv; subst hm
  have he := elem_of hu.hu
  have hee : P.elem T = E.ty := by simp [Program.elem, hu.hu]
  refine Ent.pure (fun w => ?_) hk
  rw [run_sliceAt_slice w T _ _ _ _ he, run_slice_h w T b n c he .i64 m (by omega) (by omega), hee, E.run_size w]
  simp only [Result.andThen_ok, sliced, inV, Int.toNat_natCast, Nat.sub_zero, Nat.zero_mul]
  congr 2
  cases b <;> simp [Addr.add]
/-- the slice with one element more behind it -/
def SV.full (s : SV) : Value := .slice s.b (s.n + 1) s.c
theorem slAddr_full (s : SV) (k : Nat) : slAddr s.full k = slAddr s.val k := by
  obtain ⟨b, n, c⟩ := s
  cases b <;> rfl
theorem SlAt.pre {α : Type} {E : Enc P α} {h : PH} {s : SV} {l : List α} {m : α} (hs : SlAt P E h s.full (l ++ [m])) : SlAt P E h s.val l := by
  obtain ⟨⟨b, cap, hv, hb, hm⟩, hr⟩ := hs
  simp only [SV.full, Value.slice.injEq] at hv
  obtain ⟨h1, h2, h3⟩ := hv
  rw [List.length_append] at h2 hm
  simp only [List.length_cons, List.length_nil] at h2 hm
  have hn : s.n = l.length := by omega
  refine ⟨⟨s.b, s.c, by simp [SV.val, hn], fun h0 => ?_, by omega⟩, fun i x hx j u hu => ?_⟩
  · have := hb (h1 ▸ h0); simp at this
  · have hlt := (List.getElem?_eq_some_iff.1 hx).1
    have := hr i x (by rw [List.getElem?_append_left hlt]; exact hx) j u hu
    rw [slAddr_full] at this
    exact this
instance Sl.full {α : Type} {E : Enc P α} {s : SV} {l : List α} {m : α} {Δ : List Asn} [h : OwnIn P s.full Γ α E (l ++ [m]) Δ] : Sl P Γ s.val α E l := ⟨fun p hp => ((Sl.own (h := h)).at_ p hp).pre⟩
/-- a slice's value from one place on -/
def cutLo (b : Option Addr) (n c l s : Nat) : Value := .slice (if c = l then b else b.map (·.add (l * s))) (n - l) (c - l)
end
theorem Ent.orF {Γ : List Asn} {M : (Bool → WP) → WP} {K : Bool → WP} {c : Bool} (hc : c = false) (h : Ent Γ (M K)) : Ent Γ (orB c M K) := by subst hc; exact h
theorem Ent.andT {Γ : List Asn} {M : (Bool → WP) → WP} {K : Bool → WP} {c : Bool} (hc : c = true) (h : Ent Γ (M K)) : Ent Γ (andB c M K) := by subst hc; exact h
end Go.Cab
