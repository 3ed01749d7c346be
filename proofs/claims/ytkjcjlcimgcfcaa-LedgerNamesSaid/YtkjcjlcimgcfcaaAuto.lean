/- What a word of a shallow program asks, found by instances: places, fields, slices, stores. -/
import Derived.Test.YtkjcjlcimgcfcaaRow
import Derived.Test.YtkjcjlcimgcfcaaMap
namespace Go.Cab
set_option linter.unusedSimpArgs false
set_option linter.unusedVariables false
set_option linter.unusedSectionVars false
open Go

/-- the Lean type of a Go type -/
class TyOf (P : Program) (T : TypeId) (α : outParam Type) (E : outParam (Enc P α)) : Prop where
  ty : E.ty = T
/-- a slice type, by its elements -/
class SliceTy (P : Program) (T : TypeId) (α : outParam Type) (E : outParam (Enc P α)) : Prop where
  hu : P.underlying T = some (.slice E.ty)
/-- a field at an offset -/
class FldOf (P : Program) (α : Type) (E : Enc P α) (o : Nat) (β : outParam Type) (F : outParam (Enc P β)) (get : outParam (α → β)) (put : outParam (α → β → α)) : Prop where
  get : ∀ x, ((E.cells x).drop o).take F.size = F.cells (get x)
  put : ∀ x y, E.cells (put x y) = wrote (E.cells x) o (F.cells y)
  fits : o + F.size ≤ E.size

theorem take_get? {l : List Value} {o n : Nat} {r : List Value} (h : (l.drop o).take n = r) {j : Nat} {u : Value} (hj : r[j]? = some u) : l[o + j]? = some u := by
  rw [← h] at hj
  have hlt : j < n := by
    rcases Nat.lt_or_ge j n with h | h
    · exact h
    · rw [List.getElem?_eq_none (by simp; omega)] at hj; cases hj
  rw [List.getElem?_take_of_lt hlt, List.getElem?_drop] at hj
  exact hj

variable [Milieu]
section
variable {P : Program} {Γ : List Asn}

/-- a variable's block among the resources -/
class VarIn (P : Program) (b : Nat) (Γ : List Asn) (α : outParam Type) (E : outParam (Enc P α)) (x : outParam α) (Δ : outParam (List Asn)) : Prop where
  has : Has Blk b Γ (.cells (E.cells x).toArray E.ty (0, 0)) Δ
instance (priority := high) VarIn.here {α : Type} {E : Enc P α} {b : Nat} {x : α} : VarIn P b (ab Blk b (.cells (E.cells x).toArray E.ty (0, 0)) :: Γ) α E x Γ := ⟨Has.here⟩
instance (priority := low) VarIn.next {α : Type} {E : Enc P α} {b : Nat} {x : α} {A : Asn} {Δ : List Asn} [h : VarIn P b Γ α E x Δ] : VarIn P b (A :: Γ) α E x (A :: Δ) := ⟨Has.next (hh := h.has)⟩

/-- what lies at a place and may be read -/
class Pl (P : Program) (Γ : List Asn) (a : Addr) (α : outParam Type) (E : outParam (Enc P α)) (x : outParam α) : Prop where
  rd : RdN Γ a (E.cells x)
/-- the same, kept as a hypothesis -/
class PlH (P : Program) (Γ : outParam (List Asn)) (a : Addr) (α : outParam Type) (E : outParam (Enc P α)) (x : outParam α) : Prop where
  rd : RdN Γ a (E.cells x)
instance Pl.var {α : Type} {E : Enc P α} {b : Nat} {x : α} {Δ : List Asn} [h : VarIn P b Γ α E x Δ] : Pl P Γ ⟨b, 0, none⟩ α E x :=
  ⟨RdN.blk (hh := h.has) (cs := E.cells x) (fun j v hv => by simpa using hv)⟩
instance Pl.fld {α β : Type} {E : Enc P α} {F : Enc P β} {a : Addr} {x : α} {o : Nat} {g : α → β} {p : α → β → α} [h : Pl P Γ a α E x] [hf : FldOf P α E o β F g p] : Pl P Γ (a.add o) β F (g x) :=
  ⟨fun j u hu => by rw [addr_add]; exact h.rd _ _ (take_get? (hf.get x) hu)⟩
instance (priority := low) Pl.mem {α : Type} {E : Enc P α} {a : Addr} {x : α} {Γ0 : List Asn} [h : PlH P Γ0 a α E x] [Suf Γ0 Γ] : Pl P Γ a α E x := ⟨RdN.suf h.rd⟩

theorem Pl.runs {T : TypeId} {a : Addr} {α : Type} {E : Enc P α} {x : α} (h : Pl P Γ a α E x) (hT : E.ty = T) : Runs P Γ (loadVar T a) (E.val x) := by
  subst hT; exact Runs.rdV (E := E) h.rd
section
variable {γ : Type} {f : γ → Value} {K : γ → WP} {T : TypeId} {a : Addr} {α : Type} {E : Enc P α} {x : α} {y : γ}
theorem Ent.ldA [h : Pl P Γ a α E x] (hT : E.ty = T) (hv : E.val x = f y) (hk : Ent Γ (K y)) : Ent Γ (semT P f (loadVar T a) K) := Ent.sem (by rw [← hv]; exact h.runs hT) hk
theorem Ent.rdA [h : Pl P Γ a α E x] (hT : E.ty = T) (hv : E.val x = f y) (hk : Ent Γ (K y)) : Ent Γ (readT P f (loadVar T a) K) := Ent.read (by rw [← hv]; exact h.runs hT) hk
theorem Ent.kpA {v : Value} {c : WP} [h : Pl P Γ a α E x] (hT : E.ty = T) (hv : v = E.val x) (hk : Ent Γ c) : Ent Γ (keepR P (loadVar T a) v c) := Ent.keep (by rw [hv]; exact h.runs hT) hk
theorem Ent.seA {K : Value → WP} [h : Pl P Γ a α E x] (hT : E.ty = T) (hk : Ent Γ (K (E.val x))) : Ent Γ (seeV P (loadVar T a) K) := Ent.see (h.runs hT) hk
end
theorem Ent.boxA {α : Type} {E : Enc P α} {T : TypeId} {v : Value} {x : α} {K : Addr → WP} [h : TyOf P T α E] (hv : v = E.val x) (hk : ∀ b, Ent (var P b x :: Γ) (K ⟨b, 0, none⟩)) : Ent Γ (semT P inA (Instr.box T v) K) := by
  obtain ⟨rfl⟩ := h; subst hv; exact Ent.boxV hk
theorem Ent.alA {α : Type} {E : Enc P α} {T : TypeId} {K : Addr → WP} [h : TyOf P T α E] (hk : ∀ b, Ent (var P b E.z :: Γ) (K ⟨b, 0, none⟩)) : Ent Γ (semT P inA (Instr.alloc T true (.tuple #[])) K) := by
  obtain ⟨rfl⟩ := h; exact Ent.allocV hk

/-! ### stores -/
/-- a place inside a variable -/
class PathIn (P : Program) (Γ : List Asn) (a : Addr) (b : outParam Nat) (α : outParam Type) (E : outParam (Enc P α)) (x : outParam α) (Δ : outParam (List Asn)) (β : outParam Type) (F : outParam (Enc P β)) (g : outParam β) (p : outParam (β → α)) : Prop where
  has : Has Blk b Γ (.cells (E.cells x).toArray E.ty (0, 0)) Δ
  at_ : ∃ o, a = ⟨b, o, none⟩ ∧ o + F.size ≤ E.size ∧ ((E.cells x).drop o).take F.size = F.cells g ∧ ∀ y, E.cells (p y) = wrote (E.cells x) o (F.cells y)
instance PathIn.var {α : Type} {E : Enc P α} {b : Nat} {x : α} {Δ : List Asn} [h : VarIn P b Γ α E x Δ] : PathIn P Γ ⟨b, 0, none⟩ b α E x Δ α E x (fun y => y) :=
  ⟨h.has, 0, rfl, by omega, by rw [List.drop_zero, List.take_of_length_le (by rw [E.len]; exact Nat.le_refl _)], fun y => by
    have := wrote_all (E.cells y) [] (E.cells x) [] (by rw [E.len, E.len])
    simp only [List.nil_append, List.append_nil, List.length_nil] at this
    exact this.symm⟩
theorem wrote_mid (pre mid post vs : List Value) (o : Nat) (ho : o + vs.length ≤ mid.length) : wrote (pre ++ (mid ++ post)) (pre.length + o) vs = pre ++ (wrote mid o vs ++ post) := by
  have h1 : mid = mid.take o ++ ((mid.drop o).take vs.length ++ mid.drop (o + vs.length)) := by
    rw [← List.drop_drop, List.take_append_drop, List.take_append_drop]
  have hl1 : (mid.take o).length = o := by rw [List.length_take]; omega
  have hl2 : ((mid.drop o).take vs.length).length = vs.length := by rw [List.length_take, List.length_drop]; omega
  generalize hA : mid.take o = A at h1 hl1
  generalize hB : (mid.drop o).take vs.length = B at h1 hl2
  generalize hC : mid.drop (o + vs.length) = C at h1
  rw [h1]
  have e1 := wrote_all vs (pre ++ A) B (C ++ post) hl2
  have e2 := wrote_all vs A B C hl2
  rw [hl1] at e2
  rw [e2]
  simp only [List.length_append, hl1, List.append_assoc] at e1 ⊢
  exact e1
instance PathIn.fld {α β δ : Type} {E : Enc P α} {F : Enc P β} {H : Enc P δ} {a : Addr} {b o : Nat} {x : α} {Δ : List Asn} {g : β} {p : β → α} {g' : β → δ} {p' : β → δ → β} [h : PathIn P Γ a b α E x Δ β F g p] [hf : FldOf P β F o δ H g' p'] : PathIn P Γ (a.add o) b α E x Δ δ H (g' g) (fun y => p (p' g y)) := by
  obtain ⟨hh, o1, ha, hb, hc, hd⟩ := h
  refine ⟨hh, o1 + o, by rw [ha, add_mk], by have := hf.fits; omega, ?_, fun y => ?_⟩
  · rw [← hf.get, ← hc, List.drop_take, List.drop_drop, List.take_take, Nat.min_eq_left (by have := hf.fits; omega)]
  · rw [hd, hf.put]
    have hsplit : E.cells x = (E.cells x).take o1 ++ (F.cells g ++ (E.cells x).drop (o1 + F.size)) := by
      rw [← hc, ← List.drop_drop, List.take_append_drop, List.take_append_drop]
    have hl1 : ((E.cells x).take o1).length = o1 := by rw [List.length_take, E.len]; omega
    generalize hA : (E.cells x).take o1 = A at hsplit hl1
    generalize hB : (E.cells x).drop (o1 + F.size) = B at hsplit
    rw [hsplit]
    have hw : (wrote (F.cells g) o (H.cells y)).length = (F.cells g).length := by rw [← hf.put, F.len, F.len]
    have e1 := wrote_all (wrote (F.cells g) o (H.cells y)) A (F.cells g) B hw.symm
    have e2 := wrote_mid A (F.cells g) B (H.cells y) o (by rw [F.len, H.len]; exact hf.fits)
    rw [hl1] at e1 e2
    rw [e1, e2]
theorem Ent.stA {α β : Type} {E : Enc P α} {F : Enc P β} {T : TypeId} {a : Addr} {b : Nat} {x : α} {Δ : List Asn} {g : β} {p : β → α} {v : Value} {y : β} {c : WP} [h : PathIn P Γ a b α E x Δ β F g p] (hT : F.ty = T) (hv : v = F.val y) (hk : Ent (var P b (p y) :: Δ) c) : Ent Γ (semU P (storeVar T a v) c) := by
  subst hT; subst hv
  obtain ⟨hh, o, rfl, hb, hc, hd⟩ := h
  refine Ent.store (n := F.size) hh (by rw [F.vcells]; simp [F.len]) (by rw [E.len]; exact hb) (by rw [F.vcells]; exact F.one y) ?_
  rw [F.vcells]
  show Ent (ab Blk b (.cells (wrote (E.cells x) o (F.cells y)).toArray _ (0, 0)) :: Δ) c
  rw [← hd]; exact hk

/-! ### slices -/
/-- what is known of a slice's value where the heap is this one -/
structure SlAt (P : Program) {α : Type} (E : Enc P α) (h : PH) (v : Value) (l : List α) : Prop where
  shape : ∃ b cap, v = .slice b l.length cap ∧ (b = none → l = []) ∧ l.length ≤ maxLen
  rd : ∀ (i : Nat) (x : α), l[i]? = some x → ∀ (j : Nat) (u : Value), (E.cells x)[j]? = some u → cellP h ((slAddr v (i * E.size)).add j) = some u
class Sl (P : Program) (Γ : List Asn) (v : Value) (α : outParam Type) (E : outParam (Enc P α)) (l : outParam (List α)) : Prop where
  at_ : ∀ h, Sep Γ h → SlAt P E h v l
class SlH (P : Program) (Γ : outParam (List Asn)) (v : Value) (α : outParam Type) (E : outParam (Enc P α)) (l : outParam (List α)) : Prop where
  at_ : ∀ h, Sep Γ h → SlAt P E h v l
/-- an owned slice among the resources -/
class OwnIn (P : Program) (v : Value) (Γ : List Asn) (α : outParam Type) (E : outParam (Enc P α)) (l : outParam (List α)) (Δ : outParam (List Asn)) : Prop where
  has : Has (@SlA P α E) v Γ l Δ
instance (priority := high) OwnIn.here {α : Type} {E : Enc P α} {v : Value} {l : List α} : OwnIn P v (ab (@SlA P α E) v l :: Γ) α E l Γ := ⟨Has.here⟩
instance (priority := low) OwnIn.next {α : Type} {E : Enc P α} {v : Value} {l : List α} {A : Asn} {Δ : List Asn} [h : OwnIn P v Γ α E l Δ] : OwnIn P v (A :: Γ) α E l (A :: Δ) := ⟨Has.next (hh := h.has)⟩
theorem SlAt.mono {α : Type} {E : Enc P α} {h h' : PH} {v : Value} {l : List α} (hl : h.le h') (hs : SlAt P E h v l) : SlAt P E h' v l :=
  ⟨hs.shape, fun i x hx j u hu => cellP_le hl (hs.rd i x hx j u hu)⟩
instance Sl.own {α : Type} {E : Enc P α} {v : Value} {l : List α} {Δ : List Asn} [h : OwnIn P v Γ α E l Δ] : Sl P Γ v α E l := ⟨fun p hp => by
  obtain ⟨x, y, hd, rfl, hx, hy⟩ := h.has.out p hp
  exact SlAt.mono (PH.le_left x y) ⟨SlA.shape hx, fun i x hi j u hj => SlA.rdA hx hi hj⟩⟩
instance (priority := low) Sl.mem {α : Type} {E : Enc P α} {v : Value} {l : List α} {Γ0 : List Asn} [h : SlH P Γ0 v α E l] [hs : Suf Γ0 Γ] : Sl P Γ v α E l := ⟨fun p hp => by
  obtain ⟨h0, hl, h0'⟩ := hs.out p hp
  exact SlAt.mono hl (h.at_ h0 h0')⟩
theorem Sl.nil {α : Type} {E : Enc P α} : Sl P Γ (.slice none 0 0) α E [] := ⟨fun p hp => ⟨⟨none, 0, rfl, fun _ => rfl, Nat.zero_le _⟩, fun i x h => by simp at h⟩⟩
theorem SlH.of {α : Type} {E : Enc P α} {v : Value} {l : List α} (h : SlR P Γ v l) : SlH P Γ v α E l := ⟨fun p hp => ⟨h.shape, fun i x hx j u hu => h.rd i x hx j u hu p hp⟩⟩
theorem Ent.slrA {α : Type} {E : Enc P α} {v : Value} {l : List α} {c : WP} [h : Sl P Γ v α E l] (hk : SlR P Γ v l → Ent Γ c) : Ent Γ c := fun w hs => by
  obtain ⟨p, hl, hp⟩ := hs.1
  exact hk ⟨(h.at_ p hp).shape, fun i x hx j u hu q hq => (h.at_ q hq).rd i x hx j u hu⟩ w hs
theorem Ent.slhA {α : Type} {E : Enc P α} {v : Value} {l : List α} {c : WP} [h : Sl P Γ v α E l] (hk : SlH P Γ v α E l → Ent Γ c) : Ent Γ c := hk ⟨h.at_⟩
theorem Ent.lenA {α : Type} {E : Enc P α} {v : Value} {l : List α} {T U : TypeId} {K : Int → WP} [hs : Sl P Γ v α E l] [hu : SliceTy P T α E] (hk : Ent Γ (K l.length)) : Ent Γ (pureT P (inI .i64) (Builtin.len_ #[T] U #[v]) K) :=
  Ent.slrA (v := v) fun hr => Ent.len hr hu.hu hk
theorem Ent.maxA {α : Type} {E : Enc P α} {l : List α} {c : WP} (v : Value) [hs : Sl P Γ v α E l] (hk : l.length ≤ maxLen → Ent Γ c) : Ent Γ c :=
  Ent.slrA (E := E) (v := v) fun hr => hk hr.max
/-- an element's place -/
theorem Ent.ixA {α : Type} {E : Enc P α} {v : Value} {l : List α} {T : TypeId} {i : Int} {K : Addr → WP} [hs : Sl P Γ v α E l] [hu : SliceTy P T α E] (h0 : 0 ≤ i) (h1 : i < l.length) (hk : ∀ x, l[i.toNat]? = some x → PlH P Γ (slAddr v (i.toNat * E.size)) α E x → Ent Γ (K (slAddr v (i.toNat * E.size)))) : Ent Γ (pureT P inA (Instr.indexAt T v (.int .i64 i)) K) :=
  Ent.slrA (v := v) fun hr => Ent.index hr hu.hu h0 h1 (hk l[i.toNat] (List.getElem?_eq_getElem (by omega)) ⟨hr.rd _ _ (List.getElem?_eq_getElem (by omega))⟩)
theorem Ent.ixN {α : Type} {E : Enc P α} {v : Value} {l : List α} {T : TypeId} {i : Int} {n : Nat} {x : α} {K : Addr → WP} [hs : Sl P Γ v α E l] [hu : SliceTy P T α E] (hx : l[n]? = some x) (hi : i = n) (hk : PlH P Γ (slAddr v (n * E.size)) α E x → Ent Γ (K (slAddr v (n * E.size)))) : Ent Γ (pureT P inA (Instr.indexAt T v (.int .i64 i)) K) := by
  subst hi
  refine Ent.slrA (v := v) fun hr => Ent.indexN hr hu.hu hx fun hrd => hk ⟨hrd⟩
/-- an element is written over -/
theorem Ent.stE {α : Type} {E : Enc P α} {v u : Value} {l : List α} {Δ : List Asn} {T : TypeId} {i : Nat} {x : α} {c : WP} [h : OwnIn P v Γ α E l Δ] (hT : E.ty = T) (hi : i < l.length) (hv : u = E.val x) (hk : Ent (ab (@SlA P α E) v (l.set i x) :: Δ) c) : Ent Γ (semU P (storeVar T (slAddr v (i * E.size)) u) c) := by
  subst hT; subst hv; exact Ent.storeAt h.has hi hk

/-! ### what there is gives what is asked -/
def Subs (Γ Δ : List Asn) : Prop := ∀ h, Sep Γ h → ∃ h0, h0.le h ∧ Sep Δ h0
theorem Subs.refl : Subs Γ Γ := fun h x => ⟨h, PH.le_refl h, x⟩
theorem Subs.tail {Δ : List Asn} [hs : Suf Δ Γ] : Subs Γ Δ := hs.out
theorem Subs.nil : Subs Γ [] := fun h _ => ⟨h, PH.le_refl h, trivial⟩
theorem Subs.cons {κ ν : Type} {R : κ → ν → Asn} {k : κ} {v : ν} {Γ' Δ : List Asn} (hh : Has R k Γ v Γ') (hs : Subs Γ' Δ) : Subs Γ (ab R k v :: Δ) := fun h x => by
  obtain ⟨a, b, hd, rfl, ha, hb⟩ := hh.out h x
  obtain ⟨h0, hl, h0'⟩ := hs b hb
  refine ⟨PH.join a h0, ?_, a, h0, ?_, rfl, ha, h0'⟩
  · intro i o hi
    simp only [PH.join] at hi ⊢
    cases hai : a i with
    | some o' => rw [hai] at hi; simpa using hi
    | none => rw [hai] at hi; simp at hi; simp [hl i o hi]
  · intro i
    rcases hd i with h | h
    · exact .inl h
    · right
      cases h0i : h0 i with
      | none => rfl
      | some o => rw [hl i o h0i] at h; cases h
theorem Subs.trans {Δ Θ : List Asn} (h1 : Subs Γ Δ) (h2 : Subs Δ Θ) : Subs Γ Θ := fun h x => by
  obtain ⟨h0, hl, h0'⟩ := h1 h x
  obtain ⟨h3, hl3, h3'⟩ := h2 h0 h0'
  exact ⟨h3, PH.le_trans hl3 hl, h3'⟩
theorem Ent.to {Δ : List Asn} {c : WP} (h : Ent Δ c) (hs : Subs Γ Δ) : Ent Γ c := fun w hw => by
  obtain ⟨⟨p, hl, hp⟩, he⟩ := hw
  obtain ⟨h0, hl0, h0'⟩ := hs p hp
  exact h w ⟨⟨h0, PH.le_trans hl0 hl, h0'⟩, he⟩
theorem Ent.retA {Δ : List Asn} {β : Type} {f : β → Value} {x : β} {v : Value} {K : β → WP} (h : Ent Δ (K x)) (hv : v = f x) (hs : Subs Γ Δ) : Ent Γ (fun w => ∃ y, v = f y ∧ K y w) := by
  subst hv; exact Ent.ret (h.to hs)
/-- loops: what stands at each round, whichever way it is laid -/
theorem Ent.loopA {σ γ : Type} {body : (σ → WP) → σ → WP} {s : σ} (Inv : γ → List Asn) (pre : γ → σ → Prop) (μ : γ → Nat) (g : γ) (h0 : pre g s) (hs0 : Subs Γ (Inv g))
    (hb : ∀ (g : γ) (s : σ) (kc : σ → WP), pre g s → (∀ g' s', pre g' s' → μ g' < μ g → ∀ Γ', Subs Γ' (Inv g') → Ent Γ' (kc s')) → Ent (Inv g) (body kc s)) : Ent Γ (loopH body s) :=
  Ent.to (Ent.loop (fun g _ => Inv g) pre (fun g _ => μ g) g h0 (fun _ h => h) fun g s kc hp hk => hb g s kc hp fun g' s' hp' hl Γ' hs => (hk g' s' hp' hl).to hs) hs0
/-- ways that meet: what each may bring -/
theorem Ent.joinA {β γ : Type} {rest : β → WP} {body : (β → WP) → WP} (Inv : γ → List Asn) (pre : γ → β → Prop) (hb : ∀ k : β → WP, (∀ g x, pre g x → ∀ Γ', Subs Γ' (Inv g) → Ent Γ' (k x)) → Ent Γ (body k)) (hr : ∀ g x, pre g x → Ent (Inv g) (rest x)) : Ent Γ (joinH rest body) :=
  hb rest fun g x hp Γ' hs => (hr g x hp).to hs
/-- each way goes on by itself -/
theorem Ent.joinD {β : Type} {rest : β → WP} {body : (β → WP) → WP} (h : Ent Γ (body rest)) : Ent Γ (joinH rest body) := h
theorem Ent.orD {c : Bool} {M : (Bool → WP) → WP} {K : Bool → WP} (h1 : c = true → Ent Γ (K true)) (h2 : c = false → Ent Γ (M K)) : Ent Γ (orB c M K) := by
  cases c
  · exact h2 rfl
  · exact h1 rfl
theorem Ent.andD {c : Bool} {M : (Bool → WP) → WP} {K : Bool → WP} (h1 : c = true → Ent Γ (M K)) (h2 : c = false → Ent Γ (K false)) : Ent Γ (andB c M K) := by
  cases c
  · exact h2 rfl
  · exact h1 rfl
/-- a condition that is d, by whichever way it is reckoned -/
theorem Ent.joinB {rest : Bool → WP} {body : (Bool → WP) → WP} (d : Bool) (hb : ∀ k : Bool → WP, (∀ c, c = d → Ent Γ (k c)) → Ent Γ (body k)) (hr : Ent Γ (rest d)) : Ent Γ (joinH rest body) :=
  hb rest fun c hc => hc ▸ hr
theorem Ent.exA {γ : Type} {f : γ → Value} {x : γ} {l : List Value} {i : Nat} {K : γ → WP} (hx : nth l i = some (f x)) (hk : Ent Γ (K x)) : Ent Γ (pureT P f (Instr.extract (.tuple l.toArray) i) K) :=
  Ent.pure (fun w => by rw [nth_eq] at hx; simp [Instr.extract, hx]) hk
end
end Go.Cab
