/- A small separation logic over blocks: what is owned, what is read, and the rules of the shallow programs' words. -/
import Derived.Test.YtkjcjlcimgcfcaaCore
import Derived.Deep.MidRow
namespace Go.Cab
set_option linter.unusedSimpArgs false
set_option linter.unusedVariables false
set_option linter.unusedSectionVars false
open Go

/-! ### pieces of a heap -/
abbrev PH := Nat → Option Obj
def PH.disj (a b : PH) : Prop := ∀ i, a i = none ∨ b i = none
def PH.join (a b : PH) : PH := fun i => (a i).or (b i)
def PH.le (a b : PH) : Prop := ∀ i o, a i = some o → b i = some o
def PH.of (w : World) : PH := fun i => w.heap[i]?
abbrev Asn := PH → Prop
def star (A B : Asn) : Asn := fun h => ∃ a b, PH.disj a b ∧ h = PH.join a b ∧ A a ∧ B b
def Sep : List Asn → Asn
  | [] => fun _ => True
  | A :: Γ => star A (Sep Γ)
/-- what a world bears -/
def SatH (Γ : List Asn) (w : World) : Prop := ∃ h, PH.le h (PH.of w) ∧ Sep Γ h
/-- what no program here turns: the system, what was printed -/
class Milieu where
  os : Os
  out : Array (Nat × ByteArray)
def Ev [Milieu] (w : World) : Prop := w.os = Milieu.os ∧ w.output = Milieu.out
theorem Ev.of [Milieu] {w w' : World} (h : Ev w) (e : w'.os = w.os ∧ w'.output = w.output) : Ev w' := ⟨e.1.trans h.1, e.2.trans h.2⟩
def Sat [Milieu] (Γ : List Asn) (w : World) : Prop := SatH Γ w ∧ Ev w
/-- where Γ is borne, the program does as it asks -/
def Ent [Milieu] (Γ : List Asn) (c : WP) : Prop := ∀ w, Sat Γ w → c w

/-- a resource: a predicate's name, a key, what is said of it -/
def ab {κ ν : Type} (R : κ → ν → Asn) (k : κ) (v : ν) : Asn := R k v

theorem PH.le_refl (a : PH) : a.le a := fun _ _ h => h
theorem PH.le_trans {a b c : PH} (h : a.le b) (h' : b.le c) : a.le c := fun i o hi => h' i o (h i o hi)
theorem PH.le_left (a b : PH) : a.le (PH.join a b) := fun i o h => by simp [PH.join, h]
theorem PH.le_right {a b : PH} (hd : PH.disj a b) : b.le (PH.join a b) := fun i o h => by
  rcases hd i with ha | hb
  · simp [PH.join, ha, h]
  · rw [hb] at h; cases h
theorem PH.disj_symm {a b : PH} (h : PH.disj a b) : PH.disj b a := fun i => (h i).symm
theorem PH.join_comm {a b : PH} (h : PH.disj a b) : PH.join a b = PH.join b a := by
  funext i
  rcases h i with ha | hb
  · simp [PH.join, ha]
  · simp [PH.join, hb]
theorem PH.join_assoc (a b c : PH) : PH.join (PH.join a b) c = PH.join a (PH.join b c) := by
  funext i; simp [PH.join, Option.or_assoc]
theorem PH.disj_join {a b c : PH} : PH.disj (PH.join a b) c ↔ PH.disj a c ∧ PH.disj b c := by
  constructor
  · intro h
    refine ⟨fun i => ?_, fun i => ?_⟩ <;> rcases h i with h | h
    · simp [PH.join] at h; exact .inl h.1
    · exact .inr h
    · simp [PH.join] at h; exact .inl h.2
    · exact .inr h
  · rintro ⟨h1, h2⟩ i
    rcases h1 i with h | h
    · rcases h2 i with h' | h'
      · exact .inl (by simp [PH.join, h, h'])
      · exact .inr h'
    · exact .inr h

theorem star_comm {A B : Asn} {h : PH} (hs : star A B h) : star B A h := by
  obtain ⟨a, b, hd, rfl, ha, hb⟩ := hs
  exact ⟨b, a, PH.disj_symm hd, PH.join_comm hd, hb, ha⟩
theorem star_assoc {A B C : Asn} {h : PH} (hs : star (star A B) C h) : star A (star B C) h := by
  obtain ⟨_, c, hd, rfl, ⟨a, b, hab, rfl, ha, hb⟩, hc⟩ := hs
  obtain ⟨h1, h2⟩ := PH.disj_join.1 hd
  exact ⟨a, PH.join b c, PH.disj_symm (PH.disj_join.2 ⟨PH.disj_symm hab, PH.disj_symm h1⟩), PH.join_assoc a b c, ha, b, c, h2, rfl, hb, hc⟩
theorem star_left_comm {A B C : Asn} {h : PH} (hs : star A (star B C) h) : star B (star A C) h := by
  obtain ⟨a, _, hd, rfl, ha, b, c, hbc, rfl, hb, hc⟩ := hs
  have hd' := PH.disj_symm hd
  obtain ⟨h1, h2⟩ := PH.disj_join.1 hd'
  refine ⟨b, PH.join a c, PH.disj_symm (PH.disj_join.2 ⟨PH.disj_symm h1, PH.disj_symm hbc⟩), ?_, hb, a, c, PH.disj_symm h2, rfl, ha, hc⟩
  rw [← PH.join_assoc, ← PH.join_assoc, PH.join_comm (PH.disj_symm h1)]
theorem star_mono {A A' B B' : Asn} {h : PH} (ha : ∀ h, A h → A' h) (hb : ∀ h, B h → B' h) (hs : star A B h) : star A' B' h := by
  obtain ⟨a, b, hd, rfl, h1, h2⟩ := hs
  exact ⟨a, b, hd, rfl, ha _ h1, hb _ h2⟩
theorem SatH.mono {Γ Δ : List Asn} {w : World} (h : ∀ h, Sep Γ h → Sep Δ h) (hs : SatH Γ w) : SatH Δ w := by
  obtain ⟨p, hl, hp⟩ := hs
  exact ⟨p, hl, h p hp⟩
/-- what is not needed is dropped -/
theorem SatH.drop {A : Asn} {Γ : List Asn} {w : World} (hs : SatH (A :: Γ) w) : SatH Γ w := by
  obtain ⟨p, hl, a, b, hd, rfl, _, hb⟩ := hs
  exact ⟨b, PH.le_trans (PH.le_right hd) hl, hb⟩
theorem SatH.heap {Γ : List Asn} {w w' : World} (h : w'.heap = w.heap) (hs : SatH Γ w) : SatH Γ w' := by
  obtain ⟨p, hl, hp⟩ := hs
  exact ⟨p, by unfold PH.of at *; rw [h]; exact hl, hp⟩

/-! ### finding a resource -/
class Has {κ ν : Type} (R : κ → ν → Asn) (k : κ) (Γ : List Asn) (v : outParam ν) (Δ : outParam (List Asn)) : Prop where
  out : ∀ h, Sep Γ h → Sep (ab R k v :: Δ) h
  back : ∀ h, Sep (ab R k v :: Δ) h → Sep Γ h
instance (priority := high) Has.here {κ ν : Type} {R : κ → ν → Asn} {k : κ} {v : ν} {Γ : List Asn} : Has R k (ab R k v :: Γ) v Γ := ⟨fun _ h => h, fun _ h => h⟩
instance (priority := low) Has.next {κ ν : Type} {R : κ → ν → Asn} {k : κ} {v : ν} {A : Asn} {Γ Δ : List Asn} [hh : Has R k Γ v Δ] : Has R k (A :: Γ) v (A :: Δ) :=
  ⟨fun _ h => star_left_comm (star_mono (fun _ x => x) hh.out h), fun _ h => star_mono (fun _ x => x) hh.back (star_left_comm h)⟩
/-- a tail that is still there -/
class Suf (Γ0 Γ : List Asn) : Prop where
  out : ∀ h, Sep Γ h → ∃ h0, h0.le h ∧ Sep Γ0 h0
instance (priority := high) Suf.refl {Γ : List Asn} : Suf Γ Γ := ⟨fun h x => ⟨h, PH.le_refl h, x⟩⟩
instance (priority := low) Suf.cons {Γ0 Γ : List Asn} {A : Asn} [hs : Suf Γ0 Γ] : Suf Γ0 (A :: Γ) := ⟨fun h x => by
  obtain ⟨a, b, hd, rfl, _, hb⟩ := x
  obtain ⟨h0, hl, h0'⟩ := hs.out b hb
  exact ⟨h0, PH.le_trans hl (PH.le_right hd), h0'⟩⟩

variable [Milieu]
theorem Sat.mono {Γ Δ : List Asn} {w : World} (h : ∀ h, Sep Γ h → Sep Δ h) (hs : Sat Γ w) : Sat Δ w := ⟨hs.1.mono h, hs.2⟩
theorem Sat.drop {A : Asn} {Γ : List Asn} {w : World} (hs : Sat (A :: Γ) w) : Sat Γ w := ⟨hs.1.drop, hs.2⟩
theorem Ent.take {κ ν : Type} {R : κ → ν → Asn} {k : κ} {Γ Δ : List Asn} {v : ν} {c : WP} (hh : Has R k Γ v Δ) (h : Ent (ab R k v :: Δ) c) : Ent Γ c :=
  fun w hs => h w (hs.mono hh.out)
theorem Ent.untake {κ ν : Type} {R : κ → ν → Asn} {k : κ} {Γ Δ : List Asn} {v : ν} {c : WP} (hh : Has R k Γ v Δ) (h : Ent Γ c) : Ent (ab R k v :: Δ) c :=
  fun w hs => h w (hs.mono hh.back)
theorem Ent.drop {A : Asn} {Γ : List Asn} {c : WP} (h : Ent Γ c) : Ent (A :: Γ) c := fun w hs => h w hs.drop
theorem Ent.conv {Γ Δ : List Asn} {c : WP} (hc : ∀ h, Sep Γ h → Sep Δ h) (h : Ent Δ c) : Ent Γ c := fun w hs => h w (hs.mono hc)
theorem Ent.swap {A B : Asn} {Γ : List Asn} {c : WP} (h : Ent (B :: A :: Γ) c) : Ent (A :: B :: Γ) c := fun w hs => h w (Sat.mono (Γ := A :: B :: Γ) (Δ := B :: A :: Γ) (fun _ hh => star_left_comm (A := A) (B := B) (C := Sep Γ) hh) hs)

/-! ### blocks -/
/-- block b is just this -/
def Blk (b : Nat) (o : Obj) : Asn := fun h => h b = some o
abbrev blk (b : Nat) (cs : List Value) (T : TypeId) : Asn := ab Blk b (.cells cs.toArray T (0, 0))

def cellP (h : PH) (a : Addr) : Option Value :=
  match h a.block with
  | some (.cells c _ _) => if a.spot.isSome then none else c[a.off]?
  | _ => none
theorem cellP_le {h h' : PH} (hl : h.le h') {a : Addr} {v : Value} (hc : cellP h a = some v) : cellP h' a = some v := by
  unfold cellP at *
  split at hc
  · rename_i c t f he
    rw [hl _ _ he]; exact hc
  · cases hc
theorem cellP_of (w : World) (a : Addr) : cellP (PH.of w) a = w.cell? a := rfl
/-- a cell that may be read -/
def Rd (Γ : List Asn) (a : Addr) (v : Value) : Prop := ∀ h, Sep Γ h → cellP h a = some v
def RdN (Γ : List Asn) (a : Addr) (cs : List Value) : Prop := ∀ j v, cs[j]? = some v → Rd Γ (a.add j) v
theorem Rd.at_ {Γ : List Asn} {a : Addr} {v : Value} (hr : Rd Γ a v) {w : World} (hs : SatH Γ w) : w.cell? a = some v := by
  obtain ⟨p, hl, hp⟩ := hs
  rw [← cellP_of]
  exact cellP_le hl (hr p hp)
theorem Rd.suf {Γ0 Γ : List Asn} [hs : Suf Γ0 Γ] {a : Addr} {v : Value} (hr : Rd Γ0 a v) : Rd Γ a v := fun h hh => by
  obtain ⟨h0, hl, h0'⟩ := hs.out h hh
  exact cellP_le hl (hr h0 h0')
theorem RdN.suf {Γ0 Γ : List Asn} [hs : Suf Γ0 Γ] {a : Addr} {cs : List Value} (hr : RdN Γ0 a cs) : RdN Γ a cs := fun j v h => (hr j v h).suf
theorem Has.rd {κ ν : Type} {R : κ → ν → Asn} {k : κ} {Γ Δ : List Asn} {v : ν} (hh : Has R k Γ v Δ) {a : Addr} {u : Value} (h : ∀ h, R k v h → cellP h a = some u) : Rd Γ a u := fun p hp => by
  obtain ⟨x, y, hd, rfl, hx, _⟩ := hh.out p hp
  exact cellP_le (PH.le_left x y) (h x hx)
theorem Rd.blk {b : Nat} {Γ Δ : List Asn} {c : Array Value} {T : TypeId} {fz : Nat × Nat} [hh : Has Blk b Γ (.cells c T fz) Δ] {i : Nat} {v : Value} (hc : c[i]? = some v) : Rd Γ ⟨b, i, none⟩ v :=
  hh.rd fun h hb => by
    have hb' : h b = some (.cells c T fz) := hb
    simp [cellP, hb', hc]
omit [Milieu] in
theorem add_mk (b o n : Nat) : (⟨b, o, none⟩ : Addr).add n = ⟨b, o + n, none⟩ := Addr.add_mid b o n
theorem RdN.blk {b o : Nat} {Γ Δ : List Asn} {c : Array Value} {T : TypeId} {fz : Nat × Nat} [hh : Has Blk b Γ (.cells c T fz) Δ] {cs : List Value} (hc : ∀ j v, cs[j]? = some v → c[o + j]? = some v) : RdN Γ ⟨b, o, none⟩ cs := fun j v hv => by
  rw [add_mk]; exact Rd.blk (hc j v hv)

/-! ### the words of the shallow programs -/
/-- a word with a typed result -/
def semT {α : Type} (P : Program) (f : α → Value) (m : Sem Value) (K : α → WP) : WP := fun w => ∃ x w', m.run P w = .ok (f x) w' ∧ K x w'
def readT {α : Type} (P : Program) (f : α → Value) (m : Sem Value) (K : α → WP) : WP := fun w => ∃ x, Stable P m (f x) w ∧ K x w
def pureT {α : Type} (P : Program) (f : α → Value) (m : Sem Value) (K : α → WP) : WP := fun w => ∃ x, (∀ w2, m.run P w2 = .ok (f x) w2) ∧ K x w
def callT {α : Type} (P : Program) (f : α → Value) (g : FuncId) (args : Array Value) (K : α → WP) : WP := callH P g args fun v w => ∃ x, v = f x ∧ K x w
abbrev inI (k : IntKind) : Int → Value := fun n => .int k n
abbrev inB : Bool → Value := fun b => .bool b
abbrev inA : Addr → Value := fun a => .pointer (some a)
abbrev inV : Value → Value := fun v => v
section
variable (P : Program)
theorem toT_V (m : Sem Value) (K : Value → WP) : semV P m K = semT P inV m K := rfl
theorem toT_I (k : IntKind) (m : Sem Value) (K : Int → WP) : semI P k m K = semT P (inI k) m K := by
  funext w; apply propext; constructor
  · rintro ⟨v, w', hr, n, rfl, h⟩; exact ⟨n, w', hr, h⟩
  · rintro ⟨n, w', hr, h⟩; exact ⟨_, w', hr, n, rfl, h⟩
theorem toT_B (m : Sem Value) (K : Bool → WP) : semB P m K = semT P inB m K := by
  funext w; apply propext; constructor
  · rintro ⟨v, w', hr, n, rfl, h⟩; exact ⟨n, w', hr, h⟩
  · rintro ⟨n, w', hr, h⟩; exact ⟨_, w', hr, n, rfl, h⟩
theorem toT_A (m : Sem Value) (K : Addr → WP) : semA P m K = semT P inA m K := by
  funext w; apply propext; constructor
  · rintro ⟨v, w', hr, n, rfl, h⟩; exact ⟨n, w', hr, h⟩
  · rintro ⟨n, w', hr, h⟩; exact ⟨_, w', hr, n, rfl, h⟩
theorem toT_rV (m : Sem Value) (K : Value → WP) : readV P m K = readT P inV m K := rfl
theorem toT_rI (k : IntKind) (m : Sem Value) (K : Int → WP) : readI P k m K = readT P (inI k) m K := by
  funext w; apply propext; constructor
  · rintro ⟨v, hr, n, rfl, h⟩; exact ⟨n, hr, h⟩
  · rintro ⟨n, hr, h⟩; exact ⟨_, hr, n, rfl, h⟩
theorem toT_rB (m : Sem Value) (K : Bool → WP) : readB P m K = readT P inB m K := by
  funext w; apply propext; constructor
  · rintro ⟨v, hr, n, rfl, h⟩; exact ⟨n, hr, h⟩
  · rintro ⟨n, hr, h⟩; exact ⟨_, hr, n, rfl, h⟩
theorem toT_pV (m : Sem Value) (K : Value → WP) : pureV P m K = pureT P inV m K := rfl
theorem toT_pI (k : IntKind) (m : Sem Value) (K : Int → WP) : pureI P k m K = pureT P (inI k) m K := by
  funext w; apply propext; constructor
  · rintro ⟨v, hr, n, rfl, h⟩; exact ⟨n, hr, h⟩
  · rintro ⟨n, hr, h⟩; exact ⟨_, hr, n, rfl, h⟩
theorem toT_pB (m : Sem Value) (K : Bool → WP) : pureB P m K = pureT P inB m K := by
  funext w; apply propext; constructor
  · rintro ⟨v, hr, n, rfl, h⟩; exact ⟨n, hr, h⟩
  · rintro ⟨n, hr, h⟩; exact ⟨_, hr, n, rfl, h⟩
theorem toT_pA (m : Sem Value) (K : Addr → WP) : pureA P m K = pureT P inA m K := by
  funext w; apply propext; constructor
  · rintro ⟨v, hr, n, rfl, h⟩; exact ⟨n, hr, h⟩
  · rintro ⟨n, hr, h⟩; exact ⟨_, hr, n, rfl, h⟩
theorem toT_cI (g : FuncId) (args : Array Value) (k : IntKind) (K : Int → WP) : callI P g args k K = callT P (inI k) g args K := rfl
theorem toT_cB (g : FuncId) (args : Array Value) (K : Bool → WP) : callB P g args K = callT P inB g args K := rfl
end

section
variable {P : Program} {α : Type} {f : α → Value} {x : α} {Γ : List Asn} {m : Sem Value} {K : α → WP}
/-- what is read without being turned -/
def Runs (P : Program) (Γ : List Asn) (m : Sem Value) (v : Value) : Prop := ∀ w, SatH Γ w → m.run P w = .ok v w
theorem Ent.sem (hr : Runs P Γ m (f x)) (h : Ent Γ (K x)) : Ent Γ (semT P f m K) := fun w hs => ⟨x, w, hr w hs.1, h w hs⟩
theorem Ent.read (hr : Runs P Γ m (f x)) (h : Ent Γ (K x)) : Ent Γ (readT P f m K) := fun w hs => ⟨x, fun w2 h2 => hr w2 (hs.1.heap h2), h w hs⟩
theorem Ent.pure (hr : ∀ w, m.run P w = .ok (f x) w) (h : Ent Γ (K x)) : Ent Γ (pureT P f m K) := fun w hs => ⟨x, hr, h w hs⟩
theorem Ent.keep {v : Value} {c : WP} (hr : Runs P Γ m v) (h : Ent Γ c) : Ent Γ (keepR P m v c) := fun w hs => ⟨fun w2 h2 => hr w2 (hs.1.heap h2), h w hs⟩
theorem Ent.draw {c : WP} (h : Ent Γ c) : Ent Γ (drawH c) := fun w hs => h _ ⟨hs.1.heap rfl, hs.2⟩
theorem Ent.see {v : Value} {K : Value → WP} (hr : Runs P Γ m v) (h : Ent Γ (K v)) : Ent Γ (seeV P m K) := fun w hs => ⟨v, hr w hs.1, h w hs⟩
theorem Ent.asP {a : Addr} {v : Value} {K : Addr → WP} (hv : v = .pointer (some a)) (h : Ent Γ (K a)) : Ent Γ (asP v K) := fun w hs => ⟨a, hv, h w hs⟩
theorem Ent.both {A B : WP} (hA : Ent Γ A) (hB : Ent Γ B) : Ent Γ (bothH A B) := fun w hs => ⟨hA w hs, hB w hs⟩
theorem Ent.ite {c : Bool} {A B : WP} (hA : c = true → Ent Γ A) (hB : c = false → Ent Γ B) : Ent Γ (iteH c A B) := by
  cases c
  · exact hB rfl
  · exact hA rfl
theorem Ent.iteT {A B : WP} {c : Bool} (hc : c = true) (h : Ent Γ A) : Ent Γ (iteH c A B) := by subst hc; exact h
theorem Ent.iteF {A B : WP} {c : Bool} (hc : c = false) (h : Ent Γ B) : Ent Γ (iteH c A B) := by subst hc; exact h
/-- 'c || d' where d is reckoned without turning the world -/
theorem Ent.or {c : Bool} (d : Bool) {M : (Bool → WP) → WP} {K : Bool → WP} (hd : c = false → ∀ k : Bool → WP, Ent Γ (k d) → Ent Γ (M k)) (h : Ent Γ (K (c || d))) : Ent Γ (orB c M K) := by
  cases c
  · exact hd rfl K h
  · exact h
theorem Ent.and {c : Bool} (d : Bool) {M : (Bool → WP) → WP} {K : Bool → WP} (hd : c = true → ∀ k : Bool → WP, Ent Γ (k d) → Ent Γ (M k)) (h : Ent Γ (K (c && d))) : Ent Γ (andB c M K) := by
  cases c
  · exact h
  · exact hd rfl K h
theorem Ent.join {β : Type} {rest : β → WP} {body : (β → WP) → WP} (I : β → List Asn → Prop) (hb : ∀ k : β → WP, (∀ x Δ, I x Δ → Ent Δ (k x)) → Ent Γ (body k)) (hr : ∀ x Δ, I x Δ → Ent Δ (rest x)) : Ent Γ (joinH rest body) := hb rest hr
/-- a join at which one value comes out and nothing is turned -/
theorem Ent.join1 {β : Type} {rest : β → WP} {body : (β → WP) → WP} (x : β) (hb : ∀ k : β → WP, Ent Γ (k x) → Ent Γ (body k)) (hr : Ent Γ (rest x)) : Ent Γ (joinH rest body) := hb rest hr
theorem Ent.call {g : FuncId} {args : Array Value} {K : α → WP} (h : Ent Γ (callH P g args fun v w => ∃ x, v = f x ∧ K x w)) : Ent Γ (callT P f g args K) := h
/-- loops: an invariant over what goes round, a measure -/
theorem Ent.loop {σ γ : Type} {body : (σ → WP) → σ → WP} {s : σ} (Inv : γ → σ → List Asn) (pre : γ → σ → Prop) (μ : γ → σ → Nat) (g : γ) (h0 : pre g s) (hs0 : ∀ h, Sep Γ h → Sep (Inv g s) h)
    (hb : ∀ (g : γ) (s : σ) (kc : σ → WP), pre g s → (∀ g' s', pre g' s' → μ g' s' < μ g s → Ent (Inv g' s') (kc s')) → Ent (Inv g s) (body kc s)) : Ent Γ (loopH body s) := fun w hs => by
  classical
  refine ⟨fun s w => ∃ g, pre g s ∧ Sat (Inv g s) w, fun s w => if h : ∃ m, (∃ g, pre g s ∧ Sat (Inv g s) w ∧ μ g s = m) ∧ ∀ k, (∃ g, pre g s ∧ Sat (Inv g s) w ∧ μ g s = k) → m ≤ k then Classical.choose h else 0, ⟨g, h0, hs.mono hs0⟩, ?_⟩
  have least : ∀ (s : σ) (w : World), (∃ g, pre g s ∧ Sat (Inv g s) w) → ∃ m, (∃ g, pre g s ∧ Sat (Inv g s) w ∧ μ g s = m) ∧ ∀ k, (∃ g, pre g s ∧ Sat (Inv g s) w ∧ μ g s = k) → m ≤ k := by
    rintro s w ⟨g, hp, hg⟩
    have key : ∀ m, (∃ g, pre g s ∧ Sat (Inv g s) w ∧ μ g s = m) → ∃ m, (∃ g, pre g s ∧ Sat (Inv g s) w ∧ μ g s = m) ∧ ∀ k, (∃ g, pre g s ∧ Sat (Inv g s) w ∧ μ g s = k) → m ≤ k := by
      intro m
      induction m using Nat.strongRecOn with
      | _ m ih =>
        intro hm
        by_cases hlt : ∃ k, k < m ∧ ∃ g, pre g s ∧ Sat (Inv g s) w ∧ μ g s = k
        · obtain ⟨k, hk, hk'⟩ := hlt
          exact ih k hk hk'
        · exact ⟨m, hm, fun k hk => Nat.le_of_not_lt fun hl => hlt ⟨k, hl, hk⟩⟩
    exact key _ ⟨g, hp, hg, rfl⟩
  rintro s w hI
  have hl := least s w hI
  obtain ⟨⟨g1, hp1, hg1, hm1⟩, hmin⟩ := Classical.choose_spec hl
  refine hb g1 s _ hp1 (fun g' s' hp' hlt => fun w' hs' => ?_) w hg1
  have hl' := least s' w' ⟨g', hp', hs'⟩
  refine ⟨⟨g', hp', hs'⟩, ?_⟩
  dsimp only
  rw [dif_pos hl', dif_pos hl, ← hm1]
  exact Nat.lt_of_le_of_lt ((Classical.choose_spec hl').2 _ ⟨g', hp', hs', rfl⟩) hlt
end

/-! ### memory -/
section
variable {P : Program} {Γ : List Asn}
class OneT (P : Program) (T : TypeId) : Prop where
  h : ∀ w, (isAgg T).run P w = .ok false w
class AggT (P : Program) (T : TypeId) (n : outParam Nat) : Prop where
  h : ∀ w, (isAgg T).run P w = .ok true w
  s : ∀ w, (sizeOf T).run P w = .ok n w
class SizeT (P : Program) (T : TypeId) (n : outParam Nat) : Prop where
  h : ∀ w, (sizeOf T).run P w = .ok n w
theorem Runs.load1 {T : TypeId} {a : Addr} {v : Value} [h1 : OneT P T] (hr : Rd Γ a v) : Runs P Γ (loadVar T a) v := fun w hs => by
  simp [loadVar, h1.h w, Sem.run_bind, load, Sem.run, hr.at_ hs]
theorem Runs.loadN {T : TypeId} {a : Addr} {n : Nat} {cs : List Value} [h1 : AggT P T n] (hr : RdN Γ a cs) (hn : cs.length = n) : Runs P Γ (loadVar T a) (.agg cs.toArray) := fun w hs => by
  subst hn
  simp [loadVar, h1.h w, h1.s w, Sem.run_bind, run_loadCells_list w a cs (fun j v hv => (hr j v hv).at_ hs), Sem.run_pure]

/-- a new block -/
theorem SatH.alloc {w : World} {o : Obj} (hs : SatH Γ w) : SatH (ab Blk w.heap.size o :: Γ) (w.alloc o) := by
  obtain ⟨p, hl, hp⟩ := hs
  refine ⟨PH.join (fun i => if i = w.heap.size then some o else none) p, ?_, _, p, ?_, rfl, by simp [ab, Blk], hp⟩
  · intro i u hu
    simp only [PH.join] at hu
    by_cases hi : i = w.heap.size
    · subst hi
      simp at hu
      subst hu
      show (w.heap.push o)[w.heap.size]? = some o
      simp
    · simp [hi] at hu
      have := hl i u hu
      simp only [PH.of] at this
      have hlt : i < w.heap.size := (Array.getElem?_eq_some_iff.1 this).1
      show (w.heap.push o)[i]? = some u
      rw [Array.getElem?_push, if_neg (by omega)]
      exact this
  · intro i
    by_cases hi : i = w.heap.size
    · subst hi
      right
      cases hp' : p w.heap.size with
      | none => rfl
      | some u =>
        have := hl _ _ hp'
        simp [PH.of] at this
    · left; simp [hi]
/-- a block is written over -/
theorem SatH.write {w w' : World} {b : Nat} {o o' : Obj} {Δ : List Asn} (hs : SatH (ab Blk b o :: Δ) w) (hw : ∀ i, i ≠ b → w'.heap[i]? = w.heap[i]?) (hb : w'.heap[b]? = some o') : SatH (ab Blk b o' :: Δ) w' := by
  obtain ⟨p, hl, x, y, hd, rfl, hx, hy⟩ := hs
  have hxb : x b = some o := hx
  have hyb : y b = none := by rcases hd b with h | h <;> simp_all
  refine ⟨PH.join (fun i => if i = b then some o' else none) y, ?_, _, y, ?_, rfl, by simp [ab, Blk], hy⟩
  · intro i u hu
    simp only [PH.join] at hu
    by_cases hi : i = b
    · subst hi
      simp at hu
      subst hu
      exact hb
    · simp [hi] at hu
      have := PH.le_trans (PH.le_right hd) hl i u hu
      simp only [PH.of] at this ⊢
      rw [hw i hi]; exact this
  · intro i
    by_cases hi : i = b
    · subst hi; right; exact hyb
    · left; simp [hi]
theorem SatH.blk_at {w : World} {b : Nat} {o : Obj} {Δ : List Asn} (hs : SatH (ab Blk b o :: Δ) w) : w.heap[b]? = some o := by
  obtain ⟨p, hl, x, y, hd, rfl, hx, hy⟩ := hs
  exact hl b o (PH.le_left x y b o hx)

omit [Milieu] in
theorem run_newRow (T : TypeId) (cs : Array Value) (w : World) : (newRow T cs).run P w = .ok ⟨w.heap.size, 0, none⟩ (w.alloc (.cells cs T)) := rfl
theorem Ent.box {T : TypeId} {v : Value} {K : Addr → WP} (h : ∀ b, Ent (ab Blk b (.cells v.cells T) :: Γ) (K ⟨b, 0, none⟩)) : Ent Γ (semT P inA (Instr.box T v) K) := fun w hs =>
  ⟨⟨w.heap.size, 0, none⟩, w.alloc (.cells v.cells T), by simp [Instr.box, newVar, Sem.run_bind, run_newRow, Sem.run_pure], h _ _ ⟨hs.1.alloc, hs.2⟩⟩
class ZeroT (P : Program) (T : TypeId) (z : outParam Value) : Prop where
  h : ∀ w, (zeroValue T).run P w = .ok z w
theorem Ent.alloc {T : TypeId} {z : Value} [hz : ZeroT P T z] {K : Addr → WP} (h : ∀ b, Ent (ab Blk b (.cells z.cells T) :: Γ) (K ⟨b, 0, none⟩)) : Ent Γ (semT P inA (Instr.alloc T true (.tuple #[])) K) := fun w hs =>
  ⟨⟨w.heap.size, 0, none⟩, w.alloc (.cells z.cells T), by simp [Instr.alloc, hz.h w, newVar, Sem.run_bind, run_newRow, Sem.run_pure], h _ _ ⟨hs.1.alloc, hs.2⟩⟩
theorem Ent.makeMap {T : TypeId} {K : Value → WP} (h : ∀ b, Ent (ab Blk b (.map #[] 0) :: Γ) (K (.map (some b)))) : Ent Γ (semT P inV (Instr.makeMap T none) K) := fun w hs =>
  ⟨.map (some w.heap.size), w.alloc (.map #[] 0), rfl, h _ _ ⟨hs.1.alloc, hs.2⟩⟩

/-- cells written from an offset on -/
def wrote (cs : List Value) (o : Nat) : List Value → List Value
  | [] => cs
  | v :: r => wrote (cs.set o v) (o + 1) r
omit [Milieu] in
theorem run_storeCells_at {b : Nat} {T : TypeId} : ∀ (vs : List Value) (o i : Nat) (cs : List Value) (w : World), w.heap[b]? = some (.cells cs.toArray T (0, 0)) → o + i + vs.length ≤ cs.length → (∀ v ∈ vs, v.oneCell' = true) →
    ∃ w', (storeCells ⟨b, o, none⟩ vs i).run P w = .ok () w' ∧ w'.heap[b]? = some (.cells (wrote cs (o + i) vs).toArray T (0, 0)) ∧ (∀ j, j ≠ b → w'.heap[j]? = w.heap[j]?) ∧ w'.os = w.os ∧ w'.output = w.output
  | [], o, i, cs, w, hb, _, _ => ⟨w, by simp [storeCells, Sem.run_pure], by simpa [wrote] using hb, fun _ _ => rfl, rfl, rfl⟩
  | v :: r, o, i, cs, w, hb, hl, h1 => by
    have hv : v.oneCell' = true := h1 v (by simp)
    have hi : o + i < cs.length := by simp at hl; omega
    have hc : w.cell? ⟨b, o + i, none⟩ = some cs[o + i] := by
      simp [World.cell?, hb, hi]
    have hf : w.frozen? ⟨b, o + i, none⟩ = false := by
      simp [World.frozen?, hb]
    have hw1 : (w.setCell ⟨b, o + i, none⟩ v).heap[b]? = some (.cells (cs.set (o + i) v).toArray T (0, 0)) := by
      simp [World.setCell, Array.getElem?_modify, hb]
    have hw2 : ∀ j, j ≠ b → (w.setCell ⟨b, o + i, none⟩ v).heap[j]? = w.heap[j]? := fun j hj => by
      simp [World.setCell, Array.getElem?_modify, Ne.symm hj]
    obtain ⟨w', hr, hb', ho, he⟩ := run_storeCells_at r o (i + 1) (cs.set (o + i) v) _ hw1 (by simp at hl ⊢; omega) (fun u hu => h1 u (by simp [hu]))
    refine ⟨w', ?_, ?_, fun j hj => (ho j hj).trans (hw2 j hj), he⟩
    · simp only [storeCells, Sem.run_bind]
      rw [add_mk]
      have : (store ⟨b, o + i, none⟩ v).run P w = .ok () (w.setCell ⟨b, o + i, none⟩ v) := by
        cases v <;> simp_all [store, Sem.run, Value.oneCell']
      rw [this]
      exact hr
    · simpa [wrote, Nat.add_assoc] using hb'
theorem Ent.store {T : TypeId} {b o n : Nat} {cs : List Value} {E : TypeId} {Δ : List Asn} {v : Value} {c : WP} (hh : Has Blk b Γ (.cells cs.toArray E (0, 0)) Δ) [hz : SizeT P T n] (hn : v.cells.size = n) (hl : o + n ≤ cs.length) (h1 : ∀ u ∈ v.cells.toList, u.oneCell' = true)
    (h : Ent (ab Blk b (.cells (wrote cs o v.cells.toList).toArray E (0, 0)) :: Δ) c) : Ent Γ (semU P (storeVar T ⟨b, o, none⟩ v) c) := fun w hs => by
  have hs' := hs.1.mono hh.out
  have hb := hs'.blk_at
  obtain ⟨w', hr, hb', ho, he⟩ := run_storeCells_at (P := P) v.cells.toList o 0 cs w hb (by simpa [hn] using hl) h1
  refine ⟨w', ?_, h w' ⟨hs'.write ho (by simpa using hb'), hs.2.of he⟩⟩
  simp [storeVar, hz.h w, Sem.run_bind, hn, hr]
end
end Go.Cab
