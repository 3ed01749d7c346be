/- Maps as resources: an association list without double keys; look-ups, stores, deletions, 'm[k] = ..m[k]..', ranging. -/
import Derived.Test.YtkjcjlcimgcfcaaSL
import Derived.WideKeyArr
namespace Go.Cab
set_option linter.unusedSimpArgs false
set_option linter.unusedVariables false
set_option linter.unusedSectionVars false
open Go Go.WideMaps

class KeyT (P : Program) (T : TypeId) {κ : Type} (enc : κ → Value) : Prop where
  law : KeyLaw P T
  of : ∀ x, ∃ l, keyOf P T (enc x) = some l
  inj : ∀ x y, enc x = enc y → x = y

variable [Milieu]
section
variable {κ : Type} [DecidableEq κ]
abbrev AL (κ : Type) := List (κ × Value)
def AL.get (l : AL κ) (x : κ) : Option Value := (l.find? fun p => decide (p.1 = x)).map (·.2)
def AL.set : AL κ → κ → Value → AL κ
  | [], x, v => [(x, v)]
  | (y, u) :: r, x, v => if y = x then (x, v) :: r else (y, u) :: AL.set r x v
def AL.del (l : AL κ) (x : κ) : AL κ := l.filter fun p => !decide (p.1 = x)
def AL.keys (l : AL κ) : List κ := l.map (·.1)

theorem AL.get_set (l : AL κ) (x y : κ) (v : Value) : (l.set x v).get y = if x = y then some v else l.get y := by
  induction l with
  | nil => simp [AL.set, AL.get, List.find?_cons]; by_cases h : x = y <;> simp [h]
  | cons p r ih =>
    obtain ⟨z, u⟩ := p
    simp only [AL.set]
    by_cases hz : z = x
    · subst hz
      simp only [if_true, AL.get, List.find?_cons]
      by_cases h : z = y <;> simp [h]
    · simp only [if_neg hz, AL.get, List.find?_cons] at ih ⊢
      by_cases hy : z = y
      · subst hy
        simp [Ne.symm hz]
      · simp only [hy, decide_false]
        exact ih
theorem AL.get_del (l : AL κ) (x y : κ) : (l.del x).get y = if x = y then none else l.get y := by
  induction l with
  | nil => simp [AL.del, AL.get]
  | cons p r ih =>
    obtain ⟨z, u⟩ := p
    simp only [AL.del, AL.get, List.filter_cons, List.find?_cons] at ih ⊢
    by_cases hz : z = x
    · subst hz
      simp only [decide_true, Bool.not_true, Bool.false_eq_true, if_false]
      rw [ih]
      by_cases h : z = y <;> simp [h]
    · simp only [hz, decide_false, Bool.not_false, if_true, List.find?_cons]
      by_cases hy : z = y
      · subst hy; simp [Ne.symm hz]
      · simp only [hy, decide_false]; exact ih
theorem AL.get_none {l : AL κ} {x : κ} : l.get x = none ↔ ∀ p ∈ l, p.1 ≠ x := by
  simp [AL.get, List.find?_eq_none]
theorem AL.get_some_mem {l : AL κ} {x : κ} {v : Value} (h : l.get x = some v) : (x, v) ∈ l := by
  simp only [AL.get, Option.map_eq_some_iff] at h
  obtain ⟨p, hp, rfl⟩ := h
  have h1 := List.find?_some hp
  have h2 := List.mem_of_find?_eq_some hp
  simp only [decide_eq_true_eq] at h1
  subst h1
  exact h2
theorem AL.get_of_mem {l : AL κ} (hn : l.keys.Nodup) {x : κ} {v : Value} (h : (x, v) ∈ l) : l.get x = some v := by
  induction l with
  | nil => cases h
  | cons p r ih =>
    obtain ⟨z, u⟩ := p
    simp only [AL.keys, List.map_cons, List.nodup_cons] at hn
    simp only [AL.get, List.find?_cons]
    rcases List.mem_cons.1 h with h | h
    · cases h; simp
    · have hz : z ≠ x := by
        rintro rfl
        exact hn.1 (List.mem_map.2 ⟨_, h, rfl⟩)
      simp only [hz, decide_false]
      exact ih hn.2 h
theorem AL.set_new {l : AL κ} {x : κ} {v : Value} (h : l.get x = none) : l.set x v = l ++ [(x, v)] := by
  induction l with
  | nil => rfl
  | cons p r ih =>
    obtain ⟨z, u⟩ := p
    rw [AL.get_none] at h
    have hz : z ≠ x := h _ (List.mem_cons_self ..)
    simp only [AL.set, if_neg hz, List.cons_append]
    rw [ih (AL.get_none.2 fun p hp => h p (List.mem_cons_of_mem _ hp))]
theorem AL.keys_set (l : AL κ) (x : κ) (v : Value) : (l.set x v).keys = if l.get x = none then l.keys ++ [x] else l.keys := by
  by_cases h : l.get x = none
  · rw [if_pos h, AL.set_new h]; simp [AL.keys]
  · rw [if_neg h]
    induction l with
    | nil => simp [AL.get] at h
    | cons p r ih =>
      obtain ⟨z, u⟩ := p
      simp only [AL.set]
      by_cases hz : z = x
      · simp [AL.keys, hz]
      · simp only [if_neg hz, AL.keys, List.map_cons] at ih ⊢
        rw [ih (by simpa [AL.get, List.find?_cons, hz] using h)]
theorem AL.nodup_set {l : AL κ} (hn : l.keys.Nodup) (x : κ) (v : Value) : (l.set x v).keys.Nodup := by
  rw [AL.keys_set]
  split
  · rename_i h
    rw [AL.get_none] at h
    rw [List.nodup_append]
    refine ⟨hn, by simp, ?_⟩
    intro a ha b hb
    simp only [List.mem_singleton] at hb
    subst hb
    simp only [AL.keys, List.mem_map] at ha
    obtain ⟨p, hp, rfl⟩ := ha
    exact h p hp
  · exact hn
theorem AL.nodup_del {l : AL κ} (hn : l.keys.Nodup) (x : κ) : (l.del x).keys.Nodup := by
  unfold AL.keys AL.del
  exact hn.sublist (List.Sublist.map _ List.filter_sublist)
end

/-! ### entries -/
section
variable {κ : Type} [DecidableEq κ]
/-- what the entries of a map say -/
structure Ents (enc : κ → Value) (es : List MapEntry) (clock : Nat) (l : AL κ) : Prop where
  same : es.map (fun e => (e.key, e.val)) = l.map (fun p => (enc p.1, p.2))
  nodup : l.keys.Nodup
  born : es.Pairwise fun a b => a.born ≠ b.born
  lt : ∀ e ∈ es, e.born < clock

def MapA (enc : κ → Value) (b : Nat) (l : AL κ) : Asn := fun h => ∃ es clock, h b = some (.map es clock) ∧ Ents enc es.toList clock l

variable {P : Program} {T K E : TypeId} {enc : κ → Value} [hk : KeyT P K enc]

theorem Ents.get {es : List MapEntry} {clock : Nat} {l : AL κ} (he : Ents enc es clock l) (x : κ) (w : World) (hk : KeyT P K enc) :
    (l.get x = none ∧ (Instr.findKey K (enc x) es).run P w = .ok none w) ∨
    ∃ j e v, l.get x = some v ∧ (Instr.findKey K (enc x) es).run P w = .ok (some (j, v)) w ∧ es[j]? = some e ∧ e.key = enc x ∧ e.val = v ∧ l[j]? = some (x, v) := by
  obtain ⟨lx, hlx⟩ := hk.of x
  have hall : ∀ e ∈ es, ∃ l, keyOf P K e.key = some l := fun e hmem => by
    have : (e.key, e.val) ∈ es.map (fun e => (e.key, e.val)) := List.mem_map.2 ⟨e, hmem, rfl⟩
    rw [he.same] at this
    obtain ⟨p, _, hp⟩ := List.mem_map.1 this
    simp only [Prod.mk.injEq] at hp
    rw [← hp.1]
    exact hk.of p.1
  rcases hk.law.find w hlx es hall with ⟨hr, hne⟩ | ⟨j, e, hr, hj, hkey⟩
  · refine .inl ⟨AL.get_none.2 fun p hp heq => ?_, hr⟩
    have : (enc p.1, p.2) ∈ l.map (fun p => (enc p.1, p.2)) := List.mem_map.2 ⟨p, hp, rfl⟩
    rw [← he.same] at this
    obtain ⟨e, hmem, hp'⟩ := List.mem_map.1 this
    simp only [Prod.mk.injEq] at hp'
    exact hne e hmem (by rw [hp'.1, heq])
  · have h1 : (es.map (fun e => (e.key, e.val)))[j]? = some (e.key, e.val) := by simp [hj]
    rw [he.same, List.getElem?_map, Option.map_eq_some_iff] at h1
    obtain ⟨p, hp, hpe⟩ := h1
    simp only [Prod.mk.injEq] at hpe
    have hpx : p.1 = x := hk.inj _ _ (hpe.1.trans hkey)
    refine .inr ⟨j, e, e.val, ?_, hr, hj, hkey, rfl, ?_⟩
    · refine AL.get_of_mem he.nodup ?_
      rw [← hpe.2, ← hpx]
      exact List.mem_of_getElem? hp
    · rw [hp, ← hpe.2, ← hpx]

theorem SatH.map_at {w : World} {b : Nat} {l : AL κ} {Δ : List Asn} (hs : SatH (ab (MapA enc) b l :: Δ) w) : ∃ es clock, w.heap[b]? = some (.map es clock) ∧ Ents enc es.toList clock l ∧ ∀ (o' : Obj) (w' : World) (l' : AL κ), (∀ i, i ≠ b → w'.heap[i]? = w.heap[i]?) → w'.heap[b]? = some o' → (∃ es' clock', o' = .map es' clock' ∧ Ents enc es'.toList clock' l') → SatH (ab (MapA enc) b l' :: Δ) w' := by
  obtain ⟨p, hl, x, y, hd, rfl, ⟨es, clock, hx, he⟩, hy⟩ := hs
  refine ⟨es, clock, hl _ _ (PH.le_left x y _ _ hx), he, fun o' w' l' ho hb' hE => ?_⟩
  have h2 : SatH (ab Blk b (.map es clock) :: Δ) w := ⟨_, hl, x, y, hd, rfl, hx, hy⟩
  have h3 := h2.write ho hb'
  obtain ⟨es', clock', rfl, he'⟩ := hE
  exact SatH.mono (Γ := ab Blk b (.map es' clock') :: Δ) (Δ := ab (MapA enc) b l' :: Δ) (fun h hh => star_mono (fun h hb => ⟨es', clock', hb, he'⟩) (fun _ x => x) hh) h3

theorem run_getObjA {P : Program} {w : World} {b : Nat} {t : Option Nat} {s : Array Nat} {x y : Nat} (h : w.heap[b]? = some (.mapIter t x s y)) : (getObj b).run P w = .ok (.mapIter t x s y) w := by simp [getObj, Sem.run, h]
theorem run_getObj {w : World} {b : Nat} {es : Array MapEntry} {clock : Nat} (hb : w.heap[b]? = some (.map es clock)) : (getObj b).run P w = .ok (.map es clock) w := by
  simp [getObj, Sem.run, hb]
theorem run_setObj {w : World} {b : Nat} {es : Array MapEntry} {clock : Nat} (o : Obj) (hb : w.heap[b]? = some (.map es clock)) : ∃ w', (setObj b o).run P w = .ok () w' ∧ w'.heap[b]? = some o ∧ (∀ i, i ≠ b → w'.heap[i]? = w.heap[i]?) ∧ w'.os = w.os ∧ w'.output = w.output := by
  have hlt : b < w.heap.size := (Array.getElem?_eq_some_iff.1 hb).1
  refine ⟨{ w with heap := w.heap.setIfInBounds b o }, by simp [setObj, Sem.run, hb], by simp [hlt], fun i hi => by simp [Array.getElem?_setIfInBounds, Ne.symm hi], rfl, rfl⟩

/-- a map that may be read -/
def MapAt (enc : κ → Value) (Γ : List Asn) (b : Nat) (l : AL κ) : Prop := ∀ h, Sep Γ h → ∃ es clock, h b = some (.map es clock) ∧ Ents enc es.toList clock l
omit hk [DecidableEq κ] in
theorem MapAt.at_ [DecidableEq κ] {Γ : List Asn} {b : Nat} {l : AL κ} (hm : MapAt enc Γ b l) {w : World} (hs : SatH Γ w) : ∃ es clock, w.heap[b]? = some (.map es clock) ∧ Ents enc es.toList clock l := by
  obtain ⟨p, hl, hp⟩ := hs
  obtain ⟨es, clock, h1, h2⟩ := hm p hp
  exact ⟨es, clock, hl _ _ h1, h2⟩
omit hk [DecidableEq κ] in
theorem MapAt.of [DecidableEq κ] {Γ Δ : List Asn} {b : Nat} {l : AL κ} (hh : Has (MapA enc) b Γ l Δ) : MapAt enc Γ b l := fun p hp => by
  obtain ⟨x, y, hd, rfl, ⟨es, clock, h1, h2⟩, _⟩ := hh.out p hp
  exact ⟨es, clock, PH.le_left x y _ _ h1, h2⟩
omit hk [DecidableEq κ] in
theorem MapAt.suf [DecidableEq κ] {Γ0 Γ : List Asn} [hf : Suf Γ0 Γ] {b : Nat} {l : AL κ} (hm : MapAt enc Γ0 b l) : MapAt enc Γ b l := fun p hp => by
  obtain ⟨h0, hl, h0'⟩ := hf.out p hp
  obtain ⟨es, clock, h1, h2⟩ := hm h0 h0'
  exact ⟨es, clock, hl _ _ h1, h2⟩
/-- reading a map -/
theorem Runs.lookup {Γ : List Asn} {b : Nat} {l : AL κ} {x : κ} {z : Value} (hu : P.underlying T = some (.map K E)) (hz : ∀ w, (zeroValue E).run P w = .ok z w) (hh : MapAt enc Γ b l) :
    Runs P Γ (Instr.lookup T (.map (some b)) (enc x) false) ((l.get x).getD z) := fun w hs => by
  obtain ⟨es, clock, hb, he⟩ := hh.at_ hs
  obtain ⟨lx, hlx⟩ := hk.of x
  have hc := hk.law.check w es.isEmpty hlx
  simp only [Instr.lookup, Sem.run_bind, run_underlying hu w, Result.andThen_ok, run_getObj hb, Sem.run_pure, hc]
  rcases he.get x w hk with ⟨hg, hr⟩ | ⟨j, e, v, hg, hr, _⟩
  · rw [hr, hg]; simp [Sem.run_bind, Result.andThen, hz, Sem.run_pure]
  · rw [hr, hg]; simp [Sem.run_bind, Result.andThen, Sem.run_pure]
theorem Runs.lookupOk {Γ : List Asn} {b : Nat} {l : AL κ} {x : κ} {z : Value} (hu : P.underlying T = some (.map K E)) (hz : ∀ w, (zeroValue E).run P w = .ok z w) (hh : MapAt enc Γ b l) :
    Runs P Γ (Instr.lookup T (.map (some b)) (enc x) true) (.tuple #[(l.get x).getD z, .bool (l.get x).isSome]) := fun w hs => by
  obtain ⟨es, clock, hb, he⟩ := hh.at_ hs
  obtain ⟨lx, hlx⟩ := hk.of x
  have hc := hk.law.check w es.isEmpty hlx
  simp only [Instr.lookup, Sem.run_bind, run_underlying hu w, Result.andThen_ok, run_getObj hb, Sem.run_pure, hc]
  rcases he.get x w hk with ⟨hg, hr⟩ | ⟨j, e, v, hg, hr, _⟩
  · rw [hr, hg]; simp [Sem.run_bind, Result.andThen, hz, Sem.run_pure]
  · rw [hr, hg]; simp [Sem.run_bind, Result.andThen, Sem.run_pure]
omit hk [DecidableEq κ] in
theorem Runs.mapLen [DecidableEq κ] {Γ : List Asn} {b : Nat} {l : AL κ} {ty : TypeId} (hu : P.underlying T = some (.map K E)) (hh : MapAt enc Γ b l) :
    Runs P Γ (Builtin.len_ #[T] ty #[.map (some b)]) (.int .i64 l.length) := fun w hs => by
  obtain ⟨es, clock, hb, he⟩ := hh.at_ hs
  have hlen : es.size = l.length := by
    have := congrArg List.length he.same
    simpa using this
  simp [Builtin.len_, Sem.run_bind, run_underlying hu w, run_getObj hb, Sem.run_pure, goInt, hlen]

omit hk in
theorem AL.set_at : ∀ {l : AL κ} {x : κ} {u v : Value} {j : Nat}, l.keys.Nodup → l[j]? = some (x, u) → l.set x v = List.set l j (x, v)
  | [], _, _, _, _, _, h => by simp at h
  | (y, u') :: r, x, u, v, 0, _, h => by
    simp only [List.getElem?_cons_zero, Option.some.injEq, Prod.mk.injEq] at h
    simp [AL.set, h.1]
  | (y, u') :: r, x, u, v, j + 1, hn, h => by
    simp only [List.getElem?_cons_succ] at h
    simp only [AL.keys, List.map_cons, List.nodup_cons] at hn
    have hne : y ≠ x := by
      rintro rfl
      exact hn.1 (List.mem_map.2 ⟨_, List.mem_of_getElem? h, rfl⟩)
    simp only [AL.set, if_neg hne, List.set_cons_succ]
    rw [AL.set_at hn.2 h]
omit hk in
theorem Ents.set_old {es : List MapEntry} {clock : Nat} {l : AL κ} (he : Ents enc es clock l) {x : κ} {v u : Value} {j : Nat} {e : MapEntry} (hj : es[j]? = some e) (hl : l[j]? = some (x, u)) {e' : MapEntry} (h1 : e'.key = enc x) (h2 : e'.val = v) (h3 : e'.born = e.born) :
    Ents enc (es.set j e') clock (l.set x v) := by
  have hset := AL.set_at (v := v) he.nodup hl
  have hjl : j < es.length := (List.getElem?_eq_some_iff.1 hj).1
  have hej : es[j] = e := (List.getElem?_eq_some_iff.1 hj).2
  have hborn : (es.set j e').map (·.born) = es.map (·.born) := by
    apply List.ext_getElem?
    intro i
    rw [List.getElem?_map, List.getElem?_map, List.getElem?_set]
    by_cases hij : j = i
    · subst hij
      simp [hjl, h3, hej]
    · simp [hij]
  refine ⟨?_, AL.nodup_set he.nodup x v, ?_, ?_⟩
  · rw [hset, List.map_set, List.map_set, he.same, h1, h2]
  · have := (List.pairwise_map (f := fun e : MapEntry => e.born) (R := fun a b => a ≠ b)).2 he.born
    rw [← hborn] at this
    exact List.pairwise_map.1 this
  · intro a ha
    have : a.born ∈ es.map (·.born) := by rw [← hborn]; exact List.mem_map.2 ⟨a, ha, rfl⟩
    obtain ⟨c, hc, hcb⟩ := List.mem_map.1 this
    rw [← hcb]; exact he.lt c hc
omit hk in
theorem Ents.push {es : List MapEntry} {clock : Nat} {l : AL κ} (he : Ents enc es clock l) {x : κ} {v : Value} (hg : l.get x = none) {e' : MapEntry} (h1 : e'.key = enc x) (h2 : e'.val = v) (h3 : e'.born = clock) :
    Ents enc (es ++ [e']) (clock + 1) (l.set x v) := by
  refine ⟨?_, AL.nodup_set he.nodup x v, ?_, ?_⟩
  · rw [AL.set_new hg]; simp [he.same, h1, h2]
  · rw [List.pairwise_append]
    refine ⟨he.born, by simp, fun a ha b hb => ?_⟩
    simp only [List.mem_singleton] at hb
    subst hb
    have := he.lt a ha
    omega
  · intro a ha
    rcases List.mem_append.1 ha with h | h
    · have := he.lt a h; omega
    · simp only [List.mem_singleton] at h; subst h; omega

omit hk in
theorem AL.del_at : ∀ {l : AL κ} {x : κ} {u : Value} {j : Nat}, l.keys.Nodup → l[j]? = some (x, u) → l.del x = List.eraseIdx l j
  | [], _, _, _, _, h => by simp at h
  | (y, u') :: r, x, u, 0, hn, h => by
    simp only [List.getElem?_cons_zero, Option.some.injEq, Prod.mk.injEq] at h
    obtain ⟨rfl, rfl⟩ := h
    simp only [AL.keys, List.map_cons, List.nodup_cons] at hn
    have : r.filter (fun p => !decide (p.1 = y)) = r := by
      rw [List.filter_eq_self]
      intro p hp
      have : p.1 ≠ y := by
        rintro rfl
        exact hn.1 (List.mem_map.2 ⟨_, hp, rfl⟩)
      simpa using this
    simp [AL.del, List.filter_cons, this]
  | (y, u') :: r, x, u, j + 1, hn, h => by
    simp only [List.getElem?_cons_succ] at h
    simp only [AL.keys, List.map_cons, List.nodup_cons] at hn
    have hne : y ≠ x := by
      rintro rfl
      exact hn.1 (List.mem_map.2 ⟨_, List.mem_of_getElem? h, rfl⟩)
    have ih := AL.del_at hn.2 h
    simp only [AL.del, List.filter_cons, hne, decide_false, Bool.not_false, if_true, List.eraseIdx_cons_succ] at ih ⊢
    rw [ih]
omit hk [DecidableEq κ] in
theorem map_eraseIdx {α β : Type} (f : α → β) : ∀ (l : List α) (j : Nat), (l.eraseIdx j).map f = (l.map f).eraseIdx j
  | [], _ => by simp
  | a :: l, 0 => by simp
  | a :: l, j + 1 => by simp [map_eraseIdx f l j]
omit hk in
theorem Ents.erase {es : List MapEntry} {clock : Nat} {l : AL κ} (he : Ents enc es clock l) {x : κ} {u : Value} {j : Nat} (hl : l[j]? = some (x, u)) :
    Ents enc (es.eraseIdx j) clock (l.del x) := by
  refine ⟨?_, AL.nodup_del he.nodup x, he.born.sublist (List.eraseIdx_sublist _ _), fun e hm => he.lt e ((List.eraseIdx_sublist _ _).subset hm)⟩
  rw [AL.del_at he.nodup hl, map_eraseIdx, map_eraseIdx, he.same]

/-- a store into a map -/
theorem Ent.mapUpdate {Γ Δ : List Asn} {b : Nat} {l : AL κ} {x : κ} {v : Value} {c : WP} (hu : P.underlying T = some (.map K E)) (hh : Has (MapA enc) b Γ l Δ)
    (h : Ent (ab (MapA enc) b (l.set x v) :: Δ) c) : Ent Γ (semU P (Instr.mapUpdate T (.map (some b)) (enc x) v) c) := fun w hs0 => by
  have hs := hs0.1
  obtain ⟨es, clock, hb, he, hnew⟩ := (hs.mono hh.out).map_at
  obtain ⟨lx, hlx⟩ := hk.of x
  have hc := hk.law.check w false hlx
  rcases he.get x w hk with ⟨hg, hr⟩ | ⟨j, e, u, hg, hr, hj, hkey, _, hl⟩
  · obtain ⟨w', hw, hb', ho, hev⟩ := run_setObj (P := P) (.map (es.push { key := enc x, val := v, born := clock }) (clock + 1)) hb
    refine ⟨w', ?_, h w' ⟨hnew _ w' _ ho hb' ⟨_, _, rfl, ?_⟩, hs0.2.of hev⟩⟩
    · simp only [Instr.mapUpdate, Sem.run_bind, run_underlying hu w, Result.andThen_ok, run_getObj hb, hc, hr]
      exact hw
    · simpa using he.push hg rfl rfl rfl
  · obtain ⟨w', hw, hb', ho, hev⟩ := run_setObj (P := P) (.map (es.modify j fun e => { e with key := enc x, val := v }) clock) hb
    refine ⟨w', ?_, h w' ⟨hnew _ w' _ ho hb' ⟨_, _, rfl, ?_⟩, hs0.2.of hev⟩⟩
    · have hst : (Instr.keyThatStays (((es[j]?).map (·.key)).getD (enc x)) (enc x)).run P w = .ok (enc x) w := by
        have : es[j]? = some e := by simpa using hj
        simp only [this, Option.map_some, Option.getD_some, hkey]
        exact hk.law.stays w hlx
      simp only [Instr.mapUpdate, Sem.run_bind, run_underlying hu w, Result.andThen_ok, run_getObj hb, hc, hr, hst]
      exact hw
    · have : (es.modify j fun e => { e with key := enc x, val := v }).toList = es.toList.set j { e with key := enc x, val := v } := by
        apply List.ext_getElem?
        intro i
        simp only [Array.getElem?_toList, Array.getElem?_modify, List.getElem?_set]
        by_cases hij : j = i
        · subst hij
          have hlt : j < es.size := by have := (List.getElem?_eq_some_iff.1 hj).1; simpa using this
          have hej : es[j] = e := by
            have h0 : es[j]? = some e := by simpa using hj
            rw [Array.getElem?_eq_getElem hlt] at h0
            exact Option.some.inj h0
          simp [hlt, hej]
        · simp [hij]
      rw [this]
      exact he.set_old hj hl rfl rfl rfl
/-- a deletion -/
theorem Ent.delete {Γ Δ : List Asn} {b : Nat} {l : AL κ} {x : κ} {ty : TypeId} {C : Value → WP} (hu : P.underlying T = some (.map K E)) (hh : Has (MapA enc) b Γ l Δ)
    (h : Ent (ab (MapA enc) b (l.del x) :: Δ) (C (.tuple #[]))) {ats : Array TypeId} (hats : ats[0]? = some T) : Ent Γ (semT P inV (Builtin.delete_ ats ty #[.map (some b), enc x]) C) := fun w hs0 => by
  have hs := hs0.1
  obtain ⟨es, clock, hb, he, hnew⟩ := (hs.mono hh.out).map_at
  obtain ⟨lx, hlx⟩ := hk.of x
  have hc := hk.law.check w es.isEmpty hlx
  rcases he.get x w hk with ⟨hg, hr⟩ | ⟨j, e, u, hg, hr, hj, hkey, _, hl⟩
  · obtain ⟨w', hw, hb', ho, hev⟩ := run_setObj (P := P) (.map es clock) hb
    refine ⟨_, w', ?_, h w' ⟨hnew _ w' _ ho hb' ⟨_, _, rfl, ?_⟩, hs0.2.of hev⟩⟩
    · simp [Builtin.delete_, hats, Sem.run_bind, run_underlying hu w, Result.andThen_ok, run_getObj hb, hc, hr, hw, Sem.run_pure]
    · have : l.del x = l := by
        unfold AL.del
        rw [List.filter_eq_self]
        intro p hp
        simpa using AL.get_none.1 hg p hp
      rw [this]; exact he
  · obtain ⟨w', hw, hb', ho, hev⟩ := run_setObj (P := P) (.map (es.eraseIdxIfInBounds j) clock) hb
    refine ⟨_, w', ?_, h w' ⟨hnew _ w' _ ho hb' ⟨_, _, rfl, ?_⟩, hs0.2.of hev⟩⟩
    · simp [Builtin.delete_, hats, Sem.run_bind, run_underlying hu w, Result.andThen_ok, run_getObj hb, hc, hr, hw, Sem.run_pure]
    · have hlt : j < es.size := by have := (List.getElem?_eq_some_iff.1 hj).1; simpa using this
      have h1 : (es.eraseIdxIfInBounds j).toList = es.toList.eraseIdx j := by
        simp [Array.eraseIdxIfInBounds, hlt]
      rw [h1]
      exact he.erase hl

/-! ### 'm[k] = .. m[k] ..' -/
/-- a map, and the stamp of one entry -/
def MapE (enc : κ → Value) (b : Nat) (y : AL κ × κ × Nat) : Asn := fun h => ∃ (es : Array MapEntry) (clock j : Nat) (e : MapEntry) (u : Value), h b = some (.map es clock) ∧ Ents enc es.toList clock y.1 ∧ es.toList[j]? = some e ∧ e.key = enc y.2.1 ∧ e.born = y.2.2 ∧ y.1[j]? = some (y.2.1, u)
omit hk [DecidableEq κ] in
theorem MapAt.ofE [DecidableEq κ] {Γ Δ : List Asn} {b : Nat} {y : AL κ × κ × Nat} (hh : Has (MapE enc) b Γ y Δ) : MapAt enc Γ b y.1 := fun p hp => by
  obtain ⟨x, y, hd, rfl, ⟨es, clock, _, _, _, h1, h2, _⟩, _⟩ := hh.out p hp
  exact ⟨es, clock, PH.le_left x y _ _ h1, h2⟩
omit hk in
theorem AL.set_same : ∀ {l : AL κ} {x : κ} {v : Value}, l.get x = some v → l.set x v = l
  | [], _, _, h => by simp [AL.get] at h
  | (y, u) :: r, x, v, h => by
    simp only [AL.get, List.find?_cons] at h
    by_cases hy : y = x
    · subst hy; simp at h; simp [AL.set, h]
    · simp only [hy, decide_false] at h
      simp only [AL.set, if_neg hy]
      rw [AL.set_same (by simpa [AL.get] using h)]
theorem modify_toList {es : Array MapEntry} {j : Nat} {e : MapEntry} (hj : es.toList[j]? = some e) (f : MapEntry → MapEntry) : (es.modify j f).toList = es.toList.set j (f e) := by
  apply List.ext_getElem?
  intro i
  simp only [Array.getElem?_toList, Array.getElem?_modify, List.getElem?_set]
  by_cases hij : j = i
  · subst hij
    have hlt : j < es.size := by have := (List.getElem?_eq_some_iff.1 hj).1; simpa using this
    have hej : es[j] = e := by
      have h0 : es[j]? = some e := by simpa using hj
      rw [Array.getElem?_eq_getElem hlt] at h0
      exact Option.some.inj h0
    simp [hlt, hej]
  · simp [hij]
theorem Ent.mapEntry {Γ Δ : List Asn} {b : Nat} {l : AL κ} {x : κ} {z : Value} {C : Value → WP} (hu : P.underlying T = some (.map K E)) (hz : ∀ w, (zeroValue E).run P w = .ok z w) (hh : Has (MapA enc) b Γ l Δ)
    (h : ∀ s : Nat, Ent (ab (MapE enc) b (l.set x ((l.get x).getD z), x, s) :: Δ) (C (.tuple #[(l.get x).getD z, .int .i64 s]))) : Ent Γ (semT P inV (Instr.mapEntry T (.map (some b)) (enc x)) C) := fun w hs0 => by
  have hs := hs0.1
  have hs1 := hs.mono hh.out
  obtain ⟨es, clock, hb, he, hnew⟩ := hs1.map_at
  obtain ⟨lx, hlx⟩ := hk.of x
  have hc := hk.law.check w false hlx
  have wr : ∀ (o' : Obj) (w' : World), (∀ i, i ≠ b → w'.heap[i]? = w.heap[i]?) → w'.heap[b]? = some o' → ∀ y, (∃ (es' : Array MapEntry) (clock' j : Nat) (e : MapEntry) (u : Value), o' = .map es' clock' ∧ Ents enc es'.toList clock' y.1 ∧ es'.toList[j]? = some e ∧ e.key = enc y.2.1 ∧ e.born = y.2.2 ∧ y.1[j]? = some (y.2.1, u)) → SatH (ab (MapE enc) b y :: Δ) w' := by
    intro o' w' ho hb' y hy
    obtain ⟨p, hl, a, c, hd, rfl, ⟨es0, clock0, ha, _⟩, hcc⟩ := hs1
    have h2 : SatH (ab Blk b (.map es0 clock0) :: Δ) w := ⟨_, hl, a, c, hd, rfl, ha, hcc⟩
    have h3 := h2.write ho hb'
    obtain ⟨es', clock', j, e, u, rfl, q1, q2, q3, q4, q5⟩ := hy
    exact SatH.mono (Γ := ab Blk b (.map es' clock') :: Δ) (Δ := ab (MapE enc) b y :: Δ) (fun h hh => star_mono (fun h hb => ⟨es', clock', j, e, u, hb, q1, q2, q3, q4, q5⟩) (fun _ x => x) hh) h3
  rcases he.get x w hk with ⟨hg, hr⟩ | ⟨j, e, u, hg, hr, hj, hkey, _, hl⟩
  · obtain ⟨w', hw, hb', ho, hev⟩ := run_setObj (P := P) (.map (es.push { key := enc x, val := z, born := clock }) (clock + 1)) hb
    have hp := he.push (x := x) (v := z) hg (e' := { key := enc x, val := z, born := clock }) rfl rfl rfl
    have hlen : es.toList.length = l.length := by have := congrArg List.length he.same; simpa using this
    rw [hg] at h
    refine ⟨_, w', ?_, h clock w' ⟨wr _ w' ho hb' _ ⟨_, _, es.toList.length, { key := enc x, val := z, born := clock }, z, rfl, ?_, ?_, rfl, rfl, ?_⟩, hs0.2.of hev⟩⟩
    · simp [Instr.mapEntry, Sem.run_bind, run_underlying hu w, Result.andThen_ok, run_getObj hb, hc, hr, hz, hw, Sem.run_pure, goInt]
    · simpa using hp
    · simp
    · simp only [Option.getD_none, AL.set_new hg, hlen]; simp
  · obtain ⟨w', hw, hb', ho, hev⟩ := run_setObj (P := P) (.map (es.modify j fun e => { e with key := enc x }) clock) hb
    have hst : (Instr.keyThatStays (((es[j]?).map (·.key)).getD (enc x)) (enc x)).run P w = .ok (enc x) w := by
      have : es[j]? = some e := by simpa using hj
      simp only [this, Option.map_some, Option.getD_some, hkey]
      exact hk.law.stays w hlx
    have hes : es[j]? = some e := by simpa using hj
    have heu : e.val = u := by
      have : (es.toList.map fun e => (e.key, e.val))[j]? = (l.map fun p => (enc p.1, p.2))[j]? := by rw [he.same]
      rw [List.getElem?_map, List.getElem?_map, hj, hl] at this
      simp only [Option.map_some, Option.some.injEq, Prod.mk.injEq] at this
      exact this.2
    have hp := he.set_old (x := x) (v := u) hj hl (e' := { e with key := enc x }) rfl heu rfl
    rw [hg] at h
    refine ⟨_, w', ?_, h e.born w' ⟨wr _ w' ho hb' _ ⟨_, _, j, { e with key := enc x }, u, rfl, ?_, ?_, rfl, rfl, ?_⟩, hs0.2.of hev⟩⟩
    · simp only [Instr.mapEntry, Sem.run_bind, run_underlying hu w, Result.andThen_ok, run_getObj hb, hc, hr, hst, hw, Sem.run_pure]
      simp [goInt, hes]
    · rw [modify_toList hj]; exact hp
    · rw [modify_toList hj]; exact List.getElem?_set_self (List.getElem?_eq_some_iff.1 hj).1
    · simp only [Option.getD_some, AL.set_same hg]; exact hl
omit hk in
theorem Ent.entryStore {Γ Δ : List Asn} {b s : Nat} {l : AL κ} {x : κ} {v : Value} {c : WP} (hh : Has (MapE enc) b Γ (l, x, s) Δ)
    (h : Ent (ab (MapA enc) b (l.set x v) :: Δ) c) : Ent Γ (semU P (Instr.entryStore T (.map (some b)) (.int .i64 s) v) c) := fun w hs0 => by
  have hs := hs0.1
  obtain ⟨p, hl, a, d, hd, rfl, ⟨es, clock, j, e, u, hb, he, hj, hkey, hborn, hlj⟩, hcc⟩ := hs.mono hh.out
  have hb0 := hl _ _ (PH.le_left a d _ _ hb)
  obtain ⟨w', hw, hb', ho, hev⟩ := run_setObj (P := P) (.map (es.modify j fun e => { e with val := v }) clock) hb0
  have h2 : SatH (ab Blk b (.map es clock) :: Δ) w := ⟨_, hl, a, d, hd, rfl, hb, hcc⟩
  have h3 := h2.write ho hb'
  have hp := he.set_old (x := x) (v := v) hj hlj (e' := { e with val := v }) hkey rfl rfl
  refine ⟨w', ?_, h w' ⟨SatH.mono (Γ := ab Blk b _ :: Δ) (Δ := ab (MapA enc) b (l.set x v) :: Δ) (fun h hh => star_mono (fun h hb => ⟨_, _, hb, by rw [modify_toList hj]; exact hp⟩) (fun _ x => x) hh) h3, hs0.2.of hev⟩⟩
  have hlt : j < es.size := by have := (List.getElem?_eq_some_iff.1 hj).1; simpa using this
  have hej : es[j] = e := by
    have h0 : es[j]? = some e := by simpa using hj
    rw [Array.getElem?_eq_getElem hlt] at h0
    exact Option.some.inj h0
  have hfi : es.findIdx? (fun e => (e.born : Int) == (s : Int)) = some j := by
    rw [Array.findIdx?_eq_some_iff_getElem]
    refine ⟨hlt, by simp [hej, hborn], fun i hi => ?_⟩
    have hilt : i < es.size := by omega
    have hij := List.pairwise_iff_getElem.1 he.born i j (by simpa using hilt) (by simpa using hlt) hi
    simp only [Array.getElem_toList, hej, hborn] at hij
    simp only [beq_iff_eq, Int.natCast_inj]
    exact hij
  simp only [Instr.entryStore, Sem.run_bind, run_getObj hb0, Result.andThen_ok, asInt, asIntOf, Sem.run_pure, hfi]
  exact hw

/-! ### ranging over a map -/
/-- a map and an iterator over it: all entries, those that are left, the one that came last -/
def MapIt (enc : κ → Value) (k : Nat × Nat) (y : AL κ × AL κ × Option (κ × Value)) : Asn := fun h => ∃ (es : Array MapEntry) (clock : Nat) (seen : Array Nat),
  k.1 ≠ k.2 ∧ h k.1 = some (.map es clock) ∧ h k.2 = some (.mapIter (some k.1) clock seen clock) ∧ Ents enc es.toList clock y.1 ∧
  ((es.toList.filter fun e => !seen.contains e.born).map fun e => (e.key, e.val)) = (y.2.1.map fun p => (enc p.1, p.2)) ∧
  (∀ x v, y.2.2 = some (x, v) → ∃ e : MapEntry, e ∈ es.toList ∧ seen.back? = some e.born ∧ e.key = enc x ∧ e.val = v)
omit hk [DecidableEq κ] in
theorem MapAt.ofIt [DecidableEq κ] {Γ Δ : List Asn} {k : Nat × Nat} {y : AL κ × AL κ × Option (κ × Value)} (hh : Has (MapIt enc) k Γ y Δ) : MapAt enc Γ k.1 y.1 := fun p hp => by
  obtain ⟨a, b, hd, rfl, ⟨es, clock, seen, _, h1, _, h2, _⟩, _⟩ := hh.out p hp
  exact ⟨es, clock, PH.le_left a b _ _ h1, h2⟩
omit hk in
/-- the iterator is no longer wanted -/
theorem Ent.rangeEnd {Γ Δ : List Asn} {k : Nat × Nat} {y : AL κ × AL κ × Option (κ × Value)} {c : WP} (hh : Has (MapIt enc) k Γ y Δ) (h : Ent (ab (MapA enc) k.1 y.1 :: Δ) c) : Ent Γ c :=
  Ent.take hh (Ent.conv (Δ := ab (MapA enc) k.1 y.1 :: Δ) (fun h hh => star_mono (fun h ⟨es, clock, seen, _, h1, _, h2, _⟩ => ⟨es, clock, h1, h2⟩) (fun _ x => x) hh) h)
omit hk in
theorem Ent.range {Γ Δ : List Asn} {b : Nat} {l : AL κ} {C : Value → WP} (hu : P.underlying T = some (.map K E)) (hh : Has (MapA enc) b Γ l Δ)
    (h : ∀ it, Ent (ab (MapIt enc) (b, it) (l, l, none) :: Δ) (C (.pointer (some ⟨it, 0, none⟩)))) : Ent Γ (semT P inV (Instr.range T (.map (some b))) C) := fun w hs0 => by
  have hs := hs0.1
  have hs1 := hs.mono hh.out
  obtain ⟨es, clock, hb, he, _⟩ := hs1.map_at
  refine ⟨_, w.alloc (.mapIter (some b) clock #[] clock), ?_, h w.heap.size _ ⟨?_, hs0.2⟩⟩
  · simp only [Instr.range, Sem.run_bind, run_underlying hu w, Result.andThen_ok, run_getObj hb, Sem.run_pure]
    rfl
  · obtain ⟨p, hl, a, d, hd, rfl, ⟨es0, clock0, ha, he0⟩, hc⟩ := hs1
    have hb0 : w.heap[b]? = some (.map es0 clock0) := hl _ _ (PH.le_left a d _ _ ha)
    rw [hb] at hb0
    cases hb0
    have h2 : SatH (ab Blk b (.map es clock) :: Δ) w := ⟨_, hl, a, d, hd, rfl, ha, hc⟩
    have h3 := h2.alloc (o := .mapIter (some b) clock #[] clock)
    have hne : b ≠ w.heap.size := by
      have := (Array.getElem?_eq_some_iff.1 hb).1; omega
    refine SatH.mono (Γ := ab Blk w.heap.size (.mapIter (some b) clock #[] clock) :: ab Blk b (.map es clock) :: Δ) (Δ := ab (MapIt enc) (b, w.heap.size) (l, l, none) :: Δ) (fun h hh => ?_) h3
    obtain ⟨x, _, hd1, rfl, hx, y, z, hd2, rfl, hy, hz⟩ := hh
    have hd1' := PH.disj_symm hd1
    obtain ⟨hd3, hd4⟩ := PH.disj_join.1 hd1'
    refine ⟨PH.join x y, z, PH.disj_join.2 ⟨PH.disj_symm hd4, hd2⟩, (PH.join_assoc x y z).symm, ⟨es, clock, #[], hne, PH.le_right (PH.disj_symm hd3) _ _ hy, PH.le_left x y _ _ hx, he, ?_, by simp⟩, hz⟩
    have : (es.toList.filter fun e => !(#[] : Array Nat).contains e.born) = es.toList := by
      rw [List.filter_eq_self]; simp
    rw [this]; exact he.same
theorem run_choose (q : Question) (m : Nat) (hq : ∀ t, q.cut t < m) (h0 : 0 < m) (w : World) : ∃ k w', (choose q).run P w = .ok k w' ∧ k < m ∧ w'.heap = w.heap ∧ w'.os = w.os ∧ w'.output = w.output := by
  by_cases hf : q.forced = true
  · exact ⟨0, w, by simp [choose, Sem.run, hf], h0, rfl, rfl, rfl⟩
  · exact ⟨q.cut (w.tape w.drawn q), { w with drawn := w.drawn + 1 }, by simp [choose, Sem.run, hf], hq _, rfl, rfl, rfl⟩

omit hk [DecidableEq κ] in
theorem iter_open [DecidableEq κ] {Γ Δ : List Asn} {k : Nat × Nat} {y : AL κ × AL κ × Option (κ × Value)} (hh : Has (MapIt enc) k Γ y Δ) {w : World} (hs : SatH Γ w) :
    ∃ (es : Array MapEntry) (clock : Nat) (seen : Array Nat), w.heap[k.1]? = some (.map es clock) ∧ w.heap[k.2]? = some (.mapIter (some k.1) clock seen clock) ∧ Ents enc es.toList clock y.1 ∧
      ((es.toList.filter fun e => !seen.contains e.born).map fun e => (e.key, e.val)) = (y.2.1.map fun p => (enc p.1, p.2)) ∧
      (∀ x v, y.2.2 = some (x, v) → ∃ e : MapEntry, e ∈ es.toList ∧ seen.back? = some e.born ∧ e.key = enc x ∧ e.val = v) ∧
      ∀ (w' : World) (seen' : Array Nat) (y' : AL κ × Option (κ × Value)), (∀ i, i ≠ k.2 → w'.heap[i]? = w.heap[i]?) → w'.heap[k.2]? = some (.mapIter (some k.1) clock seen' clock) →
        ((es.toList.filter fun e => !seen'.contains e.born).map fun e => (e.key, e.val)) = (y'.1.map fun p => (enc p.1, p.2)) →
        (∀ x v, y'.2 = some (x, v) → ∃ e : MapEntry, e ∈ es.toList ∧ seen'.back? = some e.born ∧ e.key = enc x ∧ e.val = v) → SatH (ab (MapIt enc) k (y.1, y') :: Δ) w' := by
  obtain ⟨p, hl, a, d, hd, rfl, ⟨es, clock, seen, hne, h1, h2, he, hf, hlast⟩, hc⟩ := hs.mono hh.out
  refine ⟨es, clock, seen, hl _ _ (PH.le_left a d _ _ h1), hl _ _ (PH.le_left a d _ _ h2), he, hf, hlast, fun w' seen' y' ho hb hf' hl' => ?_⟩
  refine ⟨PH.join (fun i => if i = k.2 then some (.mapIter (some k.1) clock seen' clock) else a i) d, ?_, _, d, ?_, rfl, ⟨es, clock, seen', hne, by simp [hne, h1], by simp, he, hf', hl'⟩, hc⟩
  · intro i u hu
    by_cases hi : i = k.2
    · subst hi
      simp [PH.join] at hu
      subst hu
      exact hb
    · simp only [PH.join, hi, if_false] at hu
      have := hl i u hu
      simp only [PH.of] at this ⊢
      rw [ho i hi]; exact this
  · intro i
    by_cases hi : i = k.2
    · subst hi
      rcases hd k.2 with h | h
      · rw [h2] at h; cases h
      · exact .inr h
    · simp only [hi, if_false]; exact hd i
theorem contains_push (s : Array Nat) (a b : Nat) : (s.push a).contains b = (s.contains b || decide (b = a)) := by
  simp
omit hk in
theorem Ent.next {Γ Δ : List Asn} {b it : Nat} {l left : AL κ} {last : Option (κ × Value)} {ty : TypeId} {C : Value → WP} (hh : Has (MapIt enc) (b, it) Γ (l, left, last) Δ)
    (hend : left = [] → Ent (ab (MapIt enc) (b, it) (l, [], last) :: Δ) (C (.tuple #[.bool false])))
    (hstep : ∀ x v l1 l2, left = l1 ++ (x, v) :: l2 → Ent (ab (MapIt enc) (b, it) (l, l1 ++ l2, some (x, v)) :: Δ) (C (.tuple #[.bool true, enc x, v]))) :
    Ent Γ (semT P inV (Instr.next (.pointer (some ⟨it, 0, none⟩)) false ty) C) := fun w hs0 => by
  have hs := hs0.1
  obtain ⟨es, clock, seen, hb, hit, he, hf, hlast, hnew⟩ := iter_open hh hs
  simp only at hb hit hf hnew
  have hgo : (!seen.isEmpty && !es.isEmpty && es.all (fun e => e.born ≥ clock)) = false := by
    cases hem : es.isEmpty with
    | true => simp
    | false =>
      have hne : es.toList ≠ [] := by simpa using hem
      obtain ⟨e, r, hr⟩ := List.exists_cons_of_ne_nil hne
      have hlt := he.lt e (by rw [hr]; simp)
      have : es.all (fun e => e.born ≥ clock) = false := by
        rw [← Array.all_toList, List.all_eq_false]
        exact ⟨e, by rw [hr]; simp, by simp; omega⟩
      simp [this]
  have hleftdef : ∀ f : MapEntry → Bool, (es.filter f).toList = es.toList.filter f := fun f => by simp
  have hold : ((es.filter fun e => !seen.contains e.born).filter fun e => e.born < clock) = es.filter fun e => !seen.contains e.born := by
    apply Array.ext'
    rw [Array.toList_filter, List.filter_eq_self]
    intro e hm
    rw [hleftdef] at hm
    simpa using he.lt e (List.mem_filter.1 hm).1
  have hnw : ((es.filter fun e => !seen.contains e.born).filter fun e => decide (e.born ≥ clock)) = #[] := by
    apply Array.ext'
    rw [Array.toList_filter]
    simp only [List.filter_eq_nil_iff]
    intro e hm
    rw [hleftdef] at hm
    have := he.lt e (List.mem_filter.1 hm).1
    simp; omega
  generalize hL : (es.filter fun e => !seen.contains e.born) = L at hold hnw
  have hLl : L.toList.map (fun e => (e.key, e.val)) = left.map fun p => (enc p.1, p.2) := by rw [← hL, hleftdef]; exact hf
  by_cases hemp : L = #[]
  · -- nothing is left
    have hl0 : left = [] := by
      rw [hemp] at hLl; simpa using hLl.symm
    obtain ⟨k, w', hr, hk1, hw', hev⟩ := run_choose (P := P) (.mapNext 1) 1 (fun t => by simp [Question.cut, Nat.mod_one]) (by omega) w
    have hk0 : k = 0 := by omega
    subst hk0
    refine ⟨_, w', ?_, hend hl0 w' ⟨by rw [hl0] at hh; exact (hs.heap hw').mono hh.out, hs0.2.of hev⟩⟩
    simp only [Instr.next, Sem.run_bind, run_getObjA hit, Result.andThen_ok, run_getObj hb, hgo, Bool.false_eq_true, if_false, Sem.run_pure, hL, hold, hnw, hemp]
    have hk0 : Array.filter (fun x : MapEntry => decide (x.born < clock)) #[] = #[] := by simp
    have hk2 : Array.filter (fun x : MapEntry => decide (x.born ≥ clock)) #[] = #[] := by simp
    have hr0 : ∀ A : Array (Option MapEntry), A = #[none] → Sem.run P (choose (Question.mapNext A.size)) w = .ok 0 w' := by intro A h; subst h; exact hr
    rw [hr0 _ (by simp), Result.andThen_ok]
    simp [inV, Sem.run_pure]
  · have hsz : 0 < L.size := by
      rcases Nat.eq_zero_or_pos L.size with h0 | h0
      · exact absurd (Array.eq_empty_of_size_eq_zero h0) hemp
      · exact h0
    have hne : L.isEmpty = false := by simpa using hemp
    obtain ⟨k, w', hr, hk1, hw', hev⟩ := run_choose (P := P) (.mapNext L.size) L.size (fun t => by simp only [Question.cut]; exact Nat.mod_lt _ hsz) hsz w
    have hge : L[k]? = some L[k] := Array.getElem?_eq_getElem hk1
    -- the entry that comes
    have hkl : k < left.length := by
      have := congrArg List.length hLl; simp at this; omega
    have hent : (L[k].key, L[k].val) = (enc left[k].1, left[k].2) := by
      have : (L.toList.map fun e => (e.key, e.val))[k]? = (left.map fun p => (enc p.1, p.2))[k]? := by rw [hLl]
      simp [hkl, hk1] at this
      exact Prod.ext this.1 this.2
    simp only [Prod.mk.injEq] at hent
    have hmem : L[k] ∈ es.toList := by
      have h1 : L[k] ∈ L.toList := by simp
      have h2 : L.toList = es.toList.filter fun e => !seen.contains e.born := by rw [← hL, hleftdef]
      exact (List.mem_filter.1 (h2 ▸ h1 : L[k] ∈ es.toList.filter fun e => !seen.contains e.born)).1
    have hitw : w'.heap[it]? = some (.mapIter (some b) clock seen clock) := by rw [hw']; exact hit
    obtain ⟨w2, hw2, hb2, ho2, hev2⟩ : ∃ w2, (setObj it (.mapIter (some b) clock (seen.push L[k].born) clock)).run P w' = .ok () w2 ∧ w2.heap[it]? = some (.mapIter (some b) clock (seen.push L[k].born) clock) ∧ (∀ i, i ≠ it → w2.heap[i]? = w'.heap[i]?) ∧ w2.os = w'.os ∧ w2.output = w'.output := by
      have hlt : it < w'.heap.size := (Array.getElem?_eq_some_iff.1 hitw).1
      exact ⟨{ w' with heap := w'.heap.setIfInBounds it (.mapIter (some b) clock (seen.push L[k].born) clock) }, by simp [setObj, Sem.run, hitw], by simp [hlt], fun i hi => by simp [Array.getElem?_setIfInBounds, Ne.symm hi], rfl, rfl⟩
    have hsplit : left = left.take k ++ (left[k].1, left[k].2) :: left.drop (k + 1) := by
      conv => lhs; rw [← List.take_append_drop k left, List.drop_eq_getElem_cons hkl]
    refine ⟨_, w2, ?_, hstep left[k].1 left[k].2 (left.take k) (left.drop (k + 1)) hsplit w2 ⟨hnew w2 (seen.push L[k].born) (left.take k ++ left.drop (k + 1), some (left[k].1, left[k].2)) (fun i hi => (ho2 i hi).trans (by rw [hw'])) hb2 ?_ ?_, (hs0.2.of hev).of hev2⟩⟩
    · simp only [Instr.next, Sem.run_bind, run_getObjA hit, Result.andThen_ok, run_getObj hb, hgo, Bool.false_eq_true, if_false, Sem.run_pure, hL, hold, hnw, hne]
      have hr0 : ∀ A : Array (Option MapEntry), A = L.map some → Sem.run P (choose (Question.mapNext A.size)) w = .ok k w' := by intro A h; subst h; rw [Array.size_map]; exact hr
      rw [hr0 _ (by simp), Result.andThen_ok]
      have hg2 : (#[] ++ Array.map some (L ++ #[]))[k]? = some (some L[k]) := by simp [hge]
      rw [hg2]
      simp only [Sem.run_bind, hw2, Result.andThen_ok, Sem.run_pure, hent.1, hent.2]
    · -- what is left then
      have hLL : L.toList = es.toList.filter fun e => !seen.contains e.born := by rw [← hL, hleftdef]
      have hpw : L.toList.Pairwise fun a b => a.born ≠ b.born := by rw [hLL]; exact he.born.sublist List.filter_sublist
      have h1 : (es.toList.filter fun e => !(seen.push L[k].born).contains e.born) = L.toList.filter fun e => !decide (e.born = L[k].born) := by
        rw [hLL, List.filter_filter]
        apply List.filter_congr
        intro e _
        rw [contains_push]
        cases seen.contains e.born <;> simp [hLL]
      have h2 : (L.toList.filter fun e => !decide (e.born = L[k].born)) = L.toList.take k ++ L.toList.drop (k + 1) := by
        have hkL : k < L.toList.length := by simpa using hk1
        have hgk : L.toList[k] = L[k] := by simp
        conv => lhs; rw [← List.take_append_drop k L.toList, List.drop_eq_getElem_cons hkL]
        rw [List.filter_append, List.filter_cons, hgk]
        simp only [decide_true, Bool.not_true, Bool.false_eq_true, if_false]
        congr 1
        · rw [List.filter_eq_self]
          intro e hm
          obtain ⟨i, hi, rfl⟩ := List.getElem_of_mem hm
          simp only [List.length_take] at hi
          have := List.pairwise_iff_getElem.1 hpw i k (by omega) hkL (by omega)
          simp only [List.getElem_take]
          rw [hgk] at this
          simpa using this
        · rw [List.filter_eq_self]
          intro e hm
          obtain ⟨i, hi, rfl⟩ := List.getElem_of_mem hm
          simp only [List.length_drop] at hi
          have := List.pairwise_iff_getElem.1 hpw k (k + 1 + i) hkL (by omega) (by omega)
          simp only [List.getElem_drop]
          rw [hgk] at this
          simpa using Ne.symm this
      rw [h1, h2, List.map_append, List.map_append, List.map_take, List.map_drop, List.map_take, List.map_drop, hLl]
    · intro x v hxv
      simp only [Option.some.injEq, Prod.mk.injEq] at hxv
      obtain ⟨rfl, rfl⟩ := hxv
      exact ⟨L[k], hmem, by simp, hent.1, hent.2⟩
omit hk in
theorem Runs.entry {Γ Δ : List Asn} {b it : Nat} {l left : AL κ} {x : κ} {v : Value} (hh : Has (MapIt enc) (b, it) Γ (l, left, some (x, v)) Δ) : Runs P Γ (Instr.entry (.pointer (some ⟨it, 0, none⟩))) (.tuple #[enc x, v]) := fun w hs => by
  obtain ⟨es, clock, seen, hb, hit, he, hf, hlast, _⟩ := iter_open hh hs
  obtain ⟨e, hm, hbk, hkey, hval⟩ := hlast x v rfl
  simp only at hb hit
  have hfind : es.find? (fun e' => e'.born == e.born) = some e := by
    rw [← Array.find?_toList]
    obtain ⟨i, hi, rfl⟩ := List.getElem_of_mem hm
    rw [List.find?_eq_some_iff_getElem]
    refine ⟨by simp, i, hi, rfl, fun j hj => ?_⟩
    have := List.pairwise_iff_getElem.1 he.born j i (by omega) hi hj
    simpa using this
  simp only [Instr.entry, Sem.run_bind, getObj, Sem.run, hit, Result.andThen_ok, hbk, hb]
  simp [hfind, hkey, hval]
end
end Go.Cab
