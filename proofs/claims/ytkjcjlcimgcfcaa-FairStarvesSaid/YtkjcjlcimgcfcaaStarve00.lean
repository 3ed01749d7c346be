/- Plain: the row of records as a whole. -/
import Derived.Test.YtkjcjlcimgcfcaaStarve0
namespace Go.Cab
set_option linter.unusedSimpArgs false
set_option linter.unusedVariables false
set_option linter.unusedSectionVars false
open Go Go.Proofs
variable [Milieu]
structure Hist (L : List (Record × RecC)) : Prop where
  ok : ∀ (a : Nat) r, L[a]? = some r → RecOK r.1 r.2
  tick : ∀ (a : Nat) r r', L[a]? = some r → L[a + 1]? = some r' → r.1.tick < r'.1.tick
  fol : ∀ (a : Nat) r r', L[a]? = some r → L[a + 1]? = some r' → FolP r.1 r.2 r'.2
  same : ∀ (a b : Nat) r r' w w', L[a]? = some r → L[b]? = some r' → w ∈ r.2.ws → w' ∈ r'.2.ws → w.id = w'.id → w.since = w'.since
def passN (L : List (Record × RecC)) (id : ID) : Nat := (L.filter fun r => passes r.1 r.2 id).length
section
variable {L : List (Record × RecC)}
theorem get_lt {a b : Nat} (h : a < b) {r : Record × RecC} (hb : L[b]? = some r) : ∃ r', L[a]? = some r' :=
  ⟨_, List.getElem?_eq_getElem (by have := (List.getElem?_eq_some_iff.1 hb).1; omega)⟩
theorem tick_lt (h : Hist L) : ∀ (n a : Nat) r r', L[a]? = some r → L[a + n + 1]? = some r' → r.1.tick < r'.1.tick
  | 0, a, r, r', h1, h2 => h.tick a r r' h1 h2
  | n + 1, a, r, r', h1, h2 => by
    obtain ⟨r2, h3⟩ := get_lt (a := a + n + 1) (by omega) h2
    have := tick_lt h n a r r2 h1 h3
    have := h.tick (a + n + 1) r2 r' h3 h2
    omega
theorem back (h : Hist L) : ∀ (n a : Nat) r r' (v : Waiting), L[a]? = some r → L[a + n + 1]? = some r' → v ∈ r'.2.ws → v.since < r.1.tick → ∃ u ∈ r.2.ws, u.id = v.id ∧ (goodT r.1 r.2 v.id).2.2 = false
  | 0, a, r, r', v, h1, h2, hv, hs => by
    obtain ⟨h3, h4⟩ := h.fol a r r' h1 h2 v hv hs
    obtain ⟨u, hu, he⟩ := good_waits h3
    exact ⟨u, hu, he, h4⟩
  | n + 1, a, r, r', v, h1, h2, hv, hs => by
    obtain ⟨r2, h3⟩ := get_lt (a := a + n + 1) (by omega) h2
    have ht := tick_lt h n a r r2 h1 h3
    obtain ⟨h4, _⟩ := h.fol (a + n + 1) r2 r' h3 h2 v hv (by omega)
    obtain ⟨u, hu, he⟩ := good_waits h4
    have hsu := h.same (a + n + 1) (a + (n + 1) + 1) r2 r' u v h3 h2 hu hv he
    obtain ⟨z, hz, he2, hm⟩ := back h n a r r2 u h1 h3 hu (by omega)
    exact ⟨z, hz, by rw [he2, he], by rw [← he]; exact hm⟩
/-- who left does not come back -/
theorem gone (h : Hist L) {a b : Nat} (hab : a < b) {r r' : Record × RecC} (h1 : L[a]? = some r) (h2 : L[b]? = some r') {v u : Waiting} (hv : v ∈ r.2.ws) (hm : (goodT r.1 r.2 v.id).2.2 = true) (hu : u ∈ r'.2.ws) (he : u.id = v.id) : False := by
  have hs := (h.ok a r h1).o.since v hv
  have hsu := h.same a b r r' v u h1 h2 hv hu he.symm
  obtain ⟨n, rfl⟩ : ∃ n, b = a + n + 1 := ⟨b - a - 1, by omega⟩
  obtain ⟨_, _, _, h3⟩ := back h n a r r' u h1 h2 hu (by omega)
  rw [he, hm] at h3; cases h3
theorem drop_cons {j : Nat} {r : Record × RecC} (h : L[j]? = some r) : L.drop j = r :: L.drop (j + 1) := by
  obtain ⟨h1, h2⟩ := List.getElem?_eq_some_iff.1 h
  rw [List.drop_eq_getElem_cons h1, h2]
/-- those that overtook -/
theorem overs (h : Hist L) (id : ID) : ∀ (k j : Nat), j + k = L.length → ∃ Ks : List ID, Ks.length = passN (L.drop j) id ∧ Ks.Nodup ∧
    ∀ x ∈ Ks, ∃ (a : Nat) (r : Record × RecC), j ≤ a ∧ L[a]? = some r ∧ passes r.1 r.2 id = true ∧ ∃ v ∈ r.2.ws, v.id = x ∧ (goodT r.1 r.2 v.id).2.2 = true ∧ ∃ w ∈ r.2.ws, w.id = id ∧ v.since ≤ w.since
  | 0, j, hj => ⟨[], by rw [List.drop_of_length_le (by omega)]; rfl, .nil, by simp⟩
  | k + 1, j, hj => by
    obtain ⟨Ks, h1, h2, h3⟩ := overs h id k (j + 1) (by omega)
    have hr : L[j]? = some L[j] := List.getElem?_eq_getElem (by omega)
    generalize L[j] = r at hr
    rw [drop_cons hr]
    unfold passN at h1 ⊢
    rw [List.filter_cons]
    by_cases hp : passes r.1 r.2 id = true
    · have hg : (goodT r.1 r.2 id).1 = true := by simp only [passes, Bool.and_eq_true] at hp; exact hp.1
      obtain ⟨w, hw, he⟩ := good_waits hg
      subst he
      obtain ⟨v, hv, hm, hs⟩ := passed (h.ok j r hr) hw hp
      rw [if_pos hp]
      refine ⟨v.id :: Ks, by simp [h1], List.nodup_cons.2 ⟨fun hin => ?_, h2⟩, fun x hx => ?_⟩
      · obtain ⟨a, r', ha, hra, _, u, hu, hue, _⟩ := h3 v.id hin
        exact gone h (a := j) (b := a) (by omega) hr hra hv hm hu hue
      · rcases List.mem_cons.1 hx with rfl | hx
        · exact ⟨j, r, Nat.le_refl _, hr, hp, v, hv, rfl, hm, w, hw, rfl, hs⟩
        · obtain ⟨a, r', ha, rest⟩ := h3 x hx
          exact ⟨a, r', by omega, rest⟩
    · rw [if_neg hp]
      refine ⟨Ks, h1, h2, fun x hx => ?_⟩
      obtain ⟨a, r', ha, rest⟩ := h3 x hx
      exact ⟨a, r', by omega, rest⟩
theorem nodup_sub {α : Type} [DecidableEq α] : ∀ {a b : List α}, a.Nodup → (∀ x ∈ a, x ∈ b) → a.length ≤ b.length
  | [], b, _, _ => by simp
  | x :: r, b, hn, hs => by
    rw [List.nodup_cons] at hn
    have hx := hs x (by simp)
    have := nodup_sub (a := r) (b := b.erase x) hn.2 fun y hy => by
      have : y ≠ x := fun e => hn.1 (e ▸ hy)
      exact (List.mem_erase_of_ne this).2 (hs y (by simp [hy]))
    rw [List.length_erase_of_mem hx] at this
    have := List.length_pos_of_mem hx
    simp only [List.length_cons]; omega
theorem first_one {α : Type} {p : α → Bool} : ∀ (L : List α), 0 < (L.filter p).length → ∃ (t : Nat) (r : α), L[t]? = some r ∧ p r = true ∧ (L.filter p).length = ((L.drop t).filter p).length
  | [], h => by simp at h
  | x :: L, h => by
    by_cases hp : p x = true
    · exact ⟨0, x, rfl, hp, rfl⟩
    · rw [List.filter_cons, if_neg hp] at h ⊢
      obtain ⟨t, r, h1, h2, h3⟩ := first_one L h
      exact ⟨t + 1, r, by simpa using h1, h2, by simpa using h3⟩
/-- nobody is passed over more often than others wait beside it -/
theorem hist_few (h : Hist L) {id : ID} (hm : 0 < passN L id) : ∃ r ∈ L, passN L id + 1 ≤ r.2.ws.length := by
  obtain ⟨t, r, hr, hp, hc⟩ := first_one L hm
  have hlt := (List.getElem?_eq_some_iff.1 hr).1
  obtain ⟨Ks, h1, h2, h3⟩ := overs h id (L.length - t) t (by omega)
  refine ⟨r, List.mem_of_getElem? hr, ?_⟩
  have hg : (goodT r.1 r.2 id).1 = true := by simp only [passes, Bool.and_eq_true] at hp; exact hp.1
  obtain ⟨w, hw, he⟩ := good_waits hg
  have hws := (h.ok t r hr).o.since w hw
  have key : ∀ x ∈ id :: Ks, x ∈ r.2.ws.map (·.id) := fun x hx => by
    rcases List.mem_cons.1 hx with rfl | hx
    · exact List.mem_map.2 ⟨w, hw, he⟩
    · obtain ⟨a, r', ha, hra, _, v, hv, hve, _, w', hw', hwe, hs⟩ := h3 x hx
      rcases Nat.lt_or_ge t a with hta | hta
      · have hsw := h.same t a r r' w w' hr hra hw hw' (by rw [he, hwe])
        obtain ⟨n, rfl⟩ : ∃ n, a = t + n + 1 := ⟨a - t - 1, by omega⟩
        obtain ⟨u, hu, hue, _⟩ := back h n t r r' v hr hra hv (by omega)
        exact List.mem_map.2 ⟨u, hu, by rw [hue, hve]⟩
      · have : a = t := by omega
        subst this
        rw [hr] at hra; cases hra
        exact List.mem_map.2 ⟨v, hv, hve⟩
  have hnd : (id :: Ks).Nodup := List.nodup_cons.2 ⟨fun hin => by
    obtain ⟨a, r', ha, hra, hpa, v, hv, hve, hmm, _⟩ := h3 id hin
    simp only [passes, Bool.and_eq_true, Bool.not_eq_true'] at hpa
    rw [hve, hpa.2.2] at hmm
    exact Bool.noConfusion hmm, h2⟩
  have := nodup_sub hnd key
  simp only [List.length_cons, List.length_map, h1] at this
  unfold passN at this ⊢
  omega
end
/-! ### the watch's numbers -/
theorem bump_pass {t0 : Times} {x : Record} {c : RecC} (hf : faultE x c = 0) (hn : (c.ws.map (·.id)).Nodup) : ∀ (k : Nat) (t : Times) (worst : Int), k ≤ c.ws.length →
    (∀ id, tget t id ≤ tget t0 id + (if id ∈ (c.ws.take (c.ws.length - k)).map (·.id) ∧ passes x c id = true then 1 else 0)) →
    ∀ id, tget (bump (c.ws.drop (c.ws.length - k)) ((goods x c).drop (c.ws.length - k)) ((mates x c).drop (c.ws.length - k)) t worst).1 id ≤ tget t0 id + (if passes x c id = true then 1 else 0)
  | 0, t, worst, _, h, id => by
    have := h id
    simp only [Nat.sub_zero, List.drop_length, bump] at this ⊢
    split at this <;> split <;> simp_all <;> omega
  | k + 1, t, worst, hk, h, id => by
    obtain ⟨hgl, hml⟩ := goods_len hf
    have hlt : c.ws.length - (k + 1) < c.ws.length := by omega
    have hx : c.ws[c.ws.length - (k + 1)]? = some c.ws[c.ws.length - (k + 1)] := List.getElem?_eq_getElem hlt
    have hg := good_at hf hn hx
    have h1 : (goods x c)[c.ws.length - (k + 1)]? = some ((goods x c)[c.ws.length - (k + 1)]'(by omega)) := List.getElem?_eq_getElem _
    have h2 : (mates x c)[c.ws.length - (k + 1)]? = some ((mates x c)[c.ws.length - (k + 1)]'(by omega)) := List.getElem?_eq_getElem _
    rw [h1, h2] at hg
    rw [List.drop_eq_getElem_cons hlt, List.drop_eq_getElem_cons (l := goods x c) (by omega), List.drop_eq_getElem_cons (l := mates x c) (by omega)]
    have hs : c.ws.length - (k + 1) + 1 = c.ws.length - k := by omega
    rw [hs]
    have htk : c.ws.take (c.ws.length - k) = c.ws.take (c.ws.length - (k + 1)) ++ [c.ws[c.ws.length - (k + 1)]] := by
      rw [← hs, List.take_add_one, hx]; rfl
    generalize hq : c.ws[c.ws.length - (k + 1)] = q at *
    generalize (goods x c)[c.ws.length - (k + 1)]'(by omega) = g at *
    generalize (mates x c)[c.ws.length - (k + 1)]'(by omega) = m at *
    have hps : passes x c q.id = (g && !m) := by simp only [passes, hg, Option.getD_some, Bool.true_and]
    simp only [bump]
    have hnin : q.id ∉ (c.ws.take (c.ws.length - (k + 1))).map (·.id) := by
      intro hin
      obtain ⟨v, hv, he⟩ := List.mem_map.1 hin
      obtain ⟨i, hi⟩ := List.getElem?_of_mem hv
      have hik : i < c.ws.length - (k + 1) := by have := (List.getElem?_eq_some_iff.1 hi).1; simp at this; omega
      rw [List.getElem?_take_of_lt hik] at hi
      have e1 := rowOf_nodup hn hi
      have e2 := rowOf_nodup hn hx
      rw [he] at e1
      rw [e1] at e2
      have := Option.some.inj e2
      omega
    split
    · rename_i hb
      refine bump_pass hf hn k _ _ (by omega) (fun id' => ?_) id
      rw [tget_tset]
      have h3 := h id'
      rw [htk]
      by_cases he : q.id = id'
      · subst he
        rw [if_neg (fun hh => hnin hh.1)] at h3
        rw [if_pos rfl, if_pos ⟨by simp, by rw [hps]; exact hb⟩]
        omega
      · rw [if_neg he]
        refine Int.le_trans h3 ?_
        split
        · rename_i hh; rw [if_pos ⟨by rw [List.map_append]; exact List.mem_append_left _ hh.1, hh.2⟩]; exact Int.le_refl _
        · split <;> omega
    · rename_i hb
      refine bump_pass hf hn k _ _ (by omega) (fun id' => ?_) id
      have h3 := h id'
      rw [htk]
      refine Int.le_trans h3 ?_
      split
      · rename_i hh; rw [if_pos ⟨by rw [List.map_append]; exact List.mem_append_left _ hh.1, hh.2⟩]; exact Int.le_refl _
      · split <;> omega
theorem bump_passes {x : Record} {c : RecC} (hf : faultE x c = 0) (hn : (c.ws.map (·.id)).Nodup) (t : Times) (worst : Int) (id : ID) :
    tget (bump c.ws (goods x c) (mates x c) t worst).1 id ≤ tget t id + (if passes x c id = true then 1 else 0) := by
  have := bump_pass (t0 := t) hf hn c.ws.length t worst (Nat.le_refl _) (fun id => by simp) id
  simpa using this
/-- the greatest number is somebody's -/
theorem bump_some : ∀ (ws : List Waiting) (gs ms : List Bool) (t : Times) (worst : Int), (worst = 0 ∨ ∃ id, worst ≤ tget t id) → (bump ws gs ms t worst).2 = 0 ∨ ∃ id, (bump ws gs ms t worst).2 ≤ tget (bump ws gs ms t worst).1 id
  | [], _, _, _, _, h => by simpa [bump] using h
  | _ :: _, [], _, _, _, h => by simpa [bump] using h
  | _ :: _, _ :: _, [], _, _, h => by simpa [bump] using h
  | w :: r, g :: gs, m :: ms, t, worst, h => by
    simp only [bump]
    split
    · refine bump_some r gs ms _ _ ?_
      rcases h with h | ⟨id, h⟩
      · subst h
        by_cases h0 : tget t w.id + 1 ≤ 0
        · exact .inl (by omega)
        · exact .inr ⟨w.id, by rw [tget_tset, if_pos rfl]; omega⟩
      · by_cases h0 : worst ≤ tget t w.id + 1
        · exact .inr ⟨w.id, by rw [tget_tset, if_pos rfl]; omega⟩
        · refine .inr ⟨id, ?_⟩
          rw [tget_tset]
          split
          · rename_i he; subst he; omega
          · omega
    · exact bump_some r gs ms _ _ h
end Go.Cab
