/- Plain: what a watch counts is what the records say. -/
import Derived.Test.YtkjcjlcimgcfcaaOrder
import Derived.Test.YtkjcjlcimgcfcaaSee
namespace Go.Cab
set_option linter.unusedSimpArgs false
set_option linter.unusedVariables false
set_option linter.unusedSectionVars false
open Go Go.Proofs
variable [Milieu]
def unm : List Waiting → List Bool → List ID
  | w :: r, m :: ms => if m then unm r ms else w.id :: unm r ms
  | _, _ => []
/-- the numbers behind a record -/
def bump : List Waiting → List Bool → List Bool → Times → Int → Times × Int
  | w :: r, g :: gs, m :: ms, t, worst => if g && !m then bump r gs ms (tset t w.id (tget t w.id + 1)) (max worst (tget t w.id + 1)) else bump r gs ms t worst
  | _, _, _, t, worst => (t, worst)
theorem seeGo_eq : ∀ (ws : List Waiting) (gs ms : List Bool) (ids : List ID) (t : Times) (worst : Int), gs.length = ws.length → ms.length = ws.length →
    seeGo ws gs ms ids t worst = (ids ++ unm ws ms, bump ws gs ms t worst)
  | [], gs, ms, ids, t, worst, h1, h2 => by
    have : gs = [] := List.eq_nil_of_length_eq_zero h1
    subst this
    simp [seeGo, unm, bump]
  | w :: r, g :: gs, m :: ms, ids, t, worst, h1, h2 => by
    simp only [List.length_cons, Nat.add_right_cancel_iff] at h1 h2
    simp only [seeGo, unm, bump]
    cases m <;> cases g <;> simp [seeGo_eq r gs ms _ _ _ h1 h2]
  | w :: r, [], ms, ids, t, worst, h1, h2 => by simp at h1
  | w :: r, g :: gs, [], ids, t, worst, h1, h2 => by simp at h2
theorem dupB_nodup : ∀ (ws : List Waiting) (seen : List ID), dupB seen ws = false → (ws.map (·.id)).Nodup ∧ ∀ w ∈ ws, w.id ∉ seen
  | [], seen, _ => by simp
  | w :: r, seen, h => by
    simp only [dupB, Bool.or_eq_false_iff, decide_eq_false_iff_not] at h
    obtain ⟨h1, h2⟩ := dupB_nodup r _ h.2
    refine ⟨?_, ?_⟩
    · simp only [List.map_cons, List.nodup_cons]
      refine ⟨?_, h1⟩
      intro hm
      obtain ⟨v, hv, he⟩ := List.mem_map.1 hm
      exact h2 v hv (by rw [he]; simp)
    · intro v hv
      rcases List.mem_cons.1 hv with rfl | hv
      · exact h.1
      · intro hs; exact h2 v hv (by simp [hs])
/-- what stands of the numbers -/
structure NumOK (t : Times) (worst : Int) : Prop where
  pos : ∀ id, 0 ≤ tget t id
  le : ∀ id, tget t id ≤ worst
theorem NumOK.w0 {t : Times} {worst : Int} (h : NumOK t worst) : 0 ≤ worst := by have := h.pos ⟨0, 0, 0, 0, 0, 0, 0, 0⟩; have := h.le ⟨0, 0, 0, 0, 0, 0, 0, 0⟩; omega
theorem bump_ok : ∀ (ws : List Waiting) (gs ms : List Bool) (t : Times) (worst : Int), NumOK t worst → NumOK (bump ws gs ms t worst).1 (bump ws gs ms t worst).2
  | [], _, _, _, _, h => by simpa [bump] using h
  | _ :: _, [], _, _, _, h => by simpa [bump] using h
  | _ :: _, _ :: _, [], _, _, h => by simpa [bump] using h
  | w :: r, g :: gs, m :: ms, t, worst, h => by
    simp only [bump]
    split
    · refine bump_ok r gs ms _ _ ⟨fun id => ?_, fun id => ?_⟩
      · rw [tget_tset]; have := h.pos id; have := h.pos w.id; split <;> omega
      · rw [tget_tset]; have := h.le id; split <;> omega
    · exact bump_ok r gs ms _ _ h
theorem bump_few {t0 : Times} {w0 : Int} (h0 : ∀ id, tget t0 id ≤ w0) : ∀ (ws : List Waiting) (gs ms : List Bool) (t : Times) (worst : Int), (ws.map (·.id)).Nodup → (∀ w ∈ ws, tget t w.id = tget t0 w.id) → (∀ id, tget t id ≤ tget t0 id + 1) → worst ≤ w0 + 1 →
    (∀ id, tget (bump ws gs ms t worst).1 id ≤ tget t0 id + 1) ∧ (bump ws gs ms t worst).2 ≤ w0 + 1
  | [], _, _, _, _, _, _, h2, h3 => by simpa [bump] using ⟨h2, h3⟩
  | _ :: _, [], _, _, _, _, _, h2, h3 => by simpa [bump] using ⟨h2, h3⟩
  | _ :: _, _ :: _, [], _, _, _, _, h2, h3 => by simpa [bump] using ⟨h2, h3⟩
  | w :: r, g :: gs, m :: ms, t, worst, hn, h1, h2, h3 => by
    simp only [List.map_cons, List.nodup_cons] at hn
    simp only [bump]
    split
    · have hw := h1 w (by simp)
      have hw0 := h0 w.id
      refine bump_few h0 r gs ms _ _ hn.2 (fun v hv => ?_) (fun id => ?_) (by omega)
      · rw [tget_tset, if_neg]
        · exact h1 v (by simp [hv])
        · intro he; exact hn.1 (by rw [he]; exact List.mem_map.2 ⟨v, hv, rfl⟩)
      · rw [tget_tset]; have := h2 id; split
        · rename_i he; subst he; omega
        · omega
    · exact bump_few h0 r gs ms _ _ hn.2 (fun v hv => h1 v (by simp [hv])) h2 h3
theorem rowOf_nodup {ws : List Waiting} (hn : (ws.map (·.id)).Nodup) {i : Nat} {w : Waiting} (hi : ws[i]? = some w) : rowOf ws w.id = some i := by
  unfold rowOf
  obtain ⟨hlt, he⟩ := List.getElem?_eq_some_iff.1 hi
  rw [List.findIdx?_eq_some_iff_getElem]
  refine ⟨hlt, by simp [he], fun j hj => ?_⟩
  have h1 := List.pairwise_iff_getElem.1 hn j i (by simp; omega) (by simp; omega) hj
  simp only [List.getElem_map, he] at h1
  simpa using h1
/-- what the record says of those that wait there -/
theorem good_at {x : Record} {c : RecC} (hf : faultE x c = 0) (hn : (c.ws.map (·.id)).Nodup) {i : Nat} {w : Waiting} (hi : c.ws[i]? = some w) :
    goodT x c w.id = (true, (goods x c)[i]?.getD false, (mates x c)[i]?.getD false) := by
  simp [goodT, rowOf_nodup hn hi, hf]
theorem goods_len {x : Record} {c : RecC} (hf : faultE x c = 0) : (goods x c).length = c.ws.length ∧ (mates x c).length = c.ws.length := by
  have := (fine_of hf).nr
  have hn : x.g.rows.toNat = c.ws.length := by omega
  simp [goods, mates, marks_len, hn]
theorem mem_unm : ∀ {ws : List Waiting} {ms : List Bool} {id : ID}, id ∈ unm ws ms → ∃ (i : Nat) (w : Waiting), ws[i]? = some w ∧ ms[i]? = some false ∧ w.id = id
  | [], _, _, h => by simp [unm] at h
  | _ :: _, [], _, h => by simp [unm] at h
  | w :: r, m :: ms, id, h => by
    cases m with
    | true =>
      simp only [unm, if_true] at h
      obtain ⟨i, v, h1, h2, h3⟩ := mem_unm h
      exact ⟨i + 1, v, by simpa using h1, by simpa using h2, h3⟩
    | false =>
      simp only [unm, Bool.false_eq_true, if_false] at h
      rcases List.mem_cons.1 h with rfl | h
      · exact ⟨0, w, rfl, rfl, rfl⟩
      · obtain ⟨i, v, h1, h2, h3⟩ := mem_unm h
        exact ⟨i + 1, v, by simpa using h1, by simpa using h2, h3⟩
theorem unm_sub : ∀ (ws : List Waiting) (ms : List Bool), (unm ws ms).Sublist (ws.map (·.id))
  | [], _ => by simp [unm]
  | _ :: _, [] => by simp [unm]
  | w :: r, m :: ms => by
    cases m <;> simp only [unm, if_true, Bool.false_eq_true, if_false, List.map_cons]
    · exact (unm_sub r ms).cons_cons _
    · exact (unm_sub r ms).cons _
/-- how many of a record were not matched -/
def left (x : Record) (c : RecC) (ws : List Waiting) : Nat := (ws.filter fun w => !(goodT x c w.id).2.2).length
theorem left_unm {x : Record} {c : RecC} (hf : faultE x c = 0) (hn : (c.ws.map (·.id)).Nodup) : left x c c.ws = (unm c.ws (mates x c)).length := by
  obtain ⟨_, hm⟩ := goods_len hf
  have key : ∀ (k : Nat), k ≤ c.ws.length → (left x c (c.ws.drop (c.ws.length - k))) = (unm (c.ws.drop (c.ws.length - k)) ((mates x c).drop (c.ws.length - k))).length := by
    intro k
    induction k with
    | zero => intro _; simp [left, unm]
    | succ k ih =>
      intro hk
      have ih := ih (by omega)
      have hlt : c.ws.length - (k + 1) < c.ws.length := by omega
      have hx : c.ws[c.ws.length - (k + 1)]? = some c.ws[c.ws.length - (k + 1)] := List.getElem?_eq_getElem hlt
      have hg := good_at hf hn hx
      have hmx : (mates x c)[c.ws.length - (k + 1)]? = some ((mates x c)[c.ws.length - (k + 1)]'(by omega)) := List.getElem?_eq_getElem _
      rw [List.drop_eq_getElem_cons hlt, List.drop_eq_getElem_cons (l := mates x c) (by omega)]
      rw [show c.ws.length - (k + 1) + 1 = c.ws.length - k by omega]
      rw [hmx] at hg
      simp only [left] at ih ⊢
      rw [List.filter_cons, hg]
      simp only [unm, Option.getD_some]
      cases (mates x c)[c.ws.length - (k + 1)] <;> simp [ih]
  have := key c.ws.length (Nat.le_refl _)
  simpa using this
/-- what the last record says of those that stand -/
structure LastOK (x : Record) (c : RecC) (ids : List ID) : Prop where
  good : ∀ id ∈ ids, ∃ g, goodT x c id = (true, g, false)
  rise : ids.Pairwise fun a b => a.num < b.num
  len : ids.length = left x c c.ws
  few : ids.length ≤ 64
theorem lastOK {x : Record} {c : RecC} (hf : faultE x c = 0) (hd : dupB [] c.ws = false) : LastOK x c (sortID (unm c.ws (mates x c))) := by
  have hn := (dupB_nodup _ _ hd).1
  have hp := sortID_perm_self (unm c.ws (mates x c))
  refine ⟨fun id hid => ?_, sortID_lt (hn.sublist (unm_sub _ _)), by rw [left_unm hf hn, hp.length_eq], ?_⟩
  · obtain ⟨i, w, h1, h2, rfl⟩ := mem_unm (hp.mem_iff.1 hid)
    rw [good_at hf hn h1, h2]
    exact ⟨_, rfl⟩
  · rw [hp.length_eq]
    have := (unm_sub c.ws (mates x c)).length_le
    have := (fine_of hf).w64
    simp at *; omega
theorem seeS_ok {s : WS} {x : Record} {c : RecC} (h : seeE s x c = 0) : faultE x c = 0 ∧ dupB [] c.ws = false ∧ (seeS s x c).ids = sortID (unm c.ws (mates x c)) ∧ ((seeS s x c).times, (seeS s x c).worst) = bump c.ws (goods x c) (mates x c) s.times s.worst ∧ (seeS s x c).tick = x.tick ∧ s.tick < x.tick := by
  have hf : faultE x c = 0 := by
    unfold seeE at h
    by_cases h0 : faultE x c = 0
    · exact h0
    · simp [h0] at h
  have hd : dupB [] c.ws = false := by
    unfold seeE at h
    cases hd : dupB [] c.ws <;> simp_all
  have ht : s.tick < x.tick := by
    unfold seeE at h
    simp only [hf, hd, ne_eq, not_true_eq_false, if_false, Bool.false_eq_true] at h
    split at h
    · omega
    · omega
  obtain ⟨h1, h2⟩ := goods_len hf
  have hg := seeGo_eq c.ws (goods x c) (mates x c) [] s.times s.worst h1 h2
  refine ⟨hf, hd, ?_, ?_, ?_, ht⟩
  · simp [seeS, h, hg]
  · simp [seeS, h, hg]
  · simp [seeS, h]
end Go.Cab
