/- Plain: where the best matching is made each time, and who came earlier counts for more, nobody is passed over more often than others wait beside it. -/
import Derived.Test.YtkjcjlcimgcfcaaCounts
import Derived.Test.YtkjcjlcimgcfcaaGoodEq
namespace Go.Cab
set_option linter.unusedSimpArgs false
set_option linter.unusedVariables false
set_option linter.unusedSectionVars false
open Go Go.Proofs
variable [Milieu]
/-! ### sums -/
def at0 (l : List Int) (i : Nat) : Int := l[i]?.getD 0
theorem sum_set : ∀ (l : List Int) (i : Nat), i < l.length → l.sum = at0 l i + (l.set i 0).sum
  | [], i, h => by simp at h
  | x :: r, 0, _ => by simp [at0]
  | x :: r, i + 1, h => by
    have := sum_set r i (by simpa using h)
    simp only [List.sum_cons, List.set_cons_succ, at0, List.getElem?_cons_succ] at this ⊢
    omega
theorem sum_nonneg : ∀ (l : List Int), (∀ x ∈ l, 0 ≤ x) → 0 ≤ l.sum
  | [], _ => by simp
  | x :: r, h => by
    have := sum_nonneg r fun y hy => h y (by simp [hy])
    have := h x (by simp)
    simp only [List.sum_cons]; omega
theorem sum_pick : ∀ (idx : List Nat) (l : List Int), (∀ x ∈ l, 0 ≤ x) → idx.Nodup → (∀ i ∈ idx, i < l.length) → (idx.map (at0 l)).sum ≤ l.sum
  | [], l, h, _, _ => by simpa using sum_nonneg l h
  | i :: r, l, h, hn, hi => by
    rw [List.nodup_cons] at hn
    have h1 := sum_set l i (hi i (by simp))
    have h2 := sum_pick r (l.set i 0) (fun x hx => by
      rcases List.mem_or_eq_of_mem_set hx with h' | h'
      · exact h x h'
      · omega) hn.2 (fun j hj => by rw [List.length_set]; exact hi j (by simp [hj]))
    have h3 : r.map (at0 (l.set i 0)) = r.map (at0 l) := List.map_congr_left fun j hj => by
      have : i ≠ j := fun e => hn.1 (e ▸ hj)
      simp [at0, List.getElem?_set, this]
    rw [h3] at h2
    simp only [List.map_cons, List.sum_cons]
    omega
theorem sum_le {α : Type} {f g : α → Int} : ∀ (l : List α), (∀ x ∈ l, f x ≤ g x) → (l.map f).sum ≤ (l.map g).sum
  | [], _ => by simp
  | x :: r, h => by
    have := sum_le r fun y hy => h y (by simp [hy])
    have := h x (by simp)
    simp only [List.map_cons, List.sum_cons]; omega
theorem sum_le_eq {α : Type} {f g : α → Int} : ∀ (l : List α), (∀ x ∈ l, f x ≤ g x) → (l.map g).sum ≤ (l.map f).sum → ∀ x ∈ l, g x ≤ f x
  | [], _, _ => by simp
  | x :: r, h, hs => by
    have h1 := sum_le r fun y hy => h y (by simp [hy])
    have h2 := h x (by simp)
    simp only [List.map_cons, List.sum_cons] at hs
    intro y hy
    rcases List.mem_cons.1 hy with rfl | hy
    · omega
    · exact sum_le_eq r (fun y hy => h y (by simp [hy])) (by omega) y hy
theorem sum_add {α : Type} {f g : α → Int} : ∀ (l : List α), (l.map fun x => f x + g x).sum = (l.map f).sum + (l.map g).sum
  | [] => by simp
  | x :: r => by
    have := sum_add (f := f) (g := g) r
    simp only [List.map_cons, List.sum_cons]; omega
/-! ### pairs -/
theorem pairs_rows {g : Graph} {es : List Edge} (hg : graphBad g es = false) : ∀ {ps : List Pair} {last : Int} {bits : List Bool}, pairsGo es last bits ps = false → (∀ p ∈ ps, last < p.r) ∧ ps.Pairwise (fun p q => p.r < q.r)
  | [], _, _, _ => ⟨by simp, .nil⟩
  | p :: r, last, bits, h => by
    simp only [pairsGo, Bool.or_eq_false_iff, decide_eq_false_iff_not] at h
    obtain ⟨h1, h2⟩ := pairs_rows hg h.2
    refine ⟨fun q hq => ?_, .cons h1 h2⟩
    rcases List.mem_cons.1 hq with rfl | hq
    · have := h.1.1.1; omega
    · have := h1 q hq; have := h.1.1.1; omega
theorem pairs_cols {es : List Edge} : ∀ {ps ahead : List Pair}, refPairs es ahead ps = false → ps.Pairwise (fun p q => p.c ≠ q.c) ∧ ∀ p ∈ ps, ∀ q ∈ ahead, q.c ≠ p.c
  | [], _, _ => ⟨.nil, by simp⟩
  | p :: r, ahead, h => by
    simp only [refPairs, Bool.or_eq_false_iff] at h
    obtain ⟨h1, h2⟩ := pairs_cols h.2
    have h3 : ∀ q ∈ ahead, q.c ≠ p.c := by
      have := h.1.2
      rw [List.any_eq_false] at this
      intro q hq; simpa using this q hq
    refine ⟨.cons (fun q hq => ?_) h1, fun q hq y hy => ?_⟩
    · exact h2 q hq p (by simp)
    · rcases List.mem_cons.1 hq with rfl | hq
      · exact h3 y hy
      · exact h2 q hq y (by simp [hy])
theorem rise_few : ∀ {ps : List Pair} {last : Int}, ps.Pairwise (fun p q => p.r < q.r) → (∀ p ∈ ps, last < p.r ∧ p.r < 64) → last ≤ 63 → (ps.length : Int) ≤ 63 - last
  | [], last, _, _, h => by simp; omega
  | p :: r, last, h, hb, hl => by
    rw [List.pairwise_cons] at h
    have h1 := hb p (by simp)
    have := rise_few (last := p.r) h.2 (fun q hq => ⟨h.1 q hq, (hb q (by simp [hq])).2⟩) (by omega)
    simp only [List.length_cons]; omega
theorem pairs_few {g : Graph} {es : List Edge} {ps : List Pair} (hg : graphBad g es = false) (hp : pairsBad es ps = false) : ps.length ≤ 64 := by
  obtain ⟨h1, h2⟩ := pairs_rows hg hp
  have := rise_few (last := -1) h2 (fun p hpm => ⟨h1 p hpm, by have := wt_range hg (pairsGo_ok hp p hpm); omega⟩) (by omega)
  omega
/-! ### the prices -/
structure CertP (g : Graph) (es : List Edge) (ps : List Pair) (ys zs : List Int) : Prop where
  ok : graphBad g es = false
  p : pairsBad es ps = false
  ly : (ys.length : Int) = g.rows
  lz : (zs.length : Int) = g.cols
  y0 : ∀ y ∈ ys, 0 ≤ y
  z0 : ∀ z ∈ zs, 0 ≤ z
  hold : ∀ e ∈ es, e.w ≤ at0 ys e.r.toNat + at0 zs e.c.toNat
  gap : ys.sum + zs.sum = (ps.map (wt es)).sum
theorem wt_mem {es : List Edge} {p : Pair} (h : wt es p ≠ 0) : ∃ e ∈ es, e.r = p.r ∧ e.c = p.c ∧ wt es p = e.w := by
  unfold wt at h ⊢
  cases hf : es.find? (fun x => x.r == p.r && x.c == p.c) with
  | none => simp [hf] at h
  | some e =>
    have h1 := List.find?_some hf
    simp at h1
    exact ⟨e, List.mem_of_find?_eq_some hf, h1.1, h1.2, rfl⟩
theorem edge_range {g : Graph} {es : List Edge} (hg : graphBad g es = false) {e : Edge} (he : e ∈ es) : 0 ≤ e.r ∧ e.r < g.rows ∧ 0 ≤ e.c ∧ e.c < g.cols ∧ 1 ≤ e.w ∧ e.w ≤ 1099513724929 := by
  simp only [graphBad, Bool.or_eq_false_iff] at hg
  have := ((edgesBad_spec hg.2).1 e he).1
  simp [edgeOut] at this
  omega
/-- who is passed over with an edge: another one took its column, at no less a weight -/
theorem overtaken {g : Graph} {es : List Edge} {ps : List Pair} {ys zs : List Int} (h : CertP g es ps ys zs) {e : Edge} (he : e ∈ es) (hu : ∀ p ∈ ps, p.r ≠ e.r) : ∃ p ∈ ps, p.c = e.c ∧ e.w ≤ wt es p := by
  obtain ⟨hg, hp, hly, hlz, hy0, hz0, hhold, hgap⟩ := h
  have hok := pairsGo_ok hp
  obtain ⟨_, hrise⟩ := pairs_rows hg hp
  have hcols := (pairs_cols (by rw [refPairs_eq hg]; exact hp : refPairs es [] ps = false)).1
  obtain ⟨er0, er1, ec0, ec1, ew1, _⟩ := edge_range hg he
  have hpr : ∀ p ∈ ps, 0 ≤ p.r ∧ p.r.toNat < ys.length ∧ 0 ≤ p.c ∧ p.c.toNat < zs.length := fun p hpm => by
    have := wt_range hg (hok p hpm); omega
  have hle : ∀ p ∈ ps, wt es p ≤ at0 ys p.r.toNat + at0 zs p.c.toNat := fun p hpm => by
    obtain ⟨e', he', h1, h2, h3⟩ := wt_mem (hok p hpm)
    rw [h3, ← h1, ← h2]; exact hhold e' he'
  have hnr : (ps.map fun p => p.r.toNat).Nodup := by
    refine List.pairwise_map.2 (List.Pairwise.imp_of_mem (fun {p q} hp1 hq1 hlt => ?_) hrise)
    have := hpr p hp1; have := hpr q hq1; omega
  have hnc : (ps.map fun p => p.c.toNat).Nodup := by
    refine List.pairwise_map.2 (List.Pairwise.imp_of_mem (fun {p q} hp1 hq1 hne => ?_) hcols)
    have := hpr p hp1; have := hpr q hq1; omega
  have hs := sum_le ps hle
  rw [sum_add] at hs
  have hsy := sum_pick ((e.r.toNat) :: ps.map fun p => p.r.toNat) ys hy0 (List.nodup_cons.2 ⟨fun hm => by
    obtain ⟨p, hpm, hpe⟩ := List.mem_map.1 hm
    have := hpr p hpm
    exact hu p hpm (by omega), hnr⟩) (fun i hi => by
      rcases List.mem_cons.1 hi with rfl | hi
      · omega
      · obtain ⟨p, hpm, rfl⟩ := List.mem_map.1 hi; exact (hpr p hpm).2.1)
  have hsz := sum_pick (ps.map fun p => p.c.toNat) zs hz0 hnc (fun i hi => by obtain ⟨p, hpm, rfl⟩ := List.mem_map.1 hi; exact (hpr p hpm).2.2.2)
  simp only [List.map_cons, List.sum_cons, List.map_map, Function.comp_def] at hsy hsz
  have hye : 0 ≤ at0 ys e.r.toNat := by
    unfold at0
    cases hq : ys[e.r.toNat]? with
    | none => simp
    | some y => simpa using hy0 y (List.mem_of_getElem? hq)
  have hy : at0 ys e.r.toNat = 0 := by omega
  have hze := hhold e he
  have hin : ∃ p ∈ ps, p.c.toNat = e.c.toNat := by
    apply Classical.byContradiction
    intro hno
    have h2 := sum_pick ((e.c.toNat) :: ps.map fun p => p.c.toNat) zs hz0 (List.nodup_cons.2 ⟨fun hm => by
      obtain ⟨p, hpm, hpe⟩ := List.mem_map.1 hm
      exact hno ⟨p, hpm, hpe⟩, hnc⟩) (fun i hi => by
        rcases List.mem_cons.1 hi with rfl | hi
        · omega
        · obtain ⟨p, hpm, rfl⟩ := List.mem_map.1 hi; exact (hpr p hpm).2.2.2)
    simp only [List.map_cons, List.sum_cons, List.map_map, Function.comp_def] at h2
    omega
  obtain ⟨p, hpm, hpc⟩ := hin
  have hpc' : p.c = e.c := by have := hpr p hpm; omega
  refine ⟨p, hpm, hpc', ?_⟩
  have heq := sum_le_eq ps hle (by rw [sum_add]; omega) p hpm
  have hyp : 0 ≤ at0 ys p.r.toNat := by
    unfold at0
    cases hq : ys[p.r.toNat]? with
    | none => simp
    | some y => simpa using hy0 y (List.mem_of_getElem? hq)
  rw [hpc] at heq
  omega
/-! ### a row of records -/
def passes (x : Record) (c : RecC) (id : ID) : Bool := (goodT x c id).1 && ((goodT x c id).2.1 && !(goodT x c id).2.2)
/-- what 'ordered' makes sure of -/
structure OrdP (x : Record) (c : RecC) : Prop where
  cert : CertP x.g c.es c.ps c.ys c.zs
  since : ∀ w ∈ c.ws, w.since < x.tick
  order : ∀ e ∈ c.es, ∀ e' ∈ c.es, ∀ (w w' : Waiting), c.ws[e.r.toNat]? = some w → c.ws[e'.r.toNat]? = some w' → e'.w ≤ e.w → w.since ≤ w'.since
/-- what 'follows' makes sure of -/
def FolP (x0 : Record) (c0 : RecC) (c : RecC) : Prop := ∀ w ∈ c.ws, w.since < x0.tick → (goodT x0 c0 w.id).1 = true ∧ (goodT x0 c0 w.id).2.2 = false
/-- a record all of which is as it may be -/
structure RecOK (x : Record) (c : RecC) : Prop where
  f : faultE x c = 0
  d : dupB [] c.ws = false
  o : OrdP x c
theorem good_iff {x : Record} {c : RecC} (h : RecOK x c) {w : Waiting} (hw : w ∈ c.ws) : ∃ i : Nat, c.ws[i]? = some w ∧ goodT x c w.id = (true, c.es.any (fun e => e.r == (i : Int)), c.ps.any (fun p => p.r == (i : Int))) := by
  obtain ⟨i, hi⟩ := List.getElem?_of_mem hw
  have hn := (dupB_nodup _ _ h.d).1
  exact ⟨i, hi, by rw [goodT_ref]; simp [refGood, rowOf_nodup hn hi, h.f]⟩
theorem good_waits {x : Record} {c : RecC} {id : ID} (h : (goodT x c id).1 = true) : ∃ w ∈ c.ws, w.id = id := by
  unfold goodT at h
  cases hr : rowOf c.ws id with
  | none => simp [hr] at h
  | some i =>
    unfold rowOf at hr
    rw [List.findIdx?_eq_some_iff_getElem] at hr
    obtain ⟨h1, h2, _⟩ := hr
    exact ⟨_, List.getElem_mem h1, by simpa using h2⟩
/-- each time somebody is passed over, somebody who came no later leaves -/
theorem passed {x : Record} {c : RecC} (h : RecOK x c) {w : Waiting} (hw : w ∈ c.ws) (hp : passes x c w.id = true) : ∃ v ∈ c.ws, (goodT x c v.id).2.2 = true ∧ v.since ≤ w.since := by
  obtain ⟨i, hi, hg⟩ := good_iff h hw
  simp only [passes, hg, Bool.true_and, Bool.and_eq_true, Bool.not_eq_true', List.any_eq_true, List.any_eq_false, beq_iff_eq] at hp
  obtain ⟨⟨e, he, her⟩, hno⟩ := hp
  obtain ⟨p, hpm, hpc, hpw⟩ := overtaken h.o.cert he (fun p hpm => by rw [her]; simpa using hno p hpm)
  have hwt := pairsGo_ok h.o.cert.p p hpm
  obtain ⟨e', he', h1, h2, h3⟩ := wt_mem hwt
  have hr := wt_range h.o.cert.ok hwt
  have hfine := fine_of h.f
  have hlt : p.r.toNat < c.ws.length := by have := hfine.nr; omega
  have hv : c.ws[p.r.toNat]? = some c.ws[p.r.toNat] := List.getElem?_eq_getElem hlt
  refine ⟨c.ws[p.r.toNat], List.getElem_mem hlt, ?_, ?_⟩
  · have hn := (dupB_nodup _ _ h.d).1
    have : goodT x c (c.ws[p.r.toNat]).id = (true, c.es.any (fun e => e.r == ((p.r.toNat : Nat) : Int)), c.ps.any (fun q => q.r == ((p.r.toNat : Nat) : Int))) := by
      rw [goodT_ref]; simp [refGood, rowOf_nodup hn hv, h.f]
    rw [this]
    simp only [List.any_eq_true, beq_iff_eq]
    exact ⟨p, hpm, by omega⟩
  · exact h.o.order e' he' e he _ _ (by rw [h1]; exact hv) (by rw [her]; simpa using hi) (by rw [← h3]; exact hpw)
end Go.Cab
