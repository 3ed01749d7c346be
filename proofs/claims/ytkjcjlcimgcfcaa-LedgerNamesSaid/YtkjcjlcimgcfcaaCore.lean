/- The judgement J over partial environments: how a function's code is carried over to a shallow program, operation by operation. -/
import Derived.WalkKit
import Derived.OrdersHeld
import Derived.Scope
namespace Go.Cab
set_option linter.unusedSimpArgs false
set_option linter.unusedVariables false
set_option linter.unusedSectionVars false
open Go

abbrev WP := World → Prop
abbrev Env := List (Nat × Value)

def Env.find : Env → Nat → Option Value
  | [], _ => none
  | (s, v) :: r, t => bif Nat.beq s t then some v else Env.find r t

def Env.ev (e : Env) : Operand → Option Value
  | .tmp t => e.find t
  | .const v => some v
  | .global g => some (.pointer (some ⟨g, 0, none⟩))
  | .func f => some (.func (.func f) #[] #[])

theorem beq_false {a b : Nat} (h : a ≠ b) : Nat.beq a b = false := by
  cases hb : Nat.beq a b
  · rfl
  · exact absurd (Nat.eq_of_beq_eq_true hb) h
theorem ne_of_beq {a b : Nat} (h : Nat.beq a b = false) : a ≠ b := Nat.ne_of_beq_eq_false h

structure Sim (n : Nat) (e : Env) (a : Act) : Prop where
  defers : a.defers = []
  size : a.tmps.size = n
  get : ∀ t v, e.find t = some v → a.tmps[t]? = some v

theorem Sim.ev {n : Nat} {e : Env} {a : Act} (h : Sim n e a) {x : Operand} {v : Value} (hx : e.ev x = some v) : a.eval x = v := by
  cases x with
  | tmp t =>
    have := h.get t v hx
    simp [Act.eval, Array.getD_eq_getD_getElem?, this]
  | const v => simpa [Env.ev, Act.eval] using hx
  | global g => simpa [Env.ev, Act.eval] using hx
  | func f => simpa [Env.ev, Act.eval] using hx

theorem Sim.put {n : Nat} {e : Env} {a : Act} (h : Sim n e a) {d : Nat} (hd : Nat.blt d n = true) (v : Value) : Sim n ((d, v) :: e) (a.put (some d) v) := by
  have hd' : d < n := by simpa [Nat.blt_eq] using hd
  refine ⟨h.defers, by simp [Act.put, h.size], fun t u ht => ?_⟩
  simp only [Act.put, Array.getElem?_setIfInBounds]
  simp only [Env.find] at ht
  by_cases hdt : d = t
  · subst hdt
    simp at ht
    simp [h.size, hd', ht]
  · have hb : Nat.beq d t = false := beq_false hdt
    simp only [hb, cond_false] at ht
    rw [if_neg hdt]
    exact h.get t u ht

/-- every entry of 'l' is found in 'e' -/
def Env.covers (e : Env) : Env → Prop
  | [] => True
  | (t, v) :: r => e.find t = some v ∧ Env.covers e r

theorem Env.covers_find {e : Env} : ∀ {l : Env}, e.covers l → ∀ t v, l.find t = some v → e.find t = some v
  | [], _, _, _, h => by simp [Env.find] at h
  | (s, u) :: r, hc, t, v, h => by
    simp only [Env.find] at h
    by_cases hst : s = t
    · subst hst
      simp at h
      subst h
      exact hc.1
    · have hb : Nat.beq s t = false := beq_false hst
      simp only [hb, cond_false] at h
      exact Env.covers_find hc.2 t v h

theorem Sim.sub {n : Nat} {e l : Env} {a : Act} (h : Sim n e a) (hc : e.covers l) : Sim n l a :=
  ⟨h.defers, h.size, fun t v ht => h.get t v (Env.covers_find hc t v ht)⟩

def J (P : Program) (n : Nat) (e : Env) (c : Code) (Q : Exit → Act → World → Prop) (w : World) : Prop := ∀ a, Sim n e a → Code.wp P c Q a w
def JL (P : Program) (n : Nat) (ops : Array Oper) (e : Env) (l : List Oper) (Q : Exit → Act → World → Prop) (w : World) : Prop := ∀ a, Sim n e a → wpList P ops Q l a w
/-- what is asked at an exit -/
def JX (n : Nat) (e : Env) (Q : Act → World → Prop) (w : World) : Prop := ∀ a, Sim n e a → Q a w

/-! ### programs in continuation form -/
def semV (P : Program) (m : Sem Value) (K : Value → WP) : WP := fun w => ∃ v w', m.run P w = .ok v w' ∧ K v w'
def semU (P : Program) (m : Sem Unit) (K : WP) : WP := fun w => ∃ w', m.run P w = .ok () w' ∧ K w'
def callH (P : Program) (f : FuncId) (args : Array Value) (K : Value → WP) : WP := fun w => Calls P f args w fun e w' => ∃ v, e = .returned v ∧ K v w'
def callF (P : Program) (f : Value) (args : Array Value) (K : Value → WP) : WP := fun w => ∃ g first cap, f = .func (.func g) first cap ∧ (∀ args w, (callFunc g args).run P w = .ok (.enter g args) w) ∧ callH P g ((first ++ args) ++ cap) K w
def asI (k : IntKind) (v : Value) (K : Int → WP) : WP := fun w => ∃ n, v = .int k n ∧ K n w
def asB (v : Value) (K : Bool → WP) : WP := fun w => ∃ b, v = .bool b ∧ K b w
def asP (v : Value) (K : Addr → WP) : WP := fun w => ∃ a, v = .pointer (some a) ∧ K a w
def guardH (p : Prop) (K : WP) : WP := fun w => p ∧ K w
def orB (c : Bool) (m : (Bool → WP) → WP) (k : Bool → WP) : WP := if c then k true else m k
def andB (c : Bool) (m : (Bool → WP) → WP) (k : Bool → WP) : WP := if c then m k else k false
def iteH (c : Bool) (a b : WP) : WP := if c then a else b
def joinH {α : Type} (rest : α → WP) (body : (α → WP) → WP) : WP := body rest
def loopH {σ : Type} (body : (σ → WP) → σ → WP) (s : σ) : WP := fun w =>
  ∃ (I : σ → World → Prop) (μ : σ → World → Nat), I s w ∧ ∀ s w, I s w → body (fun s' w' => I s' w' ∧ μ s' w' < μ s w) s w
/-- the value that an operation is known to yield -/
def yieldH (P : Program) (m : Sem Value) (K : Value → WP) : WP := fun w => ∃ v, m.run P w = .ok v w ∧ K v w

@[simp] theorem asI_int (k : IntKind) (n : Int) (K : Int → WP) : asI k (.int k n) K = K n := by
  funext w; simp [asI]
@[simp] theorem asB_bool (b : Bool) (K : Bool → WP) : asB (.bool b) K = K b := by
  funext w; simp [asB]
@[simp] theorem asP_ptr (a : Addr) (K : Addr → WP) : asP (.pointer (some a)) K = K a := by
  funext w; simp [asP]
@[simp] theorem iteH_true (a b : WP) : iteH true a b = a := rfl
@[simp] theorem iteH_false (a b : WP) : iteH false a b = b := rfl
@[simp] theorem orB_true (m : (Bool → WP) → WP) (k : Bool → WP) : orB true m k = k true := rfl
@[simp] theorem orB_false (m : (Bool → WP) → WP) (k : Bool → WP) : orB false m k = m k := rfl
@[simp] theorem andB_true (m : (Bool → WP) → WP) (k : Bool → WP) : andB true m k = m k := rfl
@[simp] theorem andB_false (m : (Bool → WP) → WP) (k : Bool → WP) : andB false m k = k false := rfl

section
variable {P : Program} {n : Nat} {e : Env} {Q : Exit → Act → World → Prop} {w : World}

/-! ### code -/
theorem J.sub {l : Env} {c : Code} (hc : e.covers l) (h : J P n l c Q w) : J P n e c Q w := fun a hs => h a (hs.sub hc)
theorem JX.sub {l : Env} {R : Act → World → Prop} (hc : e.covers l) (h : JX n l R w) : JX n e R w := fun a hs => h a (hs.sub hc)
theorem JL.sub {ops : Array Oper} {l : Env} {c : List Oper} (hc : e.covers l) (h : JL P n ops l c Q w) : JL P n ops e c Q w := fun a hs => h a (hs.sub hc)
theorem J.seq {x y : Code} (h : J P n e x (Exit.then (y.wp P Q) Q) w) : J P n e (.seq x y) Q w := fun a hs => wp_seq (h a hs)
theorem J.skip (h : JX n e (Q .normal) w) : J P n e .skip Q w := fun a hs => wp_skip (h a hs)
theorem J.ret (h : JX n e (Q .ret) w) : J P n e .ret Q w := fun a hs => wp_ret (h a hs)
theorem J.exit {id : Nat} (h : JX n e (Q (.exit id)) w) : J P n e (.exit id) Q w := fun a hs => wp_exit (h a hs)
theorem J.block {id : Nat} {c : Code} (h : J P n e c (Exit.inBlock id Q) w) : J P n e (.block id c) Q w := fun a hs => wp_block (h a hs)
theorem J.cond {c : Operand} {x y : Code} {b : Bool} (hc : e.ev c = some (.bool b)) {A B : WP} (h : iteH b A B w)
    (hx : A w → J P n e x Q w) (hy : B w → J P n e y Q w) : J P n e (.cond c x y) Q w := fun a hs => by
  cases b
  · exact wp_cond_false (hs.ev hc) (hy h a hs)
  · exact wp_cond_true (hs.ev hc) (hx h a hs)
theorem J.region {id : Nat} {ops : List Oper} (h : JL P n ops.toArray e ops Q w) : J P n e (.region id ops.toArray false) Q w := fun a hs => wp_region_lit (h a hs)
theorem JL.nil {ops : Array Oper} (h : JX n e (Q .normal) w) : JL P n ops e [] Q w := fun a hs => wpList_nil (h a hs)
/-- behind a piece of code comes the next -/
theorem JX.then {y : Code} (h : J P n e y Q w) : JX n e (Exit.then (y.wp P Q) Q .normal) w := h
theorem JX.thenRet {F : Act → World → Prop} (h : JX n e (Q .ret) w) : JX n e (Exit.then F Q .ret) w := h
theorem JX.thenExit {F : Act → World → Prop} {id : Nat} (h : JX n e (Q (.exit id)) w) : JX n e (Exit.then F Q (.exit id)) w := h
theorem JX.blockRet {id : Nat} (h : JX n e (Q .ret) w) : JX n e (Exit.inBlock id Q .ret) w := h
theorem JX.blockNormal {id : Nat} (h : JX n e (Q .normal) w) : JX n e (Exit.inBlock id Q .normal) w := h
theorem JX.blockHere {id : Nat} (h : JX n e (Q .normal) w) : JX n e (Exit.inBlock id Q (.exit id)) w := by
  intro a hs; simp only [Exit.inBlock, if_true]; exact h a hs
theorem JX.blockOut {id id' : Nat} (hne : Nat.beq id' id = false) (h : JX n e (Q (.exit id')) w) : JX n e (Exit.inBlock id Q (.exit id')) w := by
  have : id' ≠ id := ne_of_beq hne
  intro a hs; simp only [Exit.inBlock, this, if_false]; exact h a hs

/-- a loop: what the shallow loop's invariant says, at the environment 'L s' -/
theorem J.loop {σ : Type} {body : (σ → WP) → σ → WP} {s : σ} (h : loopH body s w) (L : σ → Env) {c : Code} (hc : e.covers (L s))
    (hr : ∀ (I : σ → World → Prop) (μ : σ → World → Nat) (s : σ) (w : World), body (fun s' w' => I s' w' ∧ μ s' w' < μ s w) s w →
      J P n (L s) c (Exit.then (fun a' w' => ∃ s', Sim n (L s') a' ∧ I s' w' ∧ μ s' w' < μ s w) Q) w) : J P n e (.loop c) Q w := by
  obtain ⟨I, μ, h0, hb⟩ := h
  intro a hs
  classical
  refine wp_loop (fun a w => ∃ s, Sim n (L s) a ∧ I s w) (fun a w => if h : ∃ m, (∃ s, Sim n (L s) a ∧ I s w ∧ μ s w = m) ∧ ∀ k, (∃ s, Sim n (L s) a ∧ I s w ∧ μ s w = k) → m ≤ k then Classical.choose h else 0) ⟨s, hs.sub hc, h0⟩ ?_
  rintro a w ⟨s0, hs0, hI0⟩
  -- the least measure
  have hex : ∃ m, (∃ s, Sim n (L s) a ∧ I s w ∧ μ s w = m) ∧ ∀ k, (∃ s, Sim n (L s) a ∧ I s w ∧ μ s w = k) → m ≤ k := by
    have key : ∀ m, (∃ s, Sim n (L s) a ∧ I s w ∧ μ s w = m) → ∃ m, (∃ s, Sim n (L s) a ∧ I s w ∧ μ s w = m) ∧ ∀ k, (∃ s, Sim n (L s) a ∧ I s w ∧ μ s w = k) → m ≤ k := by
      intro m
      induction m using Nat.strongRecOn with
      | _ m ih =>
        intro hm
        by_cases hlt : ∃ k, k < m ∧ ∃ s, Sim n (L s) a ∧ I s w ∧ μ s w = k
        · obtain ⟨k, hk, hk'⟩ := hlt
          exact ih k hk hk'
        · exact ⟨m, hm, fun k hk => Nat.le_of_not_lt fun hl => hlt ⟨k, hl, hk⟩⟩
    exact key _ ⟨s0, hs0, hI0, rfl⟩
  rw [dif_pos hex]
  obtain ⟨⟨s1, hs1, hI1, hm1⟩, hmin⟩ := Classical.choose_spec hex
  rw [← hm1]
  refine wp_mono (hr I μ s1 w (hb s1 w hI1) a hs1) ?_
  intro ex a' w' hq
  cases ex with
  | normal =>
    obtain ⟨s', hs', hI', hlt⟩ := hq
    refine ⟨⟨s', hs', hI'⟩, ?_⟩
    have hex' : ∃ m, (∃ s, Sim n (L s) a' ∧ I s w' ∧ μ s w' = m) ∧ ∀ k, (∃ s, Sim n (L s) a' ∧ I s w' ∧ μ s w' = k) → m ≤ k := by
      have key : ∀ m, (∃ s, Sim n (L s) a' ∧ I s w' ∧ μ s w' = m) → ∃ m, (∃ s, Sim n (L s) a' ∧ I s w' ∧ μ s w' = m) ∧ ∀ k, (∃ s, Sim n (L s) a' ∧ I s w' ∧ μ s w' = k) → m ≤ k := by
        intro m
        induction m using Nat.strongRecOn with
        | _ m ih =>
          intro hm
          by_cases hlt : ∃ k, k < m ∧ ∃ s, Sim n (L s) a' ∧ I s w' ∧ μ s w' = k
          · obtain ⟨k, hk, hk'⟩ := hlt
            exact ih k hk hk'
          · exact ⟨m, hm, fun k hk => Nat.le_of_not_lt fun hl => hlt ⟨k, hl, hk⟩⟩
      exact key _ ⟨s', hs', hI', rfl⟩
    rw [dif_pos hex']
    exact Nat.lt_of_le_of_lt ((Classical.choose_spec hex').2 _ ⟨s', hs', hI', rfl⟩) hlt
  | exit id => exact hq
  | goto l => exact hq
  | ret => exact hq
  | panic ch => exact hq
  | outgrown => exact hq
theorem JX.loopEnd {σ : Type} {L : σ → Env} {I : σ → World → Prop} {μ : σ → World → Nat} {m : Nat} {s' : σ} (h : I s' w ∧ μ s' w < m) (hc : e.covers (L s')) :
    JX n e (Exit.then (fun a' w' => ∃ s', Sim n (L s') a' ∧ I s' w' ∧ μ s' w' < m) Q .normal) w := fun a hs => ⟨s', hs.sub hc, h⟩

/-! ### operations -/
section
variable {ops : Array Oper} {l : List Oper}

theorem wanted_none {o : Oper} (hg : o.guard = none) (y : Nat → Option Bool) : Region.wanted o y = true := by simp [Region.wanted, hg]

/-- an operation that runs as 'm' says -/
theorem JL.val {o : Oper} {d : Nat} {K : Value → WP} (m : Sem Value) (hg : o.guard = none) (hd : o.dst = some d) (hn : Nat.blt d n = true)
    (hm : ∀ a, Sim n e a → execOp a.eval o = (do pure (.value (← m)))) (h : semV P m K w)
    (hk : ∀ v w', K v w' → JL P n ops ((d, v) :: e) l Q w') : JL P n ops e (o :: l) Q w := by
  intro a hs
  obtain ⟨v, w', hr, hK⟩ := h
  refine wpList_plain hg fun K' hK' => ?_
  unfold Oper.wp
  rw [hm a hs]
  simp only [Sem.run_bind, hr, Result.andThen_ok, Sem.run_pure, Oper.upon, hd]
  exact hK' _ _ (hk v w' hK _ (hs.put hn v))
theorem JL.val0 {o : Oper} {d : Nat} (v : Value) (hg : o.guard = none) (hd : o.dst = some d) (hn : Nat.blt d n = true)
    (hm : ∀ a, Sim n e a → ∀ w, (execOp a.eval o).run P w = .ok (.value v) w) (h : JL P n ops ((d, v) :: e) l Q w) : JL P n ops e (o :: l) Q w := by
  intro a hs
  refine wpList_plain hg fun K' hK' => ?_
  unfold Oper.wp
  rw [hm a hs w]
  simp only [Oper.upon, hd]
  exact hK' _ _ (h _ (hs.put hn v))
theorem JL.unit {o : Oper} {K : WP} (m : Sem Unit) (hg : o.guard = none) (hd : o.dst = none)
    (hm : ∀ a, Sim n e a → execOp a.eval o = (do m; pure Next.skip)) (h : semU P m K w)
    (hk : ∀ w', K w' → JL P n ops e l Q w') : JL P n ops e (o :: l) Q w := by
  intro a hs
  obtain ⟨w', hr, hK⟩ := h
  refine wpList_plain hg fun K' hK' => ?_
  unfold Oper.wp
  rw [hm a hs]
  simp only [Sem.run_bind, hr, Result.andThen_ok, Sem.run_pure, Oper.upon, hd, Act.put]
  exact hK' _ _ (hk w' hK _ hs)
/-- a guard that says yes -/
theorem JL.yes {d : Option Tmp} {op : Op} {ty : TypeId} {pos : String} {after : Array Edge} {j dj : Nat} {b : Bool}
    (hj : (ops[j]?).bind (·.dst) = some dj) (hv : e.find dj = some (.bool b)) (h : JL P n ops e (⟨d, op, ty, pos, after, none⟩ :: l) Q w) :
    JL P n ops e (⟨d, op, ty, pos, after, some (j, b)⟩ :: l) Q w := by
  intro a hs
  have h0 := h a hs
  have hget := hs.get dj _ hv
  have hw : Region.wanted ⟨d, op, ty, pos, after, some (j, b)⟩ (yielded ops a.tmps) = true := by
    simp [Region.wanted, yielded, hj, hget]
  unfold wpList at h0 ⊢
  rw [if_pos (wanted_none rfl _)] at h0
  rw [if_pos hw]
  exact h0
/-- a guard that says no -/
theorem JL.no {d : Nat} {op : Op} {ty : TypeId} {pos : String} {after : Array Edge} {j dj : Nat} {b b' : Bool}
    (hj : (ops[j]?).bind (·.dst) = some dj) (hv : e.find dj = some (.bool b')) (hb : (b' == b) = false) (h : JL P n ops e l Q w)
    (hn : Nat.blt d n = true) (hfresh : e.find d = none) :
    JL P n ops e (⟨some d, op, ty, pos, after, some (j, b)⟩ :: l) Q w := by
  intro a hs
  have hget := hs.get dj _ hv
  have hw : Region.wanted ⟨some d, op, ty, pos, after, some (j, b)⟩ (yielded ops a.tmps) = false := by
    cases b <;> cases b' <;> simp_all [Region.wanted, yielded]
  unfold wpList
  rw [if_neg (by simp [hw])]
  refine h _ ?_
  have := hs.put hn undef
  refine ⟨this.defers, this.size, fun t v ht => ?_⟩
  refine this.get t v ?_
  simp only [Env.find]
  have : Nat.beq d t = false := beq_false (by
    rintro rfl
    rw [hfresh] at ht
    cases ht)
  simp [this, ht]
end
end

/-! ### what an operation does, at a partial environment -/
def ExecIs (n : Nat) (e : Env) (o : Oper) (m : Sem Value) : Prop := ∀ a, Sim n e a → execOp a.eval o = (do pure (Next.value (← m)))
def ExecU (n : Nat) (e : Env) (o : Oper) (m : Sem Unit) : Prop := ∀ a, Sim n e a → execOp a.eval o = (do m; pure Next.skip)
def ExecP (P : Program) (n : Nat) (e : Env) (o : Oper) (v : Value) : Prop := ∀ a, Sim n e a → ∀ w, (execOp a.eval o).run P w = .ok (.value v) w
def Wants (n : Nat) (e : Env) (ops : Array Oper) (o : Oper) : Prop := ∀ a, Sim n e a → Region.wanted o (yielded ops a.tmps) = true
def WantsNot (n : Nat) (e : Env) (ops : Array Oper) (o : Oper) : Prop := ∀ a, Sim n e a → Region.wanted o (yielded ops a.tmps) = false

theorem Wants.none {n : Nat} {e : Env} {ops : Array Oper} {o : Oper} (h : o.guard = Option.none) : Wants n e ops o := fun _ _ => wanted_none h _
theorem Wants.yes {n : Nat} {e : Env} {ops : Array Oper} {o : Oper} {j dj : Nat} {b : Bool} (h : o.guard = some (j, b)) (hj : (ops[j]?).bind (·.dst) = some dj) (hv : e.find dj = some (.bool b)) : Wants n e ops o := fun a hs => by
  have hget := hs.get dj _ hv
  simp [Region.wanted, yielded, h, hj, hget]
theorem WantsNot.no {n : Nat} {e : Env} {ops : Array Oper} {o : Oper} {j dj : Nat} {b b' : Bool} (h : o.guard = some (j, b)) (hj : (ops[j]?).bind (·.dst) = some dj) (hv : e.find dj = some (.bool b')) (hb : (b' == b) = false) : WantsNot n e ops o := fun a hs => by
  have hget := hs.get dj _ hv
  cases b <;> cases b' <;> simp_all [Region.wanted, yielded]
theorem WantsNot.undef {n : Nat} {e : Env} {ops : Array Oper} {o : Oper} {j dj : Nat} {b : Bool} (h : o.guard = some (j, b)) (hj : (ops[j]?).bind (·.dst) = some dj) (hv : e.find dj = some undef) : WantsNot n e ops o := fun a hs => by
  have hget := hs.get dj _ hv
  simp [Region.wanted, yielded, h, hj, hget, Go.undef]

section
variable {P : Program} {n : Nat} {e : Env} {Q : Exit → Act → World → Prop} {w : World} {ops : Array Oper} {l : List Oper}

theorem wpList_yes {o : Oper} {a : Act} (hw : Region.wanted o (yielded ops a.tmps) = true) (h : ∀ K : Act → World → Prop, (∀ a w, wpList P ops Q l a w → K a w) → o.wp P a w K Q) : wpList P ops Q (o :: l) a w := by
  unfold wpList
  rw [if_pos hw]
  exact .inl (h _ fun _ _ h => h)

theorem JL.exV {o : Oper} {d : Nat} {m : Sem Value} {K : Value → WP} (hw : Wants n e ops o) (hd : o.dst = some d) (hn : Nat.blt d n = true)
    (hm : ExecIs n e o m) (h : semV P m K w) (hk : ∀ v w', K v w' → JL P n ops ((d, v) :: e) l Q w') : JL P n ops e (o :: l) Q w := by
  intro a hs
  obtain ⟨v, w', hr, hK⟩ := h
  refine wpList_yes (hw a hs) fun K' hK' => ?_
  unfold Oper.wp
  rw [hm a hs]
  simp only [Sem.run_bind, hr, Result.andThen_ok, Sem.run_pure, Oper.upon, hd]
  exact hK' _ _ (hk v w' hK _ (hs.put hn v))
/-- an operation whose value goes nowhere -/
theorem JL.exN {o : Oper} {m : Sem Value} {K : Value → WP} (hw : Wants n e ops o) (hd : o.dst = none)
    (hm : ExecIs n e o m) (h : semV P m K w) (hk : ∀ v w', K v w' → JL P n ops e l Q w') : JL P n ops e (o :: l) Q w := by
  intro a hs
  obtain ⟨v, w', hr, hK⟩ := h
  refine wpList_yes (hw a hs) fun K' hK' => ?_
  unfold Oper.wp
  rw [hm a hs]
  simp only [Sem.run_bind, hr, Result.andThen_ok, Sem.run_pure, Oper.upon, hd, Act.put]
  exact hK' _ _ (hk v w' hK _ hs)
theorem JL.exU {o : Oper} {m : Sem Unit} {K : WP} (hw : Wants n e ops o) (hd : o.dst = none)
    (hm : ExecU n e o m) (h : semU P m K w) (hk : ∀ w', K w' → JL P n ops e l Q w') : JL P n ops e (o :: l) Q w := by
  intro a hs
  obtain ⟨w', hr, hK⟩ := h
  refine wpList_yes (hw a hs) fun K' hK' => ?_
  unfold Oper.wp
  rw [hm a hs]
  simp only [Sem.run_bind, hr, Result.andThen_ok, Sem.run_pure, Oper.upon, hd, Act.put]
  exact hK' _ _ (hk w' hK _ hs)
theorem JL.exP {o : Oper} {d : Nat} {v : Value} (hw : Wants n e ops o) (hd : o.dst = some d) (hn : Nat.blt d n = true)
    (hm : ExecP P n e o v) (h : JL P n ops ((d, v) :: e) l Q w) : JL P n ops e (o :: l) Q w := by
  intro a hs
  refine wpList_yes (hw a hs) fun K' hK' => ?_
  unfold Oper.wp
  rw [hm a hs w]
  simp only [Oper.upon, hd]
  exact hK' _ _ (h _ (hs.put hn v))
theorem JL.exNo {o : Oper} {d : Nat} (hw : WantsNot n e ops o) (hd : o.dst = some d) (hn : Nat.blt d n = true)
    (h : JL P n ops ((d, undef) :: e) l Q w) : JL P n ops e (o :: l) Q w := by
  intro a hs
  unfold wpList
  rw [if_neg (by simp [hw a hs]), hd]
  exact h _ (hs.put hn undef)
theorem JL.exNoN {o : Oper} (hw : WantsNot n e ops o) (hd : o.dst = none)
    (h : JL P n ops e l Q w) : JL P n ops e (o :: l) Q w := by
  intro a hs
  unfold wpList
  rw [if_neg (by simp [hw a hs]), hd]
  exact h _ hs
end

/-! ### a call -/
def Env.evs (e : Env) : List Operand → Option (List Value)
  | [] => some []
  | x :: r => match e.ev x with
    | some v => match Env.evs e r with
      | some vs => some (v :: vs)
      | none => none
    | none => none
theorem Sim.evs {n : Nat} {e : Env} {a : Act} (h : Sim n e a) : ∀ {xs : List Operand} {vs : List Value}, e.evs xs = some vs → xs.map a.eval = vs
  | [], vs, hx => by simp [Env.evs] at hx; simp [hx]
  | x :: r, vs, hx => by
    simp only [Env.evs] at hx
    split at hx
    · rename_i v hv
      split at hx
      · rename_i us hus
        cases hx
        simp [h.ev hv, h.evs hus]
      · cases hx
    · cases hx

/-- the function has a body (and is not the one that the model answers itself) -/
def Enters (P : Program) (f : FuncId) : Prop := ∀ args w, (callFunc f args).run P w = .ok (.enter f args) w
theorem Enters.of {P : Program} {f : FuncId} {fn : Func} (hf : P.funcs[f]? = some fn) (hb : fn.body.isNone = false) (hn : (fn.name == "runtime.NumGoroutine") = false) : Enters P f := fun args w => by
  have hb' : ¬ fn.body = none := by
    intro h0; rw [h0] at hb; cases hb
  have hn' : ¬ fn.name = "runtime.NumGoroutine" := by simpa using hn
  simp [callFunc, program, hf, hb', hn', Sem.run_bind, Sem.run]

def ExecC (P : Program) (n : Nat) (e : Env) (o : Oper) (f : FuncId) (args : Array Value) : Prop := ∀ a, Sim n e a → ∀ w, (execOp a.eval o).run P w = .ok (.enter f args) w

theorem ExecC.func {P : Program} {n : Nat} {e : Env} {f : FuncId} {dst : Option Tmp} {args : List Operand} {ats : Array TypeId} {ty : TypeId} {pos : String} {after : Array Edge} {g : Option (Nat × Bool)} {vs : List Value}
    (he : Enters P f) (hv : e.evs args = some vs) : ExecC P n e ⟨dst, .call ⟨.value (.func f), args.toArray, ats⟩, ty, pos, after, g⟩ f vs.toArray := fun a hs w => by
  have h := hs.evs hv
  have hm : args.toArray.map a.eval = vs.toArray := by simp [← h]
  simp only [execOp, resolve, hm]
  simp [Act.eval, Deferred.ofValue, invoke, Sem.run_bind, Sem.run_pure, he vs.toArray w]

theorem ExecC.value {P : Program} {n : Nat} {e : Env} {f : FuncId} {x : Operand} {dst : Option Tmp} {args : List Operand} {ats : Array TypeId} {ty : TypeId} {pos : String} {after : Array Edge} {g : Option (Nat × Bool)} {vs : List Value} {first cap : Array Value}
    (he : Enters P f) (hx : e.ev x = some (.func (.func f) first cap)) (hv : e.evs args = some vs) : ExecC P n e ⟨dst, .call ⟨.value x, args.toArray, ats⟩, ty, pos, after, g⟩ f ((first ++ vs.toArray) ++ cap) := fun a hs w => by
  have h := hs.evs hv
  have hm : args.toArray.map a.eval = vs.toArray := by simp [← h]
  simp only [execOp, resolve, hm, hs.ev hx]
  simp only [Deferred.ofValue, invoke, Sem.run_bind, Sem.run_pure, Result.andThen_ok]
  exact he ((first ++ vs.toArray) ++ cap) w

section
variable {P : Program} {n : Nat} {e : Env} {Q : Exit → Act → World → Prop} {w : World} {ops : Array Oper} {l : List Oper}
theorem JL.exC {o : Oper} {d : Nat} {f : FuncId} {args : Array Value} {K : Value → WP} (hw : Wants n e ops o) (hd : o.dst = some d) (hn : Nat.blt d n = true)
    (hm : ExecC P n e o f args) (h : callH P f args K w) (hk : ∀ v w', K v w' → JL P n ops ((d, v) :: e) l Q w') : JL P n ops e (o :: l) Q w := by
  intro a hs
  refine wpList_yes (hw a hs) fun K' hK' => ?_
  unfold Oper.wp
  rw [hm a hs w]
  simp only [Oper.upon, hd]
  refine Calls.mono h fun e' w' he' => ?_
  obtain ⟨v, rfl, hK⟩ := he'
  exact hK' _ _ (hk v w' hK _ (hs.put hn v))
theorem JL.exCN {o : Oper} {f : FuncId} {args : Array Value} {K : Value → WP} (hw : Wants n e ops o) (hd : o.dst = none)
    (hm : ExecC P n e o f args) (h : callH P f args K w) (hk : ∀ v w', K v w' → JL P n ops e l Q w') : JL P n ops e (o :: l) Q w := by
  intro a hs
  refine wpList_yes (hw a hs) fun K' hK' => ?_
  unfold Oper.wp
  rw [hm a hs w]
  simp only [Oper.upon, hd, Act.put]
  refine Calls.mono h fun e' w' he' => ?_
  obtain ⟨v, rfl, hK⟩ := he'
  exact hK' _ _ (hk v w' hK _ hs)
end

/-! ### regions that draw their order -/
def Stable (P : Program) (m : Sem Value) (v : Value) (w : World) : Prop := ∀ w2 : World, w2.heap = w.heap → m.run P w2 = .ok v w2
/-- a reading whose value stands, whichever order is drawn -/
def readV (P : Program) (m : Sem Value) (K : Value → WP) : WP := fun w => ∃ v, Stable P m v w ∧ K v w
def keepR (P : Program) (m : Sem Value) (v : Value) (K : WP) : WP := fun w => Stable P m v w ∧ K w
def drawH (K : WP) : WP := fun w => K { w with drawn := w.drawn + 1 }
def bothH (A B : WP) : WP := fun w => A w ∧ B w

/-- which operations an operation waits for, itself or through others: told, and looked at -/
abbrev Anc := List (List Nat)
def dep (anc : Anc) (i j : Nat) : Bool := (anc.getD j []).any fun k => Nat.beq k i
def preds (ops : Array Oper) (j : Nat) : List Nat :=
  match ops.toList[j]? with
  | some o => (o.after.toList.filter fun e => Region.binds .any e).map (·.on)
  | none => []
def validAnc (ops : Array Oper) (anc : Anc) : Bool :=
  (List.range ops.size).all fun j => (anc.getD j []).all fun i =>
    (preds ops j).any (fun q => Nat.beq q i) || (preds ops j).any fun q => Nat.blt q j && dep anc i q
/-- what is listed has all that it waits for listed -/
def Closed (ops : Array Oper) (listed : Array Bool) : Prop := ∀ j, j < ops.size → listed.getD j false = true → ∀ q ∈ preds ops j, listed.getD q false = true

/-- a reading that was taken ahead: its number, what it runs, what it yields -/
abbrev Took := List (Nat × Sem Value × Value)
def Kept (P : Program) (anc : Anc) (j : Nat) (T : Took) (w : World) : Prop := ∀ t ∈ T, dep anc t.1 j = false → Stable P t.2.1 t.2.2 w

def wpH (P : Program) (ops : Array Oper) (anc : Anc) (Q : Exit → Act → World → Prop) : Took → Nat → Array Bool → Act → World → Prop
  | _, 0, listed, a, w => Region.ready .any ops listed = [] ∧ Q .normal a w
  | T, fuel + 1, listed, a, w =>
    (Region.ready .any ops listed = [] → Q .normal a w) ∧
    ∀ j ∈ Region.ready .any ops listed, wpOp P ops Q j (fun a' w' => Kept P anc j T w' ∧ wpH P ops anc Q (T.filter fun t => !dep anc t.1 j) fuel (listed.setIfInBounds j true) a' w') a w

section
variable {P : Program} {ops : Array Oper} {anc : Anc} {Q : Exit → Act → World → Prop}
theorem wpAny_of_H : ∀ (fuel : Nat) (T : Took) (listed : Array Bool) (a : Act) (w : World), wpH P ops anc Q T fuel listed a w → wpAny P .any ops Q fuel listed a w
  | 0, _, _, _, _, h => h
  | fuel + 1, _, _, _, _, h => ⟨h.1, fun i hi => wpOp_mono (fun a' w' h' => wpAny_of_H fuel _ _ a' w' h'.2) (h.2 i hi)⟩
theorem wpH_mono : ∀ (fuel : Nat) (T T' : Took) (listed : Array Bool) (a : Act) (w : World), (∀ t ∈ T', t ∈ T) → wpH P ops anc Q T fuel listed a w → wpH P ops anc Q T' fuel listed a w
  | 0, _, _, _, _, _, _, h => h
  | fuel + 1, T, T', _, _, _, hs, h => ⟨h.1, fun i hi => wpOp_mono (fun a' w' h' => ⟨fun t ht hd => h'.1 t (hs t ht) hd,
      wpH_mono fuel _ _ _ a' w' (fun t ht => by
        rw [List.mem_filter] at ht ⊢
        exact ⟨hs t ht.1, ht.2⟩) h'.2⟩) (h.2 i hi)⟩

theorem ready_lt {j : Nat} {listed : Array Bool} (hj : j ∈ Region.ready .any ops listed) : j < ops.size := by
  obtain ⟨_, oj, hoj, _⟩ := mem_ready.1 hj
  exact (Array.getElem?_eq_some_iff.1 hoj).1
theorem ready_preds {j : Nat} {listed : Array Bool} (hj : j ∈ Region.ready .any ops listed) : ∀ q ∈ preds ops j, listed.getD q false = true := by
  obtain ⟨_, oj, hoj, hall⟩ := mem_ready.1 hj
  intro q hq
  have hoj' : ops.toList[j]? = some oj := by simpa using hoj
  simp only [preds, hoj', List.mem_map, List.mem_filter] at hq
  obtain ⟨e, ⟨he, hb⟩, rfl⟩ := hq
  exact hall e (by simpa using he) hb
theorem anc_listed (hv : validAnc ops anc = true) {listed : Array Bool} (hc : Closed ops listed) : ∀ (j : Nat), j < ops.size → (∀ q ∈ preds ops j, listed.getD q false = true) → ∀ i, dep anc i j = true → listed.getD i false = true := by
  intro j
  induction j using Nat.strongRecOn with
  | _ j ih =>
    intro hj hp i hd
    simp only [validAnc, List.all_eq_true, List.mem_range] at hv
    simp only [dep, List.any_eq_true] at hd
    obtain ⟨k, hk, hki⟩ := hd
    have hki' : k = i := Nat.eq_of_beq_eq_true hki
    subst hki'
    have h1 := hv j hj k hk
    simp only [Bool.or_eq_true, List.any_eq_true, Bool.and_eq_true] at h1
    rcases h1 with ⟨q, hq, hqk⟩ | ⟨q, hq, hqj, hdq⟩
    · have : q = k := Nat.eq_of_beq_eq_true hqk
      subst this
      exact hp q hq
    · have hlt : q < j := by simpa using hqj
      have hql := hp q hq
      exact ih q hlt (by omega) (fun p hp' => hc q (by omega) hql p hp') k hdq
theorem dep_ready (hv : validAnc ops anc = true) {listed : Array Bool} (hc : Closed ops listed) {i j : Nat} (hj : j ∈ Region.ready .any ops listed) (hi : i ∈ Region.ready .any ops listed) : dep anc i j = false := by
  cases hd : dep anc i j with
  | false => rfl
  | true =>
    have h1 := anc_listed hv hc j (ready_lt hj) (ready_preds hj) i hd
    have h0 := (mem_ready.1 hi).1
    rcases Nat.lt_or_ge i listed.size with h' | h'
    · simp [h'] at h0 h1; rw [h0] at h1; cases h1
    · simp [Array.getElem?_eq_none h'] at h1
theorem Closed.add {listed : Array Bool} (hc : Closed ops listed) {j : Nat} (hj : j ∈ Region.ready .any ops listed) : Closed ops (listed.setIfInBounds j true) := by
  intro k hk hl q hq
  have mono : ∀ q, listed.getD q false = true → (listed.setIfInBounds j true).getD q false = true := fun q hq => by
    by_cases hjq : j = q
    · subst hjq
      have : j < listed.size := by
        rcases Nat.lt_or_ge j listed.size with h' | h'
        · exact h'
        · simp [Array.getElem?_eq_none h'] at hq
      simp [this]
    · rw [getD_set_ne false hjq]; exact hq
  by_cases hjk : j = k
  · subst hjk
    exact mono q (ready_preds hj q hq)
  · rw [getD_set_ne false hjk] at hl
    exact mono q (hc k hk hl q hq)
theorem Closed.none (n : Nat) : Closed ops (Array.replicate n false) := by
  intro j _ hl
  simp only [Array.getD_eq_getD_getElem?, Array.getElem?_replicate] at hl
  split at hl <;> simp at hl

/-- what yields in every world need not be kept track of -/
theorem wpH_add {i : Nat} {m : Sem Value} {v : Value} (hm : ∀ w, Stable P m v w) : ∀ (fuel : Nat) (T : Took) (listed : Array Bool) (a : Act) (w : World), wpH P ops anc Q T fuel listed a w → wpH P ops anc Q ((i, m, v) :: T) fuel listed a w
  | 0, _, _, _, _, h => h
  | fuel + 1, T, _, _, _, h => ⟨h.1, fun j hj => wpOp_mono (fun a' w' h' => ⟨fun t ht hd => by
      rcases List.mem_cons.1 ht with rfl | ht
      · exact hm w'
      · exact h'.1 t ht hd, by
      simp only [List.filter_cons]
      split
      · exact wpH_add hm fuel _ _ a' w' h'.2
      · exact h'.2⟩) (h.2 j hj)⟩

theorem wpH_first (hv : validAnc ops anc = true) {m : Sem Value} {i : Nat} {oi : Oper} {v : Value} (hi : ops[i]? = some oi) (hsel : ∀ (j : Nat) (o : Oper) cs b, ops[j]? = some o → o.op ≠ .select cs b)
    (hQ : ∀ c a w, Q (.panic c) (a.put oi.dst v) w → Q (.panic c) a w) :
    ∀ (fuel : Nat) (T : Took) (listed : Array Bool) (a : Act) (w : World), Closed ops listed →
      (∀ j oj, ops[j]? = some oj → j ≠ i → listed.getD j true = false → (∀ e ∈ oj.after, Region.binds .any e = true → e.on ≠ i) → oi.apart ops oj = true) →
      i ∈ Region.ready .any ops listed → YieldsIf P ops (Stable P m v) oi v a → Stable P m v w → Kept P anc i T w →
      wpH P ops anc Q ((i, m, v) :: T) fuel (listed.setIfInBounds i true) (a.put oi.dst v) w → wpH P ops anc Q T (fuel + 1) listed a w := by
  intro fuel
  induction fuel with
  | zero =>
    intro T listed a w _ _ hr hy hS hT H
    refine ⟨fun h => (by rw [h] at hr; cases hr), fun j hj => ?_⟩
    by_cases hji : j = i
    · subst hji; exact hy.wpOp hi hS ⟨hT, H⟩
    · have := ready_mono hj hji
      rw [H.1] at this
      cases this
  | succ fuel ih =>
    intro T listed a w hc hfree hr hy hS hT H
    refine ⟨fun h => (by rw [h] at hr; cases hr), fun j hj => ?_⟩
    by_cases hji : j = i
    · subst hji
      refine hy.wpOp hi hS ⟨hT, wpH_mono _ _ _ _ _ _ (fun t ht => ?_) H⟩
      exact List.mem_cons_of_mem _ (List.mem_filter.1 ht).1
    · have h1 := H.2 j (ready_mono hj hji)
      obtain ⟨hjun, oj, hoj, hall⟩ := mem_ready.1 hj
      have hnot : ∀ e ∈ oj.after, Region.binds .any e = true → e.on ≠ i := fun e he hb heq => by
        have h1 := hall e he hb
        have h0 := (mem_ready.1 hr).1
        rw [heq] at h1
        rcases Nat.lt_or_ge i listed.size with h' | h'
        · simp [h'] at h0 h1; rw [h0] at h1; cases h1
        · simp [Array.getElem?_eq_none h'] at h1
      have hdep : dep anc i j = false := dep_ready hv hc hj hr
      have h2 := wpOp_putIf hoj (hfree j oj hoj hji hjun hnot) (fun cs b => hsel i oi cs b hi) (fun cs b => hsel j oj cs b hoj) hQ hy h1
      have hfree' : ∀ k ok, ops[k]? = some ok → k ≠ i → (listed.setIfInBounds j true).getD k true = false →
          (∀ e ∈ ok.after, Region.binds .any e = true → e.on ≠ i) → oi.apart ops ok = true := fun k ok hk hki hun hno => by
        refine hfree k ok hk hki ?_ hno
        by_cases hjk : j = k
        · subst hjk; exact hjun
        · rw [getD_set_ne true hjk] at hun; exact hun
      refine wpOp_mono (fun a' w' h3 => ?_) h2
      obtain ⟨h3y, h3K, h3H⟩ := h3
      have hSw : Stable P m v w' := h3K (i, m, v) (List.mem_cons_self ..) hdep
      refine ⟨fun t ht hd => h3K t (List.mem_cons_of_mem _ ht) hd, ih _ (listed.setIfInBounds j true) a' w' (hc.add hj) hfree' (ready_mono hr (Ne.symm hji)) h3y hSw ?_ ?_⟩
      · intro t ht _
        rw [List.mem_filter] at ht
        exact h3K t (List.mem_cons_of_mem _ ht.1) (by simpa using ht.2)
      · rw [Array.setIfInBounds_comm _ _ hji]
        simpa [List.filter_cons, hdep] using h3H

/-- what is asked at an exit, and no panic -/
def noPanic (Q : Exit → Act → World → Prop) : Exit → Act → World → Prop
  | .panic _, _, _ => False
  | x, a, w => Q x a w
theorem noPanic_out {x : Exit} {a : Act} {w : World} (h : noPanic Q x a w) : Q x a w := by
  cases x <;> first | exact h | exact h.elim
end

def JD (P : Program) (n : Nat) (ops : Array Oper) (anc : Anc) (T : Took) (fuel : Nat) (listed : Array Bool) (e : Env) (Q : Exit → Act → World → Prop) (w : World) : Prop :=
  validAnc ops anc = true → Closed ops listed → ∀ a, Sim n e a → wpH P ops anc (noPanic Q) T fuel listed a w
/-- one operation of a region that draws, and then the rest -/
def JD1 (P : Program) (n : Nat) (ops : Array Oper) (anc : Anc) (T : Took) (fuel : Nat) (listed : Array Bool) (e : Env) (Q : Exit → Act → World → Prop) (w : World) (j : Nat) : Prop :=
  validAnc ops anc = true → Closed ops (listed.setIfInBounds j true) → ∀ a, Sim n e a → wpOp P ops (noPanic Q) j (fun a' w' => Kept P anc j T w' ∧ wpH P ops anc (noPanic Q) (T.filter fun t => !dep anc t.1 j) fuel (listed.setIfInBounds j true) a' w') a w

/-- which of the readings that were taken still wait ('false': still to be kept) -/
def KeptL (P : Program) : Took → List Bool → World → Prop
  | [], _, _ => True
  | _ :: T, true :: ds, w => KeptL P T ds w
  | t :: T, _ :: ds, w => Stable P t.2.1 t.2.2 w ∧ KeptL P T ds w
  | _ :: _, [], _ => False
def dropL : Took → List Bool → Took
  | [], _ => []
  | _ :: T, true :: ds => dropL T ds
  | t :: T, _ :: ds => t :: dropL T ds
  | T, [] => T
theorem keptL {P : Program} {anc : Anc} {j : Nat} {w : World} : ∀ {T : Took} {ds : List Bool}, (T.map fun t => dep anc t.1 j) = ds → KeptL P T ds w → Kept P anc j T w
  | [], _, _, _ => fun t ht => by cases ht
  | t :: T, [], h, _ => by simp at h
  | t :: T, true :: ds, h, hk => by
    simp only [List.map_cons, List.cons.injEq] at h
    intro u hu hd
    rcases List.mem_cons.1 hu with rfl | hu
    · rw [h.1] at hd; cases hd
    · exact keptL h.2 (by simpa [KeptL] using hk) u hu hd
  | t :: T, false :: ds, h, hk => by
    simp only [List.map_cons, List.cons.injEq] at h
    intro u hu hd
    simp only [KeptL] at hk
    rcases List.mem_cons.1 hu with rfl | hu
    · exact hk.1
    · exact keptL h.2 hk.2 u hu hd
theorem dropL_eq {anc : Anc} {j : Nat} : ∀ {T : Took} {ds : List Bool}, (T.map fun t => dep anc t.1 j) = ds → (T.filter fun t => !dep anc t.1 j) = dropL T ds
  | [], ds, _ => by cases ds <;> rfl
  | t :: T, [], h => by simp at h
  | t :: T, true :: ds, h => by
    simp only [List.map_cons, List.cons.injEq] at h
    simp [List.filter_cons, h.1, dropL, dropL_eq h.2]
  | t :: T, false :: ds, h => by
    simp only [List.map_cons, List.cons.injEq] at h
    simp [List.filter_cons, h.1, dropL, dropL_eq h.2]

section
variable {P : Program} {n : Nat} {e : Env} {Q : Exit → Act → World → Prop} {w : World} {ops : Array Oper} {anc : Anc} {T : Took} {fuel : Nat} {listed : Array Bool}

theorem J.draw {id : Nat} {K : WP} (anc : Anc) (hv : validAnc ops anc = true) (hm : P.follows .mixedOrders = true) (h : drawH K w) (hk : ∀ w, K w → JD P n ops anc [] ops.size (Array.replicate ops.size false) e Q w) : J P n e (.region id ops true) Q w := fun a hs =>
  Code.wp_mono (fun _ _ _ h => noPanic_out h) (wp_region_any hm (wpAny_of_H _ _ _ _ _ (hk { w with drawn := w.drawn + 1 } h hv (Closed.none _) a hs)))
theorem JD.done (hr : Region.ready .any ops listed = []) (h : JX n e (Q .normal) w) : JD P n ops anc T fuel listed e Q w := fun _ _ a hs => by
  cases fuel with
  | zero => exact ⟨hr, h a hs⟩
  | succ k => exact ⟨fun _ => h a hs, by rw [hr]; simp⟩
theorem noPanic_put {a : Act} {w : World} {d : Option Tmp} {v : Value} (c : List PanicEntry) (h : noPanic Q (.panic c) (a.put d v) w) : noPanic Q (.panic c) a w := h.elim

/-- a reading is taken ahead of all that may come -/
theorem JD.read {m : Sem Value} {K : Value → WP} {i d : Nat} {oi : Oper} (ds : List Bool) (hi : ops[i]? = some oi) (hs : Region.noSelect ops = true) (hf : Region.free .any ops listed i = true)
    (hr : (Region.ready .any ops listed).contains i = true) (hds : (T.map fun t => dep anc t.1 i) = ds) (hw : Wants n e ops oi) (hd : oi.dst = some d) (hn : Nat.blt d n = true) (hm : ExecIs n e oi m) (h : readV P m K w)
    (hT : KeptL P T ds w)
    (hk : ∀ v, Stable P m v w → K v w → JD P n ops anc ((i, m, v) :: T) fuel (listed.setIfInBounds i true) ((d, v) :: e) Q w) : JD P n ops anc T (fuel + 1) listed e Q w := fun hv hcl a ha => by
  obtain ⟨v, hst, hK⟩ := h
  refine wpH_first hv (m := m) hi (Region.noSelect_spec hs) (fun c a w => noPanic_put c) fuel T listed a w hcl (Region.free_spec hi hf) (by simpa using hr) (.inl ⟨hw a ha, fun w' hS => ?_⟩) hst (keptL hds hT) ?_
  · rw [hm a ha, Sem.run_bind, hS w' rfl]
    rfl
  · rw [hd]
    exact hk v hst hK hv (hcl.add (by simpa using hr)) _ (ha.put hn v)
/-- what yields its value in whatever world is taken ahead -/
theorem JD.pure_ {v : Value} {i d : Nat} {oi : Oper} (ds : List Bool) (hi : ops[i]? = some oi) (hs : Region.noSelect ops = true) (hf : Region.free .any ops listed i = true)
    (hr : (Region.ready .any ops listed).contains i = true) (hds : (T.map fun t => dep anc t.1 i) = ds) (hw : Wants n e ops oi) (hd : oi.dst = some d) (hn : Nat.blt d n = true) (hm : ExecP P n e oi v)
    (hT : KeptL P T ds w)
    (hk : JD P n ops anc T fuel (listed.setIfInBounds i true) ((d, v) :: e) Q w) : JD P n ops anc T (fuel + 1) listed e Q w := fun hv hcl a ha => by
  refine wpH_first hv (m := pure v) hi (Region.noSelect_spec hs) (fun c a w => noPanic_put c) fuel T listed a w hcl (Region.free_spec hi hf) (by simpa using hr) (.inl ⟨hw a ha, fun w' _ => hm a ha w'⟩) (fun _ _ => rfl) (keptL hds hT) ?_
  rw [hd]
  refine wpH_add (fun _ _ _ => rfl) _ _ _ _ _ (hk hv (hcl.add (by simpa using hr)) _ (ha.put hn v))
/-- what is passed over is taken ahead -/
theorem JD.skip {i d : Nat} {oi : Oper} (ds : List Bool) (hi : ops[i]? = some oi) (hs : Region.noSelect ops = true) (hf : Region.free .any ops listed i = true)
    (hr : (Region.ready .any ops listed).contains i = true) (hds : (T.map fun t => dep anc t.1 i) = ds) (hw : WantsNot n e ops oi) (hd : oi.dst = some d) (hn : Nat.blt d n = true)
    (hT : KeptL P T ds w)
    (hk : JD P n ops anc T fuel (listed.setIfInBounds i true) ((d, undef) :: e) Q w) : JD P n ops anc T (fuel + 1) listed e Q w := fun hv hcl a ha => by
  refine wpH_first hv (m := pure undef) hi (Region.noSelect_spec hs) (fun c a w => noPanic_put c) fuel T listed a w hcl (Region.free_spec hi hf) (by simpa using hr) (.inr ⟨hw a ha, rfl⟩) (fun _ _ => rfl) (keptL hds hT) ?_
  rw [hd]
  refine wpH_add (fun _ _ _ => rfl) _ _ _ _ _ (hk hv (hcl.add (by simpa using hr)) _ (ha.put hn undef))
/-- whichever comes up -/
theorem JD.all {rs : List Nat} (hr : Region.ready .any ops listed = rs) (hne : rs.isEmpty = false) (h : ∀ j ∈ rs, JD1 P n ops anc T fuel listed e Q w j) : JD P n ops anc T (fuel + 1) listed e Q w := fun hv hcl a ha =>
  ⟨fun h0 => (by rw [hr] at h0; rw [h0] at hne; cases hne), fun j hj => h j (hr ▸ hj) hv (hcl.add hj) a ha⟩
theorem JD.one {j : Nat} (hr : Region.ready .any ops listed = [j]) (h : JD1 P n ops anc T fuel listed e Q w j) : JD P n ops anc T (fuel + 1) listed e Q w :=
  JD.all hr rfl fun k hk => by
    simp only [List.mem_singleton] at hk
    rw [hk]; exact h

theorem JD1.exV {j d : Nat} {o : Oper} {m : Sem Value} {K : Value → WP} (ds : List Bool) (hi : ops[j]? = some o) (hds : (T.map fun t => dep anc t.1 j) = ds) (hw : Wants n e ops o) (hd : o.dst = some d) (hn : Nat.blt d n = true)
    (hm : ExecIs n e o m) (h : semV P m K w) (hk : ∀ v w', K v w' → KeptL P T ds w' ∧ JD P n ops anc (dropL T ds) fuel (listed.setIfInBounds j true) ((d, v) :: e) Q w') : JD1 P n ops anc T fuel listed e Q w j := fun hv hcl a ha => by
  obtain ⟨v, w', hr, hK⟩ := h
  obtain ⟨h1, h2⟩ := hk v w' hK
  unfold wpOp
  simp only [hi, hw a ha, if_true]
  refine .inl ?_
  unfold Oper.wp
  rw [hm a ha]
  simp only [Sem.run_bind, hr, Result.andThen_ok, Sem.run_pure, Oper.upon, hd]
  exact ⟨keptL hds h1, by rw [dropL_eq hds]; exact h2 hv hcl _ (ha.put hn v)⟩
theorem JD1.exN {j : Nat} {o : Oper} {m : Sem Value} {K : Value → WP} (ds : List Bool) (hi : ops[j]? = some o) (hds : (T.map fun t => dep anc t.1 j) = ds) (hw : Wants n e ops o) (hd : o.dst = none)
    (hm : ExecIs n e o m) (h : semV P m K w) (hk : ∀ v w', K v w' → KeptL P T ds w' ∧ JD P n ops anc (dropL T ds) fuel (listed.setIfInBounds j true) e Q w') : JD1 P n ops anc T fuel listed e Q w j := fun hv hcl a ha => by
  obtain ⟨v, w', hr, hK⟩ := h
  obtain ⟨h1, h2⟩ := hk v w' hK
  unfold wpOp
  simp only [hi, hw a ha, if_true]
  refine .inl ?_
  unfold Oper.wp
  rw [hm a ha]
  simp only [Sem.run_bind, hr, Result.andThen_ok, Sem.run_pure, Oper.upon, hd, Act.put]
  exact ⟨keptL hds h1, by rw [dropL_eq hds]; exact h2 hv hcl _ ha⟩
theorem JD1.exU {j : Nat} {o : Oper} {m : Sem Unit} {K : WP} (ds : List Bool) (hi : ops[j]? = some o) (hds : (T.map fun t => dep anc t.1 j) = ds) (hw : Wants n e ops o) (hd : o.dst = none)
    (hm : ExecU n e o m) (h : semU P m K w) (hk : ∀ w', K w' → KeptL P T ds w' ∧ JD P n ops anc (dropL T ds) fuel (listed.setIfInBounds j true) e Q w') : JD1 P n ops anc T fuel listed e Q w j := fun hv hcl a ha => by
  obtain ⟨w', hr, hK⟩ := h
  obtain ⟨h1, h2⟩ := hk w' hK
  unfold wpOp
  simp only [hi, hw a ha, if_true]
  refine .inl ?_
  unfold Oper.wp
  rw [hm a ha]
  simp only [Sem.run_bind, hr, Result.andThen_ok, Sem.run_pure, Oper.upon, hd, Act.put]
  exact ⟨keptL hds h1, by rw [dropL_eq hds]; exact h2 hv hcl _ ha⟩
theorem JD1.exP {j d : Nat} {o : Oper} {v : Value} (ds : List Bool) (hi : ops[j]? = some o) (hds : (T.map fun t => dep anc t.1 j) = ds) (hw : Wants n e ops o) (hd : o.dst = some d) (hn : Nat.blt d n = true)
    (hm : ExecP P n e o v) (h1 : KeptL P T ds w) (h2 : JD P n ops anc (dropL T ds) fuel (listed.setIfInBounds j true) ((d, v) :: e) Q w) : JD1 P n ops anc T fuel listed e Q w j := fun hv hcl a ha => by
  unfold wpOp
  simp only [hi, hw a ha, if_true]
  refine .inl ?_
  unfold Oper.wp
  rw [hm a ha w]
  simp only [Oper.upon, hd]
  exact ⟨keptL hds h1, by rw [dropL_eq hds]; exact h2 hv hcl _ (ha.put hn v)⟩
theorem JD1.exNoN {j : Nat} {o : Oper} (ds : List Bool) (hi : ops[j]? = some o) (hds : (T.map fun t => dep anc t.1 j) = ds) (hw : WantsNot n e ops o) (hd : o.dst = none)
    (h1 : KeptL P T ds w) (h2 : JD P n ops anc (dropL T ds) fuel (listed.setIfInBounds j true) e Q w) : JD1 P n ops anc T fuel listed e Q w j := fun hv hcl a ha => by
  unfold wpOp
  simp only [hi, hw a ha, Bool.false_eq_true, if_false, hd, Act.put]
  exact ⟨keptL hds h1, by rw [dropL_eq hds]; exact h2 hv hcl _ ha⟩
theorem JD1.exC {j d : Nat} {o : Oper} {f : FuncId} {args : Array Value} {K : Value → WP} (ds : List Bool) (hi : ops[j]? = some o) (hds : (T.map fun t => dep anc t.1 j) = ds) (hw : Wants n e ops o) (hd : o.dst = some d) (hn : Nat.blt d n = true)
    (hm : ExecC P n e o f args) (h : callH P f args K w) (hk : ∀ v w', K v w' → KeptL P T ds w' ∧ JD P n ops anc (dropL T ds) fuel (listed.setIfInBounds j true) ((d, v) :: e) Q w') : JD1 P n ops anc T fuel listed e Q w j := fun hv hcl a ha => by
  unfold wpOp
  simp only [hi, hw a ha, if_true]
  refine .inl ?_
  unfold Oper.wp
  rw [hm a ha w]
  simp only [Oper.upon, hd]
  refine Calls.mono h fun e' w' he' => ?_
  obtain ⟨v, rfl, hK⟩ := he'
  obtain ⟨h1, h2⟩ := hk v w' hK
  exact ⟨keptL hds h1, by rw [dropL_eq hds]; exact h2 hv hcl _ (ha.put hn v)⟩
theorem JD1.exCN {j : Nat} {o : Oper} {f : FuncId} {args : Array Value} {K : Value → WP} (ds : List Bool) (hi : ops[j]? = some o) (hds : (T.map fun t => dep anc t.1 j) = ds) (hw : Wants n e ops o) (hd : o.dst = none)
    (hm : ExecC P n e o f args) (h : callH P f args K w) (hk : ∀ v w', K v w' → KeptL P T ds w' ∧ JD P n ops anc (dropL T ds) fuel (listed.setIfInBounds j true) e Q w') : JD1 P n ops anc T fuel listed e Q w j := fun hv hcl a ha => by
  unfold wpOp
  simp only [hi, hw a ha, if_true]
  refine .inl ?_
  unfold Oper.wp
  rw [hm a ha w]
  simp only [Oper.upon, hd, Act.put]
  refine Calls.mono h fun e' w' he' => ?_
  obtain ⟨v, rfl, hK⟩ := he'
  obtain ⟨h1, h2⟩ := hk v w' hK
  exact ⟨keptL hds h1, by rw [dropL_eq hds]; exact h2 hv hcl _ ha⟩
end

/-! ### the operations one by one -/
section
variable {P : Program} {n : Nat} {e : Env} {dst : Option Tmp} {ty t u : TypeId} {pos : String} {af : Array Edge} {g : Option (Nat × Bool)} {x y z : Operand} {vx vy vz : Value}

theorem ExecIs.load {ad : Addr} (hx : e.ev x = some (.pointer (some ad))) : ExecIs n e ⟨dst, .load t x, ty, pos, af, g⟩ (loadVar t ad) := fun a hs => by
  simp only [execOp, hs.ev hx]; rfl
theorem ExecU.store {ad : Addr} (hx : e.ev x = some (.pointer (some ad))) (hy : e.ev y = some vy) : ExecU n e ⟨dst, .store t x y, ty, pos, af, g⟩ (storeVar t ad vy) := fun a hs => by
  simp only [execOp, hs.ev hx, hs.ev hy]; rfl
theorem ExecIs.alloc : ExecIs n e ⟨dst, .alloc t, ty, pos, af, g⟩ (Instr.alloc t true (.tuple #[])) := fun a _ => rfl
theorem ExecIs.box (hx : e.ev x = some vx) : ExecIs n e ⟨dst, .box t x, ty, pos, af, g⟩ (Instr.box t vx) := fun a hs => by
  simp only [execOp, hs.ev hx]
theorem ExecIs.build {l : List (Nat × Operand)} {l' : List (Nat × Value)} (h : (l.map fun p => (e.ev p.2).map fun v => (p.1, v)) = l'.map some) : ExecIs n e ⟨dst, .build t l.toArray, ty, pos, af, g⟩ (Instr.build t l'.toArray) := fun a hs => by
  have : (l.toArray.map fun p => (p.1, a.eval p.2)) = l'.toArray := by
    induction l generalizing l' with
    | nil => cases l' with
      | nil => simp
      | cons _ _ => simp at h
    | cons p l ih => cases l' with
      | nil => simp at h
      | cons q l' =>
        simp only [List.map_cons, List.cons.injEq] at h
        obtain ⟨h1, h2⟩ := h
        have h3 := ih h2
        cases hp : e.ev p.2 with
        | none => rw [hp] at h1; cases h1
        | some v =>
          rw [hp] at h1
          simp only [Option.map_some, Option.some.injEq] at h1
          simp only [List.map_toArray, List.map_cons] at h3 ⊢
          have h4 := congrArg Array.toList h3
          simp only at h4
          rw [hs.ev hp, h1, h4]
  simp only [execOp]
  exact congrArg (fun l => (do pure (Next.value (← Instr.build t l)) : Sem Next)) this
theorem ExecIs.buildSlice {k : Nat} {l : List (Nat × Operand)} {l' : List (Nat × Value)} (h : (l.map fun p => (e.ev p.2).map fun v => (p.1, v)) = l'.map some) : ExecIs n e ⟨dst, .buildSlice t k l.toArray, ty, pos, af, g⟩ (Instr.buildSlice t k l'.toArray) := fun a hs => by
  have : (l.toArray.map fun p => (p.1, a.eval p.2)) = l'.toArray := by
    induction l generalizing l' with
    | nil => cases l' with
      | nil => simp
      | cons _ _ => simp at h
    | cons p l ih => cases l' with
      | nil => simp at h
      | cons q l' =>
        simp only [List.map_cons, List.cons.injEq] at h
        obtain ⟨h1, h2⟩ := h
        have h3 := ih h2
        cases hp : e.ev p.2 with
        | none => rw [hp] at h1; cases h1
        | some v =>
          rw [hp] at h1
          simp only [Option.map_some, Option.some.injEq] at h1
          simp only [List.map_toArray, List.map_cons] at h3 ⊢
          have h4 := congrArg Array.toList h3
          simp only at h4
          rw [hs.ev hp, h1, h4]
  simp only [execOp]
  exact congrArg (fun l => (do pure (Next.value (← Instr.buildSlice t k l)) : Sem Next)) this
theorem ExecIs.field {f : Nat} (hx : e.ev x = some vx) : ExecIs n e ⟨dst, .field t x f, ty, pos, af, g⟩ (Instr.field t vx f) := fun a hs => by
  simp only [execOp, hs.ev hx]
theorem ExecIs.indexAddr (hx : e.ev x = some vx) (hy : e.ev y = some vy) : ExecIs n e ⟨dst, .indexAddr t x y, ty, pos, af, g⟩ (Instr.indexAt t vx vy) := fun a hs => by
  simp only [execOp, hs.ev hx, hs.ev hy]
theorem ExecIs.index (hx : e.ev x = some vx) (hy : e.ev y = some vy) : ExecIs n e ⟨dst, .index t x y, ty, pos, af, g⟩ (Instr.index t vx vy) := fun a hs => by
  simp only [execOp, hs.ev hx, hs.ev hy]
theorem ExecIs.lookup {ok : Bool} (hx : e.ev x = some vx) (hy : e.ev y = some vy) : ExecIs n e ⟨dst, .lookup t x y ok, ty, pos, af, g⟩ (Instr.lookup t vx vy ok) := fun a hs => by
  simp only [execOp, hs.ev hx, hs.ev hy]
theorem ExecU.mapUpdate (hx : e.ev x = some vx) (hy : e.ev y = some vy) (hz : e.ev z = some vz) : ExecU n e ⟨dst, .mapUpdate t x y z, ty, pos, af, g⟩ (Instr.mapUpdate t vx vy vz) := fun a hs => by
  simp only [execOp, hs.ev hx, hs.ev hy, hs.ev hz]
theorem ExecU.insert (hx : e.ev x = some vx) (hy : e.ev y = some vy) (hz : e.ev z = some vz) : ExecU n e ⟨dst, .insert t x y z, ty, pos, af, g⟩ (Instr.mapUpdate t vx vy vz) := fun a hs => by
  simp only [execOp, hs.ev hx, hs.ev hy, hs.ev hz]
theorem ExecIs.mapEntry (hx : e.ev x = some vx) (hy : e.ev y = some vy) : ExecIs n e ⟨dst, .mapEntry t x y, ty, pos, af, g⟩ (Instr.mapEntry t vx vy) := fun a hs => by
  simp only [execOp, hs.ev hx, hs.ev hy]
theorem ExecU.entryStore (hx : e.ev x = some vx) (hy : e.ev y = some vy) (hz : e.ev z = some vz) : ExecU n e ⟨dst, .entryStore t x y z, ty, pos, af, g⟩ (Instr.entryStore t vx vy vz) := fun a hs => by
  simp only [execOp, hs.ev hx, hs.ev hy, hs.ev hz]
theorem ExecIs.makeMap : ExecIs n e ⟨dst, .makeMap t none, ty, pos, af, g⟩ (Instr.makeMap t none) := fun a _ => rfl
theorem ExecIs.makeSlice (hx : e.ev x = some vx) (hy : e.ev y = some vy) : ExecIs n e ⟨dst, .makeSlice t x y, ty, pos, af, g⟩ (Instr.makeSlice t vx vy) := fun a hs => by
  simp only [execOp, hs.ev hx, hs.ev hy]
def Env.evo (e : Env) : Option Operand → Option (Option Value)
  | none => some none
  | some x => (e.ev x).map some
theorem Sim.evo {a : Act} (hs : Sim n e a) {o : Option Operand} {r : Option Value} (h : e.evo o = some r) : o.map a.eval = r := by
  cases o with
  | none => simpa [Env.evo] using h
  | some x =>
    simp only [Env.evo] at h
    cases hx : e.ev x with
    | none => rw [hx] at h; cases h
    | some v => rw [hx] at h; simp only [Option.map_some, Option.some.injEq] at h; simp [hs.ev hx, h]
theorem ExecIs.slice {lo hi mx : Option Operand} {vl vh vm : Option Value} (hx : e.ev x = some vx) (h1 : e.evo lo = some vl) (h2 : e.evo hi = some vh) (h3 : e.evo mx = some vm) :
    ExecIs n e ⟨dst, .slice t x lo hi mx, ty, pos, af, g⟩ (Instr.sliceAt t vx vl vh vm) := fun a hs => by
  simp only [execOp, hs.ev hx, hs.evo h1, hs.evo h2, hs.evo h3]
theorem ExecIs.range (hx : e.ev x = some vx) : ExecIs n e ⟨dst, .range t x, ty, pos, af, g⟩ (Instr.range t vx) := fun a hs => by
  simp only [execOp, hs.ev hx]
theorem ExecIs.next {b : Bool} (hx : e.ev x = some vx) : ExecIs n e ⟨dst, .next x b, ty, pos, af, g⟩ (Instr.next vx b ty) := fun a hs => by
  simp only [execOp, hs.ev hx]
theorem ExecIs.entry (hx : e.ev x = some vx) : ExecIs n e ⟨dst, .entry x, ty, pos, af, g⟩ (Instr.entry vx) := fun a hs => by
  simp only [execOp, hs.ev hx]
theorem ExecIs.extract {k : Nat} (hx : e.ev x = some vx) : ExecIs n e ⟨dst, .extract x k, ty, pos, af, g⟩ (Instr.extract vx k) := fun a hs => by
  simp only [execOp, hs.ev hx]
/-- '==' and '!=' with the model's own look ahead of them -/
def eqM (op : BinOp) (t : TypeId) (x y : Operand) (vx vy : Value) : Sem Value := do eqGuard op t x y vx vy; binOp op t vx vy
theorem ExecIs.binOp {op : BinOp} (hx : e.ev x = some vx) (hy : e.ev y = some vy) : ExecIs n e ⟨dst, .binOp op t x y u, ty, pos, af, g⟩ (eqM op t x y vx vy) := fun a hs => by
  simp only [execOp, hs.ev hx, hs.ev hy]; rfl
theorem ExecIs.convert (hx : e.ev x = some vx) : ExecIs n e ⟨dst, .convert t u x, ty, pos, af, g⟩ (convert t u vx) := fun a hs => by
  simp only [execOp, hs.ev hx]
theorem ExecIs.unOp {op : UnOp} (hx : e.ev x = some vx) : ExecIs n e ⟨dst, .unOp op t x, ty, pos, af, g⟩ (Op.unary op vx) := fun a hs => by
  simp only [execOp, hs.ev hx]
section
variable {args : List Operand} {ats : Array TypeId} {vs : List Value}
theorem ExecIs.len (h : e.evs args = some vs) : ExecIs n e ⟨dst, .call ⟨.builtin .len, args.toArray, ats⟩, ty, pos, af, g⟩ (Builtin.len_ ats ty vs.toArray) := fun a hs => by
  have hm : args.toArray.map a.eval = vs.toArray := by simp [← hs.evs h]
  simp only [execOp, resolve, invoke, builtin, hm]; rfl
theorem ExecIs.append (h : e.evs args = some vs) : ExecIs n e ⟨dst, .call ⟨.builtin .append, args.toArray, ats⟩, ty, pos, af, g⟩ (Builtin.append_ ats ty vs.toArray) := fun a hs => by
  have hm : args.toArray.map a.eval = vs.toArray := by simp [← hs.evs h]
  simp only [execOp, resolve, invoke, builtin, hm]; rfl
theorem ExecIs.delete (h : e.evs args = some vs) : ExecIs n e ⟨dst, .call ⟨.builtin .delete, args.toArray, ats⟩, ty, pos, af, g⟩ (Builtin.delete_ ats ty vs.toArray) := fun a hs => by
  have hm : args.toArray.map a.eval = vs.toArray := by simp [← hs.evs h]
  simp only [execOp, resolve, invoke, builtin, hm]; rfl
theorem ExecIs.max (h : e.evs args = some vs) : ExecIs n e ⟨dst, .call ⟨.builtin .max, args.toArray, ats⟩, ty, pos, af, g⟩ (Builtin.max_ ats ty vs.toArray) := fun a hs => by
  have hm : args.toArray.map a.eval = vs.toArray := by simp [← hs.evs h]
  simp only [execOp, resolve, invoke, builtin, hm]; rfl
theorem ExecIs.min (h : e.evs args = some vs) : ExecIs n e ⟨dst, .call ⟨.builtin .min, args.toArray, ats⟩, ty, pos, af, g⟩ (Builtin.min_ ats ty vs.toArray) := fun a hs => by
  have hm : args.toArray.map a.eval = vs.toArray := by simp [← hs.evs h]
  simp only [execOp, resolve, invoke, builtin, hm]; rfl
theorem ExecIs.copy (h : e.evs args = some vs) : ExecIs n e ⟨dst, .call ⟨.builtin .copy, args.toArray, ats⟩, ty, pos, af, g⟩ (Builtin.copy_ ats ty vs.toArray) := fun a hs => by
  have hm : args.toArray.map a.eval = vs.toArray := by simp [← hs.evs h]
  simp only [execOp, resolve, invoke, builtin, hm]; rfl
theorem ExecIs.clear (h : e.evs args = some vs) : ExecIs n e ⟨dst, .call ⟨.builtin .clear, args.toArray, ats⟩, ty, pos, af, g⟩ (Builtin.clear_ ats ty vs.toArray) := fun a hs => by
  have hm : args.toArray.map a.eval = vs.toArray := by simp [← hs.evs h]
  simp only [execOp, resolve, invoke, builtin, hm]; rfl
end

theorem ExecP.move (hx : e.ev x = some vx) : ExecP P n e ⟨dst, .move x, ty, pos, af, g⟩ vx := fun a hs w => by
  simp only [execOp, hs.ev hx]; rfl
theorem ExecP.assign (hx : e.ev x = some vx) : ExecP P n e ⟨dst, .assign x, ty, pos, af, g⟩ vx := fun a hs w => by
  simp only [execOp, hs.ev hx]; rfl
theorem ExecP.pickT (hx : e.ev x = some (.bool true)) (hy : e.ev y = some vy) : ExecP P n e ⟨dst, .pick x y z, ty, pos, af, g⟩ vy := fun a hs w => by
  simp only [execOp, hs.ev hx, hs.ev hy]; rfl
theorem ExecP.pickF (hx : e.ev x = some (.bool false)) (hz : e.ev z = some vz) : ExecP P n e ⟨dst, .pick x y z, ty, pos, af, g⟩ vz := fun a hs w => by
  simp only [execOp, hs.ev hx, hs.ev hz]; rfl
theorem ExecP.nilCheck {ad : Addr} (hx : e.ev x = some vx) (h : vx = .pointer (some ad)) : ExecP P n e ⟨dst, .nilCheck x, ty, pos, af, g⟩ (.pointer (some ad)) := fun a hs w => by
  subst h
  simp only [execOp, hs.ev hx]; rfl
/-- an operation whose run is known in every world -/
theorem ExecP.ofRun {o : Oper} {m : Sem Value} {v : Value} (hm : ExecIs n e o m) (h : ∀ w, m.run P w = .ok v w) : ExecP P n e o v := fun a hs w => by
  rw [hm a hs, Sem.run_bind, h w]; rfl
theorem ExecP.fieldAddr {ad ad' : Addr} {f : Nat} (hx : e.ev x = some (.pointer (some ad))) (h : ∀ w, (Instr.fieldAt t (.pointer (some ad)) f).run P w = .ok (.pointer (some ad')) w) : ExecP P n e ⟨dst, .fieldAddr t x f, ty, pos, af, g⟩ (.pointer (some ad')) := fun a hs w => by
  simp only [execOp, hs.ev hx, Sem.run_bind, h w]; rfl
theorem ExecP.makeFunc {fn : Fn} {l c : List Operand} {vl vc : List Value} (h1 : e.evs l = some vl) (h2 : e.evs c = some vc) : ExecP P n e ⟨dst, .makeFunc fn l.toArray c.toArray, ty, pos, af, g⟩ (.func fn vl.toArray vc.toArray) := fun a hs w => by
  have hm1 : l.toArray.map a.eval = vl.toArray := by simp [← hs.evs h1]
  have hm2 : c.toArray.map a.eval = vc.toArray := by simp [← hs.evs h2]
  simp only [execOp, hm1, hm2]; rfl
section
variable {k : IntKind} {i j : Int}
theorem eqGuard_int (op : BinOp) (x y : Operand) : eqGuard op t x y (.int k i) (.int k j) = pure () := by
  cases op <;> rfl
theorem ExecP.add (hx : e.ev x = some (.int k i)) (hy : e.ev y = some (.int k j)) : ExecP P n e ⟨dst, .binOp .add t x y u, ty, pos, af, g⟩ (.int k (k.wrap (i + j))) :=
  .ofRun (.binOp hx hy) fun w => by simp [eqM, eqGuard_int, Go.binOp, Op.intArith, Sem.run_bind, Sem.run_pure]
theorem ExecP.sub (hx : e.ev x = some (.int k i)) (hy : e.ev y = some (.int k j)) : ExecP P n e ⟨dst, .binOp .sub t x y u, ty, pos, af, g⟩ (.int k (k.wrap (i - j))) :=
  .ofRun (.binOp hx hy) fun w => by simp [eqM, eqGuard_int, Go.binOp, Op.intArith, Sem.run_bind, Sem.run_pure]
theorem ExecP.mul (hx : e.ev x = some (.int k i)) (hy : e.ev y = some (.int k j)) : ExecP P n e ⟨dst, .binOp .mul t x y u, ty, pos, af, g⟩ (.int k (k.wrap (i * j))) :=
  .ofRun (.binOp hx hy) fun w => by simp [eqM, eqGuard_int, Go.binOp, Op.intArith, Sem.run_bind, Sem.run_pure]
theorem ExecP.eql (hx : e.ev x = some (.int k i)) (hy : e.ev y = some (.int k j)) : ExecP P n e ⟨dst, .binOp .eql t x y u, ty, pos, af, g⟩ (.bool (i == j)) :=
  .ofRun (.binOp hx hy) fun w => by simp [eqM, eqGuard_int, Go.binOp, Op.intCmp, Sem.run_bind, Sem.run_pure]
theorem ExecP.neq (hx : e.ev x = some (.int k i)) (hy : e.ev y = some (.int k j)) : ExecP P n e ⟨dst, .binOp .neq t x y u, ty, pos, af, g⟩ (.bool (i != j)) :=
  .ofRun (.binOp hx hy) fun w => by simp [eqM, eqGuard_int, Go.binOp, Op.intCmp, Sem.run_bind, Sem.run_pure]
theorem ExecP.lss (hx : e.ev x = some (.int k i)) (hy : e.ev y = some (.int k j)) : ExecP P n e ⟨dst, .binOp .lss t x y u, ty, pos, af, g⟩ (.bool (decide (i < j))) :=
  .ofRun (.binOp hx hy) fun w => by simp [eqM, eqGuard_int, Go.binOp, Op.intCmp, Sem.run_bind, Sem.run_pure]
theorem ExecP.leq (hx : e.ev x = some (.int k i)) (hy : e.ev y = some (.int k j)) : ExecP P n e ⟨dst, .binOp .leq t x y u, ty, pos, af, g⟩ (.bool (decide (i ≤ j))) :=
  .ofRun (.binOp hx hy) fun w => by simp [eqM, eqGuard_int, Go.binOp, Op.intCmp, Sem.run_bind, Sem.run_pure]
theorem ExecP.gtr (hx : e.ev x = some (.int k i)) (hy : e.ev y = some (.int k j)) : ExecP P n e ⟨dst, .binOp .gtr t x y u, ty, pos, af, g⟩ (.bool (decide (j < i))) :=
  .ofRun (.binOp hx hy) fun w => by simp [eqM, eqGuard_int, Go.binOp, Op.intCmp, Sem.run_bind, Sem.run_pure]
theorem ExecP.geq (hx : e.ev x = some (.int k i)) (hy : e.ev y = some (.int k j)) : ExecP P n e ⟨dst, .binOp .geq t x y u, ty, pos, af, g⟩ (.bool (decide (j ≤ i))) :=
  .ofRun (.binOp hx hy) fun w => by simp [eqM, eqGuard_int, Go.binOp, Op.intCmp, Sem.run_bind, Sem.run_pure]
theorem ExecP.not {b : Bool} (hx : e.ev x = some (.bool b)) : ExecP P n e ⟨dst, .unOp .not t x, ty, pos, af, g⟩ (.bool (!b)) := fun a hs w => by
  simp only [execOp, hs.ev hx]; rfl
theorem ExecP.neg (hx : e.ev x = some (.int k i)) : ExecP P n e ⟨dst, .unOp .neg t x, ty, pos, af, g⟩ (.int k (k.wrap (0 - i))) := fun a hs w => by
  simp only [execOp, hs.ev hx]; rfl
end
end

/-! ### the frame of a function -/
def Env.ofArgs (k : Nat) : List Value → Env
  | [] => []
  | v :: r => (k, v) :: Env.ofArgs (k + 1) r
theorem Env.ofArgs_find : ∀ (l : List Value) (k t : Nat) (v : Value), (Env.ofArgs k l).find t = some v → ∃ j, t = k + j ∧ l[j]? = some v
  | [], _, _, _, h => by simp [Env.ofArgs, Env.find] at h
  | u :: l, k, t, v, h => by
    simp only [Env.ofArgs, Env.find] at h
    by_cases hkt : k = t
    · subst hkt
      simp at h
      exact ⟨0, rfl, by simp [h]⟩
    · rw [beq_false hkt, cond_false] at h
      obtain ⟨j, hj, hl⟩ := Env.ofArgs_find l (k + 1) t v h
      exact ⟨j + 1, by omega, by simpa using hl⟩

theorem enter {P : Program} {f : FuncId} {fn : Func} {c : Code} {n : Nat} {l : List Value} {K : Value → WP} {w : World} (hf : P.funcs[f]? = some fn) (hb : fn.body = some c) (hn : fn.ntmps = n) (hl : Nat.ble l.length n = true)
    (h : J P n (Env.ofArgs 0 l) c (bodyPost P fn fun e w' => ∃ v, e = .returned v ∧ K v w') w) : callH P f l.toArray K w := by
  have hl' : l.length ≤ n := by simpa using hl
  refine calls_of_wp hf hb (h _ ⟨rfl, by simp [hn]; omega, fun t v ht => ?_⟩)
  obtain ⟨j, rfl, hj⟩ := Env.ofArgs_find l 0 t v ht
  have hjl : j < l.length := (List.getElem?_eq_some_iff.1 hj).1
  rw [Nat.zero_add, Array.getElem?_append_left (by simpa using hjl)]
  simpa using hj

section
variable {P : Program} {n : Nat} {e : Env} {fn : Func} {K : Value → WP} {w : World}
theorem JX.ret1 {t : Nat} {v : Value} (hr : fn.results = #[.tmp t]) (hv : e.find t = some v) (h : K v w) : JX n e (bodyPost P fn (fun e w' => ∃ v, e = .returned v ∧ K v w') .ret) w := fun a hs => by
  have := hs.get t v hv
  exact bodyPost_ret (v := v) (by rw [results_tmp hr]; simp [Array.getD_eq_getD_getElem?, this]) hs.defers ⟨v, rfl, h⟩
theorem JX.ret0 (hr : fn.results = #[]) (h : K (.tuple #[]) w) : JX n e (bodyPost P fn (fun e w' => ∃ v, e = .returned v ∧ K v w') .ret) w := fun a hs =>
  bodyPost_ret (results_none hr _ _ _) hs.defers ⟨_, rfl, h⟩
theorem JX.end0 (hr : fn.results = #[]) (h : K (.tuple #[]) w) : JX n e (bodyPost P fn (fun e w' => ∃ v, e = .returned v ∧ K v w') .normal) w := fun a hs =>
  bodyPost_end (results_none hr _ _ _) hs.defers ⟨_, rfl, h⟩
/-- what is read at the end and turns nothing -/
def seeV (P : Program) (m : Sem Value) (K : Value → WP) : WP := fun w => ∃ v, m.run P w = .ok v w ∧ K v w
theorem Sim.getD {n : Nat} {e : Env} {a : Act} (hs : Sim n e a) {t : Nat} {v : Value} (h : e.find t = some v) : a.tmps.getD t undef = v := by
  have := hs.get t v h
  simp [Array.getD_eq_getD_getElem?, this]
theorem JX.retC {t : Nat} {u : TypeId} {ad : Addr} (hr : fn.results = #[.cell t u]) (hv : e.find t = some (.pointer (some ad))) (h : seeV P (loadVar u ad) K w) : JX n e (bodyPost P fn (fun e w' => ∃ v, e = .returned v ∧ K v w') .ret) w := fun a hs => by
  obtain ⟨v, hl, hK⟩ := h
  refine bodyPost_ret (v := v) ?_ hs.defers ⟨v, rfl, hK⟩
  simp [results, hr, hs.get _ _ hv, asAddr, Sem.run_bind, Sem.run_pure, hl]
theorem JX.retCT {t t1 : Nat} {u : TypeId} {ad : Addr} {v1 : Value} (hr : fn.results = #[.cell t u, .tmp t1]) (hv : e.find t = some (.pointer (some ad))) (h1 : e.find t1 = some v1) (h : seeV P (loadVar u ad) (fun v => K (.tuple #[v, v1])) w) : JX n e (bodyPost P fn (fun e w' => ∃ v, e = .returned v ∧ K v w') .ret) w := fun a hs => by
  obtain ⟨v, hl, hK⟩ := h
  refine bodyPost_ret (v := .tuple #[v, v1]) ?_ hs.defers ⟨_, rfl, hK⟩
  simp [results, hr, hs.get _ _ hv, hs.get _ _ h1, asAddr, Sem.run_bind, Sem.run_pure, hl]
theorem JX.ret2 {t1 t2 : Nat} {v1 v2 : Value} (hr : fn.results = #[.tmp t1, .tmp t2]) (h1 : e.find t1 = some v1) (h2 : e.find t2 = some v2) (h : K (.tuple #[v1, v2]) w) : JX n e (bodyPost P fn (fun e w' => ∃ v, e = .returned v ∧ K v w') .ret) w := fun a hs => by
  refine bodyPost_ret (v := .tuple #[v1, v2]) ?_ hs.defers ⟨_, rfl, h⟩
  simp [results, hr, hs.get _ _ h1, hs.get _ _ h2]
theorem JX.ret3 {t1 t2 t3 : Nat} {v1 v2 v3 : Value} (hr : fn.results = #[.tmp t1, .tmp t2, .tmp t3]) (h1 : e.find t1 = some v1) (h2 : e.find t2 = some v2) (h3 : e.find t3 = some v3) (h : K (.tuple #[v1, v2, v3]) w) : JX n e (bodyPost P fn (fun e w' => ∃ v, e = .returned v ∧ K v w') .ret) w := fun a hs => by
  refine bodyPost_ret (v := .tuple #[v1, v2, v3]) ?_ hs.defers ⟨_, rfl, h⟩
  simp [results, hr, hs.get _ _ h1, hs.get _ _ h2, hs.get _ _ h3]
theorem JX.ret4 {t1 t2 t3 t4 : Nat} {v1 v2 v3 v4 : Value} (hr : fn.results = #[.tmp t1, .tmp t2, .tmp t3, .tmp t4]) (h1 : e.find t1 = some v1) (h2 : e.find t2 = some v2) (h3 : e.find t3 = some v3) (h4 : e.find t4 = some v4) (h : K (.tuple #[v1, v2, v3, v4]) w) : JX n e (bodyPost P fn (fun e w' => ∃ v, e = .returned v ∧ K v w') .ret) w := fun a hs => by
  refine bodyPost_ret (v := .tuple #[v1, v2, v3, v4]) ?_ hs.defers ⟨_, rfl, h⟩
  simp [results, hr, hs.get _ _ h1, hs.get _ _ h2, hs.get _ _ h3, hs.get _ _ h4]
end

/-! ### pieces of code whose ends meet -/
section
variable {P : Program} {n : Nat} {e : Env} {Q : Exit → Act → World → Prop} {w : World}
def joinQ {α : Type} (n : Nat) (L : α → Env) (k : α → WP) (Q : Exit → Act → World → Prop) : Exit → Act → World → Prop
  | .normal, a, w => ∃ x, Sim n (L x) a ∧ k x w
  | ex, a, w => Q ex a w
theorem J.join {α : Type} {c : Code} {rest : α → WP} {body : (α → WP) → WP} (h : joinH rest body w) (L : α → Env)
    (hb : ∀ (k : α → WP) (w : World), body k w → J P n e c (joinQ n L k Q) w) (hr : ∀ x w', rest x w' → JX n (L x) (Q .normal) w') : J P n e c Q w := fun a hs =>
  wp_mono (hb rest w h a hs) fun ex a' w' hq => by
    cases ex with
    | normal => obtain ⟨x, hx, hk⟩ := hq; exact hr x w' hk a' hx
    | exit id => exact hq
    | goto l => exact hq
    | ret => exact hq
    | panic c => exact hq
    | outgrown => exact hq
theorem JX.joinEnd {α : Type} {L : α → Env} {k : α → WP} {x : α} (h : k x w) (hc : e.covers (L x)) : JX n e (joinQ n L k Q .normal) w := fun a hs => ⟨x, hs.sub hc, h⟩
end

/-! ### typed programs; what the writing program names -/
def semI (P : Program) (k : IntKind) (m : Sem Value) (K : Int → WP) : WP := semV P m fun v => asI k v K
def semB (P : Program) (m : Sem Value) (K : Bool → WP) : WP := semV P m fun v => asB v K
def semA (P : Program) (m : Sem Value) (K : Addr → WP) : WP := semV P m fun v => asP v K
def readI (P : Program) (k : IntKind) (m : Sem Value) (K : Int → WP) : WP := readV P m fun v => asI k v K
def readB (P : Program) (m : Sem Value) (K : Bool → WP) : WP := readV P m fun v => asB v K
/-- what yields the same in every world -/
def pureV (P : Program) (m : Sem Value) (K : Value → WP) : WP := fun w => ∃ v, (∀ w2, m.run P w2 = .ok v w2) ∧ K v w
def pureI (P : Program) (k : IntKind) (m : Sem Value) (K : Int → WP) : WP := pureV P m fun v => asI k v K
def pureB (P : Program) (m : Sem Value) (K : Bool → WP) : WP := pureV P m fun v => asB v K
def pureA (P : Program) (m : Sem Value) (K : Addr → WP) : WP := pureV P m fun v => asP v K
def callI (P : Program) (f : FuncId) (args : Array Value) (k : IntKind) (K : Int → WP) : WP := callH P f args fun v => asI k v K
def callB (P : Program) (f : FuncId) (args : Array Value) (K : Bool → WP) : WP := callH P f args fun v => asB v K

theorem orB_cases {c : Bool} {m : (Bool → WP) → WP} {k : Bool → WP} {w : World} (h : orB c m k w) : (c = true ∧ k true w) ∨ (c = false ∧ m k w) := by
  cases c
  · exact .inr ⟨rfl, h⟩
  · exact .inl ⟨rfl, h⟩
theorem andB_cases {c : Bool} {m : (Bool → WP) → WP} {k : Bool → WP} {w : World} (h : andB c m k w) : (c = false ∧ k false w) ∨ (c = true ∧ m k w) := by
  cases c
  · exact .inl ⟨rfl, h⟩
  · exact .inr ⟨rfl, h⟩

section
variable {P : Program} {n : Nat} {e : Env} {Q : Exit → Act → World → Prop} {w : World} {ops : Array Oper} {l : List Oper}
theorem Wants.on {o : Oper} {j dj : Nat} {b c : Bool} (h : o.guard = some (j, b)) (hj : (ops[j]?).bind (·.dst) = some dj) (hv : e.find dj = some (.bool c)) (hc : c = b) : Wants n e ops o := by
  subst hc; exact .yes h hj hv
theorem WantsNot.off {o : Oper} {j dj : Nat} {b c b' : Bool} (h : o.guard = some (j, b)) (hj : (ops[j]?).bind (·.dst) = some dj) (hv : e.find dj = some (.bool c)) (hc : c = b') (hb : (b' == b) = false) : WantsNot n e ops o := by
  subst hc; exact .no h hj hv hb
section
variable {dst : Option Tmp} {ty t u : TypeId} {pos : String} {af : Array Edge} {g : Option (Nat × Bool)} {x y z : Operand} {vx vy vz : Value}
theorem ExecP.pickOn {c : Bool} (hx : e.ev x = some (.bool c)) (hc : c = true) (hy : e.ev y = some vy) : ExecP P n e ⟨dst, .pick x y z, ty, pos, af, g⟩ vy := by
  subst hc; exact .pickT hx hy
theorem ExecP.pickOff {c : Bool} (hx : e.ev x = some (.bool c)) (hc : c = false) (hz : e.ev z = some vz) : ExecP P n e ⟨dst, .pick x y z, ty, pos, af, g⟩ vz := by
  subst hc; exact .pickF hx hz
end
theorem JX.joinExit {α : Type} {L : α → Env} {k : α → WP} {id : Nat} (h : JX n e (Q (.exit id)) w) : JX n e (joinQ n L k Q (.exit id)) w := h
theorem JX.joinRet {α : Type} {L : α → Env} {k : α → WP} (h : JX n e (Q .ret) w) : JX n e (joinQ n L k Q .ret) w := h
theorem JL.sPure {o : Oper} {d : Nat} {m : Sem Value} {K : Value → WP} (hw : Wants n e ops o) (hd : o.dst = some d) (hn : Nat.blt d n = true)
    (hm : ExecIs n e o m) (h : pureV P m K w) (hk : ∀ v w', K v w' → JL P n ops ((d, v) :: e) l Q w') : JL P n ops e (o :: l) Q w := by
  obtain ⟨v, hv, hK⟩ := h
  exact .exV hw hd hn hm ⟨v, w, hv w, hK⟩ hk
section
variable {anc : Anc} {T : Took} {fuel : Nat} {listed : Array Bool}
theorem JD.sPure {i d : Nat} {oi : Oper} {m : Sem Value} {K : Value → WP} (ds : List Bool) (hi : ops[i]? = some oi) (hs : Region.noSelect ops = true) (hf : Region.free .any ops listed i = true)
    (hr : (Region.ready .any ops listed).contains i = true) (hds : (T.map fun t => dep anc t.1 i) = ds) (hw : Wants n e ops oi) (hd : oi.dst = some d) (hn : Nat.blt d n = true) (hm : ExecIs n e oi m) (h : pureV P m K w)
    (hT : KeptL P T ds w)
    (hk : ∀ v, K v w → JD P n ops anc T fuel (listed.setIfInBounds i true) ((d, v) :: e) Q w) : JD P n ops anc T (fuel + 1) listed e Q w := by
  obtain ⟨v, hv, hK⟩ := h
  exact JD.pure_ ds hi hs hf hr hds hw hd hn (.ofRun hm hv) hT (hk v hK)
theorem JD.two {i j : Nat} {A B : WP} (hr : Region.ready .any ops listed = [i, j]) (h : bothH A B w) (hA : A w → JD1 P n ops anc T fuel listed e Q w i) (hB : B w → JD1 P n ops anc T fuel listed e Q w j) : JD P n ops anc T (fuel + 1) listed e Q w :=
  JD.all hr rfl fun k hk => by
    simp only [List.mem_cons, List.not_mem_nil, or_false] at hk
    rcases hk with rfl | rfl
    · exact hA h.1
    · exact hB h.2
theorem JD.three {i j l : Nat} {A B C : WP} (hr : Region.ready .any ops listed = [i, j, l]) (h : bothH A (bothH B C) w) (hA : A w → JD1 P n ops anc T fuel listed e Q w i) (hB : B w → JD1 P n ops anc T fuel listed e Q w j) (hC : C w → JD1 P n ops anc T fuel listed e Q w l) : JD P n ops anc T (fuel + 1) listed e Q w :=
  JD.all hr rfl fun k hk => by
    simp only [List.mem_cons, List.not_mem_nil, or_false] at hk
    rcases hk with rfl | rfl | rfl
    · exact hA h.1
    · exact hB h.2.1
    · exact hC h.2.2
end
end

section
variable {P : Program} {n : Nat} {e : Env} {Q : Exit → Act → World → Prop} {w : World} {ops : Array Oper} {l : List Oper}
variable {dst : Option Tmp} {ty : TypeId} {pos : String} {af : Array Edge} {g : Option (Nat × Bool)} {x : Operand} {args : List Operand} {ats : Array TypeId}
/-- a call of a function value -/
theorem JL.exF {d : Nat} {fv : Value} {vs : List Value} {K : Value → WP} (hw : Wants n e ops ⟨some d, .call ⟨.value x, args.toArray, ats⟩, ty, pos, af, g⟩) (hn : Nat.blt d n = true)
    (hx : e.ev x = some fv) (hv : e.evs args = some vs) (h : callF P fv vs.toArray K w) (hk : ∀ v w', K v w' → JL P n ops ((d, v) :: e) l Q w') : JL P n ops e (⟨some d, .call ⟨.value x, args.toArray, ats⟩, ty, pos, af, g⟩ :: l) Q w := by
  obtain ⟨f, first, cap, rfl, he, h⟩ := h
  exact JL.exC hw rfl hn (ExecC.value he hx hv) h hk
theorem JL.exFN {fv : Value} {vs : List Value} {K : Value → WP} (hw : Wants n e ops ⟨none, .call ⟨.value x, args.toArray, ats⟩, ty, pos, af, g⟩)
    (hx : e.ev x = some fv) (hv : e.evs args = some vs) (h : callF P fv vs.toArray K w) (hk : ∀ v w', K v w' → JL P n ops e l Q w') : JL P n ops e (⟨none, .call ⟨.value x, args.toArray, ats⟩, ty, pos, af, g⟩ :: l) Q w := by
  obtain ⟨f, first, cap, rfl, he, h⟩ := h
  exact JL.exCN hw rfl (ExecC.value he hx hv) h hk
theorem JD1.exF {anc : Anc} {T : Took} {fuel : Nat} {listed : Array Bool} {j d : Nat} {fv : Value} {vs : List Value} {K : Value → WP} (ds : List Bool) (hi : ops[j]? = some ⟨some d, .call ⟨.value x, args.toArray, ats⟩, ty, pos, af, g⟩) (hds : (T.map fun t => dep anc t.1 j) = ds) (hw : Wants n e ops ⟨some d, .call ⟨.value x, args.toArray, ats⟩, ty, pos, af, g⟩) (hn : Nat.blt d n = true)
    (hx : e.ev x = some fv) (hv : e.evs args = some vs) (h : callF P fv vs.toArray K w) (hk : ∀ v w', K v w' → KeptL P T ds w' ∧ JD P n ops anc (dropL T ds) fuel (listed.setIfInBounds j true) ((d, v) :: e) Q w') : JD1 P n ops anc T fuel listed e Q w j := by
  obtain ⟨f, first, cap, rfl, he, h⟩ := h
  exact JD1.exC ds hi hds hw rfl hn (ExecC.value he hx hv) h hk
theorem orB_true' {m : (Bool → WP) → WP} {k : Bool → WP} (h : orB true m k w) : k true w := h
theorem orB_false' {m : (Bool → WP) → WP} {k : Bool → WP} (h : orB false m k w) : m k w := h
theorem andB_true' {m : (Bool → WP) → WP} {k : Bool → WP} (h : andB true m k w) : m k w := h
theorem andB_false' {m : (Bool → WP) → WP} {k : Bool → WP} (h : andB false m k w) : k false w := h
end

section
variable {P : Program} {n : Nat} {e : Env} {Q : Exit → Act → World → Prop} {w : World}
theorem J.scope {c : Code} (h : J P n e c (Exit.noGoto Q) w) : J P n e (.scope c) Q w := fun a hs => wp_scope_straight (h a hs)
theorem J.label {k : Nat} (h : JX n e (Q .normal) w) : J P n e (.label k) Q w := fun a hs => wp_label (h a hs)
theorem JX.scopeNormal (h : JX n e (Q .normal) w) : JX n e (Exit.noGoto Q .normal) w := h
theorem JX.scopeRet (h : JX n e (Q .ret) w) : JX n e (Exit.noGoto Q .ret) w := h
theorem JX.scopeExit {id : Nat} (h : JX n e (Q (.exit id)) w) : JX n e (Exit.noGoto Q (.exit id)) w := h
end
end Go.Cab
