/- A part of the proof: LedgerS. -/
import Derived.Test.YtkjcjlcimgcfcaaBase
namespace Go.Cab
set_option linter.unusedSimpArgs false
set_option linter.unusedVariables false
set_option linter.unusedSectionVars false
open Go Go.Proofs
theorem mixed : Try.prog.follows .mixedOrders = true := by kernel_rfl
theorem en_8 : Enters Try.prog 8 := .of Try.func8 rfl (by kernel_rfl)
theorem en_9 : Enters Try.prog 9 := .of Try.func9 rfl (by kernel_rfl)
theorem en_11 : Enters Try.prog 11 := .of Try.func11 rfl (by kernel_rfl)
theorem en_10 : Enters Try.prog 10 := .of Try.func10 rfl (by kernel_rfl)
theorem en_12 : Enters Try.prog 12 := .of Try.func12 rfl (by kernel_rfl)
theorem en_13 : Enters Try.prog 13 := .of Try.func13 rfl (by kernel_rfl)
theorem en_14 : Enters Try.prog 14 := .of Try.func14 rfl (by kernel_rfl)
theorem en_15 : Enters Try.prog 15 := .of Try.func15 rfl (by kernel_rfl)
theorem en_30 : Enters Try.prog 30 := .of Try.func30 rfl (by kernel_rfl)
theorem en_31 : Enters Try.prog 31 := .of Try.func31 rfl (by kernel_rfl)
theorem en_32 : Enters Try.prog 32 := .of Try.func32 rfl (by kernel_rfl)
theorem en_33 : Enters Try.prog 33 := .of Try.func33 rfl (by kernel_rfl)
theorem en_34 : Enters Try.prog 34 := .of Try.func34 rfl (by kernel_rfl)
theorem fa_79_0 (a : Addr) (w : World) : (Instr.fieldAt 79 (.pointer (some a)) 0).run Try.prog w = .ok (.pointer (some (a.add 0))) w := by kernel_rfl
theorem fa_86_0 (a : Addr) (w : World) : (Instr.fieldAt 86 (.pointer (some a)) 0).run Try.prog w = .ok (.pointer (some (a.add 0))) w := by kernel_rfl
theorem fa_86_1 (a : Addr) (w : World) : (Instr.fieldAt 86 (.pointer (some a)) 1).run Try.prog w = .ok (.pointer (some (a.add 1))) w := by kernel_rfl
theorem en_35 : Enters Try.prog 35 := .of Try.func35 rfl (by kernel_rfl)
theorem en_36 : Enters Try.prog 36 := .of Try.func36 rfl (by kernel_rfl)
theorem fa_79_1 (a : Addr) (w : World) : (Instr.fieldAt 79 (.pointer (some a)) 1).run Try.prog w = .ok (.pointer (some (a.add 1))) w := by kernel_rfl
theorem fa_82_0 (a : Addr) (w : World) : (Instr.fieldAt 82 (.pointer (some a)) 0).run Try.prog w = .ok (.pointer (some (a.add 0))) w := by kernel_rfl
theorem fa_82_1 (a : Addr) (w : World) : (Instr.fieldAt 82 (.pointer (some a)) 1).run Try.prog w = .ok (.pointer (some (a.add 8))) w := by kernel_rfl
theorem fa_82_2 (a : Addr) (w : World) : (Instr.fieldAt 82 (.pointer (some a)) 2).run Try.prog w = .ok (.pointer (some (a.add 16))) w := by kernel_rfl
theorem en_37 : Enters Try.prog 37 := .of Try.func37 rfl (by kernel_rfl)
theorem en_58 : Enters Try.prog 58 := .of Try.func58 rfl (by kernel_rfl)
theorem en_59 : Enters Try.prog 59 := .of Try.func59 rfl (by kernel_rfl)
namespace S
/-- cabstand/cabstandlaw23.LedgerNames -/
def law23_LedgerNames  (K : Value → WP) : WP :=
  callH Try.prog 8 #[] fun v1 =>
  joinH (α := Bool) (fun y2 =>
    iteH y2 (
      K (.bool false)) (
      callH Try.prog 11 #[(.int .u8 1)] fun v9 =>
      callI Try.prog 10 #[v1, v9, (.int .i64 4611686018427387903)] .i64 fun x10 =>
      callH Try.prog 11 #[(.int .u8 1)] fun v11 =>
      callI Try.prog 10 #[v1, v11, (.int .i64 4611686018427387904)] .i64 fun x12 =>
      callH Try.prog 11 #[(.int .u8 1)] fun v13 =>
      callH Try.prog 11 #[(.int .u8 2)] fun v14 =>
      callI Try.prog 12 #[v1, v13, v14, (.int .i64 4611686018427387903)] .i64 fun x15 =>
      callH Try.prog 11 #[(.int .u8 1)] fun v16 =>
      callH Try.prog 11 #[(.int .u8 2)] fun v17 =>
      callI Try.prog 12 #[v1, v16, v17, (.int .i64 1)] .i64 fun x18 =>
      callH Try.prog 11 #[(.int .u8 3)] fun v19 =>
      callI Try.prog 10 #[v1, v19, (.int .i64 5)] .i64 fun x20 =>
      callH Try.prog 11 #[(.int .u8 3)] fun v21 =>
      callH Try.prog 11 #[(.int .u8 2)] fun v22 =>
      callI Try.prog 12 #[v1, v21, v22, (.int .i64 1)] .i64 fun x23 =>
      callH Try.prog 11 #[(.int .u8 1)] fun v24 =>
      callI Try.prog 10 #[v1, v24, (.int .i64 4611686018427387902)] .i64 fun x25 =>
      callH Try.prog 11 #[(.int .u8 2)] fun v26 =>
      callH Try.prog 11 #[(.int .u8 2)] fun v27 =>
      callI Try.prog 12 #[v1, v26, v27, (.int .i64 1)] .i64 fun x28 =>
      callH Try.prog 11 #[(.int .u8 2)] fun v29 =>
      callH Try.prog 11 #[(.int .u8 1)] fun v30 =>
      callI Try.prog 12 #[v1, v29, v30, (.int .i64 (-9223372036854775808))] .i64 fun x31 =>
      callH Try.prog 13 #[(.pointer none), (.slice none 0 0)] fun v32 =>
      pureI Try.prog .i64 (Instr.extract v32 0) fun x33 =>
      pureI Try.prog .i64 (Instr.extract v32 1) fun x34 =>
      joinH (α := Bool) (fun y35 =>
        K (.bool y35)) fun k36 =>
        andB true (fun k38 =>
          k38 ((x10 : Int) == 0)) fun b37 =>
        andB b37 (fun k41 =>
          k41 ((x12 : Int) == 1)) fun b40 =>
        andB b40 (fun k44 =>
          k44 ((x15 : Int) == 0)) fun b43 =>
        andB b43 (fun k47 =>
          k47 ((x18 : Int) == 230)) fun b46 =>
        andB b46 (fun k50 =>
          k50 ((x23 : Int) == 3)) fun b49 =>
        andB b49 (fun k53 =>
          k53 ((x25 : Int) == 230)) fun b52 =>
        andB b52 (fun k56 =>
          k56 ((x28 : Int) == 1)) fun b55 =>
        andB b55 (fun k59 =>
          k59 ((x31 : Int) == 1)) fun b58 =>
        andB b58 (fun k62 =>
          k62 ((x33 : Int) == 0)) fun b61 =>
        andB b61 (fun k65 =>
          k65 ((x34 : Int) == 2)) fun b64 =>
        andB b64 (fun k68 =>
          callH Try.prog 11 #[(.int .u8 1)] fun v70 =>
          callI Try.prog 14 #[v1, v70] .i64 fun x71 =>
          k68 ((x71 : Int) == (-4611686018427387903))) fun b67 =>
        andB b67 (fun k73 =>
          callH Try.prog 11 #[(.int .u8 1)] fun v75 =>
          callI Try.prog 14 #[(.pointer none), v75] .i64 fun x76 =>
          k73 ((x76 : Int) == 0)) fun b72 =>
        andB b72 (fun k78 =>
          callH Try.prog 15 #[v1] fun v80 =>
          pureI Try.prog .i64 (Builtin.len_ #[34] 3 #[v80]) fun x81 =>
          k78 ((x81 : Int) == 3)) fun b77 =>
        k36 b77)) fun k3 =>
    pureB Try.prog (eqM .eql 22 (.tmp 14) (.const (.pointer none)) v1 (.pointer none)) fun b4 =>
    orB b4 (fun k6 =>
      callB Try.prog 9 #[] fun b8 =>
      k6 (!b8)) fun b5 =>
    k3 b5
set_option maxRecDepth 100000 in
set_option maxHeartbeats 1000000 in
theorem law23_LedgerNames_ok  {K : Value → WP} {w : World} (h : law23_LedgerNames  K w) : callH Try.prog 3 #[] K w := by
  refine enter (l := []) Try.func3 rfl rfl rfl ?_
  show J Try.prog 115 [] _ _ _
  unfold law23_LedgerNames at h
  refine J.seq ?_
  refine J.region ?_
  refine JL.exP (.none rfl) rfl rfl (.assign rfl) ?_
  refine JL.nil ?_
  refine JX.then ?_
  refine J.seq ?_
  refine J.region ?_
  refine JL.exC (.none rfl) rfl rfl (.func (vs := []) en_8 rfl) h (fun v1 w h => ?_)
  refine JL.exP (.none rfl) rfl rfl (.assign rfl) ?_
  refine JL.nil ?_
  refine JX.then ?_
  refine J.seq ?_
  refine J.seq ?_
  refine J.join h (fun y2 => [(0, (.bool false)), (1, v1), (19, (.bool y2))]) (fun k3 w h => ?_) (fun y2 w h => ?_)
  · refine J.region ?_
    refine JL.exP (.none rfl) rfl rfl (.move rfl) ?_
    refine JL.sPure (.none rfl) rfl rfl (.binOp rfl rfl) h (fun vb4 w h => ?_)
    obtain ⟨b4, rfl, h⟩ := h
    refine JL.exP (.none rfl) rfl rfl (.move rfl) ?_
    rcases orB_cases h with ⟨hc7, h⟩ | ⟨hc7, h⟩
    · refine JL.exNo (.off rfl rfl rfl hc7 rfl) rfl rfl ?_
      refine JL.exNo (.off rfl rfl rfl hc7 rfl) rfl rfl ?_
      refine JL.exP (.none rfl) rfl rfl (.pickOn rfl hc7 rfl) ?_
      refine JL.nil ?_
      exact JX.joinEnd h ⟨rfl, rfl, rfl, trivial⟩
    · refine JL.exC (.on rfl rfl rfl hc7) rfl rfl (.func (vs := []) en_9 rfl) h (fun vb8 w h => ?_)
      obtain ⟨b8, rfl, h⟩ := h
      refine JL.exP (.on rfl rfl rfl hc7) rfl rfl (.not rfl) ?_
      refine JL.exP (.none rfl) rfl rfl (.pickOff rfl hc7 rfl) ?_
      refine JL.nil ?_
      exact JX.joinEnd h ⟨rfl, rfl, rfl, trivial⟩
  · refine JX.then ?_
    refine J.cond (b := _) rfl h (fun h => ?_) (fun h => ?_)
    · refine J.seq ?_
      refine J.region ?_
      refine JL.exP (.none rfl) rfl rfl (.assign rfl) ?_
      refine JL.nil ?_
      refine JX.then ?_
      refine J.ret ?_
      refine JX.thenRet ?_
      exact JX.ret1 rfl rfl h
    · refine J.skip ?_
      refine JX.then ?_
      refine J.seq ?_
      refine J.region ?_
      refine JL.exP (.none rfl) rfl rfl (.move rfl) ?_
      refine JL.exC (.none rfl) rfl rfl (.func (vs := [(.int .u8 1)]) en_11 rfl) h (fun v9 w h => ?_)
      refine JL.exC (.none rfl) rfl rfl (.func (vs := [v1, v9, (.int .i64 4611686018427387903)]) en_10 rfl) h (fun vx10 w h => ?_)
      obtain ⟨x10, rfl, h⟩ := h
      refine JL.exP (.none rfl) rfl rfl (.assign rfl) ?_
      refine JL.nil ?_
      refine JX.then ?_
      refine J.seq ?_
      refine J.region ?_
      refine JL.exP (.none rfl) rfl rfl (.move rfl) ?_
      refine JL.exC (.none rfl) rfl rfl (.func (vs := [(.int .u8 1)]) en_11 rfl) h (fun v11 w h => ?_)
      refine JL.exC (.none rfl) rfl rfl (.func (vs := [v1, v11, (.int .i64 4611686018427387904)]) en_10 rfl) h (fun vx12 w h => ?_)
      obtain ⟨x12, rfl, h⟩ := h
      refine JL.exP (.none rfl) rfl rfl (.assign rfl) ?_
      refine JL.nil ?_
      refine JX.then ?_
      refine J.seq ?_
      refine J.region ?_
      refine JL.exP (.none rfl) rfl rfl (.move rfl) ?_
      refine JL.exC (.none rfl) rfl rfl (.func (vs := [(.int .u8 1)]) en_11 rfl) h (fun v13 w h => ?_)
      refine JL.exC (.none rfl) rfl rfl (.func (vs := [(.int .u8 2)]) en_11 rfl) h (fun v14 w h => ?_)
      refine JL.exC (.none rfl) rfl rfl (.func (vs := [v1, v13, v14, (.int .i64 4611686018427387903)]) en_12 rfl) h (fun vx15 w h => ?_)
      obtain ⟨x15, rfl, h⟩ := h
      refine JL.exP (.none rfl) rfl rfl (.assign rfl) ?_
      refine JL.nil ?_
      refine JX.then ?_
      refine J.seq ?_
      refine J.region ?_
      refine JL.exP (.none rfl) rfl rfl (.move rfl) ?_
      refine JL.exC (.none rfl) rfl rfl (.func (vs := [(.int .u8 1)]) en_11 rfl) h (fun v16 w h => ?_)
      refine JL.exC (.none rfl) rfl rfl (.func (vs := [(.int .u8 2)]) en_11 rfl) h (fun v17 w h => ?_)
      refine JL.exC (.none rfl) rfl rfl (.func (vs := [v1, v16, v17, (.int .i64 1)]) en_12 rfl) h (fun vx18 w h => ?_)
      obtain ⟨x18, rfl, h⟩ := h
      refine JL.exP (.none rfl) rfl rfl (.assign rfl) ?_
      refine JL.nil ?_
      refine JX.then ?_
      refine J.seq ?_
      refine J.region ?_
      refine JL.exP (.none rfl) rfl rfl (.move rfl) ?_
      refine JL.exC (.none rfl) rfl rfl (.func (vs := [(.int .u8 3)]) en_11 rfl) h (fun v19 w h => ?_)
      refine JL.exC (.none rfl) rfl rfl (.func (vs := [v1, v19, (.int .i64 5)]) en_10 rfl) h (fun vx20 w h => ?_)
      obtain ⟨x20, rfl, h⟩ := h
      refine JL.nil ?_
      refine JX.then ?_
      refine J.seq ?_
      refine J.region ?_
      refine JL.exP (.none rfl) rfl rfl (.move rfl) ?_
      refine JL.exC (.none rfl) rfl rfl (.func (vs := [(.int .u8 3)]) en_11 rfl) h (fun v21 w h => ?_)
      refine JL.exC (.none rfl) rfl rfl (.func (vs := [(.int .u8 2)]) en_11 rfl) h (fun v22 w h => ?_)
      refine JL.exC (.none rfl) rfl rfl (.func (vs := [v1, v21, v22, (.int .i64 1)]) en_12 rfl) h (fun vx23 w h => ?_)
      obtain ⟨x23, rfl, h⟩ := h
      refine JL.exP (.none rfl) rfl rfl (.assign rfl) ?_
      refine JL.nil ?_
      refine JX.then ?_
      refine J.seq ?_
      refine J.region ?_
      refine JL.exP (.none rfl) rfl rfl (.move rfl) ?_
      refine JL.exC (.none rfl) rfl rfl (.func (vs := [(.int .u8 1)]) en_11 rfl) h (fun v24 w h => ?_)
      refine JL.exC (.none rfl) rfl rfl (.func (vs := [v1, v24, (.int .i64 4611686018427387902)]) en_10 rfl) h (fun vx25 w h => ?_)
      obtain ⟨x25, rfl, h⟩ := h
      refine JL.exP (.none rfl) rfl rfl (.assign rfl) ?_
      refine JL.nil ?_
      refine JX.then ?_
      refine J.seq ?_
      refine J.region ?_
      refine JL.exP (.none rfl) rfl rfl (.move rfl) ?_
      refine JL.exC (.none rfl) rfl rfl (.func (vs := [(.int .u8 2)]) en_11 rfl) h (fun v26 w h => ?_)
      refine JL.exC (.none rfl) rfl rfl (.func (vs := [(.int .u8 2)]) en_11 rfl) h (fun v27 w h => ?_)
      refine JL.exC (.none rfl) rfl rfl (.func (vs := [v1, v26, v27, (.int .i64 1)]) en_12 rfl) h (fun vx28 w h => ?_)
      obtain ⟨x28, rfl, h⟩ := h
      refine JL.exP (.none rfl) rfl rfl (.assign rfl) ?_
      refine JL.nil ?_
      refine JX.then ?_
      refine J.seq ?_
      refine J.region ?_
      refine JL.exP (.none rfl) rfl rfl (.move rfl) ?_
      refine JL.exC (.none rfl) rfl rfl (.func (vs := [(.int .u8 2)]) en_11 rfl) h (fun v29 w h => ?_)
      refine JL.exC (.none rfl) rfl rfl (.func (vs := [(.int .u8 1)]) en_11 rfl) h (fun v30 w h => ?_)
      refine JL.exC (.none rfl) rfl rfl (.func (vs := [v1, v29, v30, (.int .i64 (-9223372036854775808))]) en_12 rfl) h (fun vx31 w h => ?_)
      obtain ⟨x31, rfl, h⟩ := h
      refine JL.exP (.none rfl) rfl rfl (.assign rfl) ?_
      refine JL.nil ?_
      refine JX.then ?_
      refine J.seq ?_
      refine J.region ?_
      refine JL.exP (.none rfl) rfl rfl (.assign rfl) ?_
      refine JL.nil ?_
      refine JX.then ?_
      refine J.seq ?_
      refine J.region ?_
      refine JL.exP (.none rfl) rfl rfl (.move rfl) ?_
      refine JL.exC (.none rfl) rfl rfl (.func (vs := [(.pointer none), (.slice none 0 0)]) en_13 rfl) h (fun v32 w h => ?_)
      refine JL.exP (.none rfl) rfl rfl (.move rfl) ?_
      refine JL.sPure (.none rfl) rfl rfl (.extract rfl) h (fun vx33 w h => ?_)
      obtain ⟨x33, rfl, h⟩ := h
      refine JL.sPure (.none rfl) rfl rfl (.extract rfl) h (fun vx34 w h => ?_)
      obtain ⟨x34, rfl, h⟩ := h
      refine JL.exP (.none rfl) rfl rfl (.assign rfl) ?_
      refine JL.exP (.none rfl) rfl rfl (.assign rfl) ?_
      refine JL.nil ?_
      refine JX.then ?_
      refine J.seq ?_
      refine J.join h (fun y35 => [(0, (.bool y35))]) (fun k36 w h => ?_) (fun y35 w h => ?_)
      · refine J.region ?_
        refine JL.exP (.none rfl) rfl rfl (.move rfl) ?_
        rcases andB_cases h with ⟨hc39, h⟩ | ⟨hc39, h⟩
        · refine JL.exNo (.off rfl rfl rfl hc39 rfl) rfl rfl ?_
          refine JL.exNo (.off rfl rfl rfl hc39 rfl) rfl rfl ?_
          refine JL.exP (.none rfl) rfl rfl (.pickOff rfl hc39 rfl) ?_
          refine JL.exP (.none rfl) rfl rfl (.move rfl) ?_
          have h := andB_false' h
          refine JL.exNo (.off rfl rfl rfl rfl rfl) rfl rfl ?_
          refine JL.exNo (.off rfl rfl rfl rfl rfl) rfl rfl ?_
          refine JL.exP (.none rfl) rfl rfl (.pickOff rfl rfl rfl) ?_
          refine JL.exP (.none rfl) rfl rfl (.move rfl) ?_
          have h := andB_false' h
          refine JL.exNo (.off rfl rfl rfl rfl rfl) rfl rfl ?_
          refine JL.exNo (.off rfl rfl rfl rfl rfl) rfl rfl ?_
          refine JL.exP (.none rfl) rfl rfl (.pickOff rfl rfl rfl) ?_
          refine JL.exP (.none rfl) rfl rfl (.move rfl) ?_
          have h := andB_false' h
          refine JL.exNo (.off rfl rfl rfl rfl rfl) rfl rfl ?_
          refine JL.exNo (.off rfl rfl rfl rfl rfl) rfl rfl ?_
          refine JL.exP (.none rfl) rfl rfl (.pickOff rfl rfl rfl) ?_
          refine JL.exP (.none rfl) rfl rfl (.move rfl) ?_
          have h := andB_false' h
          refine JL.exNo (.off rfl rfl rfl rfl rfl) rfl rfl ?_
          refine JL.exNo (.off rfl rfl rfl rfl rfl) rfl rfl ?_
          refine JL.exP (.none rfl) rfl rfl (.pickOff rfl rfl rfl) ?_
          refine JL.exP (.none rfl) rfl rfl (.move rfl) ?_
          have h := andB_false' h
          refine JL.exNo (.off rfl rfl rfl rfl rfl) rfl rfl ?_
          refine JL.exNo (.off rfl rfl rfl rfl rfl) rfl rfl ?_
          refine JL.exP (.none rfl) rfl rfl (.pickOff rfl rfl rfl) ?_
          refine JL.exP (.none rfl) rfl rfl (.move rfl) ?_
          have h := andB_false' h
          refine JL.exNo (.off rfl rfl rfl rfl rfl) rfl rfl ?_
          refine JL.exNo (.off rfl rfl rfl rfl rfl) rfl rfl ?_
          refine JL.exP (.none rfl) rfl rfl (.pickOff rfl rfl rfl) ?_
          refine JL.exP (.none rfl) rfl rfl (.move rfl) ?_
          have h := andB_false' h
          refine JL.exNo (.off rfl rfl rfl rfl rfl) rfl rfl ?_
          refine JL.exNo (.off rfl rfl rfl rfl rfl) rfl rfl ?_
          refine JL.exP (.none rfl) rfl rfl (.pickOff rfl rfl rfl) ?_
          refine JL.exP (.none rfl) rfl rfl (.move rfl) ?_
          have h := andB_false' h
          refine JL.exNo (.off rfl rfl rfl rfl rfl) rfl rfl ?_
          refine JL.exNo (.off rfl rfl rfl rfl rfl) rfl rfl ?_
          refine JL.exP (.none rfl) rfl rfl (.pickOff rfl rfl rfl) ?_
          refine JL.exP (.none rfl) rfl rfl (.move rfl) ?_
          have h := andB_false' h
          refine JL.exNo (.off rfl rfl rfl rfl rfl) rfl rfl ?_
          refine JL.exNo (.off rfl rfl rfl rfl rfl) rfl rfl ?_
          refine JL.exP (.none rfl) rfl rfl (.pickOff rfl rfl rfl) ?_
          refine JL.exP (.none rfl) rfl rfl (.move rfl) ?_
          have h := andB_false' h
          refine JL.exNo (.off rfl rfl rfl rfl rfl) rfl rfl ?_
          refine JL.exNo (.off rfl rfl rfl rfl rfl) rfl rfl ?_
          refine JL.exNo (.off rfl rfl rfl rfl rfl) rfl rfl ?_
          refine JL.exNo (.off rfl rfl rfl rfl rfl) rfl rfl ?_
          refine JL.exP (.none rfl) rfl rfl (.pickOff rfl rfl rfl) ?_
          refine JL.exP (.none rfl) rfl rfl (.move rfl) ?_
          have h := andB_false' h
          refine JL.exNo (.off rfl rfl rfl rfl rfl) rfl rfl ?_
          refine JL.exNo (.off rfl rfl rfl rfl rfl) rfl rfl ?_
          refine JL.exNo (.off rfl rfl rfl rfl rfl) rfl rfl ?_
          refine JL.exNo (.off rfl rfl rfl rfl rfl) rfl rfl ?_
          refine JL.exP (.none rfl) rfl rfl (.pickOff rfl rfl rfl) ?_
          refine JL.exP (.none rfl) rfl rfl (.move rfl) ?_
          have h := andB_false' h
          refine JL.exNo (.off rfl rfl rfl rfl rfl) rfl rfl ?_
          refine JL.exNo (.off rfl rfl rfl rfl rfl) rfl rfl ?_
          refine JL.exNo (.off rfl rfl rfl rfl rfl) rfl rfl ?_
          refine JL.exNo (.off rfl rfl rfl rfl rfl) rfl rfl ?_
          refine JL.exP (.none rfl) rfl rfl (.pickOff rfl rfl rfl) ?_
          refine JL.exP (.none rfl) rfl rfl (.assign rfl) ?_
          refine JL.nil ?_
          exact JX.joinEnd h ⟨rfl, trivial⟩
        · refine JL.exP (.on rfl rfl rfl hc39) rfl rfl (.move rfl) ?_
          refine JL.exP (.on rfl rfl rfl hc39) rfl rfl (.eql rfl rfl) ?_
          refine JL.exP (.none rfl) rfl rfl (.pickOn rfl hc39 rfl) ?_
          refine JL.exP (.none rfl) rfl rfl (.move rfl) ?_
          rcases andB_cases h with ⟨hc42, h⟩ | ⟨hc42, h⟩
          · refine JL.exNo (.off rfl rfl rfl hc42 rfl) rfl rfl ?_
            refine JL.exNo (.off rfl rfl rfl hc42 rfl) rfl rfl ?_
            refine JL.exP (.none rfl) rfl rfl (.pickOff rfl hc42 rfl) ?_
            refine JL.exP (.none rfl) rfl rfl (.move rfl) ?_
            have h := andB_false' h
            refine JL.exNo (.off rfl rfl rfl rfl rfl) rfl rfl ?_
            refine JL.exNo (.off rfl rfl rfl rfl rfl) rfl rfl ?_
            refine JL.exP (.none rfl) rfl rfl (.pickOff rfl rfl rfl) ?_
            refine JL.exP (.none rfl) rfl rfl (.move rfl) ?_
            have h := andB_false' h
            refine JL.exNo (.off rfl rfl rfl rfl rfl) rfl rfl ?_
            refine JL.exNo (.off rfl rfl rfl rfl rfl) rfl rfl ?_
            refine JL.exP (.none rfl) rfl rfl (.pickOff rfl rfl rfl) ?_
            refine JL.exP (.none rfl) rfl rfl (.move rfl) ?_
            have h := andB_false' h
            refine JL.exNo (.off rfl rfl rfl rfl rfl) rfl rfl ?_
            refine JL.exNo (.off rfl rfl rfl rfl rfl) rfl rfl ?_
            refine JL.exP (.none rfl) rfl rfl (.pickOff rfl rfl rfl) ?_
            refine JL.exP (.none rfl) rfl rfl (.move rfl) ?_
            have h := andB_false' h
            refine JL.exNo (.off rfl rfl rfl rfl rfl) rfl rfl ?_
            refine JL.exNo (.off rfl rfl rfl rfl rfl) rfl rfl ?_
            refine JL.exP (.none rfl) rfl rfl (.pickOff rfl rfl rfl) ?_
            refine JL.exP (.none rfl) rfl rfl (.move rfl) ?_
            have h := andB_false' h
            refine JL.exNo (.off rfl rfl rfl rfl rfl) rfl rfl ?_
            refine JL.exNo (.off rfl rfl rfl rfl rfl) rfl rfl ?_
            refine JL.exP (.none rfl) rfl rfl (.pickOff rfl rfl rfl) ?_
            refine JL.exP (.none rfl) rfl rfl (.move rfl) ?_
            have h := andB_false' h
            refine JL.exNo (.off rfl rfl rfl rfl rfl) rfl rfl ?_
            refine JL.exNo (.off rfl rfl rfl rfl rfl) rfl rfl ?_
            refine JL.exP (.none rfl) rfl rfl (.pickOff rfl rfl rfl) ?_
            refine JL.exP (.none rfl) rfl rfl (.move rfl) ?_
            have h := andB_false' h
            refine JL.exNo (.off rfl rfl rfl rfl rfl) rfl rfl ?_
            refine JL.exNo (.off rfl rfl rfl rfl rfl) rfl rfl ?_
            refine JL.exP (.none rfl) rfl rfl (.pickOff rfl rfl rfl) ?_
            refine JL.exP (.none rfl) rfl rfl (.move rfl) ?_
            have h := andB_false' h
            refine JL.exNo (.off rfl rfl rfl rfl rfl) rfl rfl ?_
            refine JL.exNo (.off rfl rfl rfl rfl rfl) rfl rfl ?_
            refine JL.exP (.none rfl) rfl rfl (.pickOff rfl rfl rfl) ?_
            refine JL.exP (.none rfl) rfl rfl (.move rfl) ?_
            have h := andB_false' h
            refine JL.exNo (.off rfl rfl rfl rfl rfl) rfl rfl ?_
            refine JL.exNo (.off rfl rfl rfl rfl rfl) rfl rfl ?_
            refine JL.exNo (.off rfl rfl rfl rfl rfl) rfl rfl ?_
            refine JL.exNo (.off rfl rfl rfl rfl rfl) rfl rfl ?_
            refine JL.exP (.none rfl) rfl rfl (.pickOff rfl rfl rfl) ?_
            refine JL.exP (.none rfl) rfl rfl (.move rfl) ?_
            have h := andB_false' h
            refine JL.exNo (.off rfl rfl rfl rfl rfl) rfl rfl ?_
            refine JL.exNo (.off rfl rfl rfl rfl rfl) rfl rfl ?_
            refine JL.exNo (.off rfl rfl rfl rfl rfl) rfl rfl ?_
            refine JL.exNo (.off rfl rfl rfl rfl rfl) rfl rfl ?_
            refine JL.exP (.none rfl) rfl rfl (.pickOff rfl rfl rfl) ?_
            refine JL.exP (.none rfl) rfl rfl (.move rfl) ?_
            have h := andB_false' h
            refine JL.exNo (.off rfl rfl rfl rfl rfl) rfl rfl ?_
            refine JL.exNo (.off rfl rfl rfl rfl rfl) rfl rfl ?_
            refine JL.exNo (.off rfl rfl rfl rfl rfl) rfl rfl ?_
            refine JL.exNo (.off rfl rfl rfl rfl rfl) rfl rfl ?_
            refine JL.exP (.none rfl) rfl rfl (.pickOff rfl rfl rfl) ?_
            refine JL.exP (.none rfl) rfl rfl (.assign rfl) ?_
            refine JL.nil ?_
            exact JX.joinEnd h ⟨rfl, trivial⟩
          · refine JL.exP (.on rfl rfl rfl hc42) rfl rfl (.move rfl) ?_
            refine JL.exP (.on rfl rfl rfl hc42) rfl rfl (.eql rfl rfl) ?_
            refine JL.exP (.none rfl) rfl rfl (.pickOn rfl hc42 rfl) ?_
            refine JL.exP (.none rfl) rfl rfl (.move rfl) ?_
            rcases andB_cases h with ⟨hc45, h⟩ | ⟨hc45, h⟩
            · refine JL.exNo (.off rfl rfl rfl hc45 rfl) rfl rfl ?_
              refine JL.exNo (.off rfl rfl rfl hc45 rfl) rfl rfl ?_
              refine JL.exP (.none rfl) rfl rfl (.pickOff rfl hc45 rfl) ?_
              refine JL.exP (.none rfl) rfl rfl (.move rfl) ?_
              have h := andB_false' h
              refine JL.exNo (.off rfl rfl rfl rfl rfl) rfl rfl ?_
              refine JL.exNo (.off rfl rfl rfl rfl rfl) rfl rfl ?_
              refine JL.exP (.none rfl) rfl rfl (.pickOff rfl rfl rfl) ?_
              refine JL.exP (.none rfl) rfl rfl (.move rfl) ?_
              have h := andB_false' h
              refine JL.exNo (.off rfl rfl rfl rfl rfl) rfl rfl ?_
              refine JL.exNo (.off rfl rfl rfl rfl rfl) rfl rfl ?_
              refine JL.exP (.none rfl) rfl rfl (.pickOff rfl rfl rfl) ?_
              refine JL.exP (.none rfl) rfl rfl (.move rfl) ?_
              have h := andB_false' h
              refine JL.exNo (.off rfl rfl rfl rfl rfl) rfl rfl ?_
              refine JL.exNo (.off rfl rfl rfl rfl rfl) rfl rfl ?_
              refine JL.exP (.none rfl) rfl rfl (.pickOff rfl rfl rfl) ?_
              refine JL.exP (.none rfl) rfl rfl (.move rfl) ?_
              have h := andB_false' h
              refine JL.exNo (.off rfl rfl rfl rfl rfl) rfl rfl ?_
              refine JL.exNo (.off rfl rfl rfl rfl rfl) rfl rfl ?_
              refine JL.exP (.none rfl) rfl rfl (.pickOff rfl rfl rfl) ?_
              refine JL.exP (.none rfl) rfl rfl (.move rfl) ?_
              have h := andB_false' h
              refine JL.exNo (.off rfl rfl rfl rfl rfl) rfl rfl ?_
              refine JL.exNo (.off rfl rfl rfl rfl rfl) rfl rfl ?_
              refine JL.exP (.none rfl) rfl rfl (.pickOff rfl rfl rfl) ?_
              refine JL.exP (.none rfl) rfl rfl (.move rfl) ?_
              have h := andB_false' h
              refine JL.exNo (.off rfl rfl rfl rfl rfl) rfl rfl ?_
              refine JL.exNo (.off rfl rfl rfl rfl rfl) rfl rfl ?_
              refine JL.exP (.none rfl) rfl rfl (.pickOff rfl rfl rfl) ?_
              refine JL.exP (.none rfl) rfl rfl (.move rfl) ?_
              have h := andB_false' h
              refine JL.exNo (.off rfl rfl rfl rfl rfl) rfl rfl ?_
              refine JL.exNo (.off rfl rfl rfl rfl rfl) rfl rfl ?_
              refine JL.exP (.none rfl) rfl rfl (.pickOff rfl rfl rfl) ?_
              refine JL.exP (.none rfl) rfl rfl (.move rfl) ?_
              have h := andB_false' h
              refine JL.exNo (.off rfl rfl rfl rfl rfl) rfl rfl ?_
              refine JL.exNo (.off rfl rfl rfl rfl rfl) rfl rfl ?_
              refine JL.exNo (.off rfl rfl rfl rfl rfl) rfl rfl ?_
              refine JL.exNo (.off rfl rfl rfl rfl rfl) rfl rfl ?_
              refine JL.exP (.none rfl) rfl rfl (.pickOff rfl rfl rfl) ?_
              refine JL.exP (.none rfl) rfl rfl (.move rfl) ?_
              have h := andB_false' h
              refine JL.exNo (.off rfl rfl rfl rfl rfl) rfl rfl ?_
              refine JL.exNo (.off rfl rfl rfl rfl rfl) rfl rfl ?_
              refine JL.exNo (.off rfl rfl rfl rfl rfl) rfl rfl ?_
              refine JL.exNo (.off rfl rfl rfl rfl rfl) rfl rfl ?_
              refine JL.exP (.none rfl) rfl rfl (.pickOff rfl rfl rfl) ?_
              refine JL.exP (.none rfl) rfl rfl (.move rfl) ?_
              have h := andB_false' h
              refine JL.exNo (.off rfl rfl rfl rfl rfl) rfl rfl ?_
              refine JL.exNo (.off rfl rfl rfl rfl rfl) rfl rfl ?_
              refine JL.exNo (.off rfl rfl rfl rfl rfl) rfl rfl ?_
              refine JL.exNo (.off rfl rfl rfl rfl rfl) rfl rfl ?_
              refine JL.exP (.none rfl) rfl rfl (.pickOff rfl rfl rfl) ?_
              refine JL.exP (.none rfl) rfl rfl (.assign rfl) ?_
              refine JL.nil ?_
              exact JX.joinEnd h ⟨rfl, trivial⟩
            · refine JL.exP (.on rfl rfl rfl hc45) rfl rfl (.move rfl) ?_
              refine JL.exP (.on rfl rfl rfl hc45) rfl rfl (.eql rfl rfl) ?_
              refine JL.exP (.none rfl) rfl rfl (.pickOn rfl hc45 rfl) ?_
              refine JL.exP (.none rfl) rfl rfl (.move rfl) ?_
              rcases andB_cases h with ⟨hc48, h⟩ | ⟨hc48, h⟩
              · refine JL.exNo (.off rfl rfl rfl hc48 rfl) rfl rfl ?_
                refine JL.exNo (.off rfl rfl rfl hc48 rfl) rfl rfl ?_
                refine JL.exP (.none rfl) rfl rfl (.pickOff rfl hc48 rfl) ?_
                refine JL.exP (.none rfl) rfl rfl (.move rfl) ?_
                have h := andB_false' h
                refine JL.exNo (.off rfl rfl rfl rfl rfl) rfl rfl ?_
                refine JL.exNo (.off rfl rfl rfl rfl rfl) rfl rfl ?_
                refine JL.exP (.none rfl) rfl rfl (.pickOff rfl rfl rfl) ?_
                refine JL.exP (.none rfl) rfl rfl (.move rfl) ?_
                have h := andB_false' h
                refine JL.exNo (.off rfl rfl rfl rfl rfl) rfl rfl ?_
                refine JL.exNo (.off rfl rfl rfl rfl rfl) rfl rfl ?_
                refine JL.exP (.none rfl) rfl rfl (.pickOff rfl rfl rfl) ?_
                refine JL.exP (.none rfl) rfl rfl (.move rfl) ?_
                have h := andB_false' h
                refine JL.exNo (.off rfl rfl rfl rfl rfl) rfl rfl ?_
                refine JL.exNo (.off rfl rfl rfl rfl rfl) rfl rfl ?_
                refine JL.exP (.none rfl) rfl rfl (.pickOff rfl rfl rfl) ?_
                refine JL.exP (.none rfl) rfl rfl (.move rfl) ?_
                have h := andB_false' h
                refine JL.exNo (.off rfl rfl rfl rfl rfl) rfl rfl ?_
                refine JL.exNo (.off rfl rfl rfl rfl rfl) rfl rfl ?_
                refine JL.exP (.none rfl) rfl rfl (.pickOff rfl rfl rfl) ?_
                refine JL.exP (.none rfl) rfl rfl (.move rfl) ?_
                have h := andB_false' h
                refine JL.exNo (.off rfl rfl rfl rfl rfl) rfl rfl ?_
                refine JL.exNo (.off rfl rfl rfl rfl rfl) rfl rfl ?_
                refine JL.exP (.none rfl) rfl rfl (.pickOff rfl rfl rfl) ?_
                refine JL.exP (.none rfl) rfl rfl (.move rfl) ?_
                have h := andB_false' h
                refine JL.exNo (.off rfl rfl rfl rfl rfl) rfl rfl ?_
                refine JL.exNo (.off rfl rfl rfl rfl rfl) rfl rfl ?_
                refine JL.exP (.none rfl) rfl rfl (.pickOff rfl rfl rfl) ?_
                refine JL.exP (.none rfl) rfl rfl (.move rfl) ?_
                have h := andB_false' h
                refine JL.exNo (.off rfl rfl rfl rfl rfl) rfl rfl ?_
                refine JL.exNo (.off rfl rfl rfl rfl rfl) rfl rfl ?_
                refine JL.exNo (.off rfl rfl rfl rfl rfl) rfl rfl ?_
                refine JL.exNo (.off rfl rfl rfl rfl rfl) rfl rfl ?_
                refine JL.exP (.none rfl) rfl rfl (.pickOff rfl rfl rfl) ?_
                refine JL.exP (.none rfl) rfl rfl (.move rfl) ?_
                have h := andB_false' h
                refine JL.exNo (.off rfl rfl rfl rfl rfl) rfl rfl ?_
                refine JL.exNo (.off rfl rfl rfl rfl rfl) rfl rfl ?_
                refine JL.exNo (.off rfl rfl rfl rfl rfl) rfl rfl ?_
                refine JL.exNo (.off rfl rfl rfl rfl rfl) rfl rfl ?_
                refine JL.exP (.none rfl) rfl rfl (.pickOff rfl rfl rfl) ?_
                refine JL.exP (.none rfl) rfl rfl (.move rfl) ?_
                have h := andB_false' h
                refine JL.exNo (.off rfl rfl rfl rfl rfl) rfl rfl ?_
                refine JL.exNo (.off rfl rfl rfl rfl rfl) rfl rfl ?_
                refine JL.exNo (.off rfl rfl rfl rfl rfl) rfl rfl ?_
                refine JL.exNo (.off rfl rfl rfl rfl rfl) rfl rfl ?_
                refine JL.exP (.none rfl) rfl rfl (.pickOff rfl rfl rfl) ?_
                refine JL.exP (.none rfl) rfl rfl (.assign rfl) ?_
                refine JL.nil ?_
                exact JX.joinEnd h ⟨rfl, trivial⟩
              · refine JL.exP (.on rfl rfl rfl hc48) rfl rfl (.move rfl) ?_
                refine JL.exP (.on rfl rfl rfl hc48) rfl rfl (.eql rfl rfl) ?_
                refine JL.exP (.none rfl) rfl rfl (.pickOn rfl hc48 rfl) ?_
                refine JL.exP (.none rfl) rfl rfl (.move rfl) ?_
                rcases andB_cases h with ⟨hc51, h⟩ | ⟨hc51, h⟩
                · refine JL.exNo (.off rfl rfl rfl hc51 rfl) rfl rfl ?_
                  refine JL.exNo (.off rfl rfl rfl hc51 rfl) rfl rfl ?_
                  refine JL.exP (.none rfl) rfl rfl (.pickOff rfl hc51 rfl) ?_
                  refine JL.exP (.none rfl) rfl rfl (.move rfl) ?_
                  have h := andB_false' h
                  refine JL.exNo (.off rfl rfl rfl rfl rfl) rfl rfl ?_
                  refine JL.exNo (.off rfl rfl rfl rfl rfl) rfl rfl ?_
                  refine JL.exP (.none rfl) rfl rfl (.pickOff rfl rfl rfl) ?_
                  refine JL.exP (.none rfl) rfl rfl (.move rfl) ?_
                  have h := andB_false' h
                  refine JL.exNo (.off rfl rfl rfl rfl rfl) rfl rfl ?_
                  refine JL.exNo (.off rfl rfl rfl rfl rfl) rfl rfl ?_
                  refine JL.exP (.none rfl) rfl rfl (.pickOff rfl rfl rfl) ?_
                  refine JL.exP (.none rfl) rfl rfl (.move rfl) ?_
                  have h := andB_false' h
                  refine JL.exNo (.off rfl rfl rfl rfl rfl) rfl rfl ?_
                  refine JL.exNo (.off rfl rfl rfl rfl rfl) rfl rfl ?_
                  refine JL.exP (.none rfl) rfl rfl (.pickOff rfl rfl rfl) ?_
                  refine JL.exP (.none rfl) rfl rfl (.move rfl) ?_
                  have h := andB_false' h
                  refine JL.exNo (.off rfl rfl rfl rfl rfl) rfl rfl ?_
                  refine JL.exNo (.off rfl rfl rfl rfl rfl) rfl rfl ?_
                  refine JL.exP (.none rfl) rfl rfl (.pickOff rfl rfl rfl) ?_
                  refine JL.exP (.none rfl) rfl rfl (.move rfl) ?_
                  have h := andB_false' h
                  refine JL.exNo (.off rfl rfl rfl rfl rfl) rfl rfl ?_
                  refine JL.exNo (.off rfl rfl rfl rfl rfl) rfl rfl ?_
                  refine JL.exP (.none rfl) rfl rfl (.pickOff rfl rfl rfl) ?_
                  refine JL.exP (.none rfl) rfl rfl (.move rfl) ?_
                  have h := andB_false' h
                  refine JL.exNo (.off rfl rfl rfl rfl rfl) rfl rfl ?_
                  refine JL.exNo (.off rfl rfl rfl rfl rfl) rfl rfl ?_
                  refine JL.exNo (.off rfl rfl rfl rfl rfl) rfl rfl ?_
                  refine JL.exNo (.off rfl rfl rfl rfl rfl) rfl rfl ?_
                  refine JL.exP (.none rfl) rfl rfl (.pickOff rfl rfl rfl) ?_
                  refine JL.exP (.none rfl) rfl rfl (.move rfl) ?_
                  have h := andB_false' h
                  refine JL.exNo (.off rfl rfl rfl rfl rfl) rfl rfl ?_
                  refine JL.exNo (.off rfl rfl rfl rfl rfl) rfl rfl ?_
                  refine JL.exNo (.off rfl rfl rfl rfl rfl) rfl rfl ?_
                  refine JL.exNo (.off rfl rfl rfl rfl rfl) rfl rfl ?_
                  refine JL.exP (.none rfl) rfl rfl (.pickOff rfl rfl rfl) ?_
                  refine JL.exP (.none rfl) rfl rfl (.move rfl) ?_
                  have h := andB_false' h
                  refine JL.exNo (.off rfl rfl rfl rfl rfl) rfl rfl ?_
                  refine JL.exNo (.off rfl rfl rfl rfl rfl) rfl rfl ?_
                  refine JL.exNo (.off rfl rfl rfl rfl rfl) rfl rfl ?_
                  refine JL.exNo (.off rfl rfl rfl rfl rfl) rfl rfl ?_
                  refine JL.exP (.none rfl) rfl rfl (.pickOff rfl rfl rfl) ?_
                  refine JL.exP (.none rfl) rfl rfl (.assign rfl) ?_
                  refine JL.nil ?_
                  exact JX.joinEnd h ⟨rfl, trivial⟩
                · refine JL.exP (.on rfl rfl rfl hc51) rfl rfl (.move rfl) ?_
                  refine JL.exP (.on rfl rfl rfl hc51) rfl rfl (.eql rfl rfl) ?_
                  refine JL.exP (.none rfl) rfl rfl (.pickOn rfl hc51 rfl) ?_
                  refine JL.exP (.none rfl) rfl rfl (.move rfl) ?_
                  rcases andB_cases h with ⟨hc54, h⟩ | ⟨hc54, h⟩
                  · refine JL.exNo (.off rfl rfl rfl hc54 rfl) rfl rfl ?_
                    refine JL.exNo (.off rfl rfl rfl hc54 rfl) rfl rfl ?_
                    refine JL.exP (.none rfl) rfl rfl (.pickOff rfl hc54 rfl) ?_
                    refine JL.exP (.none rfl) rfl rfl (.move rfl) ?_
                    have h := andB_false' h
                    refine JL.exNo (.off rfl rfl rfl rfl rfl) rfl rfl ?_
                    refine JL.exNo (.off rfl rfl rfl rfl rfl) rfl rfl ?_
                    refine JL.exP (.none rfl) rfl rfl (.pickOff rfl rfl rfl) ?_
                    refine JL.exP (.none rfl) rfl rfl (.move rfl) ?_
                    have h := andB_false' h
                    refine JL.exNo (.off rfl rfl rfl rfl rfl) rfl rfl ?_
                    refine JL.exNo (.off rfl rfl rfl rfl rfl) rfl rfl ?_
                    refine JL.exP (.none rfl) rfl rfl (.pickOff rfl rfl rfl) ?_
                    refine JL.exP (.none rfl) rfl rfl (.move rfl) ?_
                    have h := andB_false' h
                    refine JL.exNo (.off rfl rfl rfl rfl rfl) rfl rfl ?_
                    refine JL.exNo (.off rfl rfl rfl rfl rfl) rfl rfl ?_
                    refine JL.exP (.none rfl) rfl rfl (.pickOff rfl rfl rfl) ?_
                    refine JL.exP (.none rfl) rfl rfl (.move rfl) ?_
                    have h := andB_false' h
                    refine JL.exNo (.off rfl rfl rfl rfl rfl) rfl rfl ?_
                    refine JL.exNo (.off rfl rfl rfl rfl rfl) rfl rfl ?_
                    refine JL.exP (.none rfl) rfl rfl (.pickOff rfl rfl rfl) ?_
                    refine JL.exP (.none rfl) rfl rfl (.move rfl) ?_
                    have h := andB_false' h
                    refine JL.exNo (.off rfl rfl rfl rfl rfl) rfl rfl ?_
                    refine JL.exNo (.off rfl rfl rfl rfl rfl) rfl rfl ?_
                    refine JL.exNo (.off rfl rfl rfl rfl rfl) rfl rfl ?_
                    refine JL.exNo (.off rfl rfl rfl rfl rfl) rfl rfl ?_
                    refine JL.exP (.none rfl) rfl rfl (.pickOff rfl rfl rfl) ?_
                    refine JL.exP (.none rfl) rfl rfl (.move rfl) ?_
                    have h := andB_false' h
                    refine JL.exNo (.off rfl rfl rfl rfl rfl) rfl rfl ?_
                    refine JL.exNo (.off rfl rfl rfl rfl rfl) rfl rfl ?_
                    refine JL.exNo (.off rfl rfl rfl rfl rfl) rfl rfl ?_
                    refine JL.exNo (.off rfl rfl rfl rfl rfl) rfl rfl ?_
                    refine JL.exP (.none rfl) rfl rfl (.pickOff rfl rfl rfl) ?_
                    refine JL.exP (.none rfl) rfl rfl (.move rfl) ?_
                    have h := andB_false' h
                    refine JL.exNo (.off rfl rfl rfl rfl rfl) rfl rfl ?_
                    refine JL.exNo (.off rfl rfl rfl rfl rfl) rfl rfl ?_
                    refine JL.exNo (.off rfl rfl rfl rfl rfl) rfl rfl ?_
                    refine JL.exNo (.off rfl rfl rfl rfl rfl) rfl rfl ?_
                    refine JL.exP (.none rfl) rfl rfl (.pickOff rfl rfl rfl) ?_
                    refine JL.exP (.none rfl) rfl rfl (.assign rfl) ?_
                    refine JL.nil ?_
                    exact JX.joinEnd h ⟨rfl, trivial⟩
                  · refine JL.exP (.on rfl rfl rfl hc54) rfl rfl (.move rfl) ?_
                    refine JL.exP (.on rfl rfl rfl hc54) rfl rfl (.eql rfl rfl) ?_
                    refine JL.exP (.none rfl) rfl rfl (.pickOn rfl hc54 rfl) ?_
                    refine JL.exP (.none rfl) rfl rfl (.move rfl) ?_
                    rcases andB_cases h with ⟨hc57, h⟩ | ⟨hc57, h⟩
                    · refine JL.exNo (.off rfl rfl rfl hc57 rfl) rfl rfl ?_
                      refine JL.exNo (.off rfl rfl rfl hc57 rfl) rfl rfl ?_
                      refine JL.exP (.none rfl) rfl rfl (.pickOff rfl hc57 rfl) ?_
                      refine JL.exP (.none rfl) rfl rfl (.move rfl) ?_
                      have h := andB_false' h
                      refine JL.exNo (.off rfl rfl rfl rfl rfl) rfl rfl ?_
                      refine JL.exNo (.off rfl rfl rfl rfl rfl) rfl rfl ?_
                      refine JL.exP (.none rfl) rfl rfl (.pickOff rfl rfl rfl) ?_
                      refine JL.exP (.none rfl) rfl rfl (.move rfl) ?_
                      have h := andB_false' h
                      refine JL.exNo (.off rfl rfl rfl rfl rfl) rfl rfl ?_
                      refine JL.exNo (.off rfl rfl rfl rfl rfl) rfl rfl ?_
                      refine JL.exP (.none rfl) rfl rfl (.pickOff rfl rfl rfl) ?_
                      refine JL.exP (.none rfl) rfl rfl (.move rfl) ?_
                      have h := andB_false' h
                      refine JL.exNo (.off rfl rfl rfl rfl rfl) rfl rfl ?_
                      refine JL.exNo (.off rfl rfl rfl rfl rfl) rfl rfl ?_
                      refine JL.exP (.none rfl) rfl rfl (.pickOff rfl rfl rfl) ?_
                      refine JL.exP (.none rfl) rfl rfl (.move rfl) ?_
                      have h := andB_false' h
                      refine JL.exNo (.off rfl rfl rfl rfl rfl) rfl rfl ?_
                      refine JL.exNo (.off rfl rfl rfl rfl rfl) rfl rfl ?_
                      refine JL.exNo (.off rfl rfl rfl rfl rfl) rfl rfl ?_
                      refine JL.exNo (.off rfl rfl rfl rfl rfl) rfl rfl ?_
                      refine JL.exP (.none rfl) rfl rfl (.pickOff rfl rfl rfl) ?_
                      refine JL.exP (.none rfl) rfl rfl (.move rfl) ?_
                      have h := andB_false' h
                      refine JL.exNo (.off rfl rfl rfl rfl rfl) rfl rfl ?_
                      refine JL.exNo (.off rfl rfl rfl rfl rfl) rfl rfl ?_
                      refine JL.exNo (.off rfl rfl rfl rfl rfl) rfl rfl ?_
                      refine JL.exNo (.off rfl rfl rfl rfl rfl) rfl rfl ?_
                      refine JL.exP (.none rfl) rfl rfl (.pickOff rfl rfl rfl) ?_
                      refine JL.exP (.none rfl) rfl rfl (.move rfl) ?_
                      have h := andB_false' h
                      refine JL.exNo (.off rfl rfl rfl rfl rfl) rfl rfl ?_
                      refine JL.exNo (.off rfl rfl rfl rfl rfl) rfl rfl ?_
                      refine JL.exNo (.off rfl rfl rfl rfl rfl) rfl rfl ?_
                      refine JL.exNo (.off rfl rfl rfl rfl rfl) rfl rfl ?_
                      refine JL.exP (.none rfl) rfl rfl (.pickOff rfl rfl rfl) ?_
                      refine JL.exP (.none rfl) rfl rfl (.assign rfl) ?_
                      refine JL.nil ?_
                      exact JX.joinEnd h ⟨rfl, trivial⟩
                    · refine JL.exP (.on rfl rfl rfl hc57) rfl rfl (.move rfl) ?_
                      refine JL.exP (.on rfl rfl rfl hc57) rfl rfl (.eql rfl rfl) ?_
                      refine JL.exP (.none rfl) rfl rfl (.pickOn rfl hc57 rfl) ?_
                      refine JL.exP (.none rfl) rfl rfl (.move rfl) ?_
                      rcases andB_cases h with ⟨hc60, h⟩ | ⟨hc60, h⟩
                      · refine JL.exNo (.off rfl rfl rfl hc60 rfl) rfl rfl ?_
                        refine JL.exNo (.off rfl rfl rfl hc60 rfl) rfl rfl ?_
                        refine JL.exP (.none rfl) rfl rfl (.pickOff rfl hc60 rfl) ?_
                        refine JL.exP (.none rfl) rfl rfl (.move rfl) ?_
                        have h := andB_false' h
                        refine JL.exNo (.off rfl rfl rfl rfl rfl) rfl rfl ?_
                        refine JL.exNo (.off rfl rfl rfl rfl rfl) rfl rfl ?_
                        refine JL.exP (.none rfl) rfl rfl (.pickOff rfl rfl rfl) ?_
                        refine JL.exP (.none rfl) rfl rfl (.move rfl) ?_
                        have h := andB_false' h
                        refine JL.exNo (.off rfl rfl rfl rfl rfl) rfl rfl ?_
                        refine JL.exNo (.off rfl rfl rfl rfl rfl) rfl rfl ?_
                        refine JL.exP (.none rfl) rfl rfl (.pickOff rfl rfl rfl) ?_
                        refine JL.exP (.none rfl) rfl rfl (.move rfl) ?_
                        have h := andB_false' h
                        refine JL.exNo (.off rfl rfl rfl rfl rfl) rfl rfl ?_
                        refine JL.exNo (.off rfl rfl rfl rfl rfl) rfl rfl ?_
                        refine JL.exNo (.off rfl rfl rfl rfl rfl) rfl rfl ?_
                        refine JL.exNo (.off rfl rfl rfl rfl rfl) rfl rfl ?_
                        refine JL.exP (.none rfl) rfl rfl (.pickOff rfl rfl rfl) ?_
                        refine JL.exP (.none rfl) rfl rfl (.move rfl) ?_
                        have h := andB_false' h
                        refine JL.exNo (.off rfl rfl rfl rfl rfl) rfl rfl ?_
                        refine JL.exNo (.off rfl rfl rfl rfl rfl) rfl rfl ?_
                        refine JL.exNo (.off rfl rfl rfl rfl rfl) rfl rfl ?_
                        refine JL.exNo (.off rfl rfl rfl rfl rfl) rfl rfl ?_
                        refine JL.exP (.none rfl) rfl rfl (.pickOff rfl rfl rfl) ?_
                        refine JL.exP (.none rfl) rfl rfl (.move rfl) ?_
                        have h := andB_false' h
                        refine JL.exNo (.off rfl rfl rfl rfl rfl) rfl rfl ?_
                        refine JL.exNo (.off rfl rfl rfl rfl rfl) rfl rfl ?_
                        refine JL.exNo (.off rfl rfl rfl rfl rfl) rfl rfl ?_
                        refine JL.exNo (.off rfl rfl rfl rfl rfl) rfl rfl ?_
                        refine JL.exP (.none rfl) rfl rfl (.pickOff rfl rfl rfl) ?_
                        refine JL.exP (.none rfl) rfl rfl (.assign rfl) ?_
                        refine JL.nil ?_
                        exact JX.joinEnd h ⟨rfl, trivial⟩
                      · refine JL.exP (.on rfl rfl rfl hc60) rfl rfl (.move rfl) ?_
                        refine JL.exP (.on rfl rfl rfl hc60) rfl rfl (.eql rfl rfl) ?_
                        refine JL.exP (.none rfl) rfl rfl (.pickOn rfl hc60 rfl) ?_
                        refine JL.exP (.none rfl) rfl rfl (.move rfl) ?_
                        rcases andB_cases h with ⟨hc63, h⟩ | ⟨hc63, h⟩
                        · refine JL.exNo (.off rfl rfl rfl hc63 rfl) rfl rfl ?_
                          refine JL.exNo (.off rfl rfl rfl hc63 rfl) rfl rfl ?_
                          refine JL.exP (.none rfl) rfl rfl (.pickOff rfl hc63 rfl) ?_
                          refine JL.exP (.none rfl) rfl rfl (.move rfl) ?_
                          have h := andB_false' h
                          refine JL.exNo (.off rfl rfl rfl rfl rfl) rfl rfl ?_
                          refine JL.exNo (.off rfl rfl rfl rfl rfl) rfl rfl ?_
                          refine JL.exP (.none rfl) rfl rfl (.pickOff rfl rfl rfl) ?_
                          refine JL.exP (.none rfl) rfl rfl (.move rfl) ?_
                          have h := andB_false' h
                          refine JL.exNo (.off rfl rfl rfl rfl rfl) rfl rfl ?_
                          refine JL.exNo (.off rfl rfl rfl rfl rfl) rfl rfl ?_
                          refine JL.exNo (.off rfl rfl rfl rfl rfl) rfl rfl ?_
                          refine JL.exNo (.off rfl rfl rfl rfl rfl) rfl rfl ?_
                          refine JL.exP (.none rfl) rfl rfl (.pickOff rfl rfl rfl) ?_
                          refine JL.exP (.none rfl) rfl rfl (.move rfl) ?_
                          have h := andB_false' h
                          refine JL.exNo (.off rfl rfl rfl rfl rfl) rfl rfl ?_
                          refine JL.exNo (.off rfl rfl rfl rfl rfl) rfl rfl ?_
                          refine JL.exNo (.off rfl rfl rfl rfl rfl) rfl rfl ?_
                          refine JL.exNo (.off rfl rfl rfl rfl rfl) rfl rfl ?_
                          refine JL.exP (.none rfl) rfl rfl (.pickOff rfl rfl rfl) ?_
                          refine JL.exP (.none rfl) rfl rfl (.move rfl) ?_
                          have h := andB_false' h
                          refine JL.exNo (.off rfl rfl rfl rfl rfl) rfl rfl ?_
                          refine JL.exNo (.off rfl rfl rfl rfl rfl) rfl rfl ?_
                          refine JL.exNo (.off rfl rfl rfl rfl rfl) rfl rfl ?_
                          refine JL.exNo (.off rfl rfl rfl rfl rfl) rfl rfl ?_
                          refine JL.exP (.none rfl) rfl rfl (.pickOff rfl rfl rfl) ?_
                          refine JL.exP (.none rfl) rfl rfl (.assign rfl) ?_
                          refine JL.nil ?_
                          exact JX.joinEnd h ⟨rfl, trivial⟩
                        · refine JL.exP (.on rfl rfl rfl hc63) rfl rfl (.move rfl) ?_
                          refine JL.exP (.on rfl rfl rfl hc63) rfl rfl (.eql rfl rfl) ?_
                          refine JL.exP (.none rfl) rfl rfl (.pickOn rfl hc63 rfl) ?_
                          refine JL.exP (.none rfl) rfl rfl (.move rfl) ?_
                          rcases andB_cases h with ⟨hc66, h⟩ | ⟨hc66, h⟩
                          · refine JL.exNo (.off rfl rfl rfl hc66 rfl) rfl rfl ?_
                            refine JL.exNo (.off rfl rfl rfl hc66 rfl) rfl rfl ?_
                            refine JL.exP (.none rfl) rfl rfl (.pickOff rfl hc66 rfl) ?_
                            refine JL.exP (.none rfl) rfl rfl (.move rfl) ?_
                            have h := andB_false' h
                            refine JL.exNo (.off rfl rfl rfl rfl rfl) rfl rfl ?_
                            refine JL.exNo (.off rfl rfl rfl rfl rfl) rfl rfl ?_
                            refine JL.exNo (.off rfl rfl rfl rfl rfl) rfl rfl ?_
                            refine JL.exNo (.off rfl rfl rfl rfl rfl) rfl rfl ?_
                            refine JL.exP (.none rfl) rfl rfl (.pickOff rfl rfl rfl) ?_
                            refine JL.exP (.none rfl) rfl rfl (.move rfl) ?_
                            have h := andB_false' h
                            refine JL.exNo (.off rfl rfl rfl rfl rfl) rfl rfl ?_
                            refine JL.exNo (.off rfl rfl rfl rfl rfl) rfl rfl ?_
                            refine JL.exNo (.off rfl rfl rfl rfl rfl) rfl rfl ?_
                            refine JL.exNo (.off rfl rfl rfl rfl rfl) rfl rfl ?_
                            refine JL.exP (.none rfl) rfl rfl (.pickOff rfl rfl rfl) ?_
                            refine JL.exP (.none rfl) rfl rfl (.move rfl) ?_
                            have h := andB_false' h
                            refine JL.exNo (.off rfl rfl rfl rfl rfl) rfl rfl ?_
                            refine JL.exNo (.off rfl rfl rfl rfl rfl) rfl rfl ?_
                            refine JL.exNo (.off rfl rfl rfl rfl rfl) rfl rfl ?_
                            refine JL.exNo (.off rfl rfl rfl rfl rfl) rfl rfl ?_
                            refine JL.exP (.none rfl) rfl rfl (.pickOff rfl rfl rfl) ?_
                            refine JL.exP (.none rfl) rfl rfl (.assign rfl) ?_
                            refine JL.nil ?_
                            exact JX.joinEnd h ⟨rfl, trivial⟩
                          · refine JL.exP (.on rfl rfl rfl hc66) rfl rfl (.move rfl) ?_
                            refine JL.exP (.on rfl rfl rfl hc66) rfl rfl (.eql rfl rfl) ?_
                            refine JL.exP (.none rfl) rfl rfl (.pickOn rfl hc66 rfl) ?_
                            refine JL.exP (.none rfl) rfl rfl (.move rfl) ?_
                            rcases andB_cases h with ⟨hc69, h⟩ | ⟨hc69, h⟩
                            · refine JL.exNo (.off rfl rfl rfl hc69 rfl) rfl rfl ?_
                              refine JL.exNo (.off rfl rfl rfl hc69 rfl) rfl rfl ?_
                              refine JL.exNo (.off rfl rfl rfl hc69 rfl) rfl rfl ?_
                              refine JL.exNo (.off rfl rfl rfl hc69 rfl) rfl rfl ?_
                              refine JL.exP (.none rfl) rfl rfl (.pickOff rfl hc69 rfl) ?_
                              refine JL.exP (.none rfl) rfl rfl (.move rfl) ?_
                              have h := andB_false' h
                              refine JL.exNo (.off rfl rfl rfl rfl rfl) rfl rfl ?_
                              refine JL.exNo (.off rfl rfl rfl rfl rfl) rfl rfl ?_
                              refine JL.exNo (.off rfl rfl rfl rfl rfl) rfl rfl ?_
                              refine JL.exNo (.off rfl rfl rfl rfl rfl) rfl rfl ?_
                              refine JL.exP (.none rfl) rfl rfl (.pickOff rfl rfl rfl) ?_
                              refine JL.exP (.none rfl) rfl rfl (.move rfl) ?_
                              have h := andB_false' h
                              refine JL.exNo (.off rfl rfl rfl rfl rfl) rfl rfl ?_
                              refine JL.exNo (.off rfl rfl rfl rfl rfl) rfl rfl ?_
                              refine JL.exNo (.off rfl rfl rfl rfl rfl) rfl rfl ?_
                              refine JL.exNo (.off rfl rfl rfl rfl rfl) rfl rfl ?_
                              refine JL.exP (.none rfl) rfl rfl (.pickOff rfl rfl rfl) ?_
                              refine JL.exP (.none rfl) rfl rfl (.assign rfl) ?_
                              refine JL.nil ?_
                              exact JX.joinEnd h ⟨rfl, trivial⟩
                            · refine JL.exP (.on rfl rfl rfl hc69) rfl rfl (.move rfl) ?_
                              refine JL.exC (.on rfl rfl rfl hc69) rfl rfl (.func (vs := [(.int .u8 1)]) en_11 rfl) h (fun v70 w h => ?_)
                              refine JL.exC (.on rfl rfl rfl hc69) rfl rfl (.func (vs := [v1, v70]) en_14 rfl) h (fun vx71 w h => ?_)
                              obtain ⟨x71, rfl, h⟩ := h
                              refine JL.exP (.on rfl rfl rfl hc69) rfl rfl (.eql rfl rfl) ?_
                              refine JL.exP (.none rfl) rfl rfl (.pickOn rfl hc69 rfl) ?_
                              refine JL.exP (.none rfl) rfl rfl (.move rfl) ?_
                              rcases andB_cases h with ⟨hc74, h⟩ | ⟨hc74, h⟩
                              · refine JL.exNo (.off rfl rfl rfl hc74 rfl) rfl rfl ?_
                                refine JL.exNo (.off rfl rfl rfl hc74 rfl) rfl rfl ?_
                                refine JL.exNo (.off rfl rfl rfl hc74 rfl) rfl rfl ?_
                                refine JL.exNo (.off rfl rfl rfl hc74 rfl) rfl rfl ?_
                                refine JL.exP (.none rfl) rfl rfl (.pickOff rfl hc74 rfl) ?_
                                refine JL.exP (.none rfl) rfl rfl (.move rfl) ?_
                                have h := andB_false' h
                                refine JL.exNo (.off rfl rfl rfl rfl rfl) rfl rfl ?_
                                refine JL.exNo (.off rfl rfl rfl rfl rfl) rfl rfl ?_
                                refine JL.exNo (.off rfl rfl rfl rfl rfl) rfl rfl ?_
                                refine JL.exNo (.off rfl rfl rfl rfl rfl) rfl rfl ?_
                                refine JL.exP (.none rfl) rfl rfl (.pickOff rfl rfl rfl) ?_
                                refine JL.exP (.none rfl) rfl rfl (.assign rfl) ?_
                                refine JL.nil ?_
                                exact JX.joinEnd h ⟨rfl, trivial⟩
                              · refine JL.exP (.on rfl rfl rfl hc74) rfl rfl (.move rfl) ?_
                                refine JL.exC (.on rfl rfl rfl hc74) rfl rfl (.func (vs := [(.int .u8 1)]) en_11 rfl) h (fun v75 w h => ?_)
                                refine JL.exC (.on rfl rfl rfl hc74) rfl rfl (.func (vs := [(.pointer none), v75]) en_14 rfl) h (fun vx76 w h => ?_)
                                obtain ⟨x76, rfl, h⟩ := h
                                refine JL.exP (.on rfl rfl rfl hc74) rfl rfl (.eql rfl rfl) ?_
                                refine JL.exP (.none rfl) rfl rfl (.pickOn rfl hc74 rfl) ?_
                                refine JL.exP (.none rfl) rfl rfl (.move rfl) ?_
                                rcases andB_cases h with ⟨hc79, h⟩ | ⟨hc79, h⟩
                                · refine JL.exNo (.off rfl rfl rfl hc79 rfl) rfl rfl ?_
                                  refine JL.exNo (.off rfl rfl rfl hc79 rfl) rfl rfl ?_
                                  refine JL.exNo (.off rfl rfl rfl hc79 rfl) rfl rfl ?_
                                  refine JL.exNo (.off rfl rfl rfl hc79 rfl) rfl rfl ?_
                                  refine JL.exP (.none rfl) rfl rfl (.pickOff rfl hc79 rfl) ?_
                                  refine JL.exP (.none rfl) rfl rfl (.assign rfl) ?_
                                  refine JL.nil ?_
                                  exact JX.joinEnd h ⟨rfl, trivial⟩
                                · refine JL.exP (.on rfl rfl rfl hc79) rfl rfl (.move rfl) ?_
                                  refine JL.exC (.on rfl rfl rfl hc79) rfl rfl (.func (vs := [v1]) en_15 rfl) h (fun v80 w h => ?_)
                                  refine JL.sPure (.on rfl rfl rfl hc79) rfl rfl ((.len (vs := [v80]) rfl)) h (fun vx81 w h => ?_)
                                  obtain ⟨x81, rfl, h⟩ := h
                                  refine JL.exP (.on rfl rfl rfl hc79) rfl rfl (.eql rfl rfl) ?_
                                  refine JL.exP (.none rfl) rfl rfl (.pickOn rfl hc79 rfl) ?_
                                  refine JL.exP (.none rfl) rfl rfl (.assign rfl) ?_
                                  refine JL.nil ?_
                                  exact JX.joinEnd h ⟨rfl, trivial⟩
      · refine JX.then ?_
        refine J.ret ?_
        exact JX.ret1 rfl rfl h

/-- cabstand/ledger.New -/
def ledger_New  (K : Value → WP) : WP :=
  semV Try.prog (Instr.makeMap 76 none) fun v82 =>
  pureV Try.prog (Instr.build 79 #[(0, v82)]) fun v83 =>
  semA Try.prog (Instr.box 79 v83) fun p84 =>
  K (.pointer (some p84))
set_option maxRecDepth 100000 in
set_option maxHeartbeats 1000000 in
theorem ledger_New_ok  {K : Value → WP} {w : World} (h : ledger_New  K w) : callH Try.prog 8 #[] K w := by
  refine enter (l := []) Try.func8 rfl rfl rfl ?_
  show J Try.prog 4 [] _ _ _
  unfold ledger_New at h
  refine J.seq ?_
  refine J.region ?_
  refine JL.exP (.none rfl) rfl rfl (.assign rfl) ?_
  refine JL.nil ?_
  refine JX.then ?_
  refine J.seq ?_
  refine J.region ?_
  refine JL.exV (.none rfl) rfl rfl (.makeMap) h (fun v82 w h => ?_)
  refine JL.sPure (.none rfl) rfl rfl ((.build (l' := [(0, v82)]) rfl)) h (fun v83 w h => ?_)
  refine JL.exV (.none rfl) rfl rfl (.box rfl) h (fun vp84 w h => ?_)
  obtain ⟨p84, rfl, h⟩ := h
  refine JL.exP (.none rfl) rfl rfl (.assign rfl) ?_
  refine JL.nil ?_
  refine JX.then ?_
  refine J.ret ?_
  exact JX.ret1 rfl rfl h

/-- cabstand/cabstandlaw23.lives -/
def law23_lives  (K : Value → WP) : WP :=
  callH Try.prog 8 #[] fun v85 =>
  pureB Try.prog (eqM .eql 22 (.tmp 10) (.const (.pointer none)) v85 (.pointer none)) fun b86 =>
  iteH b86 (
    K (.bool false)) (
    callH Try.prog 11 #[(.int .u8 1)] fun v87 =>
    callH Try.prog 11 #[(.int .u8 2)] fun v88 =>
    callI Try.prog 12 #[v85, v87, v88, (.int .i64 50)] .i64 fun x89 =>
    callH Try.prog 11 #[(.int .u8 1)] fun v90 =>
    callI Try.prog 10 #[v85, v90, (.int .i64 100)] .i64 fun x91 =>
    callH Try.prog 11 #[(.int .u8 1)] fun v92 =>
    callH Try.prog 11 #[(.int .u8 2)] fun v93 =>
    callI Try.prog 12 #[v85, v92, v93, (.int .i64 50)] .i64 fun x94 =>
    callH Try.prog 11 #[(.int .u8 2)] fun v95 =>
    callH Try.prog 11 #[(.int .u8 3)] fun v96 =>
    callI Try.prog 12 #[v85, v95, v96, (.int .i64 20)] .i64 fun x97 =>
    callH Try.prog 30 #[v85] fun v98 =>
    callH Try.prog 31 #[(.int .u8 3), (.int .u8 2), (.int .i64 5)] fun v99 =>
    callH Try.prog 31 #[(.int .u8 3), (.int .u8 4), (.int .i64 16)] fun v100 =>
    callH Try.prog 31 #[(.int .u8 4), (.int .u8 2), (.int .i64 1)] fun v101 =>
    semV Try.prog (Instr.buildSlice 77 3 #[(0, v99), (1, v100), (2, v101)]) fun v102 =>
    callH Try.prog 13 #[v85, v102] fun v103 =>
    pureI Try.prog .i64 (Instr.extract v103 0) fun x104 =>
    pureI Try.prog .i64 (Instr.extract v103 1) fun x105 =>
    joinH (α := Bool) (fun y106 =>
      K (.bool y106)) fun k107 =>
      andB ((x89 : Int) == 230) (fun k109 =>
        k109 ((x91 : Int) == 0)) fun b108 =>
      andB b108 (fun k112 =>
        k112 ((x94 : Int) == 0)) fun b111 =>
      andB b111 (fun k115 =>
        k115 ((x97 : Int) == 0)) fun b114 =>
      andB b114 (fun k118 =>
        callH Try.prog 11 #[(.int .u8 1)] fun v120 =>
        callI Try.prog 14 #[v85, v120] .i64 fun x121 =>
        k118 ((x121 : Int) == (-50))) fun b117 =>
      andB b117 (fun k123 =>
        callH Try.prog 11 #[(.int .u8 2)] fun v125 =>
        callI Try.prog 14 #[v85, v125] .i64 fun x126 =>
        k123 ((x126 : Int) == 30)) fun b122 =>
      andB b122 (fun k128 =>
        callH Try.prog 32 #[v85] fun v130 =>
        pureI Try.prog .i64 (Builtin.len_ #[77] 3 #[v130]) fun x131 =>
        k128 ((x131 : Int) == 2)) fun b127 =>
      andB b127 (fun k133 =>
        callH Try.prog 31 #[(.int .u8 2), (.int .u8 1), (.int .i64 30)] fun v135 =>
        callH Try.prog 31 #[(.int .u8 3), (.int .u8 1), (.int .i64 20)] fun v136 =>
        semV Try.prog (Instr.buildSlice 77 2 #[(0, v135), (1, v136)]) fun v137 =>
        callB Try.prog 33 #[v98, v137] fun b138 =>
        k133 b138) fun b132 =>
      andB b132 (fun k140 =>
        k140 ((x104 : Int) == 1)) fun b139 =>
      andB b139 (fun k143 =>
        k143 ((x105 : Int) == 230)) fun b142 =>
      k107 b142)
set_option maxRecDepth 100000 in
set_option maxHeartbeats 1000000 in
theorem law23_lives_ok  {K : Value → WP} {w : World} (h : law23_lives  K w) : callH Try.prog 9 #[] K w := by
  refine enter (l := []) Try.func9 rfl rfl rfl ?_
  show J Try.prog 85 [] _ _ _
  unfold law23_lives at h
  refine J.seq ?_
  refine J.region ?_
  refine JL.exP (.none rfl) rfl rfl (.assign rfl) ?_
  refine JL.nil ?_
  refine JX.then ?_
  refine J.seq ?_
  refine J.region ?_
  refine JL.exC (.none rfl) rfl rfl (.func (vs := []) en_8 rfl) h (fun v85 w h => ?_)
  refine JL.exP (.none rfl) rfl rfl (.assign rfl) ?_
  refine JL.nil ?_
  refine JX.then ?_
  refine J.seq ?_
  refine J.seq ?_
  refine J.region ?_
  refine JL.exP (.none rfl) rfl rfl (.move rfl) ?_
  refine JL.sPure (.none rfl) rfl rfl (.binOp rfl rfl) h (fun vb86 w h => ?_)
  obtain ⟨b86, rfl, h⟩ := h
  refine JL.nil ?_
  refine JX.then ?_
  refine J.cond (b := _) rfl h (fun h => ?_) (fun h => ?_)
  · refine J.seq ?_
    refine J.region ?_
    refine JL.exP (.none rfl) rfl rfl (.assign rfl) ?_
    refine JL.nil ?_
    refine JX.then ?_
    refine J.ret ?_
    refine JX.thenRet ?_
    exact JX.ret1 rfl rfl h
  · refine J.skip ?_
    refine JX.then ?_
    refine J.seq ?_
    refine J.region ?_
    refine JL.exP (.none rfl) rfl rfl (.move rfl) ?_
    refine JL.exC (.none rfl) rfl rfl (.func (vs := [(.int .u8 1)]) en_11 rfl) h (fun v87 w h => ?_)
    refine JL.exC (.none rfl) rfl rfl (.func (vs := [(.int .u8 2)]) en_11 rfl) h (fun v88 w h => ?_)
    refine JL.exC (.none rfl) rfl rfl (.func (vs := [v85, v87, v88, (.int .i64 50)]) en_12 rfl) h (fun vx89 w h => ?_)
    obtain ⟨x89, rfl, h⟩ := h
    refine JL.exP (.none rfl) rfl rfl (.assign rfl) ?_
    refine JL.nil ?_
    refine JX.then ?_
    refine J.seq ?_
    refine J.region ?_
    refine JL.exP (.none rfl) rfl rfl (.move rfl) ?_
    refine JL.exC (.none rfl) rfl rfl (.func (vs := [(.int .u8 1)]) en_11 rfl) h (fun v90 w h => ?_)
    refine JL.exC (.none rfl) rfl rfl (.func (vs := [v85, v90, (.int .i64 100)]) en_10 rfl) h (fun vx91 w h => ?_)
    obtain ⟨x91, rfl, h⟩ := h
    refine JL.exP (.none rfl) rfl rfl (.assign rfl) ?_
    refine JL.nil ?_
    refine JX.then ?_
    refine J.seq ?_
    refine J.region ?_
    refine JL.exP (.none rfl) rfl rfl (.move rfl) ?_
    refine JL.exC (.none rfl) rfl rfl (.func (vs := [(.int .u8 1)]) en_11 rfl) h (fun v92 w h => ?_)
    refine JL.exC (.none rfl) rfl rfl (.func (vs := [(.int .u8 2)]) en_11 rfl) h (fun v93 w h => ?_)
    refine JL.exC (.none rfl) rfl rfl (.func (vs := [v85, v92, v93, (.int .i64 50)]) en_12 rfl) h (fun vx94 w h => ?_)
    obtain ⟨x94, rfl, h⟩ := h
    refine JL.exP (.none rfl) rfl rfl (.assign rfl) ?_
    refine JL.nil ?_
    refine JX.then ?_
    refine J.seq ?_
    refine J.region ?_
    refine JL.exP (.none rfl) rfl rfl (.move rfl) ?_
    refine JL.exC (.none rfl) rfl rfl (.func (vs := [(.int .u8 2)]) en_11 rfl) h (fun v95 w h => ?_)
    refine JL.exC (.none rfl) rfl rfl (.func (vs := [(.int .u8 3)]) en_11 rfl) h (fun v96 w h => ?_)
    refine JL.exC (.none rfl) rfl rfl (.func (vs := [v85, v95, v96, (.int .i64 20)]) en_12 rfl) h (fun vx97 w h => ?_)
    obtain ⟨x97, rfl, h⟩ := h
    refine JL.exP (.none rfl) rfl rfl (.assign rfl) ?_
    refine JL.nil ?_
    refine JX.then ?_
    refine J.seq ?_
    refine J.region ?_
    refine JL.exP (.none rfl) rfl rfl (.move rfl) ?_
    refine JL.exC (.none rfl) rfl rfl (.func (vs := [v85]) en_30 rfl) h (fun v98 w h => ?_)
    refine JL.exP (.none rfl) rfl rfl (.assign rfl) ?_
    refine JL.nil ?_
    refine JX.then ?_
    refine J.seq ?_
    refine J.region ?_
    refine JL.exP (.none rfl) rfl rfl (.move rfl) ?_
    refine JL.exC (.none rfl) rfl rfl (.func (vs := [(.int .u8 3), (.int .u8 2), (.int .i64 5)]) en_31 rfl) h (fun v99 w h => ?_)
    refine JL.exC (.none rfl) rfl rfl (.func (vs := [(.int .u8 3), (.int .u8 4), (.int .i64 16)]) en_31 rfl) h (fun v100 w h => ?_)
    refine JL.exC (.none rfl) rfl rfl (.func (vs := [(.int .u8 4), (.int .u8 2), (.int .i64 1)]) en_31 rfl) h (fun v101 w h => ?_)
    refine JL.exV (.none rfl) rfl rfl ((.buildSlice (l' := [(0, v99), (1, v100), (2, v101)]) rfl)) h (fun v102 w h => ?_)
    refine JL.exC (.none rfl) rfl rfl (.func (vs := [v85, v102]) en_13 rfl) h (fun v103 w h => ?_)
    refine JL.exP (.none rfl) rfl rfl (.move rfl) ?_
    refine JL.sPure (.none rfl) rfl rfl (.extract rfl) h (fun vx104 w h => ?_)
    obtain ⟨x104, rfl, h⟩ := h
    refine JL.sPure (.none rfl) rfl rfl (.extract rfl) h (fun vx105 w h => ?_)
    obtain ⟨x105, rfl, h⟩ := h
    refine JL.exP (.none rfl) rfl rfl (.assign rfl) ?_
    refine JL.exP (.none rfl) rfl rfl (.assign rfl) ?_
    refine JL.nil ?_
    refine JX.then ?_
    refine J.seq ?_
    refine J.join h (fun y106 => [(0, (.bool y106))]) (fun k107 w h => ?_) (fun y106 w h => ?_)
    · refine J.region ?_
      refine JL.exP (.none rfl) rfl rfl (.move rfl) ?_
      refine JL.exP (.none rfl) rfl rfl (.eql rfl rfl) ?_
      refine JL.exP (.none rfl) rfl rfl (.move rfl) ?_
      rcases andB_cases h with ⟨hc110, h⟩ | ⟨hc110, h⟩
      · refine JL.exNo (.off rfl rfl rfl hc110 rfl) rfl rfl ?_
        refine JL.exNo (.off rfl rfl rfl hc110 rfl) rfl rfl ?_
        refine JL.exP (.none rfl) rfl rfl (.pickOff rfl hc110 rfl) ?_
        refine JL.exP (.none rfl) rfl rfl (.move rfl) ?_
        have h := andB_false' h
        refine JL.exNo (.off rfl rfl rfl rfl rfl) rfl rfl ?_
        refine JL.exNo (.off rfl rfl rfl rfl rfl) rfl rfl ?_
        refine JL.exP (.none rfl) rfl rfl (.pickOff rfl rfl rfl) ?_
        refine JL.exP (.none rfl) rfl rfl (.move rfl) ?_
        have h := andB_false' h
        refine JL.exNo (.off rfl rfl rfl rfl rfl) rfl rfl ?_
        refine JL.exNo (.off rfl rfl rfl rfl rfl) rfl rfl ?_
        refine JL.exP (.none rfl) rfl rfl (.pickOff rfl rfl rfl) ?_
        refine JL.exP (.none rfl) rfl rfl (.move rfl) ?_
        have h := andB_false' h
        refine JL.exNo (.off rfl rfl rfl rfl rfl) rfl rfl ?_
        refine JL.exNo (.off rfl rfl rfl rfl rfl) rfl rfl ?_
        refine JL.exNo (.off rfl rfl rfl rfl rfl) rfl rfl ?_
        refine JL.exNo (.off rfl rfl rfl rfl rfl) rfl rfl ?_
        refine JL.exP (.none rfl) rfl rfl (.pickOff rfl rfl rfl) ?_
        refine JL.exP (.none rfl) rfl rfl (.move rfl) ?_
        have h := andB_false' h
        refine JL.exNo (.off rfl rfl rfl rfl rfl) rfl rfl ?_
        refine JL.exNo (.off rfl rfl rfl rfl rfl) rfl rfl ?_
        refine JL.exNo (.off rfl rfl rfl rfl rfl) rfl rfl ?_
        refine JL.exNo (.off rfl rfl rfl rfl rfl) rfl rfl ?_
        refine JL.exP (.none rfl) rfl rfl (.pickOff rfl rfl rfl) ?_
        refine JL.exP (.none rfl) rfl rfl (.move rfl) ?_
        have h := andB_false' h
        refine JL.exNo (.off rfl rfl rfl rfl rfl) rfl rfl ?_
        refine JL.exNo (.off rfl rfl rfl rfl rfl) rfl rfl ?_
        refine JL.exNo (.off rfl rfl rfl rfl rfl) rfl rfl ?_
        refine JL.exNo (.off rfl rfl rfl rfl rfl) rfl rfl ?_
        refine JL.exP (.none rfl) rfl rfl (.pickOff rfl rfl rfl) ?_
        refine JL.exP (.none rfl) rfl rfl (.move rfl) ?_
        have h := andB_false' h
        refine JL.exNo (.off rfl rfl rfl rfl rfl) rfl rfl ?_
        refine JL.exNo (.off rfl rfl rfl rfl rfl) rfl rfl ?_
        refine JL.exNo (.off rfl rfl rfl rfl rfl) rfl rfl ?_
        refine JL.exNo (.off rfl rfl rfl rfl rfl) rfl rfl ?_
        refine JL.exNo (.off rfl rfl rfl rfl rfl) rfl rfl ?_
        refine JL.exP (.none rfl) rfl rfl (.pickOff rfl rfl rfl) ?_
        refine JL.exP (.none rfl) rfl rfl (.move rfl) ?_
        have h := andB_false' h
        refine JL.exNo (.off rfl rfl rfl rfl rfl) rfl rfl ?_
        refine JL.exNo (.off rfl rfl rfl rfl rfl) rfl rfl ?_
        refine JL.exP (.none rfl) rfl rfl (.pickOff rfl rfl rfl) ?_
        refine JL.exP (.none rfl) rfl rfl (.move rfl) ?_
        have h := andB_false' h
        refine JL.exNo (.off rfl rfl rfl rfl rfl) rfl rfl ?_
        refine JL.exNo (.off rfl rfl rfl rfl rfl) rfl rfl ?_
        refine JL.exP (.none rfl) rfl rfl (.pickOff rfl rfl rfl) ?_
        refine JL.exP (.none rfl) rfl rfl (.assign rfl) ?_
        refine JL.nil ?_
        exact JX.joinEnd h ⟨rfl, trivial⟩
      · refine JL.exP (.on rfl rfl rfl hc110) rfl rfl (.move rfl) ?_
        refine JL.exP (.on rfl rfl rfl hc110) rfl rfl (.eql rfl rfl) ?_
        refine JL.exP (.none rfl) rfl rfl (.pickOn rfl hc110 rfl) ?_
        refine JL.exP (.none rfl) rfl rfl (.move rfl) ?_
        rcases andB_cases h with ⟨hc113, h⟩ | ⟨hc113, h⟩
        · refine JL.exNo (.off rfl rfl rfl hc113 rfl) rfl rfl ?_
          refine JL.exNo (.off rfl rfl rfl hc113 rfl) rfl rfl ?_
          refine JL.exP (.none rfl) rfl rfl (.pickOff rfl hc113 rfl) ?_
          refine JL.exP (.none rfl) rfl rfl (.move rfl) ?_
          have h := andB_false' h
          refine JL.exNo (.off rfl rfl rfl rfl rfl) rfl rfl ?_
          refine JL.exNo (.off rfl rfl rfl rfl rfl) rfl rfl ?_
          refine JL.exP (.none rfl) rfl rfl (.pickOff rfl rfl rfl) ?_
          refine JL.exP (.none rfl) rfl rfl (.move rfl) ?_
          have h := andB_false' h
          refine JL.exNo (.off rfl rfl rfl rfl rfl) rfl rfl ?_
          refine JL.exNo (.off rfl rfl rfl rfl rfl) rfl rfl ?_
          refine JL.exNo (.off rfl rfl rfl rfl rfl) rfl rfl ?_
          refine JL.exNo (.off rfl rfl rfl rfl rfl) rfl rfl ?_
          refine JL.exP (.none rfl) rfl rfl (.pickOff rfl rfl rfl) ?_
          refine JL.exP (.none rfl) rfl rfl (.move rfl) ?_
          have h := andB_false' h
          refine JL.exNo (.off rfl rfl rfl rfl rfl) rfl rfl ?_
          refine JL.exNo (.off rfl rfl rfl rfl rfl) rfl rfl ?_
          refine JL.exNo (.off rfl rfl rfl rfl rfl) rfl rfl ?_
          refine JL.exNo (.off rfl rfl rfl rfl rfl) rfl rfl ?_
          refine JL.exP (.none rfl) rfl rfl (.pickOff rfl rfl rfl) ?_
          refine JL.exP (.none rfl) rfl rfl (.move rfl) ?_
          have h := andB_false' h
          refine JL.exNo (.off rfl rfl rfl rfl rfl) rfl rfl ?_
          refine JL.exNo (.off rfl rfl rfl rfl rfl) rfl rfl ?_
          refine JL.exNo (.off rfl rfl rfl rfl rfl) rfl rfl ?_
          refine JL.exNo (.off rfl rfl rfl rfl rfl) rfl rfl ?_
          refine JL.exP (.none rfl) rfl rfl (.pickOff rfl rfl rfl) ?_
          refine JL.exP (.none rfl) rfl rfl (.move rfl) ?_
          have h := andB_false' h
          refine JL.exNo (.off rfl rfl rfl rfl rfl) rfl rfl ?_
          refine JL.exNo (.off rfl rfl rfl rfl rfl) rfl rfl ?_
          refine JL.exNo (.off rfl rfl rfl rfl rfl) rfl rfl ?_
          refine JL.exNo (.off rfl rfl rfl rfl rfl) rfl rfl ?_
          refine JL.exNo (.off rfl rfl rfl rfl rfl) rfl rfl ?_
          refine JL.exP (.none rfl) rfl rfl (.pickOff rfl rfl rfl) ?_
          refine JL.exP (.none rfl) rfl rfl (.move rfl) ?_
          have h := andB_false' h
          refine JL.exNo (.off rfl rfl rfl rfl rfl) rfl rfl ?_
          refine JL.exNo (.off rfl rfl rfl rfl rfl) rfl rfl ?_
          refine JL.exP (.none rfl) rfl rfl (.pickOff rfl rfl rfl) ?_
          refine JL.exP (.none rfl) rfl rfl (.move rfl) ?_
          have h := andB_false' h
          refine JL.exNo (.off rfl rfl rfl rfl rfl) rfl rfl ?_
          refine JL.exNo (.off rfl rfl rfl rfl rfl) rfl rfl ?_
          refine JL.exP (.none rfl) rfl rfl (.pickOff rfl rfl rfl) ?_
          refine JL.exP (.none rfl) rfl rfl (.assign rfl) ?_
          refine JL.nil ?_
          exact JX.joinEnd h ⟨rfl, trivial⟩
        · refine JL.exP (.on rfl rfl rfl hc113) rfl rfl (.move rfl) ?_
          refine JL.exP (.on rfl rfl rfl hc113) rfl rfl (.eql rfl rfl) ?_
          refine JL.exP (.none rfl) rfl rfl (.pickOn rfl hc113 rfl) ?_
          refine JL.exP (.none rfl) rfl rfl (.move rfl) ?_
          rcases andB_cases h with ⟨hc116, h⟩ | ⟨hc116, h⟩
          · refine JL.exNo (.off rfl rfl rfl hc116 rfl) rfl rfl ?_
            refine JL.exNo (.off rfl rfl rfl hc116 rfl) rfl rfl ?_
            refine JL.exP (.none rfl) rfl rfl (.pickOff rfl hc116 rfl) ?_
            refine JL.exP (.none rfl) rfl rfl (.move rfl) ?_
            have h := andB_false' h
            refine JL.exNo (.off rfl rfl rfl rfl rfl) rfl rfl ?_
            refine JL.exNo (.off rfl rfl rfl rfl rfl) rfl rfl ?_
            refine JL.exNo (.off rfl rfl rfl rfl rfl) rfl rfl ?_
            refine JL.exNo (.off rfl rfl rfl rfl rfl) rfl rfl ?_
            refine JL.exP (.none rfl) rfl rfl (.pickOff rfl rfl rfl) ?_
            refine JL.exP (.none rfl) rfl rfl (.move rfl) ?_
            have h := andB_false' h
            refine JL.exNo (.off rfl rfl rfl rfl rfl) rfl rfl ?_
            refine JL.exNo (.off rfl rfl rfl rfl rfl) rfl rfl ?_
            refine JL.exNo (.off rfl rfl rfl rfl rfl) rfl rfl ?_
            refine JL.exNo (.off rfl rfl rfl rfl rfl) rfl rfl ?_
            refine JL.exP (.none rfl) rfl rfl (.pickOff rfl rfl rfl) ?_
            refine JL.exP (.none rfl) rfl rfl (.move rfl) ?_
            have h := andB_false' h
            refine JL.exNo (.off rfl rfl rfl rfl rfl) rfl rfl ?_
            refine JL.exNo (.off rfl rfl rfl rfl rfl) rfl rfl ?_
            refine JL.exNo (.off rfl rfl rfl rfl rfl) rfl rfl ?_
            refine JL.exNo (.off rfl rfl rfl rfl rfl) rfl rfl ?_
            refine JL.exP (.none rfl) rfl rfl (.pickOff rfl rfl rfl) ?_
            refine JL.exP (.none rfl) rfl rfl (.move rfl) ?_
            have h := andB_false' h
            refine JL.exNo (.off rfl rfl rfl rfl rfl) rfl rfl ?_
            refine JL.exNo (.off rfl rfl rfl rfl rfl) rfl rfl ?_
            refine JL.exNo (.off rfl rfl rfl rfl rfl) rfl rfl ?_
            refine JL.exNo (.off rfl rfl rfl rfl rfl) rfl rfl ?_
            refine JL.exNo (.off rfl rfl rfl rfl rfl) rfl rfl ?_
            refine JL.exP (.none rfl) rfl rfl (.pickOff rfl rfl rfl) ?_
            refine JL.exP (.none rfl) rfl rfl (.move rfl) ?_
            have h := andB_false' h
            refine JL.exNo (.off rfl rfl rfl rfl rfl) rfl rfl ?_
            refine JL.exNo (.off rfl rfl rfl rfl rfl) rfl rfl ?_
            refine JL.exP (.none rfl) rfl rfl (.pickOff rfl rfl rfl) ?_
            refine JL.exP (.none rfl) rfl rfl (.move rfl) ?_
            have h := andB_false' h
            refine JL.exNo (.off rfl rfl rfl rfl rfl) rfl rfl ?_
            refine JL.exNo (.off rfl rfl rfl rfl rfl) rfl rfl ?_
            refine JL.exP (.none rfl) rfl rfl (.pickOff rfl rfl rfl) ?_
            refine JL.exP (.none rfl) rfl rfl (.assign rfl) ?_
            refine JL.nil ?_
            exact JX.joinEnd h ⟨rfl, trivial⟩
          · refine JL.exP (.on rfl rfl rfl hc116) rfl rfl (.move rfl) ?_
            refine JL.exP (.on rfl rfl rfl hc116) rfl rfl (.eql rfl rfl) ?_
            refine JL.exP (.none rfl) rfl rfl (.pickOn rfl hc116 rfl) ?_
            refine JL.exP (.none rfl) rfl rfl (.move rfl) ?_
            rcases andB_cases h with ⟨hc119, h⟩ | ⟨hc119, h⟩
            · refine JL.exNo (.off rfl rfl rfl hc119 rfl) rfl rfl ?_
              refine JL.exNo (.off rfl rfl rfl hc119 rfl) rfl rfl ?_
              refine JL.exNo (.off rfl rfl rfl hc119 rfl) rfl rfl ?_
              refine JL.exNo (.off rfl rfl rfl hc119 rfl) rfl rfl ?_
              refine JL.exP (.none rfl) rfl rfl (.pickOff rfl hc119 rfl) ?_
              refine JL.exP (.none rfl) rfl rfl (.move rfl) ?_
              have h := andB_false' h
              refine JL.exNo (.off rfl rfl rfl rfl rfl) rfl rfl ?_
              refine JL.exNo (.off rfl rfl rfl rfl rfl) rfl rfl ?_
              refine JL.exNo (.off rfl rfl rfl rfl rfl) rfl rfl ?_
              refine JL.exNo (.off rfl rfl rfl rfl rfl) rfl rfl ?_
              refine JL.exP (.none rfl) rfl rfl (.pickOff rfl rfl rfl) ?_
              refine JL.exP (.none rfl) rfl rfl (.move rfl) ?_
              have h := andB_false' h
              refine JL.exNo (.off rfl rfl rfl rfl rfl) rfl rfl ?_
              refine JL.exNo (.off rfl rfl rfl rfl rfl) rfl rfl ?_
              refine JL.exNo (.off rfl rfl rfl rfl rfl) rfl rfl ?_
              refine JL.exNo (.off rfl rfl rfl rfl rfl) rfl rfl ?_
              refine JL.exP (.none rfl) rfl rfl (.pickOff rfl rfl rfl) ?_
              refine JL.exP (.none rfl) rfl rfl (.move rfl) ?_
              have h := andB_false' h
              refine JL.exNo (.off rfl rfl rfl rfl rfl) rfl rfl ?_
              refine JL.exNo (.off rfl rfl rfl rfl rfl) rfl rfl ?_
              refine JL.exNo (.off rfl rfl rfl rfl rfl) rfl rfl ?_
              refine JL.exNo (.off rfl rfl rfl rfl rfl) rfl rfl ?_
              refine JL.exNo (.off rfl rfl rfl rfl rfl) rfl rfl ?_
              refine JL.exP (.none rfl) rfl rfl (.pickOff rfl rfl rfl) ?_
              refine JL.exP (.none rfl) rfl rfl (.move rfl) ?_
              have h := andB_false' h
              refine JL.exNo (.off rfl rfl rfl rfl rfl) rfl rfl ?_
              refine JL.exNo (.off rfl rfl rfl rfl rfl) rfl rfl ?_
              refine JL.exP (.none rfl) rfl rfl (.pickOff rfl rfl rfl) ?_
              refine JL.exP (.none rfl) rfl rfl (.move rfl) ?_
              have h := andB_false' h
              refine JL.exNo (.off rfl rfl rfl rfl rfl) rfl rfl ?_
              refine JL.exNo (.off rfl rfl rfl rfl rfl) rfl rfl ?_
              refine JL.exP (.none rfl) rfl rfl (.pickOff rfl rfl rfl) ?_
              refine JL.exP (.none rfl) rfl rfl (.assign rfl) ?_
              refine JL.nil ?_
              exact JX.joinEnd h ⟨rfl, trivial⟩
            · refine JL.exP (.on rfl rfl rfl hc119) rfl rfl (.move rfl) ?_
              refine JL.exC (.on rfl rfl rfl hc119) rfl rfl (.func (vs := [(.int .u8 1)]) en_11 rfl) h (fun v120 w h => ?_)
              refine JL.exC (.on rfl rfl rfl hc119) rfl rfl (.func (vs := [v85, v120]) en_14 rfl) h (fun vx121 w h => ?_)
              obtain ⟨x121, rfl, h⟩ := h
              refine JL.exP (.on rfl rfl rfl hc119) rfl rfl (.eql rfl rfl) ?_
              refine JL.exP (.none rfl) rfl rfl (.pickOn rfl hc119 rfl) ?_
              refine JL.exP (.none rfl) rfl rfl (.move rfl) ?_
              rcases andB_cases h with ⟨hc124, h⟩ | ⟨hc124, h⟩
              · refine JL.exNo (.off rfl rfl rfl hc124 rfl) rfl rfl ?_
                refine JL.exNo (.off rfl rfl rfl hc124 rfl) rfl rfl ?_
                refine JL.exNo (.off rfl rfl rfl hc124 rfl) rfl rfl ?_
                refine JL.exNo (.off rfl rfl rfl hc124 rfl) rfl rfl ?_
                refine JL.exP (.none rfl) rfl rfl (.pickOff rfl hc124 rfl) ?_
                refine JL.exP (.none rfl) rfl rfl (.move rfl) ?_
                have h := andB_false' h
                refine JL.exNo (.off rfl rfl rfl rfl rfl) rfl rfl ?_
                refine JL.exNo (.off rfl rfl rfl rfl rfl) rfl rfl ?_
                refine JL.exNo (.off rfl rfl rfl rfl rfl) rfl rfl ?_
                refine JL.exNo (.off rfl rfl rfl rfl rfl) rfl rfl ?_
                refine JL.exP (.none rfl) rfl rfl (.pickOff rfl rfl rfl) ?_
                refine JL.exP (.none rfl) rfl rfl (.move rfl) ?_
                have h := andB_false' h
                refine JL.exNo (.off rfl rfl rfl rfl rfl) rfl rfl ?_
                refine JL.exNo (.off rfl rfl rfl rfl rfl) rfl rfl ?_
                refine JL.exNo (.off rfl rfl rfl rfl rfl) rfl rfl ?_
                refine JL.exNo (.off rfl rfl rfl rfl rfl) rfl rfl ?_
                refine JL.exNo (.off rfl rfl rfl rfl rfl) rfl rfl ?_
                refine JL.exP (.none rfl) rfl rfl (.pickOff rfl rfl rfl) ?_
                refine JL.exP (.none rfl) rfl rfl (.move rfl) ?_
                have h := andB_false' h
                refine JL.exNo (.off rfl rfl rfl rfl rfl) rfl rfl ?_
                refine JL.exNo (.off rfl rfl rfl rfl rfl) rfl rfl ?_
                refine JL.exP (.none rfl) rfl rfl (.pickOff rfl rfl rfl) ?_
                refine JL.exP (.none rfl) rfl rfl (.move rfl) ?_
                have h := andB_false' h
                refine JL.exNo (.off rfl rfl rfl rfl rfl) rfl rfl ?_
                refine JL.exNo (.off rfl rfl rfl rfl rfl) rfl rfl ?_
                refine JL.exP (.none rfl) rfl rfl (.pickOff rfl rfl rfl) ?_
                refine JL.exP (.none rfl) rfl rfl (.assign rfl) ?_
                refine JL.nil ?_
                exact JX.joinEnd h ⟨rfl, trivial⟩
              · refine JL.exP (.on rfl rfl rfl hc124) rfl rfl (.move rfl) ?_
                refine JL.exC (.on rfl rfl rfl hc124) rfl rfl (.func (vs := [(.int .u8 2)]) en_11 rfl) h (fun v125 w h => ?_)
                refine JL.exC (.on rfl rfl rfl hc124) rfl rfl (.func (vs := [v85, v125]) en_14 rfl) h (fun vx126 w h => ?_)
                obtain ⟨x126, rfl, h⟩ := h
                refine JL.exP (.on rfl rfl rfl hc124) rfl rfl (.eql rfl rfl) ?_
                refine JL.exP (.none rfl) rfl rfl (.pickOn rfl hc124 rfl) ?_
                refine JL.exP (.none rfl) rfl rfl (.move rfl) ?_
                rcases andB_cases h with ⟨hc129, h⟩ | ⟨hc129, h⟩
                · refine JL.exNo (.off rfl rfl rfl hc129 rfl) rfl rfl ?_
                  refine JL.exNo (.off rfl rfl rfl hc129 rfl) rfl rfl ?_
                  refine JL.exNo (.off rfl rfl rfl hc129 rfl) rfl rfl ?_
                  refine JL.exNo (.off rfl rfl rfl hc129 rfl) rfl rfl ?_
                  refine JL.exP (.none rfl) rfl rfl (.pickOff rfl hc129 rfl) ?_
                  refine JL.exP (.none rfl) rfl rfl (.move rfl) ?_
                  have h := andB_false' h
                  refine JL.exNo (.off rfl rfl rfl rfl rfl) rfl rfl ?_
                  refine JL.exNo (.off rfl rfl rfl rfl rfl) rfl rfl ?_
                  refine JL.exNo (.off rfl rfl rfl rfl rfl) rfl rfl ?_
                  refine JL.exNo (.off rfl rfl rfl rfl rfl) rfl rfl ?_
                  refine JL.exNo (.off rfl rfl rfl rfl rfl) rfl rfl ?_
                  refine JL.exP (.none rfl) rfl rfl (.pickOff rfl rfl rfl) ?_
                  refine JL.exP (.none rfl) rfl rfl (.move rfl) ?_
                  have h := andB_false' h
                  refine JL.exNo (.off rfl rfl rfl rfl rfl) rfl rfl ?_
                  refine JL.exNo (.off rfl rfl rfl rfl rfl) rfl rfl ?_
                  refine JL.exP (.none rfl) rfl rfl (.pickOff rfl rfl rfl) ?_
                  refine JL.exP (.none rfl) rfl rfl (.move rfl) ?_
                  have h := andB_false' h
                  refine JL.exNo (.off rfl rfl rfl rfl rfl) rfl rfl ?_
                  refine JL.exNo (.off rfl rfl rfl rfl rfl) rfl rfl ?_
                  refine JL.exP (.none rfl) rfl rfl (.pickOff rfl rfl rfl) ?_
                  refine JL.exP (.none rfl) rfl rfl (.assign rfl) ?_
                  refine JL.nil ?_
                  exact JX.joinEnd h ⟨rfl, trivial⟩
                · refine JL.exP (.on rfl rfl rfl hc129) rfl rfl (.move rfl) ?_
                  refine JL.exC (.on rfl rfl rfl hc129) rfl rfl (.func (vs := [v85]) en_32 rfl) h (fun v130 w h => ?_)
                  refine JL.sPure (.on rfl rfl rfl hc129) rfl rfl ((.len (vs := [v130]) rfl)) h (fun vx131 w h => ?_)
                  obtain ⟨x131, rfl, h⟩ := h
                  refine JL.exP (.on rfl rfl rfl hc129) rfl rfl (.eql rfl rfl) ?_
                  refine JL.exP (.none rfl) rfl rfl (.pickOn rfl hc129 rfl) ?_
                  refine JL.exP (.none rfl) rfl rfl (.move rfl) ?_
                  rcases andB_cases h with ⟨hc134, h⟩ | ⟨hc134, h⟩
                  · refine JL.exNo (.off rfl rfl rfl hc134 rfl) rfl rfl ?_
                    refine JL.exNo (.off rfl rfl rfl hc134 rfl) rfl rfl ?_
                    refine JL.exNo (.off rfl rfl rfl hc134 rfl) rfl rfl ?_
                    refine JL.exNo (.off rfl rfl rfl hc134 rfl) rfl rfl ?_
                    refine JL.exNo (.off rfl rfl rfl hc134 rfl) rfl rfl ?_
                    refine JL.exP (.none rfl) rfl rfl (.pickOff rfl hc134 rfl) ?_
                    refine JL.exP (.none rfl) rfl rfl (.move rfl) ?_
                    have h := andB_false' h
                    refine JL.exNo (.off rfl rfl rfl rfl rfl) rfl rfl ?_
                    refine JL.exNo (.off rfl rfl rfl rfl rfl) rfl rfl ?_
                    refine JL.exP (.none rfl) rfl rfl (.pickOff rfl rfl rfl) ?_
                    refine JL.exP (.none rfl) rfl rfl (.move rfl) ?_
                    have h := andB_false' h
                    refine JL.exNo (.off rfl rfl rfl rfl rfl) rfl rfl ?_
                    refine JL.exNo (.off rfl rfl rfl rfl rfl) rfl rfl ?_
                    refine JL.exP (.none rfl) rfl rfl (.pickOff rfl rfl rfl) ?_
                    refine JL.exP (.none rfl) rfl rfl (.assign rfl) ?_
                    refine JL.nil ?_
                    exact JX.joinEnd h ⟨rfl, trivial⟩
                  · refine JL.exP (.on rfl rfl rfl hc134) rfl rfl (.move rfl) ?_
                    refine JL.exC (.on rfl rfl rfl hc134) rfl rfl (.func (vs := [(.int .u8 2), (.int .u8 1), (.int .i64 30)]) en_31 rfl) h (fun v135 w h => ?_)
                    refine JL.exC (.on rfl rfl rfl hc134) rfl rfl (.func (vs := [(.int .u8 3), (.int .u8 1), (.int .i64 20)]) en_31 rfl) h (fun v136 w h => ?_)
                    refine JL.exV (.on rfl rfl rfl hc134) rfl rfl ((.buildSlice (l' := [(0, v135), (1, v136)]) rfl)) h (fun v137 w h => ?_)
                    refine JL.exC (.on rfl rfl rfl hc134) rfl rfl (.func (vs := [v98, v137]) en_33 rfl) h (fun vb138 w h => ?_)
                    obtain ⟨b138, rfl, h⟩ := h
                    refine JL.exP (.none rfl) rfl rfl (.pickOn rfl hc134 rfl) ?_
                    refine JL.exP (.none rfl) rfl rfl (.move rfl) ?_
                    rcases andB_cases h with ⟨hc141, h⟩ | ⟨hc141, h⟩
                    · refine JL.exNo (.off rfl rfl rfl hc141 rfl) rfl rfl ?_
                      refine JL.exNo (.off rfl rfl rfl hc141 rfl) rfl rfl ?_
                      refine JL.exP (.none rfl) rfl rfl (.pickOff rfl hc141 rfl) ?_
                      refine JL.exP (.none rfl) rfl rfl (.move rfl) ?_
                      have h := andB_false' h
                      refine JL.exNo (.off rfl rfl rfl rfl rfl) rfl rfl ?_
                      refine JL.exNo (.off rfl rfl rfl rfl rfl) rfl rfl ?_
                      refine JL.exP (.none rfl) rfl rfl (.pickOff rfl rfl rfl) ?_
                      refine JL.exP (.none rfl) rfl rfl (.assign rfl) ?_
                      refine JL.nil ?_
                      exact JX.joinEnd h ⟨rfl, trivial⟩
                    · refine JL.exP (.on rfl rfl rfl hc141) rfl rfl (.move rfl) ?_
                      refine JL.exP (.on rfl rfl rfl hc141) rfl rfl (.eql rfl rfl) ?_
                      refine JL.exP (.none rfl) rfl rfl (.pickOn rfl hc141 rfl) ?_
                      refine JL.exP (.none rfl) rfl rfl (.move rfl) ?_
                      rcases andB_cases h with ⟨hc144, h⟩ | ⟨hc144, h⟩
                      · refine JL.exNo (.off rfl rfl rfl hc144 rfl) rfl rfl ?_
                        refine JL.exNo (.off rfl rfl rfl hc144 rfl) rfl rfl ?_
                        refine JL.exP (.none rfl) rfl rfl (.pickOff rfl hc144 rfl) ?_
                        refine JL.exP (.none rfl) rfl rfl (.assign rfl) ?_
                        refine JL.nil ?_
                        exact JX.joinEnd h ⟨rfl, trivial⟩
                      · refine JL.exP (.on rfl rfl rfl hc144) rfl rfl (.move rfl) ?_
                        refine JL.exP (.on rfl rfl rfl hc144) rfl rfl (.eql rfl rfl) ?_
                        refine JL.exP (.none rfl) rfl rfl (.pickOn rfl hc144 rfl) ?_
                        refine JL.exP (.none rfl) rfl rfl (.assign rfl) ?_
                        refine JL.nil ?_
                        exact JX.joinEnd h ⟨rfl, trivial⟩
    · refine JX.then ?_
      refine J.ret ?_
      exact JX.ret1 rfl rfl h

/-- (*cabstand/ledger.Ledger).Credit -/
def ledger_Ledger_Credit (a0 : Value) (a1 : Value) (a2 : Int) (K : Value → WP) : WP :=
  semA Try.prog (Instr.box 28 a1) fun p145 =>
  callB Try.prog 34 #[a0] fun b146 =>
  iteH (!b146) (
    K (.int .i64 2)) (
    joinH (α := Bool) (fun y147 =>
      iteH y147 (
        K (.int .i64 1)) (
        drawH <|
        asP a0 fun p152 =>
        readV Try.prog (loadVar 76 (p152.add 0)) fun v153 =>
        readV Try.prog (loadVar 28 p145) fun v155 =>
        readV Try.prog (Instr.lookup 76 v153 v155 false) fun v157 =>
        semA Try.prog (Instr.alloc 86 true (.tuple #[])) fun p162 =>
        keepR Try.prog (Instr.lookup 76 v153 v155 false) v157 <|
        keepR Try.prog (loadVar 28 p145) v155 <|
        keepR Try.prog (loadVar 76 (p152.add 0)) v153 <|
        semU Try.prog (storeVar 86 p162 v157) <|
        semI Try.prog .i64 (loadVar 3 (p162.add 0)) fun x163 =>
        iteH (decide (x163 < (IntKind.i64.wrap (0 - a2)))) (
          K (.int .i64 230)) (
          semU Try.prog (storeVar 3 (p162.add 1) (.int .i64 a2)) <|
          drawH <|
          asP a0 fun p164 =>
          readV Try.prog (loadVar 76 (p164.add 0)) fun v165 =>
          readV Try.prog (loadVar 28 p145) fun v167 =>
          readV Try.prog (loadVar 86 p162) fun v169 =>
          semU Try.prog (Instr.mapUpdate 76 v165 v167 v169) <|
          K (.int .i64 0)))) fun k148 =>
      orB (decide (a2 < 0)) (fun k150 =>
        k150 (decide (4611686018427387903 < a2))) fun b149 =>
      k148 b149)
set_option maxRecDepth 100000 in
set_option maxHeartbeats 1000000 in
theorem ledger_Ledger_Credit_ok {a0 : Value} {a1 : Value} {a2 : Int} {K : Value → WP} {w : World} (h : ledger_Ledger_Credit a0 a1 a2 K w) : callH Try.prog 10 #[a0, a1, (.int .i64 a2)] K w := by
  refine enter (l := [a0, a1, (.int .i64 a2)]) Try.func10 rfl rfl rfl ?_
  show J Try.prog 36 [(0, a0), (1, a1), (2, (.int .i64 a2))] _ _ _
  unfold ledger_Ledger_Credit at h
  refine J.seq ?_
  refine J.region ?_
  refine JL.exV (.none rfl) rfl rfl (.box rfl) h (fun vp145 w h => ?_)
  obtain ⟨p145, rfl, h⟩ := h
  refine JL.exP (.none rfl) rfl rfl (.assign rfl) ?_
  refine JL.nil ?_
  refine JX.then ?_
  refine J.seq ?_
  refine J.seq ?_
  refine J.region ?_
  refine JL.exP (.none rfl) rfl rfl (.move rfl) ?_
  refine JL.exC (.none rfl) rfl rfl (.func (vs := [a0]) en_34 rfl) h (fun vb146 w h => ?_)
  obtain ⟨b146, rfl, h⟩ := h
  refine JL.exP (.none rfl) rfl rfl (.not rfl) ?_
  refine JL.nil ?_
  refine JX.then ?_
  refine J.cond (b := _) rfl h (fun h => ?_) (fun h => ?_)
  · refine J.seq ?_
    refine J.region ?_
    refine JL.exP (.none rfl) rfl rfl (.assign rfl) ?_
    refine JL.nil ?_
    refine JX.then ?_
    refine J.ret ?_
    refine JX.thenRet ?_
    exact JX.ret1 rfl rfl h
  · refine J.skip ?_
    refine JX.then ?_
    refine J.seq ?_
    refine J.seq ?_
    refine J.join h (fun y147 => [(0, a0), (2, (.int .i64 a2)), (4, (.pointer (some p145))), (6, (.int .i64 0)), (16, (.bool y147))]) (fun k148 w h => ?_) (fun y147 w h => ?_)
    · refine J.region ?_
      refine JL.exP (.none rfl) rfl rfl (.move rfl) ?_
      refine JL.exP (.none rfl) rfl rfl (.lss rfl rfl) ?_
      refine JL.exP (.none rfl) rfl rfl (.move rfl) ?_
      rcases orB_cases h with ⟨hc151, h⟩ | ⟨hc151, h⟩
      · refine JL.exNo (.off rfl rfl rfl hc151 rfl) rfl rfl ?_
        refine JL.exNo (.off rfl rfl rfl hc151 rfl) rfl rfl ?_
        refine JL.exP (.none rfl) rfl rfl (.pickOn rfl hc151 rfl) ?_
        refine JL.nil ?_
        exact JX.joinEnd h ⟨rfl, rfl, rfl, rfl, rfl, trivial⟩
      · refine JL.exP (.on rfl rfl rfl hc151) rfl rfl (.move rfl) ?_
        refine JL.exP (.on rfl rfl rfl hc151) rfl rfl (.gtr rfl rfl) ?_
        refine JL.exP (.none rfl) rfl rfl (.pickOff rfl hc151 rfl) ?_
        refine JL.nil ?_
        exact JX.joinEnd h ⟨rfl, rfl, rfl, rfl, rfl, trivial⟩
    · refine JX.then ?_
      refine J.cond (b := _) rfl h (fun h => ?_) (fun h => ?_)
      · refine J.seq ?_
        refine J.region ?_
        refine JL.exP (.none rfl) rfl rfl (.assign rfl) ?_
        refine JL.nil ?_
        refine JX.then ?_
        refine J.ret ?_
        refine JX.thenRet ?_
        exact JX.ret1 rfl rfl h
      · refine J.skip ?_
        refine JX.then ?_
        refine J.seq ?_
        refine J.draw [[], [0], [0, 1], [0, 1, 2], [], [0, 1, 2, 3, 4], [], [0, 1, 2, 3, 4, 5, 6]] (by kernel_rfl) mixed h (fun w h => ?_)
        refine JD.pure_ (i := 0) [] rfl (by kernel_rfl) (by kernel_rfl) (by kernel_rfl) (by kernel_rfl) (.none rfl) rfl rfl (.move rfl) trivial ?_
        obtain ⟨p152, hp152, h⟩ := h
        refine JD.pure_ (i := 1) [] rfl (by kernel_rfl) (by kernel_rfl) (by kernel_rfl) (by kernel_rfl) (.none rfl) rfl rfl (.nilCheck rfl hp152) trivial ?_
        refine JD.pure_ (i := 2) [] rfl (by kernel_rfl) (by kernel_rfl) (by kernel_rfl) (by kernel_rfl) (.none rfl) rfl rfl (.fieldAddr rfl (fa_79_0 _)) trivial ?_
        refine JD.read (i := 3) [] rfl (by kernel_rfl) (by kernel_rfl) (by kernel_rfl) (by kernel_rfl) (.none rfl) rfl rfl (.load rfl) h trivial (fun v153 st154 h => ?_)
        refine JD.read (i := 4) [false] rfl (by kernel_rfl) (by kernel_rfl) (by kernel_rfl) (by kernel_rfl) (.none rfl) rfl rfl (.load rfl) h ⟨st154, trivial⟩ (fun v155 st156 h => ?_)
        refine JD.read (i := 5) [true, true] rfl (by kernel_rfl) (by kernel_rfl) (by kernel_rfl) (by kernel_rfl) (.none rfl) rfl rfl (.lookup rfl rfl) h trivial (fun v157 st158 h => ?_)
        refine JD.one (j := 6) (by kernel_rfl) ?_
        refine JD1.exV [false, false, false] rfl (by kernel_rfl) (.none rfl) rfl rfl (.alloc) h (fun vp162 w h => ?_)
        obtain ⟨p162, rfl, h⟩ := h
        obtain ⟨st159, h⟩ := h
        obtain ⟨st160, h⟩ := h
        obtain ⟨st161, h⟩ := h
        refine ⟨⟨st159, st160, st161, trivial⟩, ?_⟩
        refine JD.one (j := 7) (by kernel_rfl) ?_
        refine JD1.exU [true, true, true] rfl (by kernel_rfl) (.none rfl) rfl (.store rfl rfl) h (fun w h => ?_)
        refine ⟨trivial, ?_⟩
        refine JD.done (by kernel_rfl) ?_
        refine JX.then ?_
        refine J.seq ?_
        refine J.seq ?_
        refine J.region ?_
        refine JL.exP (.none rfl) rfl rfl (.fieldAddr rfl (fa_86_0 _)) ?_
        refine JL.exV (.none rfl) rfl rfl (.load rfl) h (fun vx163 w h => ?_)
        obtain ⟨x163, rfl, h⟩ := h
        refine JL.exP (.none rfl) rfl rfl (.move rfl) ?_
        refine JL.exP (.none rfl) rfl rfl (.neg rfl) ?_
        refine JL.exP (.none rfl) rfl rfl (.lss rfl rfl) ?_
        refine JL.nil ?_
        refine JX.then ?_
        refine J.cond (b := _) rfl h (fun h => ?_) (fun h => ?_)
        · refine J.seq ?_
          refine J.region ?_
          refine JL.exP (.none rfl) rfl rfl (.assign rfl) ?_
          refine JL.nil ?_
          refine JX.then ?_
          refine J.ret ?_
          refine JX.thenRet ?_
          exact JX.ret1 rfl rfl h
        · refine J.skip ?_
          refine JX.then ?_
          refine J.seq ?_
          refine J.region ?_
          refine JL.exP (.none rfl) rfl rfl (.move rfl) ?_
          refine JL.exP (.none rfl) rfl rfl (.fieldAddr rfl (fa_86_1 _)) ?_
          refine JL.exU (.none rfl) rfl (.store rfl rfl) h (fun w h => ?_)
          refine JL.nil ?_
          refine JX.then ?_
          refine J.seq ?_
          refine J.draw [[], [0], [0, 1], [0, 1, 2], [], [], [0, 1, 2, 3, 4, 5]] (by kernel_rfl) mixed h (fun w h => ?_)
          refine JD.pure_ (i := 0) [] rfl (by kernel_rfl) (by kernel_rfl) (by kernel_rfl) (by kernel_rfl) (.none rfl) rfl rfl (.move rfl) trivial ?_
          obtain ⟨p164, hp164, h⟩ := h
          refine JD.pure_ (i := 1) [] rfl (by kernel_rfl) (by kernel_rfl) (by kernel_rfl) (by kernel_rfl) (.none rfl) rfl rfl (.nilCheck rfl hp164) trivial ?_
          refine JD.pure_ (i := 2) [] rfl (by kernel_rfl) (by kernel_rfl) (by kernel_rfl) (by kernel_rfl) (.none rfl) rfl rfl (.fieldAddr rfl (fa_79_0 _)) trivial ?_
          refine JD.read (i := 3) [] rfl (by kernel_rfl) (by kernel_rfl) (by kernel_rfl) (by kernel_rfl) (.none rfl) rfl rfl (.load rfl) h trivial (fun v165 st166 h => ?_)
          refine JD.read (i := 4) [false] rfl (by kernel_rfl) (by kernel_rfl) (by kernel_rfl) (by kernel_rfl) (.none rfl) rfl rfl (.load rfl) h ⟨st166, trivial⟩ (fun v167 st168 h => ?_)
          refine JD.read (i := 5) [false, false] rfl (by kernel_rfl) (by kernel_rfl) (by kernel_rfl) (by kernel_rfl) (.none rfl) rfl rfl (.load rfl) h ⟨st168, st166, trivial⟩ (fun v169 st170 h => ?_)
          refine JD.one (j := 6) (by kernel_rfl) ?_
          refine JD1.exU [true, true, true] rfl (by kernel_rfl) (.none rfl) rfl (.mapUpdate rfl rfl rfl) h (fun w h => ?_)
          refine ⟨trivial, ?_⟩
          refine JD.done (by kernel_rfl) ?_
          refine JX.then ?_
          refine J.seq ?_
          refine J.region ?_
          refine JL.exP (.none rfl) rfl rfl (.assign rfl) ?_
          refine JL.nil ?_
          refine JX.then ?_
          refine J.ret ?_
          exact JX.ret1 rfl rfl h

/-- cabstand/cabstandlaw23.id -/
def law23_id (a0 : Int) (K : Value → WP) : WP :=
  semA Try.prog (Instr.alloc 28 true (.tuple #[])) fun p171 =>
  pureV Try.prog (Instr.build 28 #[(7, (.int .u8 a0))]) fun v172 =>
  semU Try.prog (storeVar 28 p171 v172) <|
  seeV Try.prog (loadVar 28 p171) K
set_option maxRecDepth 100000 in
set_option maxHeartbeats 1000000 in
theorem law23_id_ok {a0 : Int} {K : Value → WP} {w : World} (h : law23_id a0 K w) : callH Try.prog 11 #[(.int .u8 a0)] K w := by
  refine enter (l := [(.int .u8 a0)]) Try.func11 rfl rfl rfl ?_
  show J Try.prog 5 [(0, (.int .u8 a0))] _ _ _
  unfold law23_id at h
  refine J.seq ?_
  refine J.region ?_
  refine JL.exV (.none rfl) rfl rfl (.alloc) h (fun vp171 w h => ?_)
  obtain ⟨p171, rfl, h⟩ := h
  refine JL.nil ?_
  refine JX.then ?_
  refine J.seq ?_
  refine J.region ?_
  refine JL.exP (.none rfl) rfl rfl (.move rfl) ?_
  refine JL.sPure (.none rfl) rfl rfl ((.build (l' := [(7, (.int .u8 a0))]) rfl)) h (fun v172 w h => ?_)
  refine JL.exU (.none rfl) rfl (.store rfl rfl) h (fun w h => ?_)
  refine JL.nil ?_
  refine JX.then ?_
  refine J.ret ?_
  exact JX.retC rfl rfl h

/-- (*cabstand/ledger.Ledger).Pay -/
def ledger_Ledger_Pay (a0 : Value) (a1 : Value) (a2 : Value) (a3 : Int) (K : Value → WP) : WP :=
  semA Try.prog (Instr.box 28 a1) fun p173 =>
  semA Try.prog (Instr.box 28 a2) fun p174 =>
  callB Try.prog 34 #[a0] fun b175 =>
  iteH (!b175) (
    K (.int .i64 2)) (
    joinH (α := Bool) (fun y176 =>
      iteH y176 (
        K (.int .i64 1)) (
        drawH <|
        asP a0 fun p187 =>
        readV Try.prog (loadVar 76 (p187.add 0)) fun v188 =>
        readV Try.prog (loadVar 28 p173) fun v190 =>
        readV Try.prog (Instr.lookup 76 v188 v190 false) fun v192 =>
        semA Try.prog (Instr.alloc 86 true (.tuple #[])) fun p197 =>
        keepR Try.prog (Instr.lookup 76 v188 v190 false) v192 <|
        keepR Try.prog (loadVar 28 p173) v190 <|
        keepR Try.prog (loadVar 76 (p187.add 0)) v188 <|
        semU Try.prog (storeVar 86 p197 v192) <|
        semI Try.prog .i64 (loadVar 3 (p197.add 0)) fun x198 =>
        semI Try.prog .i64 (loadVar 3 (p197.add 1)) fun x199 =>
        iteH (decide ((IntKind.i64.wrap (x198 - a3)) < (IntKind.i64.wrap (0 - x199)))) (
          K (.int .i64 230)) (
          drawH <|
          asP a0 fun p200 =>
          readV Try.prog (loadVar 76 (p200.add 0)) fun v201 =>
          readV Try.prog (loadVar 28 p174) fun v203 =>
          readV Try.prog (Instr.lookup 76 v201 v203 false) fun v205 =>
          pureI Try.prog .i64 (Instr.field 86 v205 0) fun x207 =>
          callH Try.prog 35 #[(.int .i64 x207), (.int .i64 a3)] fun v208 =>
          pureI Try.prog .i64 (Instr.extract v208 0) fun x209 =>
          pureB Try.prog (Instr.extract v208 1) fun b210 =>
          iteH (!b210) (
            K (.int .i64 3)) (
            semV Try.prog (loadVar 28 p173) fun v211 =>
            callH Try.prog 36 #[a0, v211, (.int .i64 (IntKind.i64.wrap (0 - a3)))] fun v212 =>
            semV Try.prog (loadVar 28 p174) fun v213 =>
            callH Try.prog 36 #[a0, v213, (.int .i64 a3)] fun v214 =>
            drawH <|
            asP a0 fun p215 =>
            readV Try.prog (loadVar 77 (p215.add 1)) fun v216 =>
            readV Try.prog (loadVar 28 p173) fun v218 =>
            readV Try.prog (loadVar 28 p174) fun v220 =>
            pureV Try.prog (Instr.build 82 #[(0, v218), (1, v220), (2, (.int .i64 a3))]) fun v222 =>
            semV Try.prog (Instr.buildSlice 77 1 #[(0, v222)]) fun v224 =>
            keepR Try.prog (loadVar 77 (p215.add 1)) v216 <|
            semV Try.prog (Builtin.append_ #[77, 77] 77 #[v216, v224]) fun v225 =>
            asP a0 fun p226 =>
            semU Try.prog (storeVar 77 (p226.add 1) v225) <|
            K (.int .i64 0))))) fun k177 =>
      orB (decide (a3 < 1)) (fun k179 =>
        k179 (decide (4611686018427387903 < a3))) fun b178 =>
      orB b178 (fun k182 =>
        semV Try.prog (loadVar 28 p173) fun v184 =>
        semV Try.prog (loadVar 28 p174) fun v185 =>
        pureB Try.prog (eqM .eql 28 (.tmp 22) (.tmp 23) v184 v185) fun b186 =>
        k182 b186) fun b181 =>
      k177 b181)
set_option maxRecDepth 100000 in
set_option maxHeartbeats 1000000 in
theorem ledger_Ledger_Pay_ok {a0 : Value} {a1 : Value} {a2 : Value} {a3 : Int} {K : Value → WP} {w : World} (h : ledger_Ledger_Pay a0 a1 a2 a3 K w) : callH Try.prog 12 #[a0, a1, a2, (.int .i64 a3)] K w := by
  refine enter (l := [a0, a1, a2, (.int .i64 a3)]) Try.func12 rfl rfl rfl ?_
  show J Try.prog 76 [(0, a0), (1, a1), (2, a2), (3, (.int .i64 a3))] _ _ _
  unfold ledger_Ledger_Pay at h
  refine J.seq ?_
  refine J.region ?_
  refine JL.exV (.none rfl) rfl rfl (.box rfl) h (fun vp173 w h => ?_)
  obtain ⟨p173, rfl, h⟩ := h
  refine JL.exV (.none rfl) rfl rfl (.box rfl) h (fun vp174 w h => ?_)
  obtain ⟨p174, rfl, h⟩ := h
  refine JL.exP (.none rfl) rfl rfl (.assign rfl) ?_
  refine JL.nil ?_
  refine JX.then ?_
  refine J.seq ?_
  refine J.seq ?_
  refine J.region ?_
  refine JL.exP (.none rfl) rfl rfl (.move rfl) ?_
  refine JL.exC (.none rfl) rfl rfl (.func (vs := [a0]) en_34 rfl) h (fun vb175 w h => ?_)
  obtain ⟨b175, rfl, h⟩ := h
  refine JL.exP (.none rfl) rfl rfl (.not rfl) ?_
  refine JL.nil ?_
  refine JX.then ?_
  refine J.cond (b := _) rfl h (fun h => ?_) (fun h => ?_)
  · refine J.seq ?_
    refine J.region ?_
    refine JL.exP (.none rfl) rfl rfl (.assign rfl) ?_
    refine JL.nil ?_
    refine JX.then ?_
    refine J.ret ?_
    refine JX.thenRet ?_
    exact JX.ret1 rfl rfl h
  · refine J.skip ?_
    refine JX.then ?_
    refine J.seq ?_
    refine J.seq ?_
    refine J.join h (fun y176 => [(0, a0), (3, (.int .i64 a3)), (5, (.pointer (some p173))), (6, (.pointer (some p174))), (8, (.int .i64 0)), (25, (.bool y176))]) (fun k177 w h => ?_) (fun y176 w h => ?_)
    · refine J.region ?_
      refine JL.exP (.none rfl) rfl rfl (.move rfl) ?_
      refine JL.exP (.none rfl) rfl rfl (.lss rfl rfl) ?_
      refine JL.exP (.none rfl) rfl rfl (.move rfl) ?_
      rcases orB_cases h with ⟨hc180, h⟩ | ⟨hc180, h⟩
      · refine JL.exNo (.off rfl rfl rfl hc180 rfl) rfl rfl ?_
        refine JL.exNo (.off rfl rfl rfl hc180 rfl) rfl rfl ?_
        refine JL.exP (.none rfl) rfl rfl (.pickOn rfl hc180 rfl) ?_
        refine JL.exP (.none rfl) rfl rfl (.move rfl) ?_
        have h := orB_true' h
        refine JL.exNo (.off rfl rfl rfl rfl rfl) rfl rfl ?_
        refine JL.exNo (.off rfl rfl rfl rfl rfl) rfl rfl ?_
        refine JL.exNo (.off rfl rfl rfl rfl rfl) rfl rfl ?_
        refine JL.exP (.none rfl) rfl rfl (.pickOn rfl rfl rfl) ?_
        refine JL.nil ?_
        exact JX.joinEnd h ⟨rfl, rfl, rfl, rfl, rfl, rfl, trivial⟩
      · refine JL.exP (.on rfl rfl rfl hc180) rfl rfl (.move rfl) ?_
        refine JL.exP (.on rfl rfl rfl hc180) rfl rfl (.gtr rfl rfl) ?_
        refine JL.exP (.none rfl) rfl rfl (.pickOff rfl hc180 rfl) ?_
        refine JL.exP (.none rfl) rfl rfl (.move rfl) ?_
        rcases orB_cases h with ⟨hc183, h⟩ | ⟨hc183, h⟩
        · refine JL.exNo (.off rfl rfl rfl hc183 rfl) rfl rfl ?_
          refine JL.exNo (.off rfl rfl rfl hc183 rfl) rfl rfl ?_
          refine JL.exNo (.off rfl rfl rfl hc183 rfl) rfl rfl ?_
          refine JL.exP (.none rfl) rfl rfl (.pickOn rfl hc183 rfl) ?_
          refine JL.nil ?_
          exact JX.joinEnd h ⟨rfl, rfl, rfl, rfl, rfl, rfl, trivial⟩
        · refine JL.exV (.on rfl rfl rfl hc183) rfl rfl (.load rfl) h (fun v184 w h => ?_)
          refine JL.exV (.on rfl rfl rfl hc183) rfl rfl (.load rfl) h (fun v185 w h => ?_)
          refine JL.sPure (.on rfl rfl rfl hc183) rfl rfl (.binOp rfl rfl) h (fun vb186 w h => ?_)
          obtain ⟨b186, rfl, h⟩ := h
          refine JL.exP (.none rfl) rfl rfl (.pickOff rfl hc183 rfl) ?_
          refine JL.nil ?_
          exact JX.joinEnd h ⟨rfl, rfl, rfl, rfl, rfl, rfl, trivial⟩
    · refine JX.then ?_
      refine J.cond (b := _) rfl h (fun h => ?_) (fun h => ?_)
      · refine J.seq ?_
        refine J.region ?_
        refine JL.exP (.none rfl) rfl rfl (.assign rfl) ?_
        refine JL.nil ?_
        refine JX.then ?_
        refine J.ret ?_
        refine JX.thenRet ?_
        exact JX.ret1 rfl rfl h
      · refine J.skip ?_
        refine JX.then ?_
        refine J.seq ?_
        refine J.seq ?_
        refine J.draw [[], [0], [0, 1], [0, 1, 2], [], [0, 1, 2, 3, 4], [], [0, 1, 2, 3, 4, 5, 6]] (by kernel_rfl) mixed h (fun w h => ?_)
        refine JD.pure_ (i := 0) [] rfl (by kernel_rfl) (by kernel_rfl) (by kernel_rfl) (by kernel_rfl) (.none rfl) rfl rfl (.move rfl) trivial ?_
        obtain ⟨p187, hp187, h⟩ := h
        refine JD.pure_ (i := 1) [] rfl (by kernel_rfl) (by kernel_rfl) (by kernel_rfl) (by kernel_rfl) (.none rfl) rfl rfl (.nilCheck rfl hp187) trivial ?_
        refine JD.pure_ (i := 2) [] rfl (by kernel_rfl) (by kernel_rfl) (by kernel_rfl) (by kernel_rfl) (.none rfl) rfl rfl (.fieldAddr rfl (fa_79_0 _)) trivial ?_
        refine JD.read (i := 3) [] rfl (by kernel_rfl) (by kernel_rfl) (by kernel_rfl) (by kernel_rfl) (.none rfl) rfl rfl (.load rfl) h trivial (fun v188 st189 h => ?_)
        refine JD.read (i := 4) [false] rfl (by kernel_rfl) (by kernel_rfl) (by kernel_rfl) (by kernel_rfl) (.none rfl) rfl rfl (.load rfl) h ⟨st189, trivial⟩ (fun v190 st191 h => ?_)
        refine JD.read (i := 5) [true, true] rfl (by kernel_rfl) (by kernel_rfl) (by kernel_rfl) (by kernel_rfl) (.none rfl) rfl rfl (.lookup rfl rfl) h trivial (fun v192 st193 h => ?_)
        refine JD.one (j := 6) (by kernel_rfl) ?_
        refine JD1.exV [false, false, false] rfl (by kernel_rfl) (.none rfl) rfl rfl (.alloc) h (fun vp197 w h => ?_)
        obtain ⟨p197, rfl, h⟩ := h
        obtain ⟨st194, h⟩ := h
        obtain ⟨st195, h⟩ := h
        obtain ⟨st196, h⟩ := h
        refine ⟨⟨st194, st195, st196, trivial⟩, ?_⟩
        refine JD.one (j := 7) (by kernel_rfl) ?_
        refine JD1.exU [true, true, true] rfl (by kernel_rfl) (.none rfl) rfl (.store rfl rfl) h (fun w h => ?_)
        refine ⟨trivial, ?_⟩
        refine JD.done (by kernel_rfl) ?_
        refine JX.then ?_
        refine J.seq ?_
        refine J.region ?_
        refine JL.exP (.none rfl) rfl rfl (.fieldAddr rfl (fa_86_0 _)) ?_
        refine JL.exV (.none rfl) rfl rfl (.load rfl) h (fun vx198 w h => ?_)
        obtain ⟨x198, rfl, h⟩ := h
        refine JL.exP (.none rfl) rfl rfl (.move rfl) ?_
        refine JL.exP (.none rfl) rfl rfl (.sub rfl rfl) ?_
        refine JL.exP (.none rfl) rfl rfl (.fieldAddr rfl (fa_86_1 _)) ?_
        refine JL.exV (.none rfl) rfl rfl (.load rfl) h (fun vx199 w h => ?_)
        obtain ⟨x199, rfl, h⟩ := h
        refine JL.exP (.none rfl) rfl rfl (.neg rfl) ?_
        refine JL.exP (.none rfl) rfl rfl (.lss rfl rfl) ?_
        refine JL.nil ?_
        refine JX.then ?_
        refine J.cond (b := _) rfl h (fun h => ?_) (fun h => ?_)
        · refine J.seq ?_
          refine J.region ?_
          refine JL.exP (.none rfl) rfl rfl (.assign rfl) ?_
          refine JL.nil ?_
          refine JX.then ?_
          refine J.ret ?_
          refine JX.thenRet ?_
          exact JX.ret1 rfl rfl h
        · refine J.skip ?_
          refine JX.then ?_
          refine J.seq ?_
          refine J.seq ?_
          refine J.draw [[], [0], [0, 1], [0, 1, 2], [], [0, 1, 2, 3, 4], [0, 1, 2, 3, 4, 5], [], [0, 1, 2, 3, 4, 5, 6, 7], [0, 1, 2, 3, 4, 5, 6, 7, 8], [0, 1, 2, 3, 4, 5, 6, 7, 8, 9], [0, 1, 2, 3, 4, 5, 6, 7, 8, 9], [0, 1, 2, 3, 4, 5, 6, 7, 8, 9, 10], [0, 1, 2, 3, 4, 5, 6, 7, 8, 9, 10, 11, 12]] (by kernel_rfl) mixed h (fun w h => ?_)
          refine JD.pure_ (i := 0) [] rfl (by kernel_rfl) (by kernel_rfl) (by kernel_rfl) (by kernel_rfl) (.none rfl) rfl rfl (.move rfl) trivial ?_
          obtain ⟨p200, hp200, h⟩ := h
          refine JD.pure_ (i := 1) [] rfl (by kernel_rfl) (by kernel_rfl) (by kernel_rfl) (by kernel_rfl) (.none rfl) rfl rfl (.nilCheck rfl hp200) trivial ?_
          refine JD.pure_ (i := 2) [] rfl (by kernel_rfl) (by kernel_rfl) (by kernel_rfl) (by kernel_rfl) (.none rfl) rfl rfl (.fieldAddr rfl (fa_79_0 _)) trivial ?_
          refine JD.read (i := 3) [] rfl (by kernel_rfl) (by kernel_rfl) (by kernel_rfl) (by kernel_rfl) (.none rfl) rfl rfl (.load rfl) h trivial (fun v201 st202 h => ?_)
          refine JD.read (i := 4) [false] rfl (by kernel_rfl) (by kernel_rfl) (by kernel_rfl) (by kernel_rfl) (.none rfl) rfl rfl (.load rfl) h ⟨st202, trivial⟩ (fun v203 st204 h => ?_)
          refine JD.read (i := 5) [true, true] rfl (by kernel_rfl) (by kernel_rfl) (by kernel_rfl) (by kernel_rfl) (.none rfl) rfl rfl (.lookup rfl rfl) h trivial (fun v205 st206 h => ?_)
          refine JD.sPure (i := 6) [true, true, true] rfl (by kernel_rfl) (by kernel_rfl) (by kernel_rfl) (by kernel_rfl) (.none rfl) rfl rfl (.field rfl) h trivial (fun vx207 h => ?_)
          obtain ⟨x207, rfl, h⟩ := h
          refine JD.pure_ (i := 7) [false, false, false] rfl (by kernel_rfl) (by kernel_rfl) (by kernel_rfl) (by kernel_rfl) (.none rfl) rfl rfl (.move rfl) ⟨st206, st204, st202, trivial⟩ ?_
          refine JD.one (j := 8) (by kernel_rfl) ?_
          refine JD1.exC [true, true, true] rfl (by kernel_rfl) (.none rfl) rfl rfl (.func (vs := [(.int .i64 x207), (.int .i64 a3)]) en_35 rfl) h (fun v208 w h => ?_)
          refine ⟨trivial, ?_⟩
          refine JD.pure_ (i := 9) [] rfl (by kernel_rfl) (by kernel_rfl) (by kernel_rfl) (by kernel_rfl) (.none rfl) rfl rfl (.move rfl) trivial ?_
          refine JD.sPure (i := 10) [] rfl (by kernel_rfl) (by kernel_rfl) (by kernel_rfl) (by kernel_rfl) (.none rfl) rfl rfl (.extract rfl) h trivial (fun vx209 h => ?_)
          obtain ⟨x209, rfl, h⟩ := h
          refine JD.sPure (i := 11) [] rfl (by kernel_rfl) (by kernel_rfl) (by kernel_rfl) (by kernel_rfl) (.none rfl) rfl rfl (.extract rfl) h trivial (fun vb210 h => ?_)
          obtain ⟨b210, rfl, h⟩ := h
          refine JD.pure_ (i := 12) [] rfl (by kernel_rfl) (by kernel_rfl) (by kernel_rfl) (by kernel_rfl) (.none rfl) rfl rfl (.assign rfl) trivial ?_
          refine JD.pure_ (i := 13) [] rfl (by kernel_rfl) (by kernel_rfl) (by kernel_rfl) (by kernel_rfl) (.none rfl) rfl rfl (.assign rfl) trivial ?_
          refine JD.done (by kernel_rfl) ?_
          refine JX.then ?_
          refine J.seq ?_
          refine J.region ?_
          refine JL.exP (.none rfl) rfl rfl (.move rfl) ?_
          refine JL.exP (.none rfl) rfl rfl (.not rfl) ?_
          refine JL.nil ?_
          refine JX.then ?_
          refine J.cond (b := _) rfl h (fun h => ?_) (fun h => ?_)
          · refine J.seq ?_
            refine J.region ?_
            refine JL.exP (.none rfl) rfl rfl (.assign rfl) ?_
            refine JL.nil ?_
            refine JX.then ?_
            refine J.ret ?_
            refine JX.thenRet ?_
            exact JX.ret1 rfl rfl h
          · refine J.skip ?_
            refine JX.then ?_
            refine J.seq ?_
            refine J.region ?_
            refine JL.exP (.none rfl) rfl rfl (.move rfl) ?_
            refine JL.exV (.none rfl) rfl rfl (.load rfl) h (fun v211 w h => ?_)
            refine JL.exP (.none rfl) rfl rfl (.move rfl) ?_
            refine JL.exP (.none rfl) rfl rfl (.neg rfl) ?_
            refine JL.exC (.none rfl) rfl rfl (.func (vs := [a0, v211, (.int .i64 (IntKind.i64.wrap (0 - a3)))]) en_36 rfl) h (fun v212 w h => ?_)
            refine JL.nil ?_
            refine JX.then ?_
            refine J.seq ?_
            refine J.region ?_
            refine JL.exP (.none rfl) rfl rfl (.move rfl) ?_
            refine JL.exV (.none rfl) rfl rfl (.load rfl) h (fun v213 w h => ?_)
            refine JL.exP (.none rfl) rfl rfl (.move rfl) ?_
            refine JL.exC (.none rfl) rfl rfl (.func (vs := [a0, v213, (.int .i64 a3)]) en_36 rfl) h (fun v214 w h => ?_)
            refine JL.nil ?_
            refine JX.then ?_
            refine J.seq ?_
            refine J.draw [[], [], [1], [1, 2], [1, 2, 3], [], [], [], [5, 6, 7], [5, 6, 7, 8], [1, 2, 3, 4, 5, 6, 7, 8, 9], [0, 1, 2, 3, 4, 5, 6, 7, 8, 9, 10], [0, 1, 2, 3, 4, 5, 6, 7, 8, 9, 10, 11], [0, 1, 2, 3, 4, 5, 6, 7, 8, 9, 10, 11, 12]] (by kernel_rfl) mixed h (fun w h => ?_)
            refine JD.pure_ (i := 0) [] rfl (by kernel_rfl) (by kernel_rfl) (by kernel_rfl) (by kernel_rfl) (.none rfl) rfl rfl (.move rfl) trivial ?_
            refine JD.pure_ (i := 1) [] rfl (by kernel_rfl) (by kernel_rfl) (by kernel_rfl) (by kernel_rfl) (.none rfl) rfl rfl (.move rfl) trivial ?_
            obtain ⟨p215, hp215, h⟩ := h
            refine JD.pure_ (i := 2) [] rfl (by kernel_rfl) (by kernel_rfl) (by kernel_rfl) (by kernel_rfl) (.none rfl) rfl rfl (.nilCheck rfl hp215) trivial ?_
            refine JD.pure_ (i := 3) [] rfl (by kernel_rfl) (by kernel_rfl) (by kernel_rfl) (by kernel_rfl) (.none rfl) rfl rfl (.fieldAddr rfl (fa_79_1 _)) trivial ?_
            refine JD.read (i := 4) [] rfl (by kernel_rfl) (by kernel_rfl) (by kernel_rfl) (by kernel_rfl) (.none rfl) rfl rfl (.load rfl) h trivial (fun v216 st217 h => ?_)
            refine JD.read (i := 5) [false] rfl (by kernel_rfl) (by kernel_rfl) (by kernel_rfl) (by kernel_rfl) (.none rfl) rfl rfl (.load rfl) h ⟨st217, trivial⟩ (fun v218 st219 h => ?_)
            refine JD.read (i := 6) [false, false] rfl (by kernel_rfl) (by kernel_rfl) (by kernel_rfl) (by kernel_rfl) (.none rfl) rfl rfl (.load rfl) h ⟨st219, st217, trivial⟩ (fun v220 st221 h => ?_)
            refine JD.pure_ (i := 7) [false, false, false] rfl (by kernel_rfl) (by kernel_rfl) (by kernel_rfl) (by kernel_rfl) (.none rfl) rfl rfl (.move rfl) ⟨st221, st219, st217, trivial⟩ ?_
            refine JD.sPure (i := 8) [true, true, false] rfl (by kernel_rfl) (by kernel_rfl) (by kernel_rfl) (by kernel_rfl) (.none rfl) rfl rfl ((.build (l' := [(0, v218), (1, v220), (2, (.int .i64 a3))]) rfl)) h ⟨st217, trivial⟩ (fun v222 h => ?_)
            refine JD.one (j := 9) (by kernel_rfl) ?_
            refine JD1.exV [true, true, false] rfl (by kernel_rfl) (.none rfl) rfl rfl ((.buildSlice (l' := [(0, v222)]) rfl)) h (fun v224 w h => ?_)
            obtain ⟨st223, h⟩ := h
            refine ⟨⟨st223, trivial⟩, ?_⟩
            refine JD.one (j := 10) (by kernel_rfl) ?_
            refine JD1.exV [true] rfl (by kernel_rfl) (.none rfl) rfl rfl ((.append (vs := [v216, v224]) rfl)) h (fun v225 w h => ?_)
            refine ⟨trivial, ?_⟩
            obtain ⟨p226, hp226, h⟩ := h
            refine JD.pure_ (i := 11) [] rfl (by kernel_rfl) (by kernel_rfl) (by kernel_rfl) (by kernel_rfl) (.none rfl) rfl rfl (.nilCheck rfl hp226) trivial ?_
            refine JD.pure_ (i := 12) [] rfl (by kernel_rfl) (by kernel_rfl) (by kernel_rfl) (by kernel_rfl) (.none rfl) rfl rfl (.fieldAddr rfl (fa_79_1 _)) trivial ?_
            refine JD.one (j := 13) (by kernel_rfl) ?_
            refine JD1.exU [] rfl (by kernel_rfl) (.none rfl) rfl (.store rfl rfl) h (fun w h => ?_)
            refine ⟨trivial, ?_⟩
            refine JD.done (by kernel_rfl) ?_
            refine JX.then ?_
            refine J.seq ?_
            refine J.region ?_
            refine JL.exP (.none rfl) rfl rfl (.assign rfl) ?_
            refine JL.nil ?_
            refine JX.then ?_
            refine J.ret ?_
            exact JX.ret1 rfl rfl h

/-- (*cabstand/ledger.Ledger).All -/
def ledger_Ledger_All (a0 : Value) (a1 : Value) (K : Value → WP) : WP :=
  callB Try.prog 34 #[a0] fun b227 =>
  iteH (!b227) (
    K (.tuple #[(.int .i64 0), (.int .i64 2)])) (
    semV Try.prog (Instr.makeMap 76 none) fun v228 =>
    asP a0 fun p229 =>
    semV Try.prog (loadVar 76 (p229.add 0)) fun v230 =>
    semV Try.prog (Instr.range 76 v230) fun v231 =>
    loopH (σ := Unit) (fun kc233 s232 =>
      semV Try.prog (Instr.next v231 false 0) fun v234 =>
      pureB Try.prog (Instr.extract v234 0) fun b235 =>
      iteH b235 (
        semV Try.prog (Instr.entry v231) fun v236 =>
        pureV Try.prog (Instr.extract v236 0) fun v237 =>
        pureV Try.prog (Instr.extract v236 1) fun v238 =>
        semA Try.prog (Instr.alloc 28 true (.tuple #[])) fun p239 =>
        semA Try.prog (Instr.alloc 86 true (.tuple #[])) fun p240 =>
        semU Try.prog (storeVar 28 p239 v237) <|
        semU Try.prog (storeVar 86 p240 v238) <|
        semV Try.prog (loadVar 28 p239) fun v241 =>
        semV Try.prog (loadVar 86 p240) fun v242 =>
        semU Try.prog (Instr.mapUpdate 76 v228 v241 v242) <|
        kc233 ()) (
        asP a0 fun p243 =>
        semV Try.prog (loadVar 77 (p243.add 1)) fun v244 =>
        pureI Try.prog .i64 (Builtin.len_ #[77] 3 #[v244]) fun x245 =>
        pureI Try.prog .i64 (Builtin.len_ #[77] 3 #[a1]) fun x246 =>
        loopH (σ := Int × Int × Int) (fun kc248 s247 =>
          iteH (decide (s247.2.2 < x246)) (
            pureA Try.prog (Instr.indexAt 77 a1 (.int .i64 s247.2.2)) fun p249 =>
            semV Try.prog (loadVar 82 p249) fun v250 =>
            semA Try.prog (Instr.alloc 82 true (.tuple #[])) fun p251 =>
            semU Try.prog (storeVar 82 p251 v250) <|
            semV Try.prog (loadVar 28 (p251.add 0)) fun v252 =>
            semV Try.prog (loadVar 28 (p251.add 8)) fun v253 =>
            semI Try.prog .i64 (loadVar 3 (p251.add 16)) fun x254 =>
            callI Try.prog 12 #[a0, v252, v253, (.int .i64 x254)] .i64 fun x255 =>
            iteH ((x255 : Int) != 0) (
              drawH <|
              asP a0 fun p256 =>
              readV Try.prog (loadVar 77 (p256.add 1)) fun v257 =>
              pureV Try.prog (Instr.sliceAt 77 v257 none (some (.int .i64 x245)) (some (.int .i64 x245))) fun v259 =>
              asP a0 fun p260 =>
              semU Try.prog (storeVar 76 (p260.add 0) v228) <|
              asP a0 fun p261 =>
              semU Try.prog (storeVar 77 (p261.add 1) v259) <|
              K (.tuple #[(.int .i64 s247.2.2), (.int .i64 x255)])) (
              kc248 (s247.1, s247.2.1, (IntKind.i64.wrap (s247.2.2 + 1))))) (
            K (.tuple #[(.int .i64 0), (.int .i64 0)]))) (0, 0, 0))) ())
set_option maxRecDepth 100000 in
set_option maxHeartbeats 1000000 in
theorem ledger_Ledger_All_ok {a0 : Value} {a1 : Value} {K : Value → WP} {w : World} (h : ledger_Ledger_All a0 a1 K w) : callH Try.prog 13 #[a0, a1] K w := by
  refine enter (l := [a0, a1]) Try.func13 rfl rfl rfl ?_
  show J Try.prog 69 [(0, a0), (1, a1)] _ _ _
  unfold ledger_Ledger_All at h
  refine J.seq ?_
  refine J.region ?_
  refine JL.exP (.none rfl) rfl rfl (.assign rfl) ?_
  refine JL.exP (.none rfl) rfl rfl (.assign rfl) ?_
  refine JL.nil ?_
  refine JX.then ?_
  refine J.seq ?_
  refine J.seq ?_
  refine J.region ?_
  refine JL.exP (.none rfl) rfl rfl (.move rfl) ?_
  refine JL.exC (.none rfl) rfl rfl (.func (vs := [a0]) en_34 rfl) h (fun vb227 w h => ?_)
  obtain ⟨b227, rfl, h⟩ := h
  refine JL.exP (.none rfl) rfl rfl (.not rfl) ?_
  refine JL.nil ?_
  refine JX.then ?_
  refine J.cond (b := _) rfl h (fun h => ?_) (fun h => ?_)
  · refine J.seq ?_
    refine J.region ?_
    refine JL.exP (.none rfl) rfl rfl (.assign rfl) ?_
    refine JL.exP (.none rfl) rfl rfl (.assign rfl) ?_
    refine JL.nil ?_
    refine JX.then ?_
    refine J.ret ?_
    refine JX.thenRet ?_
    exact JX.ret2 rfl rfl rfl h
  · refine J.skip ?_
    refine JX.then ?_
    refine J.seq ?_
    refine J.region ?_
    refine JL.exV (.none rfl) rfl rfl (.makeMap) h (fun v228 w h => ?_)
    refine JL.exP (.none rfl) rfl rfl (.assign rfl) ?_
    refine JL.nil ?_
    refine JX.then ?_
    refine J.seq ?_
    refine J.seq ?_
    refine J.region ?_
    refine JL.exP (.none rfl) rfl rfl (.move rfl) ?_
    obtain ⟨p229, hp229, h⟩ := h
    refine JL.exP (.none rfl) rfl rfl (.nilCheck rfl hp229) ?_
    refine JL.exP (.none rfl) rfl rfl (.fieldAddr rfl (fa_79_0 _)) ?_
    refine JL.exV (.none rfl) rfl rfl (.load rfl) h (fun v230 w h => ?_)
    refine JL.exV (.none rfl) rfl rfl (.range rfl) h (fun v231 w h => ?_)
    refine JL.nil ?_
    refine JX.then ?_
    refine J.block ?_
    refine J.loop h (fun s232 => [(0, a0), (1, a1), (4, (.int .i64 0)), (5, (.int .i64 0)), (6, v228), (21, v231)]) ⟨rfl, rfl, rfl, rfl, rfl, rfl, trivial⟩ (fun I μ s232 w h => ?_)
    refine J.seq ?_
    refine J.region ?_
    refine JL.exV (.none rfl) rfl rfl (.next rfl) h (fun v234 w h => ?_)
    refine JL.sPure (.none rfl) rfl rfl (.extract rfl) h (fun vb235 w h => ?_)
    obtain ⟨b235, rfl, h⟩ := h
    refine JL.nil ?_
    refine JX.then ?_
    refine J.seq ?_
    refine J.cond (b := _) rfl h (fun h => ?_) (fun h => ?_)
    · refine J.skip ?_
      refine JX.then ?_
      refine J.block ?_
      refine J.seq ?_
      refine J.region ?_
      refine JL.exV (.none rfl) rfl rfl (.entry rfl) h (fun v236 w h => ?_)
      refine JL.sPure (.none rfl) rfl rfl (.extract rfl) h (fun v237 w h => ?_)
      refine JL.sPure (.none rfl) rfl rfl (.extract rfl) h (fun v238 w h => ?_)
      refine JL.exV (.none rfl) rfl rfl (.alloc) h (fun vp239 w h => ?_)
      obtain ⟨p239, rfl, h⟩ := h
      refine JL.exV (.none rfl) rfl rfl (.alloc) h (fun vp240 w h => ?_)
      obtain ⟨p240, rfl, h⟩ := h
      refine JL.exU (.none rfl) rfl (.store rfl rfl) h (fun w h => ?_)
      refine JL.exU (.none rfl) rfl (.store rfl rfl) h (fun w h => ?_)
      refine JL.nil ?_
      refine JX.then ?_
      refine J.region ?_
      refine JL.exP (.none rfl) rfl rfl (.move rfl) ?_
      refine JL.exV (.none rfl) rfl rfl (.load rfl) h (fun v241 w h => ?_)
      refine JL.exV (.none rfl) rfl rfl (.load rfl) h (fun v242 w h => ?_)
      refine JL.exU (.none rfl) rfl (.mapUpdate rfl rfl rfl) h (fun w h => ?_)
      refine JL.nil ?_
      refine JX.blockNormal ?_
      exact JX.loopEnd h ⟨rfl, rfl, rfl, rfl, rfl, rfl, trivial⟩
    · refine J.exit ?_
      refine JX.thenExit ?_
      refine JX.thenExit ?_
      refine JX.blockHere ?_
      refine JX.then ?_
      refine J.seq ?_
      refine J.region ?_
      refine JL.exP (.none rfl) rfl rfl (.move rfl) ?_
      obtain ⟨p243, hp243, h⟩ := h
      refine JL.exP (.none rfl) rfl rfl (.nilCheck rfl hp243) ?_
      refine JL.exP (.none rfl) rfl rfl (.fieldAddr rfl (fa_79_1 _)) ?_
      refine JL.exV (.none rfl) rfl rfl (.load rfl) h (fun v244 w h => ?_)
      refine JL.sPure (.none rfl) rfl rfl ((.len (vs := [v244]) rfl)) h (fun vx245 w h => ?_)
      obtain ⟨x245, rfl, h⟩ := h
      refine JL.exP (.none rfl) rfl rfl (.assign rfl) ?_
      refine JL.nil ?_
      refine JX.then ?_
      refine J.seq ?_
      refine J.seq ?_
      refine J.region ?_
      refine JL.exP (.none rfl) rfl rfl (.move rfl) ?_
      refine JL.sPure (.none rfl) rfl rfl ((.len (vs := [a1]) rfl)) h (fun vx246 w h => ?_)
      obtain ⟨x246, rfl, h⟩ := h
      refine JL.exP (.none rfl) rfl rfl (.move rfl) ?_
      refine JL.nil ?_
      refine JX.then ?_
      refine J.block ?_
      refine J.loop h (fun s247 => [(0, a0), (4, (.int .i64 s247.1)), (5, (.int .i64 s247.2.1)), (6, v228), (9, (.int .i64 x245)), (35, a1), (36, (.int .i64 x246)), (37, (.int .i64 s247.2.2))]) ⟨rfl, rfl, rfl, rfl, rfl, rfl, rfl, rfl, trivial⟩ (fun I μ s247 w h => ?_)
      refine J.seq ?_
      refine J.region ?_
      refine JL.exP (.none rfl) rfl rfl (.lss rfl rfl) ?_
      refine JL.nil ?_
      refine JX.then ?_
      refine J.seq ?_
      refine J.cond (b := _) rfl h (fun h => ?_) (fun h => ?_)
      · refine J.skip ?_
        refine JX.then ?_
        refine J.seq ?_
        refine J.block ?_
        refine J.seq ?_
        refine J.region ?_
        refine JL.exP (.none rfl) rfl rfl (.move rfl) ?_
        refine JL.sPure (.none rfl) rfl rfl (.indexAddr rfl rfl) h (fun vp249 w h => ?_)
        obtain ⟨p249, rfl, h⟩ := h
        refine JL.exV (.none rfl) rfl rfl (.load rfl) h (fun v250 w h => ?_)
        refine JL.exV (.none rfl) rfl rfl (.alloc) h (fun vp251 w h => ?_)
        obtain ⟨p251, rfl, h⟩ := h
        refine JL.exP (.none rfl) rfl rfl (.assign rfl) ?_
        refine JL.exU (.none rfl) rfl (.store rfl rfl) h (fun w h => ?_)
        refine JL.nil ?_
        refine JX.then ?_
        refine J.seq ?_
        refine J.region ?_
        refine JL.exP (.none rfl) rfl rfl (.move rfl) ?_
        refine JL.exP (.none rfl) rfl rfl (.fieldAddr rfl (fa_82_0 _)) ?_
        refine JL.exV (.none rfl) rfl rfl (.load rfl) h (fun v252 w h => ?_)
        refine JL.exP (.none rfl) rfl rfl (.fieldAddr rfl (fa_82_1 _)) ?_
        refine JL.exV (.none rfl) rfl rfl (.load rfl) h (fun v253 w h => ?_)
        refine JL.exP (.none rfl) rfl rfl (.fieldAddr rfl (fa_82_2 _)) ?_
        refine JL.exV (.none rfl) rfl rfl (.load rfl) h (fun vx254 w h => ?_)
        obtain ⟨x254, rfl, h⟩ := h
        refine JL.exC (.none rfl) rfl rfl (.func (vs := [a0, v252, v253, (.int .i64 x254)]) en_12 rfl) h (fun vx255 w h => ?_)
        obtain ⟨x255, rfl, h⟩ := h
        refine JL.exP (.none rfl) rfl rfl (.assign rfl) ?_
        refine JL.nil ?_
        refine JX.then ?_
        refine J.seq ?_
        refine J.region ?_
        refine JL.exP (.none rfl) rfl rfl (.move rfl) ?_
        refine JL.exP (.none rfl) rfl rfl (.neq rfl rfl) ?_
        refine JL.nil ?_
        refine JX.then ?_
        refine J.cond (b := _) rfl h (fun h => ?_) (fun h => ?_)
        · refine J.seq ?_
          refine J.draw [[], [], [], [], [3], [3, 4], [3, 4, 5], [], [], [3, 4, 5, 6, 7, 8], [0, 2, 3, 4, 5, 6], [0, 2, 3, 4, 5, 6, 10], [0, 2, 3, 4, 5, 6, 10, 11], [0, 1, 2, 3, 4, 5, 6, 7, 8, 9, 10, 11, 12], [0, 1, 2, 3, 4, 5, 6, 7, 8, 9, 10, 11, 12, 13], [0, 1, 2, 3, 4, 5, 6, 7, 8, 9, 10, 11, 12, 13, 14]] (by kernel_rfl) mixed h (fun w h => ?_)
          refine JD.pure_ (i := 0) [] rfl (by kernel_rfl) (by kernel_rfl) (by kernel_rfl) (by kernel_rfl) (.none rfl) rfl rfl (.move rfl) trivial ?_
          refine JD.pure_ (i := 1) [] rfl (by kernel_rfl) (by kernel_rfl) (by kernel_rfl) (by kernel_rfl) (.none rfl) rfl rfl (.move rfl) trivial ?_
          refine JD.pure_ (i := 2) [] rfl (by kernel_rfl) (by kernel_rfl) (by kernel_rfl) (by kernel_rfl) (.none rfl) rfl rfl (.move rfl) trivial ?_
          refine JD.pure_ (i := 3) [] rfl (by kernel_rfl) (by kernel_rfl) (by kernel_rfl) (by kernel_rfl) (.none rfl) rfl rfl (.move rfl) trivial ?_
          obtain ⟨p256, hp256, h⟩ := h
          refine JD.pure_ (i := 4) [] rfl (by kernel_rfl) (by kernel_rfl) (by kernel_rfl) (by kernel_rfl) (.none rfl) rfl rfl (.nilCheck rfl hp256) trivial ?_
          refine JD.pure_ (i := 5) [] rfl (by kernel_rfl) (by kernel_rfl) (by kernel_rfl) (by kernel_rfl) (.none rfl) rfl rfl (.fieldAddr rfl (fa_79_1 _)) trivial ?_
          refine JD.read (i := 6) [] rfl (by kernel_rfl) (by kernel_rfl) (by kernel_rfl) (by kernel_rfl) (.none rfl) rfl rfl (.load rfl) h trivial (fun v257 st258 h => ?_)
          refine JD.pure_ (i := 7) [false] rfl (by kernel_rfl) (by kernel_rfl) (by kernel_rfl) (by kernel_rfl) (.none rfl) rfl rfl (.move rfl) ⟨st258, trivial⟩ ?_
          refine JD.pure_ (i := 8) [false] rfl (by kernel_rfl) (by kernel_rfl) (by kernel_rfl) (by kernel_rfl) (.none rfl) rfl rfl (.move rfl) ⟨st258, trivial⟩ ?_
          refine JD.sPure (i := 9) [true] rfl (by kernel_rfl) (by kernel_rfl) (by kernel_rfl) (by kernel_rfl) (.none rfl) rfl rfl (.slice rfl rfl rfl rfl) h trivial (fun v259 h => ?_)
          obtain ⟨p260, hp260, h⟩ := h
          refine JD.pure_ (i := 10) [true] rfl (by kernel_rfl) (by kernel_rfl) (by kernel_rfl) (by kernel_rfl) (.none rfl) rfl rfl (.nilCheck rfl hp260) trivial ?_
          refine JD.pure_ (i := 11) [true] rfl (by kernel_rfl) (by kernel_rfl) (by kernel_rfl) (by kernel_rfl) (.none rfl) rfl rfl (.fieldAddr rfl (fa_79_0 _)) trivial ?_
          refine JD.one (j := 12) (by kernel_rfl) ?_
          refine JD1.exU [true] rfl (by kernel_rfl) (.none rfl) rfl (.store rfl rfl) h (fun w h => ?_)
          refine ⟨trivial, ?_⟩
          obtain ⟨p261, hp261, h⟩ := h
          refine JD.pure_ (i := 13) [] rfl (by kernel_rfl) (by kernel_rfl) (by kernel_rfl) (by kernel_rfl) (.none rfl) rfl rfl (.nilCheck rfl hp261) trivial ?_
          refine JD.pure_ (i := 14) [] rfl (by kernel_rfl) (by kernel_rfl) (by kernel_rfl) (by kernel_rfl) (.none rfl) rfl rfl (.fieldAddr rfl (fa_79_1 _)) trivial ?_
          refine JD.one (j := 15) (by kernel_rfl) ?_
          refine JD1.exU [] rfl (by kernel_rfl) (.none rfl) rfl (.store rfl rfl) h (fun w h => ?_)
          refine ⟨trivial, ?_⟩
          refine JD.done (by kernel_rfl) ?_
          refine JX.then ?_
          refine J.seq ?_
          refine J.region ?_
          refine JL.exP (.none rfl) rfl rfl (.move rfl) ?_
          refine JL.exP (.none rfl) rfl rfl (.move rfl) ?_
          refine JL.exP (.none rfl) rfl rfl (.assign rfl) ?_
          refine JL.exP (.none rfl) rfl rfl (.assign rfl) ?_
          refine JL.nil ?_
          refine JX.then ?_
          refine J.ret ?_
          refine JX.blockRet ?_
          refine JX.thenRet ?_
          refine JX.thenRet ?_
          refine JX.blockRet ?_
          refine JX.thenRet ?_
          exact JX.ret2 rfl rfl rfl h
        · refine J.skip ?_
          refine JX.blockNormal ?_
          refine JX.then ?_
          refine J.region ?_
          refine JL.exP (.none rfl) rfl rfl (.add rfl rfl) ?_
          refine JL.exP (.none rfl) rfl rfl (.move rfl) ?_
          refine JL.nil ?_
          exact JX.loopEnd h ⟨rfl, rfl, rfl, rfl, rfl, rfl, rfl, rfl, trivial⟩
      · refine J.exit ?_
        refine JX.thenExit ?_
        refine JX.thenExit ?_
        refine JX.blockHere ?_
        refine JX.then ?_
        refine J.seq ?_
        refine J.region ?_
        refine JL.exP (.none rfl) rfl rfl (.assign rfl) ?_
        refine JL.exP (.none rfl) rfl rfl (.assign rfl) ?_
        refine JL.nil ?_
        refine JX.then ?_
        refine J.ret ?_
        exact JX.ret2 rfl rfl rfl h

/-- (*cabstand/ledger.Ledger).Balance -/
def ledger_Ledger_Balance (a0 : Value) (a1 : Value) (K : Value → WP) : WP :=
  semA Try.prog (Instr.box 28 a1) fun p262 =>
  callB Try.prog 34 #[a0] fun b263 =>
  iteH (!b263) (
    K (.int .i64 0)) (
    drawH <|
    asP a0 fun p264 =>
    readV Try.prog (loadVar 76 (p264.add 0)) fun v265 =>
    readV Try.prog (loadVar 28 p262) fun v267 =>
    readV Try.prog (Instr.lookup 76 v265 v267 false) fun v269 =>
    pureI Try.prog .i64 (Instr.field 86 v269 0) fun x271 =>
    K (.int .i64 x271))
set_option maxRecDepth 100000 in
set_option maxHeartbeats 1000000 in
theorem ledger_Ledger_Balance_ok {a0 : Value} {a1 : Value} {K : Value → WP} {w : World} (h : ledger_Ledger_Balance a0 a1 K w) : callH Try.prog 14 #[a0, a1] K w := by
  refine enter (l := [a0, a1]) Try.func14 rfl rfl rfl ?_
  show J Try.prog 15 [(0, a0), (1, a1)] _ _ _
  unfold ledger_Ledger_Balance at h
  refine J.seq ?_
  refine J.region ?_
  refine JL.exV (.none rfl) rfl rfl (.box rfl) h (fun vp262 w h => ?_)
  obtain ⟨p262, rfl, h⟩ := h
  refine JL.exP (.none rfl) rfl rfl (.assign rfl) ?_
  refine JL.nil ?_
  refine JX.then ?_
  refine J.seq ?_
  refine J.seq ?_
  refine J.region ?_
  refine JL.exP (.none rfl) rfl rfl (.move rfl) ?_
  refine JL.exC (.none rfl) rfl rfl (.func (vs := [a0]) en_34 rfl) h (fun vb263 w h => ?_)
  obtain ⟨b263, rfl, h⟩ := h
  refine JL.exP (.none rfl) rfl rfl (.not rfl) ?_
  refine JL.nil ?_
  refine JX.then ?_
  refine J.cond (b := _) rfl h (fun h => ?_) (fun h => ?_)
  · refine J.seq ?_
    refine J.region ?_
    refine JL.exP (.none rfl) rfl rfl (.assign rfl) ?_
    refine JL.nil ?_
    refine JX.then ?_
    refine J.ret ?_
    refine JX.thenRet ?_
    exact JX.ret1 rfl rfl h
  · refine J.skip ?_
    refine JX.then ?_
    refine J.seq ?_
    refine J.draw [[], [0], [0, 1], [0, 1, 2], [], [0, 1, 2, 3, 4], [0, 1, 2, 3, 4, 5], [0, 1, 2, 3, 4, 5, 6]] (by kernel_rfl) mixed h (fun w h => ?_)
    refine JD.pure_ (i := 0) [] rfl (by kernel_rfl) (by kernel_rfl) (by kernel_rfl) (by kernel_rfl) (.none rfl) rfl rfl (.move rfl) trivial ?_
    obtain ⟨p264, hp264, h⟩ := h
    refine JD.pure_ (i := 1) [] rfl (by kernel_rfl) (by kernel_rfl) (by kernel_rfl) (by kernel_rfl) (.none rfl) rfl rfl (.nilCheck rfl hp264) trivial ?_
    refine JD.pure_ (i := 2) [] rfl (by kernel_rfl) (by kernel_rfl) (by kernel_rfl) (by kernel_rfl) (.none rfl) rfl rfl (.fieldAddr rfl (fa_79_0 _)) trivial ?_
    refine JD.read (i := 3) [] rfl (by kernel_rfl) (by kernel_rfl) (by kernel_rfl) (by kernel_rfl) (.none rfl) rfl rfl (.load rfl) h trivial (fun v265 st266 h => ?_)
    refine JD.read (i := 4) [false] rfl (by kernel_rfl) (by kernel_rfl) (by kernel_rfl) (by kernel_rfl) (.none rfl) rfl rfl (.load rfl) h ⟨st266, trivial⟩ (fun v267 st268 h => ?_)
    refine JD.read (i := 5) [true, true] rfl (by kernel_rfl) (by kernel_rfl) (by kernel_rfl) (by kernel_rfl) (.none rfl) rfl rfl (.lookup rfl rfl) h trivial (fun v269 st270 h => ?_)
    refine JD.sPure (i := 6) [true, true, true] rfl (by kernel_rfl) (by kernel_rfl) (by kernel_rfl) (by kernel_rfl) (.none rfl) rfl rfl (.field rfl) h trivial (fun vx271 h => ?_)
    obtain ⟨x271, rfl, h⟩ := h
    refine JD.pure_ (i := 7) [true, true, true] rfl (by kernel_rfl) (by kernel_rfl) (by kernel_rfl) (by kernel_rfl) (.none rfl) rfl rfl (.assign rfl) trivial ?_
    refine JD.done (by kernel_rfl) ?_
    refine JX.then ?_
    refine J.ret ?_
    exact JX.ret1 rfl rfl h

/-- (*cabstand/ledger.Ledger).Accounts -/
def ledger_Ledger_Accounts (a0 : Value) (K : Value → WP) : WP :=
  pureB Try.prog (eqM .eql 22 (.tmp 5) (.const (.pointer none)) a0 (.pointer none)) fun b272 =>
  iteH b272 (
    K (.slice none 0 0)) (
    asP a0 fun p273 =>
    semV Try.prog (loadVar 76 (p273.add 0)) fun v274 =>
    semV Try.prog (Instr.range 76 v274) fun v275 =>
    loopH (σ := Value) (fun kc277 s276 =>
      semV Try.prog (Instr.next v275 false 0) fun v278 =>
      pureB Try.prog (Instr.extract v278 0) fun b279 =>
      iteH b279 (
        semV Try.prog (Instr.entry v275) fun v280 =>
        pureV Try.prog (Instr.extract v280 0) fun v281 =>
        semA Try.prog (Instr.alloc 28 true (.tuple #[])) fun p282 =>
        semU Try.prog (storeVar 28 p282 v281) <|
        semV Try.prog (loadVar 28 p282) fun v283 =>
        semV Try.prog (Instr.buildSlice 34 1 #[(0, v283)]) fun v284 =>
        semV Try.prog (Builtin.append_ #[34, 34] 34 #[s276, v284]) fun v285 =>
        kc277 v285) (
        callH Try.prog 37 #[s276, (.func (.func 38) #[] #[])] fun v286 =>
        K s276)) (.slice none 0 0))
set_option maxRecDepth 100000 in
set_option maxHeartbeats 1000000 in
theorem ledger_Ledger_Accounts_ok {a0 : Value} {K : Value → WP} {w : World} (h : ledger_Ledger_Accounts a0 K w) : callH Try.prog 15 #[a0] K w := by
  refine enter (l := [a0]) Try.func15 rfl rfl rfl ?_
  show J Try.prog 23 [(0, a0)] _ _ _
  unfold ledger_Ledger_Accounts at h
  refine J.seq ?_
  refine J.region ?_
  refine JL.exP (.none rfl) rfl rfl (.assign rfl) ?_
  refine JL.nil ?_
  refine JX.then ?_
  refine J.seq ?_
  refine J.seq ?_
  refine J.region ?_
  refine JL.exP (.none rfl) rfl rfl (.move rfl) ?_
  refine JL.sPure (.none rfl) rfl rfl (.binOp rfl rfl) h (fun vb272 w h => ?_)
  obtain ⟨b272, rfl, h⟩ := h
  refine JL.nil ?_
  refine JX.then ?_
  refine J.cond (b := _) rfl h (fun h => ?_) (fun h => ?_)
  · refine J.seq ?_
    refine J.region ?_
    refine JL.exP (.none rfl) rfl rfl (.assign rfl) ?_
    refine JL.nil ?_
    refine JX.then ?_
    refine J.ret ?_
    refine JX.thenRet ?_
    exact JX.ret1 rfl rfl h
  · refine J.skip ?_
    refine JX.then ?_
    refine J.seq ?_
    refine J.region ?_
    refine JL.exP (.none rfl) rfl rfl (.assign rfl) ?_
    refine JL.nil ?_
    refine JX.then ?_
    refine J.seq ?_
    refine J.seq ?_
    refine J.region ?_
    refine JL.exP (.none rfl) rfl rfl (.move rfl) ?_
    obtain ⟨p273, hp273, h⟩ := h
    refine JL.exP (.none rfl) rfl rfl (.nilCheck rfl hp273) ?_
    refine JL.exP (.none rfl) rfl rfl (.fieldAddr rfl (fa_79_0 _)) ?_
    refine JL.exV (.none rfl) rfl rfl (.load rfl) h (fun v274 w h => ?_)
    refine JL.exV (.none rfl) rfl rfl (.range rfl) h (fun v275 w h => ?_)
    refine JL.nil ?_
    refine JX.then ?_
    refine J.block ?_
    refine J.loop h (fun s276 => [(2, (.slice none 0 0)), (3, s276), (11, v275)]) ⟨rfl, rfl, rfl, trivial⟩ (fun I μ s276 w h => ?_)
    refine J.seq ?_
    refine J.region ?_
    refine JL.exV (.none rfl) rfl rfl (.next rfl) h (fun v278 w h => ?_)
    refine JL.sPure (.none rfl) rfl rfl (.extract rfl) h (fun vb279 w h => ?_)
    obtain ⟨b279, rfl, h⟩ := h
    refine JL.nil ?_
    refine JX.then ?_
    refine J.seq ?_
    refine J.cond (b := _) rfl h (fun h => ?_) (fun h => ?_)
    · refine J.skip ?_
      refine JX.then ?_
      refine J.block ?_
      refine J.seq ?_
      refine J.region ?_
      refine JL.exV (.none rfl) rfl rfl (.entry rfl) h (fun v280 w h => ?_)
      refine JL.sPure (.none rfl) rfl rfl (.extract rfl) h (fun v281 w h => ?_)
      refine JL.exV (.none rfl) rfl rfl (.alloc) h (fun vp282 w h => ?_)
      obtain ⟨p282, rfl, h⟩ := h
      refine JL.exU (.none rfl) rfl (.store rfl rfl) h (fun w h => ?_)
      refine JL.nil ?_
      refine JX.then ?_
      refine J.region ?_
      refine JL.exP (.none rfl) rfl rfl (.move rfl) ?_
      refine JL.exV (.none rfl) rfl rfl (.load rfl) h (fun v283 w h => ?_)
      refine JL.exV (.none rfl) rfl rfl ((.buildSlice (l' := [(0, v283)]) rfl)) h (fun v284 w h => ?_)
      refine JL.exV (.none rfl) rfl rfl ((.append (vs := [s276, v284]) rfl)) h (fun v285 w h => ?_)
      refine JL.exP (.none rfl) rfl rfl (.assign rfl) ?_
      refine JL.nil ?_
      refine JX.blockNormal ?_
      exact JX.loopEnd h ⟨rfl, rfl, rfl, trivial⟩
    · refine J.exit ?_
      refine JX.thenExit ?_
      refine JX.thenExit ?_
      refine JX.blockHere ?_
      refine JX.then ?_
      refine J.seq ?_
      refine J.region ?_
      refine JL.exP (.none rfl) rfl rfl (.move rfl) ?_
      refine JL.exC (.none rfl) rfl rfl (.func (vs := [s276, (.func (.func 38) #[] #[])]) en_37 rfl) h (fun v286 w h => ?_)
      refine JL.nil ?_
      refine JX.then ?_
      refine J.seq ?_
      refine J.region ?_
      refine JL.exP (.none rfl) rfl rfl (.move rfl) ?_
      refine JL.exP (.none rfl) rfl rfl (.assign rfl) ?_
      refine JL.nil ?_
      refine JX.then ?_
      refine J.ret ?_
      exact JX.ret1 rfl rfl h

/-- (*cabstand/ledger.Ledger).Settle -/
def ledger_Ledger_Settle (a0 : Value) (K : Value → WP) : WP :=
  callH Try.prog 15 #[a0] fun v287 =>
  pureI Try.prog .i64 (Builtin.len_ #[34] 3 #[v287]) fun x288 =>
  loopH (σ := Value × Value × Int) (fun kc290 s289 =>
    iteH (decide (s289.2.2 < x288)) (
      pureA Try.prog (Instr.indexAt 34 v287 (.int .i64 s289.2.2)) fun p291 =>
      semV Try.prog (loadVar 28 p291) fun v292 =>
      semA Try.prog (Instr.alloc 28 true (.tuple #[])) fun p293 =>
      semU Try.prog (storeVar 28 p293 v292) <|
      semV Try.prog (loadVar 28 p293) fun v294 =>
      callI Try.prog 14 #[a0, v294] .i64 fun x295 =>
      joinH (α := Value × Value) (fun y296 =>
        kc290 (y296.1, y296.2, (IntKind.i64.wrap (s289.2.2 + 1)))) fun k297 =>
        joinH (α := Value × Value) (fun y298 =>
          k297 (y298.1, y298.2)) fun k299 =>
          iteH (decide (0 < x295)) (
            semV Try.prog (loadVar 28 p293) fun v300 =>
            pureV Try.prog (Instr.build 82 #[(0, v300), (2, (.int .i64 x295))]) fun v301 =>
            semV Try.prog (Instr.buildSlice 77 1 #[(0, v301)]) fun v302 =>
            semV Try.prog (Builtin.append_ #[77, 77] 77 #[s289.1, v302]) fun v303 =>
            k299 (v303, s289.2.1)) (
            joinH (α := Value) (fun y304 =>
              k299 (s289.1, y304)) fun k305 =>
              iteH (decide (x295 < 0)) (
                semV Try.prog (loadVar 28 p293) fun v306 =>
                pureV Try.prog (Instr.build 82 #[(1, v306), (2, (.int .i64 (IntKind.i64.wrap (0 - x295))))]) fun v307 =>
                semV Try.prog (Instr.buildSlice 77 1 #[(0, v307)]) fun v308 =>
                semV Try.prog (Builtin.append_ #[77, 77] 77 #[s289.2.1, v308]) fun v309 =>
                k305 v309) (
                k305 s289.2.1))) (
      loopH (σ := Value × Value × Value) (fun kc311 s310 =>
        joinH (α := Bool) (fun y312 =>
          iteH y312 (
            joinH (α := Value × Value × Value) (fun y319 =>
              kc311 (y319.1, y319.2.1, y319.2.2)) fun k320 =>
              drawH <|
              pureA Try.prog (Instr.indexAt 77 s310.1 (.int .i64 0)) fun p321 =>
              readI Try.prog .i64 (loadVar 3 (p321.add 16)) fun x322 =>
              pureA Try.prog (Instr.indexAt 77 s310.2.1 (.int .i64 0)) fun p324 =>
              readI Try.prog .i64 (loadVar 3 (p324.add 16)) fun x325 =>
              pureI Try.prog .i64 (Builtin.min_ #[3, 3] 3 #[(.int .i64 x322), (.int .i64 x325)]) fun x327 =>
              drawH <|
              pureA Try.prog (Instr.indexAt 77 s310.1 (.int .i64 0)) fun p328 =>
              readV Try.prog (loadVar 28 (p328.add 0)) fun v329 =>
              pureA Try.prog (Instr.indexAt 77 s310.2.1 (.int .i64 0)) fun p331 =>
              readV Try.prog (loadVar 28 (p331.add 8)) fun v332 =>
              pureV Try.prog (Instr.build 82 #[(0, v329), (1, v332), (2, (.int .i64 x327))]) fun v334 =>
              semV Try.prog (Instr.buildSlice 77 1 #[(0, v334)]) fun v335 =>
              semV Try.prog (Builtin.append_ #[77, 77] 77 #[s310.2.2, v335]) fun v336 =>
              pureA Try.prog (Instr.indexAt 77 s310.1 (.int .i64 0)) fun p337 =>
              semI Try.prog .i64 (loadVar 3 (p337.add 16)) fun x338 =>
              pureA Try.prog (Instr.indexAt 77 s310.1 (.int .i64 0)) fun p339 =>
              semU Try.prog (storeVar 3 (p339.add 16) (.int .i64 (IntKind.i64.wrap (x338 - x327)))) <|
              pureA Try.prog (Instr.indexAt 77 s310.2.1 (.int .i64 0)) fun p340 =>
              semI Try.prog .i64 (loadVar 3 (p340.add 16)) fun x341 =>
              pureA Try.prog (Instr.indexAt 77 s310.2.1 (.int .i64 0)) fun p342 =>
              semU Try.prog (storeVar 3 (p342.add 16) (.int .i64 (IntKind.i64.wrap (x341 - x327)))) <|
              pureA Try.prog (Instr.indexAt 77 s310.1 (.int .i64 0)) fun p343 =>
              semI Try.prog .i64 (loadVar 3 (p343.add 16)) fun x344 =>
              joinH (α := Value) (fun y345 =>
                pureA Try.prog (Instr.indexAt 77 s310.2.1 (.int .i64 0)) fun p348 =>
                semI Try.prog .i64 (loadVar 3 (p348.add 16)) fun x349 =>
                joinH (α := Value) (fun y350 =>
                  k320 (y345, y350, v336)) fun k351 =>
                  iteH ((x349 : Int) == 0) (
                    pureV Try.prog (Instr.sliceAt 77 s310.2.1 (some (.int .i64 1)) none none) fun v352 =>
                    k351 v352) (
                    k351 s310.2.1)) fun k346 =>
                iteH ((x344 : Int) == 0) (
                  pureV Try.prog (Instr.sliceAt 77 s310.1 (some (.int .i64 1)) none none) fun v347 =>
                  k346 v347) (
                  k346 s310.1)) (
            K s310.2.2)) fun k313 =>
          pureI Try.prog .i64 (Builtin.len_ #[77] 3 #[s310.1]) fun x314 =>
          andB (decide (0 < x314)) (fun k316 =>
            pureI Try.prog .i64 (Builtin.len_ #[77] 3 #[s310.2.1]) fun x318 =>
            k316 (decide (0 < x318))) fun b315 =>
          k313 b315) (s289.1, s289.2.1, (.slice none 0 0)))) ((.slice none 0 0), (.slice none 0 0), 0)
set_option maxRecDepth 100000 in
set_option maxHeartbeats 1000000 in
theorem ledger_Ledger_Settle_ok {a0 : Value} {K : Value → WP} {w : World} (h : ledger_Ledger_Settle a0 K w) : callH Try.prog 30 #[a0] K w := by
  refine enter (l := [a0]) Try.func30 rfl rfl rfl ?_
  show J Try.prog 101 [(0, a0)] _ _ _
  unfold ledger_Ledger_Settle at h
  refine J.seq ?_
  refine J.region ?_
  refine JL.exP (.none rfl) rfl rfl (.assign rfl) ?_
  refine JL.nil ?_
  refine JX.then ?_
  refine J.seq ?_
  refine J.region ?_
  refine JL.exP (.none rfl) rfl rfl (.assign rfl) ?_
  refine JL.exP (.none rfl) rfl rfl (.assign rfl) ?_
  refine JL.nil ?_
  refine JX.then ?_
  refine J.seq ?_
  refine J.seq ?_
  refine J.region ?_
  refine JL.exP (.none rfl) rfl rfl (.move rfl) ?_
  refine JL.exC (.none rfl) rfl rfl (.func (vs := [a0]) en_15 rfl) h (fun v287 w h => ?_)
  refine JL.sPure (.none rfl) rfl rfl ((.len (vs := [v287]) rfl)) h (fun vx288 w h => ?_)
  obtain ⟨x288, rfl, h⟩ := h
  refine JL.exP (.none rfl) rfl rfl (.move rfl) ?_
  refine JL.nil ?_
  refine JX.then ?_
  refine J.block ?_
  refine J.loop h (fun s289 => [(0, a0), (2, (.slice none 0 0)), (3, s289.1), (4, s289.2.1), (11, v287), (12, (.int .i64 x288)), (13, (.int .i64 s289.2.2))]) ⟨rfl, rfl, rfl, rfl, rfl, rfl, rfl, trivial⟩ (fun I μ s289 w h => ?_)
  refine J.seq ?_
  refine J.region ?_
  refine JL.exP (.none rfl) rfl rfl (.lss rfl rfl) ?_
  refine JL.nil ?_
  refine JX.then ?_
  refine J.seq ?_
  refine J.cond (b := _) rfl h (fun h => ?_) (fun h => ?_)
  · refine J.skip ?_
    refine JX.then ?_
    refine J.seq ?_
    refine J.block ?_
    refine J.seq ?_
    refine J.region ?_
    refine JL.sPure (.none rfl) rfl rfl (.indexAddr rfl rfl) h (fun vp291 w h => ?_)
    obtain ⟨p291, rfl, h⟩ := h
    refine JL.exV (.none rfl) rfl rfl (.load rfl) h (fun v292 w h => ?_)
    refine JL.exV (.none rfl) rfl rfl (.alloc) h (fun vp293 w h => ?_)
    obtain ⟨p293, rfl, h⟩ := h
    refine JL.exU (.none rfl) rfl (.store rfl rfl) h (fun w h => ?_)
    refine JL.nil ?_
    refine JX.then ?_
    refine J.seq ?_
    refine J.region ?_
    refine JL.exP (.none rfl) rfl rfl (.move rfl) ?_
    refine JL.exV (.none rfl) rfl rfl (.load rfl) h (fun v294 w h => ?_)
    refine JL.exC (.none rfl) rfl rfl (.func (vs := [a0, v294]) en_14 rfl) h (fun vx295 w h => ?_)
    obtain ⟨x295, rfl, h⟩ := h
    refine JL.exP (.none rfl) rfl rfl (.assign rfl) ?_
    refine JL.nil ?_
    refine JX.then ?_
    refine J.join h (fun y296 => [(0, a0), (2, (.slice none 0 0)), (3, y296.1), (4, y296.2), (11, v287), (12, (.int .i64 x288)), (13, (.int .i64 s289.2.2))]) (fun k297 w h => ?_) (fun y296 w h => ?_)
    · refine J.block ?_
      refine J.seq ?_
      refine J.region ?_
      refine JL.exP (.none rfl) rfl rfl (.move rfl) ?_
      refine JL.exP (.none rfl) rfl rfl (.gtr rfl rfl) ?_
      refine JL.exP (.none rfl) rfl rfl (.assign rfl) ?_
      refine JL.nil ?_
      refine JX.then ?_
      refine J.join h (fun y298 => [(0, a0), (2, (.slice none 0 0)), (3, y298.1), (4, y298.2), (11, v287), (12, (.int .i64 x288)), (13, (.int .i64 s289.2.2))]) (fun k299 w h => ?_) (fun y298 w h => ?_)
      · refine J.cond (b := _) rfl h (fun h => ?_) (fun h => ?_)
        · refine J.region ?_
          refine JL.exP (.none rfl) rfl rfl (.move rfl) ?_
          refine JL.exV (.none rfl) rfl rfl (.load rfl) h (fun v300 w h => ?_)
          refine JL.exP (.none rfl) rfl rfl (.move rfl) ?_
          refine JL.sPure (.none rfl) rfl rfl ((.build (l' := [(0, v300), (2, (.int .i64 x295))]) rfl)) h (fun v301 w h => ?_)
          refine JL.exV (.none rfl) rfl rfl ((.buildSlice (l' := [(0, v301)]) rfl)) h (fun v302 w h => ?_)
          refine JL.exV (.none rfl) rfl rfl ((.append (vs := [s289.1, v302]) rfl)) h (fun v303 w h => ?_)
          refine JL.exP (.none rfl) rfl rfl (.assign rfl) ?_
          refine JL.nil ?_
          exact JX.joinEnd h ⟨rfl, rfl, rfl, rfl, rfl, rfl, rfl, trivial⟩
        · refine J.seq ?_
          refine J.region ?_
          refine JL.exP (.none rfl) rfl rfl (.move rfl) ?_
          refine JL.exP (.none rfl) rfl rfl (.lss rfl rfl) ?_
          refine JL.exP (.none rfl) rfl rfl (.assign rfl) ?_
          refine JL.nil ?_
          refine JX.then ?_
          refine J.join h (fun y304 => [(0, a0), (2, (.slice none 0 0)), (3, s289.1), (4, y304), (11, v287), (12, (.int .i64 x288)), (13, (.int .i64 s289.2.2))]) (fun k305 w h => ?_) (fun y304 w h => ?_)
          · refine J.cond (b := _) rfl h (fun h => ?_) (fun h => ?_)
            · refine J.region ?_
              refine JL.exP (.none rfl) rfl rfl (.move rfl) ?_
              refine JL.exV (.none rfl) rfl rfl (.load rfl) h (fun v306 w h => ?_)
              refine JL.exP (.none rfl) rfl rfl (.move rfl) ?_
              refine JL.exP (.none rfl) rfl rfl (.neg rfl) ?_
              refine JL.sPure (.none rfl) rfl rfl ((.build (l' := [(1, v306), (2, (.int .i64 (IntKind.i64.wrap (0 - x295))))]) rfl)) h (fun v307 w h => ?_)
              refine JL.exV (.none rfl) rfl rfl ((.buildSlice (l' := [(0, v307)]) rfl)) h (fun v308 w h => ?_)
              refine JL.exV (.none rfl) rfl rfl ((.append (vs := [s289.2.1, v308]) rfl)) h (fun v309 w h => ?_)
              refine JL.exP (.none rfl) rfl rfl (.assign rfl) ?_
              refine JL.nil ?_
              exact JX.joinEnd h ⟨rfl, rfl, rfl, rfl, rfl, rfl, rfl, trivial⟩
            · refine J.skip ?_
              exact JX.joinEnd h ⟨rfl, rfl, rfl, rfl, rfl, rfl, rfl, trivial⟩
          · exact JX.joinEnd h ⟨rfl, rfl, rfl, rfl, rfl, rfl, rfl, trivial⟩
      · refine JX.blockNormal ?_
        exact JX.joinEnd h ⟨rfl, rfl, rfl, rfl, rfl, rfl, rfl, trivial⟩
    · refine JX.blockNormal ?_
      refine JX.then ?_
      refine J.region ?_
      refine JL.exP (.none rfl) rfl rfl (.add rfl rfl) ?_
      refine JL.exP (.none rfl) rfl rfl (.move rfl) ?_
      refine JL.nil ?_
      exact JX.loopEnd h ⟨rfl, rfl, rfl, rfl, rfl, rfl, rfl, trivial⟩
  · refine J.exit ?_
    refine JX.thenExit ?_
    refine JX.thenExit ?_
    refine JX.blockHere ?_
    refine JX.then ?_
    refine J.seq ?_
    refine J.region ?_
    refine JL.exP (.none rfl) rfl rfl (.assign rfl) ?_
    refine JL.nil ?_
    refine JX.then ?_
    refine J.seq ?_
    refine J.block ?_
    refine J.loop h (fun s310 => [(2, (.slice none 0 0)), (3, s310.1), (4, s310.2.1), (8, s310.2.2)]) ⟨rfl, rfl, rfl, rfl, trivial⟩ (fun I μ s310 w h => ?_)
    refine J.seq ?_
    refine J.seq ?_
    refine J.join h (fun y312 => [(2, (.slice none 0 0)), (3, s310.1), (4, s310.2.1), (8, s310.2.2), (47, (.bool y312))]) (fun k313 w h => ?_) (fun y312 w h => ?_)
    · refine J.region ?_
      refine JL.exP (.none rfl) rfl rfl (.move rfl) ?_
      refine JL.sPure (.none rfl) rfl rfl ((.len (vs := [s310.1]) rfl)) h (fun vx314 w h => ?_)
      obtain ⟨x314, rfl, h⟩ := h
      refine JL.exP (.none rfl) rfl rfl (.gtr rfl rfl) ?_
      refine JL.exP (.none rfl) rfl rfl (.move rfl) ?_
      rcases andB_cases h with ⟨hc317, h⟩ | ⟨hc317, h⟩
      · refine JL.exNo (.off rfl rfl rfl hc317 rfl) rfl rfl ?_
        refine JL.exNo (.off rfl rfl rfl hc317 rfl) rfl rfl ?_
        refine JL.exNo (.off rfl rfl rfl hc317 rfl) rfl rfl ?_
        refine JL.exP (.none rfl) rfl rfl (.pickOff rfl hc317 rfl) ?_
        refine JL.nil ?_
        exact JX.joinEnd h ⟨rfl, rfl, rfl, rfl, rfl, trivial⟩
      · refine JL.exP (.on rfl rfl rfl hc317) rfl rfl (.move rfl) ?_
        refine JL.sPure (.on rfl rfl rfl hc317) rfl rfl ((.len (vs := [s310.2.1]) rfl)) h (fun vx318 w h => ?_)
        obtain ⟨x318, rfl, h⟩ := h
        refine JL.exP (.on rfl rfl rfl hc317) rfl rfl (.gtr rfl rfl) ?_
        refine JL.exP (.none rfl) rfl rfl (.pickOn rfl hc317 rfl) ?_
        refine JL.nil ?_
        exact JX.joinEnd h ⟨rfl, rfl, rfl, rfl, rfl, trivial⟩
    · refine JX.then ?_
      refine J.cond (b := _) rfl h (fun h => ?_) (fun h => ?_)
      · refine J.skip ?_
        refine JX.then ?_
        refine J.join h (fun y319 => [(2, (.slice none 0 0)), (3, y319.1), (4, y319.2.1), (8, y319.2.2)]) (fun k320 w h => ?_) (fun y319 w h => ?_)
        · refine J.block ?_
          refine J.seq ?_
          refine J.draw [[], [0], [0, 1], [0, 1, 2], [], [4], [4, 5], [4, 5, 6], [0, 1, 2, 3, 4, 5, 6, 7], [0, 1, 2, 3, 4, 5, 6, 7, 8]] (by kernel_rfl) mixed h (fun w h => ?_)
          refine JD.pure_ (i := 0) [] rfl (by kernel_rfl) (by kernel_rfl) (by kernel_rfl) (by kernel_rfl) (.none rfl) rfl rfl (.move rfl) trivial ?_
          refine JD.sPure (i := 1) [] rfl (by kernel_rfl) (by kernel_rfl) (by kernel_rfl) (by kernel_rfl) (.none rfl) rfl rfl (.indexAddr rfl rfl) h trivial (fun vp321 h => ?_)
          obtain ⟨p321, rfl, h⟩ := h
          refine JD.pure_ (i := 2) [] rfl (by kernel_rfl) (by kernel_rfl) (by kernel_rfl) (by kernel_rfl) (.none rfl) rfl rfl (.fieldAddr rfl (fa_82_2 _)) trivial ?_
          refine JD.read (i := 3) [] rfl (by kernel_rfl) (by kernel_rfl) (by kernel_rfl) (by kernel_rfl) (.none rfl) rfl rfl (.load rfl) h trivial (fun vx322 st323 h => ?_)
          obtain ⟨x322, rfl, h⟩ := h
          refine JD.pure_ (i := 4) [false] rfl (by kernel_rfl) (by kernel_rfl) (by kernel_rfl) (by kernel_rfl) (.none rfl) rfl rfl (.move rfl) ⟨st323, trivial⟩ ?_
          refine JD.sPure (i := 5) [false] rfl (by kernel_rfl) (by kernel_rfl) (by kernel_rfl) (by kernel_rfl) (.none rfl) rfl rfl (.indexAddr rfl rfl) h ⟨st323, trivial⟩ (fun vp324 h => ?_)
          obtain ⟨p324, rfl, h⟩ := h
          refine JD.pure_ (i := 6) [false] rfl (by kernel_rfl) (by kernel_rfl) (by kernel_rfl) (by kernel_rfl) (.none rfl) rfl rfl (.fieldAddr rfl (fa_82_2 _)) ⟨st323, trivial⟩ ?_
          refine JD.read (i := 7) [false] rfl (by kernel_rfl) (by kernel_rfl) (by kernel_rfl) (by kernel_rfl) (.none rfl) rfl rfl (.load rfl) h ⟨st323, trivial⟩ (fun vx325 st326 h => ?_)
          obtain ⟨x325, rfl, h⟩ := h
          refine JD.sPure (i := 8) [true, true] rfl (by kernel_rfl) (by kernel_rfl) (by kernel_rfl) (by kernel_rfl) (.none rfl) rfl rfl ((.min (vs := [(.int .i64 x322), (.int .i64 x325)]) rfl)) h trivial (fun vx327 h => ?_)
          obtain ⟨x327, rfl, h⟩ := h
          refine JD.pure_ (i := 9) [true, true] rfl (by kernel_rfl) (by kernel_rfl) (by kernel_rfl) (by kernel_rfl) (.none rfl) rfl rfl (.assign rfl) trivial ?_
          refine JD.done (by kernel_rfl) ?_
          refine JX.then ?_
          refine J.seq ?_
          refine J.draw [[], [], [1], [1, 2], [1, 2, 3], [], [5], [5, 6], [5, 6, 7], [], [1, 2, 3, 4, 5, 6, 7, 8, 9], [1, 2, 3, 4, 5, 6, 7, 8, 9, 10], [0, 1, 2, 3, 4, 5, 6, 7, 8, 9, 10, 11], [0, 1, 2, 3, 4, 5, 6, 7, 8, 9, 10, 11, 12]] (by kernel_rfl) mixed h (fun w h => ?_)
          refine JD.pure_ (i := 0) [] rfl (by kernel_rfl) (by kernel_rfl) (by kernel_rfl) (by kernel_rfl) (.none rfl) rfl rfl (.move rfl) trivial ?_
          refine JD.pure_ (i := 1) [] rfl (by kernel_rfl) (by kernel_rfl) (by kernel_rfl) (by kernel_rfl) (.none rfl) rfl rfl (.move rfl) trivial ?_
          refine JD.sPure (i := 2) [] rfl (by kernel_rfl) (by kernel_rfl) (by kernel_rfl) (by kernel_rfl) (.none rfl) rfl rfl (.indexAddr rfl rfl) h trivial (fun vp328 h => ?_)
          obtain ⟨p328, rfl, h⟩ := h
          refine JD.pure_ (i := 3) [] rfl (by kernel_rfl) (by kernel_rfl) (by kernel_rfl) (by kernel_rfl) (.none rfl) rfl rfl (.fieldAddr rfl (fa_82_0 _)) trivial ?_
          refine JD.read (i := 4) [] rfl (by kernel_rfl) (by kernel_rfl) (by kernel_rfl) (by kernel_rfl) (.none rfl) rfl rfl (.load rfl) h trivial (fun v329 st330 h => ?_)
          refine JD.pure_ (i := 5) [false] rfl (by kernel_rfl) (by kernel_rfl) (by kernel_rfl) (by kernel_rfl) (.none rfl) rfl rfl (.move rfl) ⟨st330, trivial⟩ ?_
          refine JD.sPure (i := 6) [false] rfl (by kernel_rfl) (by kernel_rfl) (by kernel_rfl) (by kernel_rfl) (.none rfl) rfl rfl (.indexAddr rfl rfl) h ⟨st330, trivial⟩ (fun vp331 h => ?_)
          obtain ⟨p331, rfl, h⟩ := h
          refine JD.pure_ (i := 7) [false] rfl (by kernel_rfl) (by kernel_rfl) (by kernel_rfl) (by kernel_rfl) (.none rfl) rfl rfl (.fieldAddr rfl (fa_82_1 _)) ⟨st330, trivial⟩ ?_
          refine JD.read (i := 8) [false] rfl (by kernel_rfl) (by kernel_rfl) (by kernel_rfl) (by kernel_rfl) (.none rfl) rfl rfl (.load rfl) h ⟨st330, trivial⟩ (fun v332 st333 h => ?_)
          refine JD.pure_ (i := 9) [false, false] rfl (by kernel_rfl) (by kernel_rfl) (by kernel_rfl) (by kernel_rfl) (.none rfl) rfl rfl (.move rfl) ⟨st333, st330, trivial⟩ ?_
          refine JD.sPure (i := 10) [true, true] rfl (by kernel_rfl) (by kernel_rfl) (by kernel_rfl) (by kernel_rfl) (.none rfl) rfl rfl ((.build (l' := [(0, v329), (1, v332), (2, (.int .i64 x327))]) rfl)) h trivial (fun v334 h => ?_)
          refine JD.one (j := 11) (by kernel_rfl) ?_
          refine JD1.exV [true, true] rfl (by kernel_rfl) (.none rfl) rfl rfl ((.buildSlice (l' := [(0, v334)]) rfl)) h (fun v335 w h => ?_)
          refine ⟨trivial, ?_⟩
          refine JD.one (j := 12) (by kernel_rfl) ?_
          refine JD1.exV [] rfl (by kernel_rfl) (.none rfl) rfl rfl ((.append (vs := [s310.2.2, v335]) rfl)) h (fun v336 w h => ?_)
          refine ⟨trivial, ?_⟩
          refine JD.pure_ (i := 13) [] rfl (by kernel_rfl) (by kernel_rfl) (by kernel_rfl) (by kernel_rfl) (.none rfl) rfl rfl (.assign rfl) trivial ?_
          refine JD.done (by kernel_rfl) ?_
          refine JX.then ?_
          refine J.seq ?_
          refine J.region ?_
          refine JL.exP (.none rfl) rfl rfl (.move rfl) ?_
          refine JL.sPure (.none rfl) rfl rfl (.indexAddr rfl rfl) h (fun vp337 w h => ?_)
          obtain ⟨p337, rfl, h⟩ := h
          refine JL.exP (.none rfl) rfl rfl (.fieldAddr rfl (fa_82_2 _)) ?_
          refine JL.exV (.none rfl) rfl rfl (.load rfl) h (fun vx338 w h => ?_)
          obtain ⟨x338, rfl, h⟩ := h
          refine JL.exP (.none rfl) rfl rfl (.move rfl) ?_
          refine JL.exP (.none rfl) rfl rfl (.sub rfl rfl) ?_
          refine JL.sPure (.none rfl) rfl rfl (.indexAddr rfl rfl) h (fun vp339 w h => ?_)
          obtain ⟨p339, rfl, h⟩ := h
          refine JL.exP (.none rfl) rfl rfl (.fieldAddr rfl (fa_82_2 _)) ?_
          refine JL.exU (.none rfl) rfl (.store rfl rfl) h (fun w h => ?_)
          refine JL.nil ?_
          refine JX.then ?_
          refine J.seq ?_
          refine J.region ?_
          refine JL.exP (.none rfl) rfl rfl (.move rfl) ?_
          refine JL.sPure (.none rfl) rfl rfl (.indexAddr rfl rfl) h (fun vp340 w h => ?_)
          obtain ⟨p340, rfl, h⟩ := h
          refine JL.exP (.none rfl) rfl rfl (.fieldAddr rfl (fa_82_2 _)) ?_
          refine JL.exV (.none rfl) rfl rfl (.load rfl) h (fun vx341 w h => ?_)
          obtain ⟨x341, rfl, h⟩ := h
          refine JL.exP (.none rfl) rfl rfl (.move rfl) ?_
          refine JL.exP (.none rfl) rfl rfl (.sub rfl rfl) ?_
          refine JL.sPure (.none rfl) rfl rfl (.indexAddr rfl rfl) h (fun vp342 w h => ?_)
          obtain ⟨p342, rfl, h⟩ := h
          refine JL.exP (.none rfl) rfl rfl (.fieldAddr rfl (fa_82_2 _)) ?_
          refine JL.exU (.none rfl) rfl (.store rfl rfl) h (fun w h => ?_)
          refine JL.nil ?_
          refine JX.then ?_
          refine J.seq ?_
          refine J.seq ?_
          refine J.region ?_
          refine JL.exP (.none rfl) rfl rfl (.move rfl) ?_
          refine JL.sPure (.none rfl) rfl rfl (.indexAddr rfl rfl) h (fun vp343 w h => ?_)
          obtain ⟨p343, rfl, h⟩ := h
          refine JL.exP (.none rfl) rfl rfl (.fieldAddr rfl (fa_82_2 _)) ?_
          refine JL.exV (.none rfl) rfl rfl (.load rfl) h (fun vx344 w h => ?_)
          obtain ⟨x344, rfl, h⟩ := h
          refine JL.exP (.none rfl) rfl rfl (.eql rfl rfl) ?_
          refine JL.nil ?_
          refine JX.then ?_
          refine J.join h (fun y345 => [(2, (.slice none 0 0)), (3, y345), (4, s310.2.1), (8, v336)]) (fun k346 w h => ?_) (fun y345 w h => ?_)
          · refine J.cond (b := _) rfl h (fun h => ?_) (fun h => ?_)
            · refine J.region ?_
              refine JL.exP (.none rfl) rfl rfl (.move rfl) ?_
              refine JL.sPure (.none rfl) rfl rfl (.slice rfl rfl rfl rfl) h (fun v347 w h => ?_)
              refine JL.exP (.none rfl) rfl rfl (.assign rfl) ?_
              refine JL.nil ?_
              exact JX.joinEnd h ⟨rfl, rfl, rfl, rfl, trivial⟩
            · refine J.skip ?_
              exact JX.joinEnd h ⟨rfl, rfl, rfl, rfl, trivial⟩
          · refine JX.then ?_
            refine J.seq ?_
            refine J.region ?_
            refine JL.exP (.none rfl) rfl rfl (.move rfl) ?_
            refine JL.sPure (.none rfl) rfl rfl (.indexAddr rfl rfl) h (fun vp348 w h => ?_)
            obtain ⟨p348, rfl, h⟩ := h
            refine JL.exP (.none rfl) rfl rfl (.fieldAddr rfl (fa_82_2 _)) ?_
            refine JL.exV (.none rfl) rfl rfl (.load rfl) h (fun vx349 w h => ?_)
            obtain ⟨x349, rfl, h⟩ := h
            refine JL.exP (.none rfl) rfl rfl (.eql rfl rfl) ?_
            refine JL.nil ?_
            refine JX.then ?_
            refine J.join h (fun y350 => [(2, (.slice none 0 0)), (3, y345), (4, y350), (8, v336)]) (fun k351 w h => ?_) (fun y350 w h => ?_)
            · refine J.cond (b := _) rfl h (fun h => ?_) (fun h => ?_)
              · refine J.region ?_
                refine JL.exP (.none rfl) rfl rfl (.move rfl) ?_
                refine JL.sPure (.none rfl) rfl rfl (.slice rfl rfl rfl rfl) h (fun v352 w h => ?_)
                refine JL.exP (.none rfl) rfl rfl (.assign rfl) ?_
                refine JL.nil ?_
                exact JX.joinEnd h ⟨rfl, rfl, rfl, rfl, trivial⟩
              · refine J.skip ?_
                exact JX.joinEnd h ⟨rfl, rfl, rfl, rfl, trivial⟩
            · refine JX.blockNormal ?_
              exact JX.joinEnd h ⟨rfl, rfl, rfl, rfl, trivial⟩
        · exact JX.loopEnd h ⟨rfl, rfl, rfl, rfl, trivial⟩
      · refine J.exit ?_
        refine JX.thenExit ?_
        refine JX.thenExit ?_
        refine JX.blockHere ?_
        refine JX.then ?_
        refine J.seq ?_
        refine J.region ?_
        refine JL.exP (.none rfl) rfl rfl (.move rfl) ?_
        refine JL.exP (.none rfl) rfl rfl (.assign rfl) ?_
        refine JL.nil ?_
        refine JX.then ?_
        refine J.ret ?_
        exact JX.ret1 rfl rfl h

/-- cabstand/cabstandlaw23.entry -/
def law23_entry (a0 : Int) (a1 : Int) (a2 : Int) (K : Value → WP) : WP :=
  semA Try.prog (Instr.alloc 82 true (.tuple #[])) fun p353 =>
  callH Try.prog 11 #[(.int .u8 a0)] fun v354 =>
  callH Try.prog 11 #[(.int .u8 a1)] fun v355 =>
  pureV Try.prog (Instr.build 82 #[(0, v354), (1, v355), (2, (.int .i64 a2))]) fun v356 =>
  semU Try.prog (storeVar 82 p353 v356) <|
  seeV Try.prog (loadVar 82 p353) K
set_option maxRecDepth 100000 in
set_option maxHeartbeats 1000000 in
theorem law23_entry_ok {a0 : Int} {a1 : Int} {a2 : Int} {K : Value → WP} {w : World} (h : law23_entry a0 a1 a2 K w) : callH Try.prog 31 #[(.int .u8 a0), (.int .u8 a1), (.int .i64 a2)] K w := by
  refine enter (l := [(.int .u8 a0), (.int .u8 a1), (.int .i64 a2)]) Try.func31 rfl rfl rfl ?_
  show J Try.prog 13 [(0, (.int .u8 a0)), (1, (.int .u8 a1)), (2, (.int .i64 a2))] _ _ _
  unfold law23_entry at h
  refine J.seq ?_
  refine J.region ?_
  refine JL.exV (.none rfl) rfl rfl (.alloc) h (fun vp353 w h => ?_)
  obtain ⟨p353, rfl, h⟩ := h
  refine JL.nil ?_
  refine JX.then ?_
  refine J.seq ?_
  refine J.region ?_
  refine JL.exP (.none rfl) rfl rfl (.move rfl) ?_
  refine JL.exC (.none rfl) rfl rfl (.func (vs := [(.int .u8 a0)]) en_11 rfl) h (fun v354 w h => ?_)
  refine JL.exP (.none rfl) rfl rfl (.move rfl) ?_
  refine JL.exC (.none rfl) rfl rfl (.func (vs := [(.int .u8 a1)]) en_11 rfl) h (fun v355 w h => ?_)
  refine JL.exP (.none rfl) rfl rfl (.move rfl) ?_
  refine JL.sPure (.none rfl) rfl rfl ((.build (l' := [(0, v354), (1, v355), (2, (.int .i64 a2))]) rfl)) h (fun v356 w h => ?_)
  refine JL.exU (.none rfl) rfl (.store rfl rfl) h (fun w h => ?_)
  refine JL.nil ?_
  refine JX.then ?_
  refine J.ret ?_
  exact JX.retC rfl rfl h

/-- (*cabstand/ledger.Ledger).Entries -/
def ledger_Ledger_Entries (a0 : Value) (K : Value → WP) : WP :=
  pureB Try.prog (eqM .eql 22 (.tmp 3) (.const (.pointer none)) a0 (.pointer none)) fun b357 =>
  iteH b357 (
    K (.slice none 0 0)) (
    asP a0 fun p358 =>
    semV Try.prog (loadVar 77 (p358.add 1)) fun v359 =>
    callH Try.prog 58 #[v359] fun v360 =>
    K v360)
set_option maxRecDepth 100000 in
set_option maxHeartbeats 1000000 in
theorem ledger_Ledger_Entries_ok {a0 : Value} {K : Value → WP} {w : World} (h : ledger_Ledger_Entries a0 K w) : callH Try.prog 32 #[a0] K w := by
  refine enter (l := [a0]) Try.func32 rfl rfl rfl ?_
  show J Try.prog 10 [(0, a0)] _ _ _
  unfold ledger_Ledger_Entries at h
  refine J.seq ?_
  refine J.region ?_
  refine JL.exP (.none rfl) rfl rfl (.assign rfl) ?_
  refine JL.nil ?_
  refine JX.then ?_
  refine J.seq ?_
  refine J.seq ?_
  refine J.region ?_
  refine JL.exP (.none rfl) rfl rfl (.move rfl) ?_
  refine JL.sPure (.none rfl) rfl rfl (.binOp rfl rfl) h (fun vb357 w h => ?_)
  obtain ⟨b357, rfl, h⟩ := h
  refine JL.nil ?_
  refine JX.then ?_
  refine J.cond (b := _) rfl h (fun h => ?_) (fun h => ?_)
  · refine J.seq ?_
    refine J.region ?_
    refine JL.exP (.none rfl) rfl rfl (.assign rfl) ?_
    refine JL.nil ?_
    refine JX.then ?_
    refine J.ret ?_
    refine JX.thenRet ?_
    exact JX.ret1 rfl rfl h
  · refine J.skip ?_
    refine JX.then ?_
    refine J.seq ?_
    refine J.region ?_
    refine JL.exP (.none rfl) rfl rfl (.move rfl) ?_
    obtain ⟨p358, hp358, h⟩ := h
    refine JL.exP (.none rfl) rfl rfl (.nilCheck rfl hp358) ?_
    refine JL.exP (.none rfl) rfl rfl (.fieldAddr rfl (fa_79_1 _)) ?_
    refine JL.exV (.none rfl) rfl rfl (.load rfl) h (fun v359 w h => ?_)
    refine JL.exC (.none rfl) rfl rfl (.func (vs := [v359]) en_58 rfl) h (fun v360 w h => ?_)
    refine JL.exP (.none rfl) rfl rfl (.assign rfl) ?_
    refine JL.nil ?_
    refine JX.then ?_
    refine J.ret ?_
    exact JX.ret1 rfl rfl h

/-- cabstand/cabstandlaw01.SameEntries -/
def law01_SameEntries (a0 : Value) (a1 : Value) (K : Value → WP) : WP :=
  pureI Try.prog .i64 (Builtin.len_ #[77] 3 #[a0]) fun x361 =>
  pureI Try.prog .i64 (Builtin.len_ #[77] 3 #[a1]) fun x362 =>
  iteH ((x361 : Int) != x362) (
    K (.bool false)) (
    loopH (σ := Bool × Int) (fun kc364 s363 =>
      pureI Try.prog .i64 (Builtin.len_ #[77] 3 #[a0]) fun x365 =>
      iteH (decide (s363.2 < x365)) (
        drawH <|
        pureA Try.prog (Instr.indexAt 77 a0 (.int .i64 s363.2)) fun p366 =>
        readV Try.prog (loadVar 82 p366) fun v367 =>
        pureA Try.prog (Instr.indexAt 77 a1 (.int .i64 s363.2)) fun p369 =>
        readV Try.prog (loadVar 82 p369) fun v370 =>
        pureB Try.prog (eqM .neq 82 (.tmp 20) (.tmp 24) v367 v370) fun b372 =>
        iteH b372 (
          K (.bool false)) (
          kc364 (s363.1, (IntKind.i64.wrap (s363.2 + 1))))) (
        K (.bool true))) (false, 0))
set_option maxRecDepth 100000 in
set_option maxHeartbeats 1000000 in
theorem law01_SameEntries_ok {a0 : Value} {a1 : Value} {K : Value → WP} {w : World} (h : law01_SameEntries a0 a1 K w) : callH Try.prog 33 #[a0, a1] K w := by
  refine enter (l := [a0, a1]) Try.func33 rfl rfl rfl ?_
  show J Try.prog 26 [(0, a0), (1, a1)] _ _ _
  unfold law01_SameEntries at h
  refine J.seq ?_
  refine J.region ?_
  refine JL.exP (.none rfl) rfl rfl (.assign rfl) ?_
  refine JL.nil ?_
  refine JX.then ?_
  refine J.seq ?_
  refine J.seq ?_
  refine J.region ?_
  refine JL.exP (.none rfl) rfl rfl (.move rfl) ?_
  refine JL.sPure (.none rfl) rfl rfl ((.len (vs := [a0]) rfl)) h (fun vx361 w h => ?_)
  obtain ⟨x361, rfl, h⟩ := h
  refine JL.exP (.none rfl) rfl rfl (.move rfl) ?_
  refine JL.sPure (.none rfl) rfl rfl ((.len (vs := [a1]) rfl)) h (fun vx362 w h => ?_)
  obtain ⟨x362, rfl, h⟩ := h
  refine JL.exP (.none rfl) rfl rfl (.neq rfl rfl) ?_
  refine JL.nil ?_
  refine JX.then ?_
  refine J.cond (b := _) rfl h (fun h => ?_) (fun h => ?_)
  · refine J.seq ?_
    refine J.region ?_
    refine JL.exP (.none rfl) rfl rfl (.assign rfl) ?_
    refine JL.nil ?_
    refine JX.then ?_
    refine J.ret ?_
    refine JX.thenRet ?_
    exact JX.ret1 rfl rfl h
  · refine J.skip ?_
    refine JX.then ?_
    refine J.seq ?_
    refine J.seq ?_
    refine J.region ?_
    refine JL.exP (.none rfl) rfl rfl (.assign rfl) ?_
    refine JL.nil ?_
    refine JX.then ?_
    refine J.block ?_
    refine J.loop h (fun s363 => [(0, a0), (1, a1), (4, (.bool s363.1)), (5, (.int .i64 s363.2))]) ⟨rfl, rfl, rfl, rfl, trivial⟩ (fun I μ s363 w h => ?_)
    refine J.seq ?_
    refine J.seq ?_
    refine J.region ?_
    refine JL.exP (.none rfl) rfl rfl (.move rfl) ?_
    refine JL.exP (.none rfl) rfl rfl (.move rfl) ?_
    refine JL.sPure (.none rfl) rfl rfl ((.len (vs := [a0]) rfl)) h (fun vx365 w h => ?_)
    obtain ⟨x365, rfl, h⟩ := h
    refine JL.exP (.none rfl) rfl rfl (.lss rfl rfl) ?_
    refine JL.nil ?_
    refine JX.then ?_
    refine J.cond (b := _) rfl h (fun h => ?_) (fun h => ?_)
    · refine J.skip ?_
      refine JX.then ?_
      refine J.seq ?_
      refine J.block ?_
      refine J.seq ?_
      refine J.draw [[], [], [0, 1], [0, 1, 2], [], [], [4, 5], [4, 5, 6], [0, 1, 2, 3, 4, 5, 6, 7]] (by kernel_rfl) mixed h (fun w h => ?_)
      refine JD.pure_ (i := 0) [] rfl (by kernel_rfl) (by kernel_rfl) (by kernel_rfl) (by kernel_rfl) (.none rfl) rfl rfl (.move rfl) trivial ?_
      refine JD.pure_ (i := 1) [] rfl (by kernel_rfl) (by kernel_rfl) (by kernel_rfl) (by kernel_rfl) (.none rfl) rfl rfl (.move rfl) trivial ?_
      refine JD.sPure (i := 2) [] rfl (by kernel_rfl) (by kernel_rfl) (by kernel_rfl) (by kernel_rfl) (.none rfl) rfl rfl (.indexAddr rfl rfl) h trivial (fun vp366 h => ?_)
      obtain ⟨p366, rfl, h⟩ := h
      refine JD.read (i := 3) [] rfl (by kernel_rfl) (by kernel_rfl) (by kernel_rfl) (by kernel_rfl) (.none rfl) rfl rfl (.load rfl) h trivial (fun v367 st368 h => ?_)
      refine JD.pure_ (i := 4) [false] rfl (by kernel_rfl) (by kernel_rfl) (by kernel_rfl) (by kernel_rfl) (.none rfl) rfl rfl (.move rfl) ⟨st368, trivial⟩ ?_
      refine JD.pure_ (i := 5) [false] rfl (by kernel_rfl) (by kernel_rfl) (by kernel_rfl) (by kernel_rfl) (.none rfl) rfl rfl (.move rfl) ⟨st368, trivial⟩ ?_
      refine JD.sPure (i := 6) [false] rfl (by kernel_rfl) (by kernel_rfl) (by kernel_rfl) (by kernel_rfl) (.none rfl) rfl rfl (.indexAddr rfl rfl) h ⟨st368, trivial⟩ (fun vp369 h => ?_)
      obtain ⟨p369, rfl, h⟩ := h
      refine JD.read (i := 7) [false] rfl (by kernel_rfl) (by kernel_rfl) (by kernel_rfl) (by kernel_rfl) (.none rfl) rfl rfl (.load rfl) h ⟨st368, trivial⟩ (fun v370 st371 h => ?_)
      refine JD.sPure (i := 8) [true, true] rfl (by kernel_rfl) (by kernel_rfl) (by kernel_rfl) (by kernel_rfl) (.none rfl) rfl rfl (.binOp rfl rfl) h trivial (fun vb372 h => ?_)
      obtain ⟨b372, rfl, h⟩ := h
      refine JD.done (by kernel_rfl) ?_
      refine JX.then ?_
      refine J.cond (b := _) rfl h (fun h => ?_) (fun h => ?_)
      · refine J.seq ?_
        refine J.region ?_
        refine JL.exP (.none rfl) rfl rfl (.assign rfl) ?_
        refine JL.nil ?_
        refine JX.then ?_
        refine J.ret ?_
        refine JX.blockRet ?_
        refine JX.thenRet ?_
        refine JX.thenRet ?_
        refine JX.blockRet ?_
        refine JX.thenRet ?_
        exact JX.ret1 rfl rfl h
      · refine J.skip ?_
        refine JX.blockNormal ?_
        refine JX.then ?_
        refine J.region ?_
        refine JL.exP (.none rfl) rfl rfl (.move rfl) ?_
        refine JL.exP (.none rfl) rfl rfl (.add rfl rfl) ?_
        refine JL.exP (.none rfl) rfl rfl (.assign rfl) ?_
        refine JL.nil ?_
        exact JX.loopEnd h ⟨rfl, rfl, rfl, rfl, trivial⟩
    · refine J.exit ?_
      refine JX.thenExit ?_
      refine JX.thenExit ?_
      refine JX.blockHere ?_
      refine JX.then ?_
      refine J.seq ?_
      refine J.region ?_
      refine JL.exP (.none rfl) rfl rfl (.assign rfl) ?_
      refine JL.nil ?_
      refine JX.then ?_
      refine J.ret ?_
      exact JX.ret1 rfl rfl h

/-- (*cabstand/ledger.Ledger).there -/
def ledger_Ledger_there (a0 : Value) (K : Value → WP) : WP :=
  joinH (α := Bool) (fun y373 =>
    K (.bool y373)) fun k374 =>
    pureB Try.prog (eqM .neq 22 (.tmp 3) (.const (.pointer none)) a0 (.pointer none)) fun b375 =>
    andB b375 (fun k377 =>
      asP a0 fun p379 =>
      semV Try.prog (loadVar 76 (p379.add 0)) fun v380 =>
      pureB Try.prog (eqM .neq 76 (.tmp 9) (.const (.map none)) v380 (.map none)) fun b381 =>
      k377 b381) fun b376 =>
    k374 b376
set_option maxRecDepth 100000 in
set_option maxHeartbeats 1000000 in
theorem ledger_Ledger_there_ok {a0 : Value} {K : Value → WP} {w : World} (h : ledger_Ledger_there a0 K w) : callH Try.prog 34 #[a0] K w := by
  refine enter (l := [a0]) Try.func34 rfl rfl rfl ?_
  show J Try.prog 12 [(0, a0)] _ _ _
  unfold ledger_Ledger_there at h
  refine J.seq ?_
  refine J.region ?_
  refine JL.exP (.none rfl) rfl rfl (.assign rfl) ?_
  refine JL.nil ?_
  refine JX.then ?_
  refine J.seq ?_
  refine J.join h (fun y373 => [(2, (.bool y373))]) (fun k374 w h => ?_) (fun y373 w h => ?_)
  · refine J.region ?_
    refine JL.exP (.none rfl) rfl rfl (.move rfl) ?_
    refine JL.sPure (.none rfl) rfl rfl (.binOp rfl rfl) h (fun vb375 w h => ?_)
    obtain ⟨b375, rfl, h⟩ := h
    refine JL.exP (.none rfl) rfl rfl (.move rfl) ?_
    rcases andB_cases h with ⟨hc378, h⟩ | ⟨hc378, h⟩
    · refine JL.exNo (.off rfl rfl rfl hc378 rfl) rfl rfl ?_
      refine JL.exNo (.off rfl rfl rfl hc378 rfl) rfl rfl ?_
      refine JL.exNo (.off rfl rfl rfl hc378 rfl) rfl rfl ?_
      refine JL.exNo (.off rfl rfl rfl hc378 rfl) rfl rfl ?_
      refine JL.exNo (.off rfl rfl rfl hc378 rfl) rfl rfl ?_
      refine JL.exP (.none rfl) rfl rfl (.pickOff rfl hc378 rfl) ?_
      refine JL.exP (.none rfl) rfl rfl (.assign rfl) ?_
      refine JL.nil ?_
      exact JX.joinEnd h ⟨rfl, trivial⟩
    · refine JL.exP (.on rfl rfl rfl hc378) rfl rfl (.move rfl) ?_
      obtain ⟨p379, hp379, h⟩ := h
      refine JL.exP (.on rfl rfl rfl hc378) rfl rfl (.nilCheck rfl hp379) ?_
      refine JL.exP (.on rfl rfl rfl hc378) rfl rfl (.fieldAddr rfl (fa_79_0 _)) ?_
      refine JL.exV (.on rfl rfl rfl hc378) rfl rfl (.load rfl) h (fun v380 w h => ?_)
      refine JL.sPure (.on rfl rfl rfl hc378) rfl rfl (.binOp rfl rfl) h (fun vb381 w h => ?_)
      obtain ⟨b381, rfl, h⟩ := h
      refine JL.exP (.none rfl) rfl rfl (.pickOn rfl hc378 rfl) ?_
      refine JL.exP (.none rfl) rfl rfl (.assign rfl) ?_
      refine JL.nil ?_
      exact JX.joinEnd h ⟨rfl, trivial⟩
  · refine JX.then ?_
    refine J.ret ?_
    exact JX.ret1 rfl rfl h

/-- cabstand/num.Add -/
def num_Add (a0 : Int) (a1 : Int) (K : Value → WP) : WP :=
  joinH (α := Bool) (fun y382 =>
    iteH y382 (
      K (.tuple #[(.int .i64 (IntKind.i64.wrap (a0 + a1))), (.bool true)])) (
      K (.tuple #[(.int .i64 0), (.bool false)]))) fun k383 =>
    callB Try.prog 59 #[(.int .i64 a0)] fun b384 =>
    andB b384 (fun k386 =>
      callB Try.prog 59 #[(.int .i64 a1)] fun b388 =>
      k386 b388) fun b385 =>
    andB b385 (fun k390 =>
      callB Try.prog 59 #[(.int .i64 (IntKind.i64.wrap (a0 + a1)))] fun b392 =>
      k390 b392) fun b389 =>
    k383 b389
set_option maxRecDepth 100000 in
set_option maxHeartbeats 1000000 in
theorem num_Add_ok {a0 : Int} {a1 : Int} {K : Value → WP} {w : World} (h : num_Add a0 a1 K w) : callH Try.prog 35 #[(.int .i64 a0), (.int .i64 a1)] K w := by
  refine enter (l := [(.int .i64 a0), (.int .i64 a1)]) Try.func35 rfl rfl rfl ?_
  show J Try.prog 21 [(0, (.int .i64 a0)), (1, (.int .i64 a1))] _ _ _
  unfold num_Add at h
  refine J.seq ?_
  refine J.region ?_
  refine JL.exP (.none rfl) rfl rfl (.assign rfl) ?_
  refine JL.exP (.none rfl) rfl rfl (.assign rfl) ?_
  refine JL.nil ?_
  refine JX.then ?_
  refine J.seq ?_
  refine J.seq ?_
  refine J.region ?_
  refine JL.exP (.none rfl) rfl rfl (.move rfl) ?_
  refine JL.exP (.none rfl) rfl rfl (.move rfl) ?_
  refine JL.exP (.none rfl) rfl rfl (.add rfl rfl) ?_
  refine JL.exP (.none rfl) rfl rfl (.assign rfl) ?_
  refine JL.nil ?_
  refine JX.then ?_
  refine J.seq ?_
  refine J.join h (fun y382 => [(4, (.int .i64 0)), (5, (.bool false)), (6, (.int .i64 (IntKind.i64.wrap (a0 + a1)))), (19, (.bool y382))]) (fun k383 w h => ?_) (fun y382 w h => ?_)
  · refine J.region ?_
    refine JL.exP (.none rfl) rfl rfl (.move rfl) ?_
    refine JL.exC (.none rfl) rfl rfl (.func (vs := [(.int .i64 a0)]) en_59 rfl) h (fun vb384 w h => ?_)
    obtain ⟨b384, rfl, h⟩ := h
    refine JL.exP (.none rfl) rfl rfl (.move rfl) ?_
    rcases andB_cases h with ⟨hc387, h⟩ | ⟨hc387, h⟩
    · refine JL.exNo (.off rfl rfl rfl hc387 rfl) rfl rfl ?_
      refine JL.exNo (.off rfl rfl rfl hc387 rfl) rfl rfl ?_
      refine JL.exP (.none rfl) rfl rfl (.pickOff rfl hc387 rfl) ?_
      refine JL.exP (.none rfl) rfl rfl (.move rfl) ?_
      have h := andB_false' h
      refine JL.exNo (.off rfl rfl rfl rfl rfl) rfl rfl ?_
      refine JL.exNo (.off rfl rfl rfl rfl rfl) rfl rfl ?_
      refine JL.exP (.none rfl) rfl rfl (.pickOff rfl rfl rfl) ?_
      refine JL.nil ?_
      exact JX.joinEnd h ⟨rfl, rfl, rfl, rfl, trivial⟩
    · refine JL.exP (.on rfl rfl rfl hc387) rfl rfl (.move rfl) ?_
      refine JL.exC (.on rfl rfl rfl hc387) rfl rfl (.func (vs := [(.int .i64 a1)]) en_59 rfl) h (fun vb388 w h => ?_)
      obtain ⟨b388, rfl, h⟩ := h
      refine JL.exP (.none rfl) rfl rfl (.pickOn rfl hc387 rfl) ?_
      refine JL.exP (.none rfl) rfl rfl (.move rfl) ?_
      rcases andB_cases h with ⟨hc391, h⟩ | ⟨hc391, h⟩
      · refine JL.exNo (.off rfl rfl rfl hc391 rfl) rfl rfl ?_
        refine JL.exNo (.off rfl rfl rfl hc391 rfl) rfl rfl ?_
        refine JL.exP (.none rfl) rfl rfl (.pickOff rfl hc391 rfl) ?_
        refine JL.nil ?_
        exact JX.joinEnd h ⟨rfl, rfl, rfl, rfl, trivial⟩
      · refine JL.exP (.on rfl rfl rfl hc391) rfl rfl (.move rfl) ?_
        refine JL.exC (.on rfl rfl rfl hc391) rfl rfl (.func (vs := [(.int .i64 (IntKind.i64.wrap (a0 + a1)))]) en_59 rfl) h (fun vb392 w h => ?_)
        obtain ⟨b392, rfl, h⟩ := h
        refine JL.exP (.none rfl) rfl rfl (.pickOn rfl hc391 rfl) ?_
        refine JL.nil ?_
        exact JX.joinEnd h ⟨rfl, rfl, rfl, rfl, trivial⟩
  · refine JX.then ?_
    refine J.cond (b := _) rfl h (fun h => ?_) (fun h => ?_)
    · refine J.seq ?_
      refine J.region ?_
      refine JL.exP (.none rfl) rfl rfl (.move rfl) ?_
      refine JL.exP (.none rfl) rfl rfl (.assign rfl) ?_
      refine JL.exP (.none rfl) rfl rfl (.assign rfl) ?_
      refine JL.nil ?_
      refine JX.then ?_
      refine J.ret ?_
      refine JX.thenRet ?_
      exact JX.ret2 rfl rfl rfl h
    · refine J.skip ?_
      refine JX.then ?_
      refine J.seq ?_
      refine J.region ?_
      refine JL.exP (.none rfl) rfl rfl (.assign rfl) ?_
      refine JL.exP (.none rfl) rfl rfl (.assign rfl) ?_
      refine JL.nil ?_
      refine JX.then ?_
      refine J.ret ?_
      exact JX.ret2 rfl rfl rfl h

/-- (*cabstand/ledger.Ledger).book -/
def ledger_Ledger_book (a0 : Value) (a1 : Value) (a2 : Int) (K : Value → WP) : WP :=
  semA Try.prog (Instr.box 28 a1) fun p393 =>
  drawH <|
  asP a0 fun p394 =>
  readV Try.prog (loadVar 76 (p394.add 0)) fun v395 =>
  readV Try.prog (loadVar 28 p393) fun v397 =>
  readV Try.prog (Instr.lookup 76 v395 v397 false) fun v399 =>
  semA Try.prog (Instr.alloc 86 true (.tuple #[])) fun p404 =>
  keepR Try.prog (Instr.lookup 76 v395 v397 false) v399 <|
  keepR Try.prog (loadVar 28 p393) v397 <|
  keepR Try.prog (loadVar 76 (p394.add 0)) v395 <|
  semU Try.prog (storeVar 86 p404 v399) <|
  semI Try.prog .i64 (loadVar 3 (p404.add 0)) fun x405 =>
  semU Try.prog (storeVar 3 (p404.add 0) (.int .i64 (IntKind.i64.wrap (x405 + a2)))) <|
  drawH <|
  asP a0 fun p406 =>
  readV Try.prog (loadVar 76 (p406.add 0)) fun v407 =>
  readV Try.prog (loadVar 28 p393) fun v409 =>
  readV Try.prog (loadVar 86 p404) fun v411 =>
  semU Try.prog (Instr.mapUpdate 76 v407 v409 v411) <|
  K (.tuple #[])
set_option maxRecDepth 100000 in
set_option maxHeartbeats 1000000 in
theorem ledger_Ledger_book_ok {a0 : Value} {a1 : Value} {a2 : Int} {K : Value → WP} {w : World} (h : ledger_Ledger_book a0 a1 a2 K w) : callH Try.prog 36 #[a0, a1, (.int .i64 a2)] K w := by
  refine enter (l := [a0, a1, (.int .i64 a2)]) Try.func36 rfl rfl rfl ?_
  show J Try.prog 24 [(0, a0), (1, a1), (2, (.int .i64 a2))] _ _ _
  unfold ledger_Ledger_book at h
  refine J.seq ?_
  refine J.region ?_
  refine JL.exV (.none rfl) rfl rfl (.box rfl) h (fun vp393 w h => ?_)
  obtain ⟨p393, rfl, h⟩ := h
  refine JL.nil ?_
  refine JX.then ?_
  refine J.seq ?_
  refine J.draw [[], [0], [0, 1], [0, 1, 2], [], [0, 1, 2, 3, 4], [], [0, 1, 2, 3, 4, 5, 6]] (by kernel_rfl) mixed h (fun w h => ?_)
  refine JD.pure_ (i := 0) [] rfl (by kernel_rfl) (by kernel_rfl) (by kernel_rfl) (by kernel_rfl) (.none rfl) rfl rfl (.move rfl) trivial ?_
  obtain ⟨p394, hp394, h⟩ := h
  refine JD.pure_ (i := 1) [] rfl (by kernel_rfl) (by kernel_rfl) (by kernel_rfl) (by kernel_rfl) (.none rfl) rfl rfl (.nilCheck rfl hp394) trivial ?_
  refine JD.pure_ (i := 2) [] rfl (by kernel_rfl) (by kernel_rfl) (by kernel_rfl) (by kernel_rfl) (.none rfl) rfl rfl (.fieldAddr rfl (fa_79_0 _)) trivial ?_
  refine JD.read (i := 3) [] rfl (by kernel_rfl) (by kernel_rfl) (by kernel_rfl) (by kernel_rfl) (.none rfl) rfl rfl (.load rfl) h trivial (fun v395 st396 h => ?_)
  refine JD.read (i := 4) [false] rfl (by kernel_rfl) (by kernel_rfl) (by kernel_rfl) (by kernel_rfl) (.none rfl) rfl rfl (.load rfl) h ⟨st396, trivial⟩ (fun v397 st398 h => ?_)
  refine JD.read (i := 5) [true, true] rfl (by kernel_rfl) (by kernel_rfl) (by kernel_rfl) (by kernel_rfl) (.none rfl) rfl rfl (.lookup rfl rfl) h trivial (fun v399 st400 h => ?_)
  refine JD.one (j := 6) (by kernel_rfl) ?_
  refine JD1.exV [false, false, false] rfl (by kernel_rfl) (.none rfl) rfl rfl (.alloc) h (fun vp404 w h => ?_)
  obtain ⟨p404, rfl, h⟩ := h
  obtain ⟨st401, h⟩ := h
  obtain ⟨st402, h⟩ := h
  obtain ⟨st403, h⟩ := h
  refine ⟨⟨st401, st402, st403, trivial⟩, ?_⟩
  refine JD.one (j := 7) (by kernel_rfl) ?_
  refine JD1.exU [true, true, true] rfl (by kernel_rfl) (.none rfl) rfl (.store rfl rfl) h (fun w h => ?_)
  refine ⟨trivial, ?_⟩
  refine JD.done (by kernel_rfl) ?_
  refine JX.then ?_
  refine J.seq ?_
  refine J.region ?_
  refine JL.exP (.none rfl) rfl rfl (.fieldAddr rfl (fa_86_0 _)) ?_
  refine JL.exV (.none rfl) rfl rfl (.load rfl) h (fun vx405 w h => ?_)
  obtain ⟨x405, rfl, h⟩ := h
  refine JL.exP (.none rfl) rfl rfl (.move rfl) ?_
  refine JL.exP (.none rfl) rfl rfl (.add rfl rfl) ?_
  refine JL.exP (.none rfl) rfl rfl (.fieldAddr rfl (fa_86_0 _)) ?_
  refine JL.exU (.none rfl) rfl (.store rfl rfl) h (fun w h => ?_)
  refine JL.nil ?_
  refine JX.then ?_
  refine J.draw [[], [0], [0, 1], [0, 1, 2], [], [], [0, 1, 2, 3, 4, 5]] (by kernel_rfl) mixed h (fun w h => ?_)
  refine JD.pure_ (i := 0) [] rfl (by kernel_rfl) (by kernel_rfl) (by kernel_rfl) (by kernel_rfl) (.none rfl) rfl rfl (.move rfl) trivial ?_
  obtain ⟨p406, hp406, h⟩ := h
  refine JD.pure_ (i := 1) [] rfl (by kernel_rfl) (by kernel_rfl) (by kernel_rfl) (by kernel_rfl) (.none rfl) rfl rfl (.nilCheck rfl hp406) trivial ?_
  refine JD.pure_ (i := 2) [] rfl (by kernel_rfl) (by kernel_rfl) (by kernel_rfl) (by kernel_rfl) (.none rfl) rfl rfl (.fieldAddr rfl (fa_79_0 _)) trivial ?_
  refine JD.read (i := 3) [] rfl (by kernel_rfl) (by kernel_rfl) (by kernel_rfl) (by kernel_rfl) (.none rfl) rfl rfl (.load rfl) h trivial (fun v407 st408 h => ?_)
  refine JD.read (i := 4) [false] rfl (by kernel_rfl) (by kernel_rfl) (by kernel_rfl) (by kernel_rfl) (.none rfl) rfl rfl (.load rfl) h ⟨st408, trivial⟩ (fun v409 st410 h => ?_)
  refine JD.read (i := 5) [false, false] rfl (by kernel_rfl) (by kernel_rfl) (by kernel_rfl) (by kernel_rfl) (.none rfl) rfl rfl (.load rfl) h ⟨st410, st408, trivial⟩ (fun v411 st412 h => ?_)
  refine JD.one (j := 6) (by kernel_rfl) ?_
  refine JD1.exU [true, true, true] rfl (by kernel_rfl) (.none rfl) rfl (.mapUpdate rfl rfl rfl) h (fun w h => ?_)
  refine ⟨trivial, ?_⟩
  refine JD.done (by kernel_rfl) ?_
  exact JX.end0 rfl h

/-- slices.Clone[[]cabstand/api.Entry,cabstand/api.Entry] -/
def slices_Clone (a0 : Value) (K : Value → WP) : WP :=
  pureB Try.prog (eqM .eql 77 (.tmp 3) (.const (.slice none 0 0)) a0 (.slice none 0 0)) fun b413 =>
  iteH b413 (
    K (.slice none 0 0)) (
    semV Try.prog (Instr.buildSlice 77 0 #[]) fun v414 =>
    semV Try.prog (Builtin.append_ #[77, 77] 77 #[v414, a0]) fun v415 =>
    K v415)
set_option maxRecDepth 100000 in
set_option maxHeartbeats 1000000 in
theorem slices_Clone_ok {a0 : Value} {K : Value → WP} {w : World} (h : slices_Clone a0 K w) : callH Try.prog 58 #[a0] K w := by
  refine enter (l := [a0]) Try.func58 rfl rfl rfl ?_
  show J Try.prog 8 [(0, a0)] _ _ _
  unfold slices_Clone at h
  refine J.seq ?_
  refine J.region ?_
  refine JL.exP (.none rfl) rfl rfl (.assign rfl) ?_
  refine JL.nil ?_
  refine JX.then ?_
  refine J.seq ?_
  refine J.seq ?_
  refine J.region ?_
  refine JL.exP (.none rfl) rfl rfl (.move rfl) ?_
  refine JL.sPure (.none rfl) rfl rfl (.binOp rfl rfl) h (fun vb413 w h => ?_)
  obtain ⟨b413, rfl, h⟩ := h
  refine JL.nil ?_
  refine JX.then ?_
  refine J.cond (b := _) rfl h (fun h => ?_) (fun h => ?_)
  · refine J.seq ?_
    refine J.region ?_
    refine JL.exP (.none rfl) rfl rfl (.assign rfl) ?_
    refine JL.nil ?_
    refine JX.then ?_
    refine J.ret ?_
    refine JX.thenRet ?_
    exact JX.ret1 rfl rfl h
  · refine J.skip ?_
    refine JX.then ?_
    refine J.seq ?_
    refine J.region ?_
    refine JL.exV (.none rfl) rfl rfl ((.buildSlice (l' := []) rfl)) h (fun v414 w h => ?_)
    refine JL.exP (.none rfl) rfl rfl (.move rfl) ?_
    refine JL.exV (.none rfl) rfl rfl ((.append (vs := [v414, a0]) rfl)) h (fun v415 w h => ?_)
    refine JL.exP (.none rfl) rfl rfl (.assign rfl) ?_
    refine JL.nil ?_
    refine JX.then ?_
    refine J.ret ?_
    exact JX.ret1 rfl rfl h

/-- cabstand/num.is -/
def num_is (a0 : Int) (K : Value → WP) : WP :=
  joinH (α := Bool) (fun y416 =>
    K (.bool y416)) fun k417 =>
    andB (decide ((-4611686018427387903) ≤ a0)) (fun k419 =>
      k419 (decide (a0 ≤ 4611686018427387903))) fun b418 =>
    k417 b418
set_option maxRecDepth 100000 in
set_option maxHeartbeats 1000000 in
theorem num_is_ok {a0 : Int} {K : Value → WP} {w : World} (h : num_is a0 K w) : callH Try.prog 59 #[(.int .i64 a0)] K w := by
  refine enter (l := [(.int .i64 a0)]) Try.func59 rfl rfl rfl ?_
  show J Try.prog 9 [(0, (.int .i64 a0))] _ _ _
  unfold num_is at h
  refine J.seq ?_
  refine J.region ?_
  refine JL.exP (.none rfl) rfl rfl (.assign rfl) ?_
  refine JL.nil ?_
  refine JX.then ?_
  refine J.seq ?_
  refine J.join h (fun y416 => [(2, (.bool y416))]) (fun k417 w h => ?_) (fun y416 w h => ?_)
  · refine J.region ?_
    refine JL.exP (.none rfl) rfl rfl (.move rfl) ?_
    refine JL.exP (.none rfl) rfl rfl (.geq rfl rfl) ?_
    refine JL.exP (.none rfl) rfl rfl (.move rfl) ?_
    rcases andB_cases h with ⟨hc420, h⟩ | ⟨hc420, h⟩
    · refine JL.exNo (.off rfl rfl rfl hc420 rfl) rfl rfl ?_
      refine JL.exNo (.off rfl rfl rfl hc420 rfl) rfl rfl ?_
      refine JL.exP (.none rfl) rfl rfl (.pickOff rfl hc420 rfl) ?_
      refine JL.exP (.none rfl) rfl rfl (.assign rfl) ?_
      refine JL.nil ?_
      exact JX.joinEnd h ⟨rfl, trivial⟩
    · refine JL.exP (.on rfl rfl rfl hc420) rfl rfl (.move rfl) ?_
      refine JL.exP (.on rfl rfl rfl hc420) rfl rfl (.leq rfl rfl) ?_
      refine JL.exP (.none rfl) rfl rfl (.pickOn rfl hc420 rfl) ?_
      refine JL.exP (.none rfl) rfl rfl (.assign rfl) ?_
      refine JL.nil ?_
      exact JX.joinEnd h ⟨rfl, trivial⟩
  · refine JX.then ?_
    refine J.ret ?_
    exact JX.ret1 rfl rfl h

end S
end Go.Cab

