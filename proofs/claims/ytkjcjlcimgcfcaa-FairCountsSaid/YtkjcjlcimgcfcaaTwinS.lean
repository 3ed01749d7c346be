/- A part of the proof: TwinS. -/
import Derived.Test.YtkjcjlcimgcfcaaBase
namespace Go.Cab
set_option linter.unusedSimpArgs false
set_option linter.unusedVariables false
set_option linter.unusedSectionVars false
open Go Go.Proofs
theorem mixed : Try.prog.follows .mixedOrders = true := by kernel_rfl
theorem en_16 : Enters Try.prog 16 := .of Try.func16 rfl (by kernel_rfl)
theorem en_17 : Enters Try.prog 17 := .of Try.func17 rfl (by kernel_rfl)
theorem fa_46_1 (a : Addr) (w : World) : (Instr.fieldAt 46 (.pointer (some a)) 1).run Try.prog w = .ok (.pointer (some (a.add 1))) w := by kernel_rfl
theorem fa_56_0 (a : Addr) (w : World) : (Instr.fieldAt 56 (.pointer (some a)) 0).run Try.prog w = .ok (.pointer (some (a.add 0))) w := by kernel_rfl
theorem fa_54_0 (a : Addr) (w : World) : (Instr.fieldAt 54 (.pointer (some a)) 0).run Try.prog w = .ok (.pointer (some (a.add 0))) w := by kernel_rfl
theorem en_18 : Enters Try.prog 18 := .of Try.func18 rfl (by kernel_rfl)
theorem en_19 : Enters Try.prog 19 := .of Try.func19 rfl (by kernel_rfl)
theorem en_20 : Enters Try.prog 20 := .of Try.func20 rfl (by kernel_rfl)
theorem en_21 : Enters Try.prog 21 := .of Try.func21 rfl (by kernel_rfl)
theorem en_39 : Enters Try.prog 39 := .of Try.func39 rfl (by kernel_rfl)
theorem fa_46_0 (a : Addr) (w : World) : (Instr.fieldAt 46 (.pointer (some a)) 0).run Try.prog w = .ok (.pointer (some (a.add 0))) w := by kernel_rfl
theorem en_40 : Enters Try.prog 40 := .of Try.func40 rfl (by kernel_rfl)
theorem fa_46_2 (a : Addr) (w : World) : (Instr.fieldAt 46 (.pointer (some a)) 2).run Try.prog w = .ok (.pointer (some (a.add 2))) w := by kernel_rfl
theorem fa_46_3 (a : Addr) (w : World) : (Instr.fieldAt 46 (.pointer (some a)) 3).run Try.prog w = .ok (.pointer (some (a.add 3))) w := by kernel_rfl
theorem fa_46_4 (a : Addr) (w : World) : (Instr.fieldAt 46 (.pointer (some a)) 4).run Try.prog w = .ok (.pointer (some (a.add 6))) w := by kernel_rfl
theorem en_41 : Enters Try.prog 41 := .of Try.func41 rfl (by kernel_rfl)
theorem en_42 : Enters Try.prog 42 := .of Try.func42 rfl (by kernel_rfl)
theorem en_43 : Enters Try.prog 43 := .of Try.func43 rfl (by kernel_rfl)
theorem en_50 : Enters Try.prog 50 := .of Try.func50 rfl (by kernel_rfl)
theorem en_51 : Enters Try.prog 51 := .of Try.func51 rfl (by kernel_rfl)
theorem en_52 : Enters Try.prog 52 := .of Try.func52 rfl (by kernel_rfl)
theorem en_53 : Enters Try.prog 53 := .of Try.func53 rfl (by kernel_rfl)
theorem fa_40_2 (a : Addr) (w : World) : (Instr.fieldAt 40 (.pointer (some a)) 2).run Try.prog w = .ok (.pointer (some (a.add 2))) w := by kernel_rfl
theorem fa_44_0 (a : Addr) (w : World) : (Instr.fieldAt 44 (.pointer (some a)) 0).run Try.prog w = .ok (.pointer (some (a.add 0))) w := by kernel_rfl
theorem fa_44_1 (a : Addr) (w : World) : (Instr.fieldAt 44 (.pointer (some a)) 1).run Try.prog w = .ok (.pointer (some (a.add 1))) w := by kernel_rfl
theorem fa_44_2 (a : Addr) (w : World) : (Instr.fieldAt 44 (.pointer (some a)) 2).run Try.prog w = .ok (.pointer (some (a.add 2))) w := by kernel_rfl
theorem en_63 : Enters Try.prog 63 := .of Try.func63 rfl (by kernel_rfl)
theorem en_64 : Enters Try.prog 64 := .of Try.func64 rfl (by kernel_rfl)
theorem en_65 : Enters Try.prog 65 := .of Try.func65 rfl (by kernel_rfl)
theorem en_66 : Enters Try.prog 66 := .of Try.func66 rfl (by kernel_rfl)
theorem en_67 : Enters Try.prog 67 := .of Try.func67 rfl (by kernel_rfl)
theorem en_73 : Enters Try.prog 73 := .of Try.func73 rfl (by kernel_rfl)
theorem en_74 : Enters Try.prog 74 := .of Try.func74 rfl (by kernel_rfl)
theorem en_75 : Enters Try.prog 75 := .of Try.func75 rfl (by kernel_rfl)
theorem en_76 : Enters Try.prog 76 := .of Try.func76 rfl (by kernel_rfl)
theorem fa_40_0 (a : Addr) (w : World) : (Instr.fieldAt 40 (.pointer (some a)) 0).run Try.prog w = .ok (.pointer (some (a.add 0))) w := by kernel_rfl
theorem fa_40_1 (a : Addr) (w : World) : (Instr.fieldAt 40 (.pointer (some a)) 1).run Try.prog w = .ok (.pointer (some (a.add 1))) w := by kernel_rfl
theorem en_77 : Enters Try.prog 77 := .of Try.func77 rfl (by kernel_rfl)
theorem en_78 : Enters Try.prog 78 := .of Try.func78 rfl (by kernel_rfl)
theorem en_79 : Enters Try.prog 79 := .of Try.func79 rfl (by kernel_rfl)
theorem en_93 : Enters Try.prog 93 := .of Try.func93 rfl (by kernel_rfl)
theorem en_94 : Enters Try.prog 94 := .of Try.func94 rfl (by kernel_rfl)
theorem en_95 : Enters Try.prog 95 := .of Try.func95 rfl (by kernel_rfl)
theorem en_100 : Enters Try.prog 100 := .of Try.func100 rfl (by kernel_rfl)
theorem en_101 : Enters Try.prog 101 := .of Try.func101 rfl (by kernel_rfl)
theorem en_102 : Enters Try.prog 102 := .of Try.func102 rfl (by kernel_rfl)
theorem en_103 : Enters Try.prog 103 := .of Try.func103 rfl (by kernel_rfl)
theorem en_104 : Enters Try.prog 104 := .of Try.func104 rfl (by kernel_rfl)
theorem en_105 : Enters Try.prog 105 := .of Try.func105 rfl (by kernel_rfl)
namespace S
/-- cabstand/cabstandlaw21.FairGoods -/
def law21_FairGoods (a0 : Value) (a1 : Value) (K : Value → WP) : WP :=
  semA Try.prog (Instr.box 46 a0) fun p1 =>
  semA Try.prog (Instr.box 28 a1) fun p2 =>
  semV Try.prog (loadVar 46 p1) fun v3 =>
  semV Try.prog (Instr.buildSlice 48 1 #[(0, v3)]) fun v4 =>
  callB Try.prog 16 #[v4] fun b5 =>
  iteH b5 (
    K (.bool true)) (
    semV Try.prog (loadVar 46 p1) fun v6 =>
    callH Try.prog 17 #[v6] fun v7 =>
    semA Try.prog (Instr.alloc 46 true (.tuple #[])) fun p8 =>
    semU Try.prog (storeVar 46 p8 v7) <|
    loopH (σ := Bool × Int) (fun kc10 s9 =>
      semV Try.prog (loadVar 36 (p1.add 1)) fun v11 =>
      pureI Try.prog .i64 (Builtin.len_ #[36] 3 #[v11]) fun x12 =>
      iteH (decide (s9.2 < x12)) (
        semV Try.prog (loadVar 28 p2) fun v13 =>
        semA Try.prog (Instr.alloc 28 true (.tuple #[])) fun p14 =>
        semU Try.prog (storeVar 28 p14 v13) <|
        joinH (α := Unit) (fun y15 =>
          semV Try.prog (loadVar 46 p8) fun v20 =>
          semV Try.prog (loadVar 28 p14) fun v21 =>
          callH Try.prog 18 #[v20, v21] fun v22 =>
          pureB Try.prog (Instr.extract v22 0) fun b23 =>
          pureB Try.prog (Instr.extract v22 1) fun b24 =>
          pureB Try.prog (Instr.extract v22 2) fun b25 =>
          semV Try.prog (loadVar 46 p1) fun v26 =>
          semV Try.prog (loadVar 28 p14) fun v27 =>
          callH Try.prog 19 #[v26, v27] fun v28 =>
          pureB Try.prog (Instr.extract v28 0) fun b29 =>
          pureB Try.prog (Instr.extract v28 1) fun b30 =>
          pureB Try.prog (Instr.extract v28 2) fun b31 =>
          joinH (α := Bool) (fun y32 =>
            iteH y32 (
              K (.bool false)) (
              kc10 (s9.1, (IntKind.i64.wrap (s9.2 + 1))))) fun k33 =>
            pureB Try.prog (eqM .neq 4 (.tmp 50) (.tmp 51) (.bool b23) (.bool b29)) fun b34 =>
            orB b34 (fun k36 =>
              pureB Try.prog (eqM .neq 4 (.tmp 54) (.tmp 55) (.bool b24) (.bool b30)) fun b38 =>
              k36 b38) fun b35 =>
            orB b35 (fun k40 =>
              pureB Try.prog (eqM .neq 4 (.tmp 59) (.tmp 60) (.bool b25) (.bool b31)) fun b42 =>
              k40 b42) fun b39 =>
            k33 b39) fun k16 =>
          iteH (decide (0 ≤ s9.2)) (
            semV Try.prog (loadVar 36 (p1.add 1)) fun v17 =>
            pureA Try.prog (Instr.indexAt 36 v17 (.int .i64 s9.2)) fun p18 =>
            semV Try.prog (loadVar 28 ((p18.add 0).add 0)) fun v19 =>
            semU Try.prog (storeVar 28 p14 v19) <|
            k16 ()) (
            k16 ())) (
        joinH (α := Bool) (fun y43 =>
          K (.bool y43)) fun k44 =>
          semV Try.prog (loadVar 46 p8) fun v45 =>
          semV Try.prog (loadVar 46 p1) fun v46 =>
          callB Try.prog 20 #[v45, v46] fun b47 =>
          andB b47 (fun k49 =>
            callB Try.prog 21 #[] fun b51 =>
            k49 b51) fun b48 =>
          k44 b48)) (false, (-1)))
set_option maxRecDepth 100000 in
set_option maxHeartbeats 1000000 in
theorem law21_FairGoods_ok {a0 : Value} {a1 : Value} {K : Value → WP} {w : World} (h : law21_FairGoods a0 a1 K w) : callH Try.prog 4 #[a0, a1] K w := by
  refine enter (l := [a0, a1]) Try.func4 rfl rfl rfl ?_
  show J Try.prog 69 [(0, a0), (1, a1)] _ _ _
  unfold law21_FairGoods at h
  refine J.seq ?_
  refine J.region ?_
  refine JL.exV (.none rfl) rfl rfl (.box rfl) h (fun vp1 w h => ?_)
  obtain ⟨p1, rfl, h⟩ := h
  refine JL.exV (.none rfl) rfl rfl (.box rfl) h (fun vp2 w h => ?_)
  obtain ⟨p2, rfl, h⟩ := h
  refine JL.exP (.none rfl) rfl rfl (.assign rfl) ?_
  refine JL.nil ?_
  refine JX.then ?_
  refine J.seq ?_
  refine J.seq ?_
  refine J.region ?_
  refine JL.exV (.none rfl) rfl rfl (.load rfl) h (fun v3 w h => ?_)
  refine JL.exV (.none rfl) rfl rfl ((.buildSlice (l' := [(0, v3)]) rfl)) h (fun v4 w h => ?_)
  refine JL.exC (.none rfl) rfl rfl (.func (vs := [v4]) en_16 rfl) h (fun vb5 w h => ?_)
  obtain ⟨b5, rfl, h⟩ := h
  refine JL.nil ?_
  refine JX.then ?_
  refine J.cond (b := _) rfl h (fun h => ?_) (fun h => ?_)
  · refine J.seq ?_
    refine J.region ?_
    refine JL.exP (.none rfl) rfl rfl (.assign rfl) ?_
    refine JL.nil ?_
    refine JX.then ?_
    refine J.ret ?_
    refine JX.thenRet ?_
    exact JX.ret1 rfl rfl h
  · refine J.skip ?_
    refine JX.then ?_
    refine J.seq ?_
    refine J.region ?_
    refine JL.exV (.none rfl) rfl rfl (.load rfl) h (fun v6 w h => ?_)
    refine JL.exC (.none rfl) rfl rfl (.func (vs := [v6]) en_17 rfl) h (fun v7 w h => ?_)
    refine JL.exV (.none rfl) rfl rfl (.alloc) h (fun vp8 w h => ?_)
    obtain ⟨p8, rfl, h⟩ := h
    refine JL.exU (.none rfl) rfl (.store rfl rfl) h (fun w h => ?_)
    refine JL.nil ?_
    refine JX.then ?_
    refine J.seq ?_
    refine J.seq ?_
    refine J.region ?_
    refine JL.exP (.none rfl) rfl rfl (.assign rfl) ?_
    refine JL.nil ?_
    refine JX.then ?_
    refine J.block ?_
    refine J.loop h (fun s9 => [(2, (.pointer (some p1))), (3, (.pointer (some p2))), (4, (.bool s9.1)), (5, (.pointer (some p8))), (6, (.int .i64 s9.2))]) ⟨rfl, rfl, rfl, rfl, rfl, trivial⟩ (fun I μ s9 w h => ?_)
    refine J.seq ?_
    refine J.seq ?_
    refine J.region ?_
    refine JL.exP (.none rfl) rfl rfl (.move rfl) ?_
    refine JL.exP (.none rfl) rfl rfl (.fieldAddr rfl (fa_46_1 _)) ?_
    refine JL.exV (.none rfl) rfl rfl (.load rfl) h (fun v11 w h => ?_)
    refine JL.sPure (.none rfl) rfl rfl ((.len (vs := [v11]) rfl)) h (fun vx12 w h => ?_)
    obtain ⟨x12, rfl, h⟩ := h
    refine JL.exP (.none rfl) rfl rfl (.lss rfl rfl) ?_
    refine JL.nil ?_
    refine JX.then ?_
    refine J.cond (b := _) rfl h (fun h => ?_) (fun h => ?_)
    · refine J.skip ?_
      refine JX.then ?_
      refine J.seq ?_
      refine J.block ?_
      refine J.seq ?_
      refine J.region ?_
      refine JL.exV (.none rfl) rfl rfl (.load rfl) h (fun v13 w h => ?_)
      refine JL.exV (.none rfl) rfl rfl (.alloc) h (fun vp14 w h => ?_)
      obtain ⟨p14, rfl, h⟩ := h
      refine JL.exU (.none rfl) rfl (.store rfl rfl) h (fun w h => ?_)
      refine JL.nil ?_
      refine JX.then ?_
      refine J.seq ?_
      refine J.seq ?_
      refine J.region ?_
      refine JL.exP (.none rfl) rfl rfl (.move rfl) ?_
      refine JL.exP (.none rfl) rfl rfl (.geq rfl rfl) ?_
      refine JL.nil ?_
      refine JX.then ?_
      refine J.join h (fun y15 => [(2, (.pointer (some p1))), (3, (.pointer (some p2))), (4, (.bool s9.1)), (5, (.pointer (some p8))), (6, (.int .i64 s9.2)), (7, (.pointer (some p14)))]) (fun k16 w h => ?_) (fun y15 w h => ?_)
      · refine J.cond (b := _) rfl h (fun h => ?_) (fun h => ?_)
        · refine J.region ?_
          refine JL.exP (.none rfl) rfl rfl (.fieldAddr rfl (fa_46_1 _)) ?_
          refine JL.exV (.none rfl) rfl rfl (.load rfl) h (fun v17 w h => ?_)
          refine JL.exP (.none rfl) rfl rfl (.move rfl) ?_
          refine JL.sPure (.none rfl) rfl rfl (.indexAddr rfl rfl) h (fun vp18 w h => ?_)
          obtain ⟨p18, rfl, h⟩ := h
          refine JL.exP (.none rfl) rfl rfl (.fieldAddr rfl (fa_56_0 _)) ?_
          refine JL.exP (.none rfl) rfl rfl (.fieldAddr rfl (fa_54_0 _)) ?_
          refine JL.exV (.none rfl) rfl rfl (.load rfl) h (fun v19 w h => ?_)
          refine JL.exU (.none rfl) rfl (.store rfl rfl) h (fun w h => ?_)
          refine JL.nil ?_
          exact JX.joinEnd h ⟨rfl, rfl, rfl, rfl, rfl, rfl, trivial⟩
        · refine J.skip ?_
          exact JX.joinEnd h ⟨rfl, rfl, rfl, rfl, rfl, rfl, trivial⟩
      · refine JX.then ?_
        refine J.seq ?_
        refine J.region ?_
        refine JL.exV (.none rfl) rfl rfl (.load rfl) h (fun v20 w h => ?_)
        refine JL.exV (.none rfl) rfl rfl (.load rfl) h (fun v21 w h => ?_)
        refine JL.exC (.none rfl) rfl rfl (.func (vs := [v20, v21]) en_18 rfl) h (fun v22 w h => ?_)
        refine JL.exP (.none rfl) rfl rfl (.move rfl) ?_
        refine JL.sPure (.none rfl) rfl rfl (.extract rfl) h (fun vb23 w h => ?_)
        obtain ⟨b23, rfl, h⟩ := h
        refine JL.sPure (.none rfl) rfl rfl (.extract rfl) h (fun vb24 w h => ?_)
        obtain ⟨b24, rfl, h⟩ := h
        refine JL.sPure (.none rfl) rfl rfl (.extract rfl) h (fun vb25 w h => ?_)
        obtain ⟨b25, rfl, h⟩ := h
        refine JL.exP (.none rfl) rfl rfl (.assign rfl) ?_
        refine JL.exP (.none rfl) rfl rfl (.assign rfl) ?_
        refine JL.exP (.none rfl) rfl rfl (.assign rfl) ?_
        refine JL.nil ?_
        refine JX.then ?_
        refine J.seq ?_
        refine J.region ?_
        refine JL.exV (.none rfl) rfl rfl (.load rfl) h (fun v26 w h => ?_)
        refine JL.exV (.none rfl) rfl rfl (.load rfl) h (fun v27 w h => ?_)
        refine JL.exC (.none rfl) rfl rfl (.func (vs := [v26, v27]) en_19 rfl) h (fun v28 w h => ?_)
        refine JL.exP (.none rfl) rfl rfl (.move rfl) ?_
        refine JL.sPure (.none rfl) rfl rfl (.extract rfl) h (fun vb29 w h => ?_)
        obtain ⟨b29, rfl, h⟩ := h
        refine JL.sPure (.none rfl) rfl rfl (.extract rfl) h (fun vb30 w h => ?_)
        obtain ⟨b30, rfl, h⟩ := h
        refine JL.sPure (.none rfl) rfl rfl (.extract rfl) h (fun vb31 w h => ?_)
        obtain ⟨b31, rfl, h⟩ := h
        refine JL.exP (.none rfl) rfl rfl (.assign rfl) ?_
        refine JL.exP (.none rfl) rfl rfl (.assign rfl) ?_
        refine JL.exP (.none rfl) rfl rfl (.assign rfl) ?_
        refine JL.nil ?_
        refine JX.then ?_
        refine J.seq ?_
        refine J.join h (fun y32 => [(2, (.pointer (some p1))), (3, (.pointer (some p2))), (4, (.bool s9.1)), (5, (.pointer (some p8))), (6, (.int .i64 s9.2)), (62, (.bool y32))]) (fun k33 w h => ?_) (fun y32 w h => ?_)
        · refine J.region ?_
          refine JL.exP (.none rfl) rfl rfl (.move rfl) ?_
          refine JL.exP (.none rfl) rfl rfl (.move rfl) ?_
          refine JL.sPure (.none rfl) rfl rfl (.binOp rfl rfl) h (fun vb34 w h => ?_)
          obtain ⟨b34, rfl, h⟩ := h
          refine JL.exP (.none rfl) rfl rfl (.move rfl) ?_
          rcases orB_cases h with ⟨hc37, h⟩ | ⟨hc37, h⟩
          · refine JL.exNo (.off rfl rfl rfl hc37 rfl) rfl rfl ?_
            refine JL.exNo (.off rfl rfl rfl hc37 rfl) rfl rfl ?_
            refine JL.exNo (.off rfl rfl rfl hc37 rfl) rfl rfl ?_
            refine JL.exP (.none rfl) rfl rfl (.pickOn rfl hc37 rfl) ?_
            refine JL.exP (.none rfl) rfl rfl (.move rfl) ?_
            have h := orB_true' h
            refine JL.exNo (.off rfl rfl rfl rfl rfl) rfl rfl ?_
            refine JL.exNo (.off rfl rfl rfl rfl rfl) rfl rfl ?_
            refine JL.exNo (.off rfl rfl rfl rfl rfl) rfl rfl ?_
            refine JL.exP (.none rfl) rfl rfl (.pickOn rfl rfl rfl) ?_
            refine JL.nil ?_
            exact JX.joinEnd h ⟨rfl, rfl, rfl, rfl, rfl, rfl, trivial⟩
          · refine JL.exP (.on rfl rfl rfl hc37) rfl rfl (.move rfl) ?_
            refine JL.exP (.on rfl rfl rfl hc37) rfl rfl (.move rfl) ?_
            refine JL.sPure (.on rfl rfl rfl hc37) rfl rfl (.binOp rfl rfl) h (fun vb38 w h => ?_)
            obtain ⟨b38, rfl, h⟩ := h
            refine JL.exP (.none rfl) rfl rfl (.pickOff rfl hc37 rfl) ?_
            refine JL.exP (.none rfl) rfl rfl (.move rfl) ?_
            rcases orB_cases h with ⟨hc41, h⟩ | ⟨hc41, h⟩
            · refine JL.exNo (.off rfl rfl rfl hc41 rfl) rfl rfl ?_
              refine JL.exNo (.off rfl rfl rfl hc41 rfl) rfl rfl ?_
              refine JL.exNo (.off rfl rfl rfl hc41 rfl) rfl rfl ?_
              refine JL.exP (.none rfl) rfl rfl (.pickOn rfl hc41 rfl) ?_
              refine JL.nil ?_
              exact JX.joinEnd h ⟨rfl, rfl, rfl, rfl, rfl, rfl, trivial⟩
            · refine JL.exP (.on rfl rfl rfl hc41) rfl rfl (.move rfl) ?_
              refine JL.exP (.on rfl rfl rfl hc41) rfl rfl (.move rfl) ?_
              refine JL.sPure (.on rfl rfl rfl hc41) rfl rfl (.binOp rfl rfl) h (fun vb42 w h => ?_)
              obtain ⟨b42, rfl, h⟩ := h
              refine JL.exP (.none rfl) rfl rfl (.pickOff rfl hc41 rfl) ?_
              refine JL.nil ?_
              exact JX.joinEnd h ⟨rfl, rfl, rfl, rfl, rfl, rfl, trivial⟩
        · refine JX.then ?_
          refine J.cond (b := _) rfl h (fun h => ?_) (fun h => ?_)
          · refine J.seq ?_
            refine J.region ?_
            refine JL.exP (.none rfl) rfl rfl (.assign rfl) ?_
            refine JL.nil ?_
            refine JX.then ?_
            refine J.ret ?_
            refine JX.blockRet ?_
            refine JX.thenRet ?_
            refine JX.thenRet ?_
            refine JX.blockRet ?_
            refine JX.thenRet ?_
            exact JX.ret1 rfl rfl h
          · refine J.skip ?_
            refine JX.blockNormal ?_
            refine JX.then ?_
            refine J.region ?_
            refine JL.exP (.none rfl) rfl rfl (.move rfl) ?_
            refine JL.exP (.none rfl) rfl rfl (.add rfl rfl) ?_
            refine JL.exP (.none rfl) rfl rfl (.assign rfl) ?_
            refine JL.nil ?_
            exact JX.loopEnd h ⟨rfl, rfl, rfl, rfl, rfl, trivial⟩
    · refine J.exit ?_
      refine JX.thenExit ?_
      refine JX.thenExit ?_
      refine JX.blockHere ?_
      refine JX.then ?_
      refine J.seq ?_
      refine J.join h (fun y43 => [(4, (.bool y43))]) (fun k44 w h => ?_) (fun y43 w h => ?_)
      · refine J.region ?_
        refine JL.exV (.none rfl) rfl rfl (.load rfl) h (fun v45 w h => ?_)
        refine JL.exV (.none rfl) rfl rfl (.load rfl) h (fun v46 w h => ?_)
        refine JL.exC (.none rfl) rfl rfl (.func (vs := [v45, v46]) en_20 rfl) h (fun vb47 w h => ?_)
        obtain ⟨b47, rfl, h⟩ := h
        refine JL.exP (.none rfl) rfl rfl (.move rfl) ?_
        rcases andB_cases h with ⟨hc50, h⟩ | ⟨hc50, h⟩
        · refine JL.exNo (.off rfl rfl rfl hc50 rfl) rfl rfl ?_
          refine JL.exP (.none rfl) rfl rfl (.pickOff rfl hc50 rfl) ?_
          refine JL.exP (.none rfl) rfl rfl (.assign rfl) ?_
          refine JL.nil ?_
          exact JX.joinEnd h ⟨rfl, trivial⟩
        · refine JL.exC (.on rfl rfl rfl hc50) rfl rfl (.func (vs := []) en_21 rfl) h (fun vb51 w h => ?_)
          obtain ⟨b51, rfl, h⟩ := h
          refine JL.exP (.none rfl) rfl rfl (.pickOn rfl hc50 rfl) ?_
          refine JL.exP (.none rfl) rfl rfl (.assign rfl) ?_
          refine JL.nil ?_
          exact JX.joinEnd h ⟨rfl, trivial⟩
      · refine JX.then ?_
        refine J.ret ?_
        exact JX.ret1 rfl rfl h

/-- cabstand/cabstandlaw01.BeyondRecords -/
def law01_BeyondRecords (a0 : Value) (K : Value → WP) : WP :=
  loopH (σ := Bool × Int × Int) (fun kc53 s52 =>
    pureI Try.prog .i64 (Builtin.len_ #[48] 3 #[a0]) fun x54 =>
    iteH (decide (s52.2.2 < x54)) (
      pureA Try.prog (Instr.indexAt 48 a0 (.int .i64 s52.2.2)) fun p55 =>
      semV Try.prog (loadVar 46 p55) fun v56 =>
      callI Try.prog 39 #[v56] .i64 fun x57 =>
      iteH (decide (1048576 < (IntKind.i64.wrap (s52.2.1 + x57)))) (
        K (.bool true)) (
        kc53 (s52.1, (IntKind.i64.wrap (s52.2.1 + x57)), (IntKind.i64.wrap (s52.2.2 + 1))))) (
      K (.bool false))) (false, 0, 0)
set_option maxRecDepth 100000 in
set_option maxHeartbeats 1000000 in
theorem law01_BeyondRecords_ok {a0 : Value} {K : Value → WP} {w : World} (h : law01_BeyondRecords a0 K w) : callH Try.prog 16 #[a0] K w := by
  refine enter (l := [a0]) Try.func16 rfl rfl rfl ?_
  show J Try.prog 20 [(0, a0)] _ _ _
  unfold law01_BeyondRecords at h
  refine J.seq ?_
  refine J.region ?_
  refine JL.exP (.none rfl) rfl rfl (.assign rfl) ?_
  refine JL.nil ?_
  refine JX.then ?_
  refine J.seq ?_
  refine J.region ?_
  refine JL.exP (.none rfl) rfl rfl (.assign rfl) ?_
  refine JL.nil ?_
  refine JX.then ?_
  refine J.seq ?_
  refine J.seq ?_
  refine J.region ?_
  refine JL.exP (.none rfl) rfl rfl (.assign rfl) ?_
  refine JL.nil ?_
  refine JX.then ?_
  refine J.block ?_
  refine J.loop h (fun s52 => [(0, a0), (2, (.bool s52.1)), (3, (.int .i64 s52.2.1)), (4, (.int .i64 s52.2.2))]) ⟨rfl, rfl, rfl, rfl, trivial⟩ (fun I μ s52 w h => ?_)
  refine J.seq ?_
  refine J.seq ?_
  refine J.region ?_
  refine JL.exP (.none rfl) rfl rfl (.move rfl) ?_
  refine JL.exP (.none rfl) rfl rfl (.move rfl) ?_
  refine JL.sPure (.none rfl) rfl rfl ((.len (vs := [a0]) rfl)) h (fun vx54 w h => ?_)
  obtain ⟨x54, rfl, h⟩ := h
  refine JL.exP (.none rfl) rfl rfl (.lss rfl rfl) ?_
  refine JL.nil ?_
  refine JX.then ?_
  refine J.cond (b := _) rfl h (fun h => ?_) (fun h => ?_)
  · refine J.skip ?_
    refine JX.then ?_
    refine J.seq ?_
    refine J.block ?_
    refine J.seq ?_
    refine J.region ?_
    refine JL.exP (.none rfl) rfl rfl (.move rfl) ?_
    refine JL.exP (.none rfl) rfl rfl (.move rfl) ?_
    refine JL.exP (.none rfl) rfl rfl (.move rfl) ?_
    refine JL.sPure (.none rfl) rfl rfl (.indexAddr rfl rfl) h (fun vp55 w h => ?_)
    obtain ⟨p55, rfl, h⟩ := h
    refine JL.exV (.none rfl) rfl rfl (.load rfl) h (fun v56 w h => ?_)
    refine JL.exC (.none rfl) rfl rfl (.func (vs := [v56]) en_39 rfl) h (fun vx57 w h => ?_)
    obtain ⟨x57, rfl, h⟩ := h
    refine JL.exP (.none rfl) rfl rfl (.add rfl rfl) ?_
    refine JL.exP (.none rfl) rfl rfl (.assign rfl) ?_
    refine JL.nil ?_
    refine JX.then ?_
    refine J.seq ?_
    refine J.region ?_
    refine JL.exP (.none rfl) rfl rfl (.move rfl) ?_
    refine JL.exP (.none rfl) rfl rfl (.gtr rfl rfl) ?_
    refine JL.nil ?_
    refine JX.then ?_
    refine J.cond (b := _) rfl h (fun h => ?_) (fun h => ?_)
    · refine J.seq ?_
      refine J.region ?_
      refine JL.exP (.none rfl) rfl rfl (.assign rfl) ?_
      refine JL.nil ?_
      refine JX.then ?_
      refine J.ret ?_
      refine JX.blockRet ?_
      refine JX.thenRet ?_
      refine JX.thenRet ?_
      refine JX.blockRet ?_
      refine JX.thenRet ?_
      exact JX.ret1 rfl rfl h
    · refine J.skip ?_
      refine JX.blockNormal ?_
      refine JX.then ?_
      refine J.region ?_
      refine JL.exP (.none rfl) rfl rfl (.move rfl) ?_
      refine JL.exP (.none rfl) rfl rfl (.add rfl rfl) ?_
      refine JL.exP (.none rfl) rfl rfl (.assign rfl) ?_
      refine JL.nil ?_
      exact JX.loopEnd h ⟨rfl, rfl, rfl, rfl, trivial⟩
  · refine J.exit ?_
    refine JX.thenExit ?_
    refine JX.thenExit ?_
    refine JX.blockHere ?_
    refine JX.then ?_
    refine J.seq ?_
    refine J.region ?_
    refine JL.exP (.none rfl) rfl rfl (.assign rfl) ?_
    refine JL.nil ?_
    refine JX.then ?_
    refine J.ret ?_
    exact JX.ret1 rfl rfl h

/-- cabstand/cabstandlaw01.TwinRecord -/
def law01_TwinRecord (a0 : Value) (K : Value → WP) : WP :=
  semA Try.prog (Instr.box 46 a0) fun p58 =>
  semA Try.prog (Instr.alloc 46 true (.tuple #[])) fun p59 =>
  drawH <|
  readI Try.prog .i64 (loadVar 3 (p58.add 0)) fun x60 =>
  readV Try.prog (loadVar 36 (p58.add 1)) fun v62 =>
  readV Try.prog (loadVar 37 (p58.add 2)) fun v64 =>
  readV Try.prog (loadVar 40 (p58.add 3)) fun v66 =>
  readV Try.prog (loadVar 44 (p58.add 6)) fun v68 =>
  callH Try.prog 40 #[v62] fun v74 =>
  keepR Try.prog (loadVar 44 (p58.add 6)) v68 <|
  keepR Try.prog (loadVar 40 (p58.add 3)) v66 <|
  keepR Try.prog (loadVar 37 (p58.add 2)) v64 <|
  keepR Try.prog (loadVar 3 (p58.add 0)) (.int .i64 x60) <|
  callH Try.prog 41 #[v64] fun v78 =>
  keepR Try.prog (loadVar 44 (p58.add 6)) v68 <|
  keepR Try.prog (loadVar 40 (p58.add 3)) v66 <|
  keepR Try.prog (loadVar 3 (p58.add 0)) (.int .i64 x60) <|
  callH Try.prog 42 #[v66] fun v81 =>
  keepR Try.prog (loadVar 44 (p58.add 6)) v68 <|
  keepR Try.prog (loadVar 3 (p58.add 0)) (.int .i64 x60) <|
  callH Try.prog 43 #[v68] fun v83 =>
  keepR Try.prog (loadVar 3 (p58.add 0)) (.int .i64 x60) <|
  pureV Try.prog (Instr.build 46 #[(0, (.int .i64 x60)), (1, v74), (2, v78), (3, v81), (4, v83)]) fun v84 =>
  semU Try.prog (storeVar 46 p59 v84) <|
  seeV Try.prog (loadVar 46 p59) K
set_option maxRecDepth 100000 in
set_option maxHeartbeats 1000000 in
theorem law01_TwinRecord_ok {a0 : Value} {K : Value → WP} {w : World} (h : law01_TwinRecord a0 K w) : callH Try.prog 17 #[a0] K w := by
  refine enter (l := [a0]) Try.func17 rfl rfl rfl ?_
  show J Try.prog 18 [(0, a0)] _ _ _
  unfold law01_TwinRecord at h
  refine J.seq ?_
  refine J.region ?_
  refine JL.exV (.none rfl) rfl rfl (.box rfl) h (fun vp58 w h => ?_)
  obtain ⟨p58, rfl, h⟩ := h
  refine JL.exV (.none rfl) rfl rfl (.alloc) h (fun vp59 w h => ?_)
  obtain ⟨p59, rfl, h⟩ := h
  refine JL.nil ?_
  refine JX.then ?_
  refine J.seq ?_
  refine J.draw [[], [0], [], [2], [2, 3], [], [5], [2, 3, 4, 5, 6], [], [8], [2, 3, 4, 5, 6, 7, 8, 9], [], [11], [2, 3, 4, 5, 6, 7, 8, 9, 10, 11, 12], [0, 1, 2, 3, 4, 5, 6, 7, 8, 9, 10, 11, 12, 13], [0, 1, 2, 3, 4, 5, 6, 7, 8, 9, 10, 11, 12, 13, 14]] (by kernel_rfl) mixed h (fun w h => ?_)
  refine JD.pure_ (i := 0) [] rfl (by kernel_rfl) (by kernel_rfl) (by kernel_rfl) (by kernel_rfl) (.none rfl) rfl rfl (.fieldAddr rfl (fa_46_0 _)) trivial ?_
  refine JD.read (i := 1) [] rfl (by kernel_rfl) (by kernel_rfl) (by kernel_rfl) (by kernel_rfl) (.none rfl) rfl rfl (.load rfl) h trivial (fun vx60 st61 h => ?_)
  obtain ⟨x60, rfl, h⟩ := h
  refine JD.pure_ (i := 2) [false] rfl (by kernel_rfl) (by kernel_rfl) (by kernel_rfl) (by kernel_rfl) (.none rfl) rfl rfl (.fieldAddr rfl (fa_46_1 _)) ⟨st61, trivial⟩ ?_
  refine JD.read (i := 3) [false] rfl (by kernel_rfl) (by kernel_rfl) (by kernel_rfl) (by kernel_rfl) (.none rfl) rfl rfl (.load rfl) h ⟨st61, trivial⟩ (fun v62 st63 h => ?_)
  refine JD.pure_ (i := 5) [false, false] rfl (by kernel_rfl) (by kernel_rfl) (by kernel_rfl) (by kernel_rfl) (.none rfl) rfl rfl (.fieldAddr rfl (fa_46_2 _)) ⟨st63, st61, trivial⟩ ?_
  refine JD.read (i := 6) [false, false] rfl (by kernel_rfl) (by kernel_rfl) (by kernel_rfl) (by kernel_rfl) (.none rfl) rfl rfl (.load rfl) h ⟨st63, st61, trivial⟩ (fun v64 st65 h => ?_)
  refine JD.pure_ (i := 8) [false, false, false] rfl (by kernel_rfl) (by kernel_rfl) (by kernel_rfl) (by kernel_rfl) (.none rfl) rfl rfl (.fieldAddr rfl (fa_46_3 _)) ⟨st65, st63, st61, trivial⟩ ?_
  refine JD.read (i := 9) [false, false, false] rfl (by kernel_rfl) (by kernel_rfl) (by kernel_rfl) (by kernel_rfl) (.none rfl) rfl rfl (.load rfl) h ⟨st65, st63, st61, trivial⟩ (fun v66 st67 h => ?_)
  refine JD.pure_ (i := 11) [false, false, false, false] rfl (by kernel_rfl) (by kernel_rfl) (by kernel_rfl) (by kernel_rfl) (.none rfl) rfl rfl (.fieldAddr rfl (fa_46_4 _)) ⟨st67, st65, st63, st61, trivial⟩ ?_
  refine JD.read (i := 12) [false, false, false, false] rfl (by kernel_rfl) (by kernel_rfl) (by kernel_rfl) (by kernel_rfl) (.none rfl) rfl rfl (.load rfl) h ⟨st67, st65, st63, st61, trivial⟩ (fun v68 st69 h => ?_)
  refine JD.one (j := 4) (by kernel_rfl) ?_
  refine JD1.exC [false, false, false, true, false] rfl (by kernel_rfl) (.none rfl) rfl rfl (.func (vs := [v62]) en_40 rfl) h (fun v74 w h => ?_)
  obtain ⟨st70, h⟩ := h
  obtain ⟨st71, h⟩ := h
  obtain ⟨st72, h⟩ := h
  obtain ⟨st73, h⟩ := h
  refine ⟨⟨st70, st71, st72, st73, trivial⟩, ?_⟩
  refine JD.one (j := 7) (by kernel_rfl) ?_
  refine JD1.exC [false, false, true, false] rfl (by kernel_rfl) (.none rfl) rfl rfl (.func (vs := [v64]) en_41 rfl) h (fun v78 w h => ?_)
  obtain ⟨st75, h⟩ := h
  obtain ⟨st76, h⟩ := h
  obtain ⟨st77, h⟩ := h
  refine ⟨⟨st75, st76, st77, trivial⟩, ?_⟩
  refine JD.one (j := 10) (by kernel_rfl) ?_
  refine JD1.exC [false, true, false] rfl (by kernel_rfl) (.none rfl) rfl rfl (.func (vs := [v66]) en_42 rfl) h (fun v81 w h => ?_)
  obtain ⟨st79, h⟩ := h
  obtain ⟨st80, h⟩ := h
  refine ⟨⟨st79, st80, trivial⟩, ?_⟩
  refine JD.one (j := 13) (by kernel_rfl) ?_
  refine JD1.exC [true, false] rfl (by kernel_rfl) (.none rfl) rfl rfl (.func (vs := [v68]) en_43 rfl) h (fun v83 w h => ?_)
  obtain ⟨st82, h⟩ := h
  refine ⟨⟨st82, trivial⟩, ?_⟩
  refine JD.sPure (i := 14) [true] rfl (by kernel_rfl) (by kernel_rfl) (by kernel_rfl) (by kernel_rfl) (.none rfl) rfl rfl ((.build (l' := [(0, (.int .i64 x60)), (1, v74), (2, v78), (3, v81), (4, v83)]) rfl)) h trivial (fun v84 h => ?_)
  refine JD.one (j := 15) (by kernel_rfl) ?_
  refine JD1.exU [true] rfl (by kernel_rfl) (.none rfl) rfl (.store rfl rfl) h (fun w h => ?_)
  refine ⟨trivial, ?_⟩
  refine JD.done (by kernel_rfl) ?_
  refine JX.then ?_
  refine J.ret ?_
  exact JX.retC rfl rfl h

/-- cabstand/cabstandlaw01.LeftRecord -/
def law01_LeftRecord (a0 : Value) (a1 : Value) (K : Value → WP) : WP :=
  semA Try.prog (Instr.box 46 a0) fun p85 =>
  semA Try.prog (Instr.box 46 a1) fun p86 =>
  joinH (α := Bool) (fun y87 =>
    K (.bool y87)) fun k88 =>
    semI Try.prog .i64 (loadVar 3 (p85.add 0)) fun x89 =>
    semI Try.prog .i64 (loadVar 3 (p86.add 0)) fun x90 =>
    andB ((x89 : Int) == x90) (fun k92 =>
      semV Try.prog (loadVar 36 (p85.add 1)) fun v94 =>
      semV Try.prog (loadVar 36 (p86.add 1)) fun v95 =>
      callB Try.prog 50 #[v94, v95] fun b96 =>
      k92 b96) fun b91 =>
    andB b91 (fun k98 =>
      semV Try.prog (loadVar 37 (p85.add 2)) fun v100 =>
      semV Try.prog (loadVar 37 (p86.add 2)) fun v101 =>
      callB Try.prog 51 #[v100, v101] fun b102 =>
      k98 b102) fun b97 =>
    andB b97 (fun k104 =>
      semV Try.prog (loadVar 40 (p85.add 3)) fun v106 =>
      semV Try.prog (loadVar 40 (p86.add 3)) fun v107 =>
      callB Try.prog 52 #[v106, v107] fun b108 =>
      k104 b108) fun b103 =>
    andB b103 (fun k110 =>
      semV Try.prog (loadVar 44 (p85.add 6)) fun v112 =>
      semV Try.prog (loadVar 44 (p86.add 6)) fun v113 =>
      callB Try.prog 53 #[v112, v113] fun b114 =>
      k110 b114) fun b109 =>
    k88 b109
set_option maxRecDepth 100000 in
set_option maxHeartbeats 1000000 in
theorem law01_LeftRecord_ok {a0 : Value} {a1 : Value} {K : Value → WP} {w : World} (h : law01_LeftRecord a0 a1 K w) : callH Try.prog 20 #[a0, a1] K w := by
  refine enter (l := [a0, a1]) Try.func20 rfl rfl rfl ?_
  show J Try.prog 38 [(0, a0), (1, a1)] _ _ _
  unfold law01_LeftRecord at h
  refine J.seq ?_
  refine J.region ?_
  refine JL.exV (.none rfl) rfl rfl (.box rfl) h (fun vp85 w h => ?_)
  obtain ⟨p85, rfl, h⟩ := h
  refine JL.exV (.none rfl) rfl rfl (.box rfl) h (fun vp86 w h => ?_)
  obtain ⟨p86, rfl, h⟩ := h
  refine JL.exP (.none rfl) rfl rfl (.assign rfl) ?_
  refine JL.nil ?_
  refine JX.then ?_
  refine J.seq ?_
  refine J.join h (fun y87 => [(4, (.bool y87))]) (fun k88 w h => ?_) (fun y87 w h => ?_)
  · refine J.region ?_
    refine JL.exP (.none rfl) rfl rfl (.fieldAddr rfl (fa_46_0 _)) ?_
    refine JL.exV (.none rfl) rfl rfl (.load rfl) h (fun vx89 w h => ?_)
    obtain ⟨x89, rfl, h⟩ := h
    refine JL.exP (.none rfl) rfl rfl (.fieldAddr rfl (fa_46_0 _)) ?_
    refine JL.exV (.none rfl) rfl rfl (.load rfl) h (fun vx90 w h => ?_)
    obtain ⟨x90, rfl, h⟩ := h
    refine JL.exP (.none rfl) rfl rfl (.eql rfl rfl) ?_
    refine JL.exP (.none rfl) rfl rfl (.move rfl) ?_
    rcases andB_cases h with ⟨hc93, h⟩ | ⟨hc93, h⟩
    · refine JL.exNo (.off rfl rfl rfl hc93 rfl) rfl rfl ?_
      refine JL.exNo (.off rfl rfl rfl hc93 rfl) rfl rfl ?_
      refine JL.exNo (.off rfl rfl rfl hc93 rfl) rfl rfl ?_
      refine JL.exNo (.off rfl rfl rfl hc93 rfl) rfl rfl ?_
      refine JL.exNo (.off rfl rfl rfl hc93 rfl) rfl rfl ?_
      refine JL.exP (.none rfl) rfl rfl (.pickOff rfl hc93 rfl) ?_
      refine JL.exP (.none rfl) rfl rfl (.move rfl) ?_
      have h := andB_false' h
      refine JL.exNo (.off rfl rfl rfl rfl rfl) rfl rfl ?_
      refine JL.exNo (.off rfl rfl rfl rfl rfl) rfl rfl ?_
      refine JL.exNo (.off rfl rfl rfl rfl rfl) rfl rfl ?_
      refine JL.exNo (.off rfl rfl rfl rfl rfl) rfl rfl ?_
      refine JL.exNo (.off rfl rfl rfl rfl rfl) rfl rfl ?_
      refine JL.exP (.none rfl) rfl rfl (.pickOff rfl rfl rfl) ?_
      refine JL.exP (.none rfl) rfl rfl (.move rfl) ?_
      have h := andB_false' h
      refine JL.exNo (.off rfl rfl rfl rfl rfl) rfl rfl ?_
      refine JL.exNo (.off rfl rfl rfl rfl rfl) rfl rfl ?_
      refine JL.exNo (.off rfl rfl rfl rfl rfl) rfl rfl ?_
      refine JL.exNo (.off rfl rfl rfl rfl rfl) rfl rfl ?_
      refine JL.exNo (.off rfl rfl rfl rfl rfl) rfl rfl ?_
      refine JL.exP (.none rfl) rfl rfl (.pickOff rfl rfl rfl) ?_
      refine JL.exP (.none rfl) rfl rfl (.move rfl) ?_
      have h := andB_false' h
      refine JL.exNo (.off rfl rfl rfl rfl rfl) rfl rfl ?_
      refine JL.exNo (.off rfl rfl rfl rfl rfl) rfl rfl ?_
      refine JL.exNo (.off rfl rfl rfl rfl rfl) rfl rfl ?_
      refine JL.exNo (.off rfl rfl rfl rfl rfl) rfl rfl ?_
      refine JL.exNo (.off rfl rfl rfl rfl rfl) rfl rfl ?_
      refine JL.exP (.none rfl) rfl rfl (.pickOff rfl rfl rfl) ?_
      refine JL.exP (.none rfl) rfl rfl (.assign rfl) ?_
      refine JL.nil ?_
      exact JX.joinEnd h ⟨rfl, trivial⟩
    · refine JL.exP (.on rfl rfl rfl hc93) rfl rfl (.fieldAddr rfl (fa_46_1 _)) ?_
      refine JL.exV (.on rfl rfl rfl hc93) rfl rfl (.load rfl) h (fun v94 w h => ?_)
      refine JL.exP (.on rfl rfl rfl hc93) rfl rfl (.fieldAddr rfl (fa_46_1 _)) ?_
      refine JL.exV (.on rfl rfl rfl hc93) rfl rfl (.load rfl) h (fun v95 w h => ?_)
      refine JL.exC (.on rfl rfl rfl hc93) rfl rfl (.func (vs := [v94, v95]) en_50 rfl) h (fun vb96 w h => ?_)
      obtain ⟨b96, rfl, h⟩ := h
      refine JL.exP (.none rfl) rfl rfl (.pickOn rfl hc93 rfl) ?_
      refine JL.exP (.none rfl) rfl rfl (.move rfl) ?_
      rcases andB_cases h with ⟨hc99, h⟩ | ⟨hc99, h⟩
      · refine JL.exNo (.off rfl rfl rfl hc99 rfl) rfl rfl ?_
        refine JL.exNo (.off rfl rfl rfl hc99 rfl) rfl rfl ?_
        refine JL.exNo (.off rfl rfl rfl hc99 rfl) rfl rfl ?_
        refine JL.exNo (.off rfl rfl rfl hc99 rfl) rfl rfl ?_
        refine JL.exNo (.off rfl rfl rfl hc99 rfl) rfl rfl ?_
        refine JL.exP (.none rfl) rfl rfl (.pickOff rfl hc99 rfl) ?_
        refine JL.exP (.none rfl) rfl rfl (.move rfl) ?_
        have h := andB_false' h
        refine JL.exNo (.off rfl rfl rfl rfl rfl) rfl rfl ?_
        refine JL.exNo (.off rfl rfl rfl rfl rfl) rfl rfl ?_
        refine JL.exNo (.off rfl rfl rfl rfl rfl) rfl rfl ?_
        refine JL.exNo (.off rfl rfl rfl rfl rfl) rfl rfl ?_
        refine JL.exNo (.off rfl rfl rfl rfl rfl) rfl rfl ?_
        refine JL.exP (.none rfl) rfl rfl (.pickOff rfl rfl rfl) ?_
        refine JL.exP (.none rfl) rfl rfl (.move rfl) ?_
        have h := andB_false' h
        refine JL.exNo (.off rfl rfl rfl rfl rfl) rfl rfl ?_
        refine JL.exNo (.off rfl rfl rfl rfl rfl) rfl rfl ?_
        refine JL.exNo (.off rfl rfl rfl rfl rfl) rfl rfl ?_
        refine JL.exNo (.off rfl rfl rfl rfl rfl) rfl rfl ?_
        refine JL.exNo (.off rfl rfl rfl rfl rfl) rfl rfl ?_
        refine JL.exP (.none rfl) rfl rfl (.pickOff rfl rfl rfl) ?_
        refine JL.exP (.none rfl) rfl rfl (.assign rfl) ?_
        refine JL.nil ?_
        exact JX.joinEnd h ⟨rfl, trivial⟩
      · refine JL.exP (.on rfl rfl rfl hc99) rfl rfl (.fieldAddr rfl (fa_46_2 _)) ?_
        refine JL.exV (.on rfl rfl rfl hc99) rfl rfl (.load rfl) h (fun v100 w h => ?_)
        refine JL.exP (.on rfl rfl rfl hc99) rfl rfl (.fieldAddr rfl (fa_46_2 _)) ?_
        refine JL.exV (.on rfl rfl rfl hc99) rfl rfl (.load rfl) h (fun v101 w h => ?_)
        refine JL.exC (.on rfl rfl rfl hc99) rfl rfl (.func (vs := [v100, v101]) en_51 rfl) h (fun vb102 w h => ?_)
        obtain ⟨b102, rfl, h⟩ := h
        refine JL.exP (.none rfl) rfl rfl (.pickOn rfl hc99 rfl) ?_
        refine JL.exP (.none rfl) rfl rfl (.move rfl) ?_
        rcases andB_cases h with ⟨hc105, h⟩ | ⟨hc105, h⟩
        · refine JL.exNo (.off rfl rfl rfl hc105 rfl) rfl rfl ?_
          refine JL.exNo (.off rfl rfl rfl hc105 rfl) rfl rfl ?_
          refine JL.exNo (.off rfl rfl rfl hc105 rfl) rfl rfl ?_
          refine JL.exNo (.off rfl rfl rfl hc105 rfl) rfl rfl ?_
          refine JL.exNo (.off rfl rfl rfl hc105 rfl) rfl rfl ?_
          refine JL.exP (.none rfl) rfl rfl (.pickOff rfl hc105 rfl) ?_
          refine JL.exP (.none rfl) rfl rfl (.move rfl) ?_
          have h := andB_false' h
          refine JL.exNo (.off rfl rfl rfl rfl rfl) rfl rfl ?_
          refine JL.exNo (.off rfl rfl rfl rfl rfl) rfl rfl ?_
          refine JL.exNo (.off rfl rfl rfl rfl rfl) rfl rfl ?_
          refine JL.exNo (.off rfl rfl rfl rfl rfl) rfl rfl ?_
          refine JL.exNo (.off rfl rfl rfl rfl rfl) rfl rfl ?_
          refine JL.exP (.none rfl) rfl rfl (.pickOff rfl rfl rfl) ?_
          refine JL.exP (.none rfl) rfl rfl (.assign rfl) ?_
          refine JL.nil ?_
          exact JX.joinEnd h ⟨rfl, trivial⟩
        · refine JL.exP (.on rfl rfl rfl hc105) rfl rfl (.fieldAddr rfl (fa_46_3 _)) ?_
          refine JL.exV (.on rfl rfl rfl hc105) rfl rfl (.load rfl) h (fun v106 w h => ?_)
          refine JL.exP (.on rfl rfl rfl hc105) rfl rfl (.fieldAddr rfl (fa_46_3 _)) ?_
          refine JL.exV (.on rfl rfl rfl hc105) rfl rfl (.load rfl) h (fun v107 w h => ?_)
          refine JL.exC (.on rfl rfl rfl hc105) rfl rfl (.func (vs := [v106, v107]) en_52 rfl) h (fun vb108 w h => ?_)
          obtain ⟨b108, rfl, h⟩ := h
          refine JL.exP (.none rfl) rfl rfl (.pickOn rfl hc105 rfl) ?_
          refine JL.exP (.none rfl) rfl rfl (.move rfl) ?_
          rcases andB_cases h with ⟨hc111, h⟩ | ⟨hc111, h⟩
          · refine JL.exNo (.off rfl rfl rfl hc111 rfl) rfl rfl ?_
            refine JL.exNo (.off rfl rfl rfl hc111 rfl) rfl rfl ?_
            refine JL.exNo (.off rfl rfl rfl hc111 rfl) rfl rfl ?_
            refine JL.exNo (.off rfl rfl rfl hc111 rfl) rfl rfl ?_
            refine JL.exNo (.off rfl rfl rfl hc111 rfl) rfl rfl ?_
            refine JL.exP (.none rfl) rfl rfl (.pickOff rfl hc111 rfl) ?_
            refine JL.exP (.none rfl) rfl rfl (.assign rfl) ?_
            refine JL.nil ?_
            exact JX.joinEnd h ⟨rfl, trivial⟩
          · refine JL.exP (.on rfl rfl rfl hc111) rfl rfl (.fieldAddr rfl (fa_46_4 _)) ?_
            refine JL.exV (.on rfl rfl rfl hc111) rfl rfl (.load rfl) h (fun v112 w h => ?_)
            refine JL.exP (.on rfl rfl rfl hc111) rfl rfl (.fieldAddr rfl (fa_46_4 _)) ?_
            refine JL.exV (.on rfl rfl rfl hc111) rfl rfl (.load rfl) h (fun v113 w h => ?_)
            refine JL.exC (.on rfl rfl rfl hc111) rfl rfl (.func (vs := [v112, v113]) en_53 rfl) h (fun vb114 w h => ?_)
            obtain ⟨b114, rfl, h⟩ := h
            refine JL.exP (.none rfl) rfl rfl (.pickOn rfl hc111 rfl) ?_
            refine JL.exP (.none rfl) rfl rfl (.assign rfl) ?_
            refine JL.nil ?_
            exact JX.joinEnd h ⟨rfl, trivial⟩
  · refine JX.then ?_
    refine J.ret ?_
    exact JX.ret1 rfl rfl h

/-- cabstand/cabstandlaw01.RecordSize -/
def law01_RecordSize (a0 : Value) (K : Value → WP) : WP :=
  semA Try.prog (Instr.box 46 a0) fun p115 =>
  semV Try.prog (loadVar 36 (p115.add 1)) fun v116 =>
  pureI Try.prog .i64 (Builtin.len_ #[36] 3 #[v116]) fun x117 =>
  semV Try.prog (loadVar 37 (p115.add 2)) fun v118 =>
  pureI Try.prog .i64 (Builtin.len_ #[37] 3 #[v118]) fun x119 =>
  semV Try.prog (loadVar 38 ((p115.add 3).add 2)) fun v120 =>
  pureI Try.prog .i64 (Builtin.len_ #[38] 3 #[v120]) fun x121 =>
  semV Try.prog (loadVar 41 ((p115.add 6).add 0)) fun v122 =>
  pureI Try.prog .i64 (Builtin.len_ #[41] 3 #[v122]) fun x123 =>
  semV Try.prog (loadVar 42 ((p115.add 6).add 1)) fun v124 =>
  pureI Try.prog .i64 (Builtin.len_ #[42] 3 #[v124]) fun x125 =>
  semV Try.prog (loadVar 42 ((p115.add 6).add 2)) fun v126 =>
  pureI Try.prog .i64 (Builtin.len_ #[42] 3 #[v126]) fun x127 =>
  K (.int .i64 (IntKind.i64.wrap ((IntKind.i64.wrap ((IntKind.i64.wrap ((IntKind.i64.wrap ((IntKind.i64.wrap ((IntKind.i64.wrap (1 + x117)) + x119)) + x121)) + x123)) + x125)) + x127)))
set_option maxRecDepth 100000 in
set_option maxHeartbeats 1000000 in
theorem law01_RecordSize_ok {a0 : Value} {K : Value → WP} {w : World} (h : law01_RecordSize a0 K w) : callH Try.prog 39 #[a0] K w := by
  refine enter (l := [a0]) Try.func39 rfl rfl rfl ?_
  show J Try.prog 31 [(0, a0)] _ _ _
  unfold law01_RecordSize at h
  refine J.seq ?_
  refine J.region ?_
  refine JL.exV (.none rfl) rfl rfl (.box rfl) h (fun vp115 w h => ?_)
  obtain ⟨p115, rfl, h⟩ := h
  refine JL.exP (.none rfl) rfl rfl (.assign rfl) ?_
  refine JL.nil ?_
  refine JX.then ?_
  refine J.seq ?_
  refine J.region ?_
  refine JL.exP (.none rfl) rfl rfl (.fieldAddr rfl (fa_46_1 _)) ?_
  refine JL.exV (.none rfl) rfl rfl (.load rfl) h (fun v116 w h => ?_)
  refine JL.sPure (.none rfl) rfl rfl ((.len (vs := [v116]) rfl)) h (fun vx117 w h => ?_)
  obtain ⟨x117, rfl, h⟩ := h
  refine JL.exP (.none rfl) rfl rfl (.add rfl rfl) ?_
  refine JL.exP (.none rfl) rfl rfl (.fieldAddr rfl (fa_46_2 _)) ?_
  refine JL.exV (.none rfl) rfl rfl (.load rfl) h (fun v118 w h => ?_)
  refine JL.sPure (.none rfl) rfl rfl ((.len (vs := [v118]) rfl)) h (fun vx119 w h => ?_)
  obtain ⟨x119, rfl, h⟩ := h
  refine JL.exP (.none rfl) rfl rfl (.add rfl rfl) ?_
  refine JL.exP (.none rfl) rfl rfl (.fieldAddr rfl (fa_46_3 _)) ?_
  refine JL.exP (.none rfl) rfl rfl (.fieldAddr rfl (fa_40_2 _)) ?_
  refine JL.exV (.none rfl) rfl rfl (.load rfl) h (fun v120 w h => ?_)
  refine JL.sPure (.none rfl) rfl rfl ((.len (vs := [v120]) rfl)) h (fun vx121 w h => ?_)
  obtain ⟨x121, rfl, h⟩ := h
  refine JL.exP (.none rfl) rfl rfl (.add rfl rfl) ?_
  refine JL.exP (.none rfl) rfl rfl (.fieldAddr rfl (fa_46_4 _)) ?_
  refine JL.exP (.none rfl) rfl rfl (.fieldAddr rfl (fa_44_0 _)) ?_
  refine JL.exV (.none rfl) rfl rfl (.load rfl) h (fun v122 w h => ?_)
  refine JL.sPure (.none rfl) rfl rfl ((.len (vs := [v122]) rfl)) h (fun vx123 w h => ?_)
  obtain ⟨x123, rfl, h⟩ := h
  refine JL.exP (.none rfl) rfl rfl (.add rfl rfl) ?_
  refine JL.exP (.none rfl) rfl rfl (.fieldAddr rfl (fa_46_4 _)) ?_
  refine JL.exP (.none rfl) rfl rfl (.fieldAddr rfl (fa_44_1 _)) ?_
  refine JL.exV (.none rfl) rfl rfl (.load rfl) h (fun v124 w h => ?_)
  refine JL.sPure (.none rfl) rfl rfl ((.len (vs := [v124]) rfl)) h (fun vx125 w h => ?_)
  obtain ⟨x125, rfl, h⟩ := h
  refine JL.exP (.none rfl) rfl rfl (.add rfl rfl) ?_
  refine JL.exP (.none rfl) rfl rfl (.fieldAddr rfl (fa_46_4 _)) ?_
  refine JL.exP (.none rfl) rfl rfl (.fieldAddr rfl (fa_44_2 _)) ?_
  refine JL.exV (.none rfl) rfl rfl (.load rfl) h (fun v126 w h => ?_)
  refine JL.sPure (.none rfl) rfl rfl ((.len (vs := [v126]) rfl)) h (fun vx127 w h => ?_)
  obtain ⟨x127, rfl, h⟩ := h
  refine JL.exP (.none rfl) rfl rfl (.add rfl rfl) ?_
  refine JL.exP (.none rfl) rfl rfl (.assign rfl) ?_
  refine JL.nil ?_
  refine JX.then ?_
  refine J.ret ?_
  exact JX.ret1 rfl rfl h

/-- cabstand/cabstandlaw01.TwinWaitings -/
def law01_TwinWaitings (a0 : Value) (K : Value → WP) : WP :=
  pureI Try.prog .i64 (Builtin.len_ #[36] 3 #[a0]) fun x128 =>
  semV Try.prog (Instr.makeSlice 36 (.int .i64 (IntKind.i64.wrap (x128 + 1))) (.int .i64 (IntKind.i64.wrap (x128 + 1)))) fun v129 =>
  loopH (σ := Int) (fun kc131 s130 =>
    pureI Try.prog .i64 (Builtin.len_ #[36] 3 #[a0]) fun x132 =>
    iteH (decide (s130 < x132)) (
      pureA Try.prog (Instr.indexAt 36 a0 (.int .i64 s130)) fun p133 =>
      semV Try.prog (loadVar 56 p133) fun v134 =>
      pureA Try.prog (Instr.indexAt 36 v129 (.int .i64 s130)) fun p135 =>
      semU Try.prog (storeVar 56 p135 v134) <|
      kc131 (IntKind.i64.wrap (s130 + 1))) (
      pureI Try.prog .i64 (Builtin.len_ #[36] 3 #[a0]) fun x136 =>
      callH Try.prog 63 #[(.int .i64 7777)] fun v137 =>
      pureA Try.prog (Instr.indexAt 36 v129 (.int .i64 x136)) fun p138 =>
      semU Try.prog (storeVar 56 p138 v137) <|
      pureI Try.prog .i64 (Builtin.len_ #[36] 3 #[a0]) fun x139 =>
      pureV Try.prog (Instr.sliceAt 36 v129 none (some (.int .i64 x139)) none) fun v140 =>
      K v140)) 0
set_option maxRecDepth 100000 in
set_option maxHeartbeats 1000000 in
theorem law01_TwinWaitings_ok {a0 : Value} {K : Value → WP} {w : World} (h : law01_TwinWaitings a0 K w) : callH Try.prog 40 #[a0] K w := by
  refine enter (l := [a0]) Try.func40 rfl rfl rfl ?_
  show J Try.prog 31 [(0, a0)] _ _ _
  unfold law01_TwinWaitings at h
  refine J.seq ?_
  refine J.region ?_
  refine JL.exP (.none rfl) rfl rfl (.assign rfl) ?_
  refine JL.nil ?_
  refine JX.then ?_
  refine J.seq ?_
  refine J.region ?_
  refine JL.exP (.none rfl) rfl rfl (.move rfl) ?_
  refine JL.sPure (.none rfl) rfl rfl ((.len (vs := [a0]) rfl)) h (fun vx128 w h => ?_)
  obtain ⟨x128, rfl, h⟩ := h
  refine JL.exP (.none rfl) rfl rfl (.add rfl rfl) ?_
  refine JL.exV (.none rfl) rfl rfl (.makeSlice rfl rfl) h (fun v129 w h => ?_)
  refine JL.exP (.none rfl) rfl rfl (.assign rfl) ?_
  refine JL.nil ?_
  refine JX.then ?_
  refine J.seq ?_
  refine J.seq ?_
  refine J.region ?_
  refine JL.exP (.none rfl) rfl rfl (.assign rfl) ?_
  refine JL.nil ?_
  refine JX.then ?_
  refine J.block ?_
  refine J.loop h (fun s130 => [(0, a0), (2, (.slice none 0 0)), (3, v129), (4, (.int .i64 s130))]) ⟨rfl, rfl, rfl, rfl, trivial⟩ (fun I μ s130 w h => ?_)
  refine J.seq ?_
  refine J.seq ?_
  refine J.region ?_
  refine JL.exP (.none rfl) rfl rfl (.move rfl) ?_
  refine JL.exP (.none rfl) rfl rfl (.move rfl) ?_
  refine JL.sPure (.none rfl) rfl rfl ((.len (vs := [a0]) rfl)) h (fun vx132 w h => ?_)
  obtain ⟨x132, rfl, h⟩ := h
  refine JL.exP (.none rfl) rfl rfl (.lss rfl rfl) ?_
  refine JL.nil ?_
  refine JX.then ?_
  refine J.cond (b := _) rfl h (fun h => ?_) (fun h => ?_)
  · refine J.skip ?_
    refine JX.then ?_
    refine J.seq ?_
    refine J.block ?_
    refine J.region ?_
    refine JL.exP (.none rfl) rfl rfl (.move rfl) ?_
    refine JL.exP (.none rfl) rfl rfl (.move rfl) ?_
    refine JL.exP (.none rfl) rfl rfl (.move rfl) ?_
    refine JL.exP (.none rfl) rfl rfl (.move rfl) ?_
    refine JL.sPure (.none rfl) rfl rfl (.indexAddr rfl rfl) h (fun vp133 w h => ?_)
    obtain ⟨p133, rfl, h⟩ := h
    refine JL.exV (.none rfl) rfl rfl (.load rfl) h (fun v134 w h => ?_)
    refine JL.sPure (.none rfl) rfl rfl (.indexAddr rfl rfl) h (fun vp135 w h => ?_)
    obtain ⟨p135, rfl, h⟩ := h
    refine JL.exU (.none rfl) rfl (.store rfl rfl) h (fun w h => ?_)
    refine JL.nil ?_
    refine JX.blockNormal ?_
    refine JX.then ?_
    refine J.region ?_
    refine JL.exP (.none rfl) rfl rfl (.move rfl) ?_
    refine JL.exP (.none rfl) rfl rfl (.add rfl rfl) ?_
    refine JL.exP (.none rfl) rfl rfl (.assign rfl) ?_
    refine JL.nil ?_
    exact JX.loopEnd h ⟨rfl, rfl, rfl, rfl, trivial⟩
  · refine J.exit ?_
    refine JX.thenExit ?_
    refine JX.thenExit ?_
    refine JX.blockHere ?_
    refine JX.then ?_
    refine J.seq ?_
    refine J.region ?_
    refine JL.exP (.none rfl) rfl rfl (.move rfl) ?_
    refine JL.exP (.none rfl) rfl rfl (.move rfl) ?_
    refine JL.sPure (.none rfl) rfl rfl ((.len (vs := [a0]) rfl)) h (fun vx136 w h => ?_)
    obtain ⟨x136, rfl, h⟩ := h
    refine JL.exC (.none rfl) rfl rfl (.func (vs := [(.int .i64 7777)]) en_63 rfl) h (fun v137 w h => ?_)
    refine JL.sPure (.none rfl) rfl rfl (.indexAddr rfl rfl) h (fun vp138 w h => ?_)
    obtain ⟨p138, rfl, h⟩ := h
    refine JL.exU (.none rfl) rfl (.store rfl rfl) h (fun w h => ?_)
    refine JL.nil ?_
    refine JX.then ?_
    refine J.seq ?_
    refine J.region ?_
    refine JL.exP (.none rfl) rfl rfl (.move rfl) ?_
    refine JL.exP (.none rfl) rfl rfl (.move rfl) ?_
    refine JL.sPure (.none rfl) rfl rfl ((.len (vs := [a0]) rfl)) h (fun vx139 w h => ?_)
    obtain ⟨x139, rfl, h⟩ := h
    refine JL.sPure (.none rfl) rfl rfl (.slice rfl rfl rfl rfl) h (fun v140 w h => ?_)
    refine JL.exP (.none rfl) rfl rfl (.assign rfl) ?_
    refine JL.nil ?_
    refine JX.then ?_
    refine J.ret ?_
    exact JX.ret1 rfl rfl h

/-- cabstand/cabstandlaw01.TwinIdles -/
def law01_TwinIdles (a0 : Value) (K : Value → WP) : WP :=
  pureI Try.prog .i64 (Builtin.len_ #[37] 3 #[a0]) fun x141 =>
  semV Try.prog (Instr.makeSlice 37 (.int .i64 (IntKind.i64.wrap (x141 + 1))) (.int .i64 (IntKind.i64.wrap (x141 + 1)))) fun v142 =>
  loopH (σ := Int) (fun kc144 s143 =>
    pureI Try.prog .i64 (Builtin.len_ #[37] 3 #[a0]) fun x145 =>
    iteH (decide (s143 < x145)) (
      pureA Try.prog (Instr.indexAt 37 a0 (.int .i64 s143)) fun p146 =>
      semV Try.prog (loadVar 126 p146) fun v147 =>
      pureA Try.prog (Instr.indexAt 37 v142 (.int .i64 s143)) fun p148 =>
      semU Try.prog (storeVar 126 p148 v147) <|
      kc144 (IntKind.i64.wrap (s143 + 1))) (
      pureI Try.prog .i64 (Builtin.len_ #[37] 3 #[a0]) fun x149 =>
      callH Try.prog 64 #[(.int .i64 7777)] fun v150 =>
      pureA Try.prog (Instr.indexAt 37 v142 (.int .i64 x149)) fun p151 =>
      semU Try.prog (storeVar 126 p151 v150) <|
      pureI Try.prog .i64 (Builtin.len_ #[37] 3 #[a0]) fun x152 =>
      pureV Try.prog (Instr.sliceAt 37 v142 none (some (.int .i64 x152)) none) fun v153 =>
      K v153)) 0
set_option maxRecDepth 100000 in
set_option maxHeartbeats 1000000 in
theorem law01_TwinIdles_ok {a0 : Value} {K : Value → WP} {w : World} (h : law01_TwinIdles a0 K w) : callH Try.prog 41 #[a0] K w := by
  refine enter (l := [a0]) Try.func41 rfl rfl rfl ?_
  show J Try.prog 31 [(0, a0)] _ _ _
  unfold law01_TwinIdles at h
  refine J.seq ?_
  refine J.region ?_
  refine JL.exP (.none rfl) rfl rfl (.assign rfl) ?_
  refine JL.nil ?_
  refine JX.then ?_
  refine J.seq ?_
  refine J.region ?_
  refine JL.exP (.none rfl) rfl rfl (.move rfl) ?_
  refine JL.sPure (.none rfl) rfl rfl ((.len (vs := [a0]) rfl)) h (fun vx141 w h => ?_)
  obtain ⟨x141, rfl, h⟩ := h
  refine JL.exP (.none rfl) rfl rfl (.add rfl rfl) ?_
  refine JL.exV (.none rfl) rfl rfl (.makeSlice rfl rfl) h (fun v142 w h => ?_)
  refine JL.exP (.none rfl) rfl rfl (.assign rfl) ?_
  refine JL.nil ?_
  refine JX.then ?_
  refine J.seq ?_
  refine J.seq ?_
  refine J.region ?_
  refine JL.exP (.none rfl) rfl rfl (.assign rfl) ?_
  refine JL.nil ?_
  refine JX.then ?_
  refine J.block ?_
  refine J.loop h (fun s143 => [(0, a0), (2, (.slice none 0 0)), (3, v142), (4, (.int .i64 s143))]) ⟨rfl, rfl, rfl, rfl, trivial⟩ (fun I μ s143 w h => ?_)
  refine J.seq ?_
  refine J.seq ?_
  refine J.region ?_
  refine JL.exP (.none rfl) rfl rfl (.move rfl) ?_
  refine JL.exP (.none rfl) rfl rfl (.move rfl) ?_
  refine JL.sPure (.none rfl) rfl rfl ((.len (vs := [a0]) rfl)) h (fun vx145 w h => ?_)
  obtain ⟨x145, rfl, h⟩ := h
  refine JL.exP (.none rfl) rfl rfl (.lss rfl rfl) ?_
  refine JL.nil ?_
  refine JX.then ?_
  refine J.cond (b := _) rfl h (fun h => ?_) (fun h => ?_)
  · refine J.skip ?_
    refine JX.then ?_
    refine J.seq ?_
    refine J.block ?_
    refine J.region ?_
    refine JL.exP (.none rfl) rfl rfl (.move rfl) ?_
    refine JL.exP (.none rfl) rfl rfl (.move rfl) ?_
    refine JL.exP (.none rfl) rfl rfl (.move rfl) ?_
    refine JL.exP (.none rfl) rfl rfl (.move rfl) ?_
    refine JL.sPure (.none rfl) rfl rfl (.indexAddr rfl rfl) h (fun vp146 w h => ?_)
    obtain ⟨p146, rfl, h⟩ := h
    refine JL.exV (.none rfl) rfl rfl (.load rfl) h (fun v147 w h => ?_)
    refine JL.sPure (.none rfl) rfl rfl (.indexAddr rfl rfl) h (fun vp148 w h => ?_)
    obtain ⟨p148, rfl, h⟩ := h
    refine JL.exU (.none rfl) rfl (.store rfl rfl) h (fun w h => ?_)
    refine JL.nil ?_
    refine JX.blockNormal ?_
    refine JX.then ?_
    refine J.region ?_
    refine JL.exP (.none rfl) rfl rfl (.move rfl) ?_
    refine JL.exP (.none rfl) rfl rfl (.add rfl rfl) ?_
    refine JL.exP (.none rfl) rfl rfl (.assign rfl) ?_
    refine JL.nil ?_
    exact JX.loopEnd h ⟨rfl, rfl, rfl, rfl, trivial⟩
  · refine J.exit ?_
    refine JX.thenExit ?_
    refine JX.thenExit ?_
    refine JX.blockHere ?_
    refine JX.then ?_
    refine J.seq ?_
    refine J.region ?_
    refine JL.exP (.none rfl) rfl rfl (.move rfl) ?_
    refine JL.exP (.none rfl) rfl rfl (.move rfl) ?_
    refine JL.sPure (.none rfl) rfl rfl ((.len (vs := [a0]) rfl)) h (fun vx149 w h => ?_)
    obtain ⟨x149, rfl, h⟩ := h
    refine JL.exC (.none rfl) rfl rfl (.func (vs := [(.int .i64 7777)]) en_64 rfl) h (fun v150 w h => ?_)
    refine JL.sPure (.none rfl) rfl rfl (.indexAddr rfl rfl) h (fun vp151 w h => ?_)
    obtain ⟨p151, rfl, h⟩ := h
    refine JL.exU (.none rfl) rfl (.store rfl rfl) h (fun w h => ?_)
    refine JL.nil ?_
    refine JX.then ?_
    refine J.seq ?_
    refine J.region ?_
    refine JL.exP (.none rfl) rfl rfl (.move rfl) ?_
    refine JL.exP (.none rfl) rfl rfl (.move rfl) ?_
    refine JL.sPure (.none rfl) rfl rfl ((.len (vs := [a0]) rfl)) h (fun vx152 w h => ?_)
    obtain ⟨x152, rfl, h⟩ := h
    refine JL.sPure (.none rfl) rfl rfl (.slice rfl rfl rfl rfl) h (fun v153 w h => ?_)
    refine JL.exP (.none rfl) rfl rfl (.assign rfl) ?_
    refine JL.nil ?_
    refine JX.then ?_
    refine J.ret ?_
    exact JX.ret1 rfl rfl h

/-- cabstand/cabstandlaw01.TwinGraph -/
def law01_TwinGraph (a0 : Value) (K : Value → WP) : WP :=
  semA Try.prog (Instr.box 40 a0) fun p154 =>
  semA Try.prog (Instr.alloc 40 true (.tuple #[])) fun p155 =>
  semV Try.prog (loadVar 38 (p154.add 2)) fun v156 =>
  callH Try.prog 65 #[v156] fun v157 =>
  semU Try.prog (storeVar 38 (p154.add 2) v157) <|
  semV Try.prog (loadVar 40 p154) fun v158 =>
  semU Try.prog (storeVar 40 p155 v158) <|
  seeV Try.prog (loadVar 40 p155) K
set_option maxRecDepth 100000 in
set_option maxHeartbeats 1000000 in
theorem law01_TwinGraph_ok {a0 : Value} {K : Value → WP} {w : World} (h : law01_TwinGraph a0 K w) : callH Try.prog 42 #[a0] K w := by
  refine enter (l := [a0]) Try.func42 rfl rfl rfl ?_
  show J Try.prog 8 [(0, a0)] _ _ _
  unfold law01_TwinGraph at h
  refine J.seq ?_
  refine J.region ?_
  refine JL.exV (.none rfl) rfl rfl (.box rfl) h (fun vp154 w h => ?_)
  obtain ⟨p154, rfl, h⟩ := h
  refine JL.exV (.none rfl) rfl rfl (.alloc) h (fun vp155 w h => ?_)
  obtain ⟨p155, rfl, h⟩ := h
  refine JL.nil ?_
  refine JX.then ?_
  refine J.seq ?_
  refine J.region ?_
  refine JL.exP (.none rfl) rfl rfl (.fieldAddr rfl (fa_40_2 _)) ?_
  refine JL.exV (.none rfl) rfl rfl (.load rfl) h (fun v156 w h => ?_)
  refine JL.exC (.none rfl) rfl rfl (.func (vs := [v156]) en_65 rfl) h (fun v157 w h => ?_)
  refine JL.exP (.none rfl) rfl rfl (.fieldAddr rfl (fa_40_2 _)) ?_
  refine JL.exU (.none rfl) rfl (.store rfl rfl) h (fun w h => ?_)
  refine JL.nil ?_
  refine JX.then ?_
  refine J.seq ?_
  refine J.region ?_
  refine JL.exV (.none rfl) rfl rfl (.load rfl) h (fun v158 w h => ?_)
  refine JL.exU (.none rfl) rfl (.store rfl rfl) h (fun w h => ?_)
  refine JL.nil ?_
  refine JX.then ?_
  refine J.ret ?_
  exact JX.retC rfl rfl h

/-- cabstand/cabstandlaw01.TwinCert -/
def law01_TwinCert (a0 : Value) (K : Value → WP) : WP :=
  semA Try.prog (Instr.box 44 a0) fun p159 =>
  semA Try.prog (Instr.alloc 44 true (.tuple #[])) fun p160 =>
  drawH <|
  readV Try.prog (loadVar 41 (p159.add 0)) fun v161 =>
  readV Try.prog (loadVar 42 (p159.add 1)) fun v163 =>
  readV Try.prog (loadVar 42 (p159.add 2)) fun v165 =>
  callH Try.prog 66 #[v161] fun v169 =>
  keepR Try.prog (loadVar 42 (p159.add 2)) v165 <|
  keepR Try.prog (loadVar 42 (p159.add 1)) v163 <|
  callH Try.prog 67 #[v163] fun v171 =>
  keepR Try.prog (loadVar 42 (p159.add 2)) v165 <|
  callH Try.prog 67 #[v165] fun v172 =>
  pureV Try.prog (Instr.build 44 #[(0, v169), (1, v171), (2, v172)]) fun v173 =>
  semU Try.prog (storeVar 44 p160 v173) <|
  seeV Try.prog (loadVar 44 p160) K
set_option maxRecDepth 100000 in
set_option maxHeartbeats 1000000 in
theorem law01_TwinCert_ok {a0 : Value} {K : Value → WP} {w : World} (h : law01_TwinCert a0 K w) : callH Try.prog 43 #[a0] K w := by
  refine enter (l := [a0]) Try.func43 rfl rfl rfl ?_
  show J Try.prog 13 [(0, a0)] _ _ _
  unfold law01_TwinCert at h
  refine J.seq ?_
  refine J.region ?_
  refine JL.exV (.none rfl) rfl rfl (.box rfl) h (fun vp159 w h => ?_)
  obtain ⟨p159, rfl, h⟩ := h
  refine JL.exV (.none rfl) rfl rfl (.alloc) h (fun vp160 w h => ?_)
  obtain ⟨p160, rfl, h⟩ := h
  refine JL.nil ?_
  refine JX.then ?_
  refine J.seq ?_
  refine J.draw [[], [0], [0, 1], [], [3], [0, 1, 2, 3, 4], [], [6], [0, 1, 2, 3, 4, 5, 6, 7], [0, 1, 2, 3, 4, 5, 6, 7, 8], [0, 1, 2, 3, 4, 5, 6, 7, 8, 9]] (by kernel_rfl) mixed h (fun w h => ?_)
  refine JD.pure_ (i := 0) [] rfl (by kernel_rfl) (by kernel_rfl) (by kernel_rfl) (by kernel_rfl) (.none rfl) rfl rfl (.fieldAddr rfl (fa_44_0 _)) trivial ?_
  refine JD.read (i := 1) [] rfl (by kernel_rfl) (by kernel_rfl) (by kernel_rfl) (by kernel_rfl) (.none rfl) rfl rfl (.load rfl) h trivial (fun v161 st162 h => ?_)
  refine JD.pure_ (i := 3) [false] rfl (by kernel_rfl) (by kernel_rfl) (by kernel_rfl) (by kernel_rfl) (.none rfl) rfl rfl (.fieldAddr rfl (fa_44_1 _)) ⟨st162, trivial⟩ ?_
  refine JD.read (i := 4) [false] rfl (by kernel_rfl) (by kernel_rfl) (by kernel_rfl) (by kernel_rfl) (.none rfl) rfl rfl (.load rfl) h ⟨st162, trivial⟩ (fun v163 st164 h => ?_)
  refine JD.pure_ (i := 6) [false, false] rfl (by kernel_rfl) (by kernel_rfl) (by kernel_rfl) (by kernel_rfl) (.none rfl) rfl rfl (.fieldAddr rfl (fa_44_2 _)) ⟨st164, st162, trivial⟩ ?_
  refine JD.read (i := 7) [false, false] rfl (by kernel_rfl) (by kernel_rfl) (by kernel_rfl) (by kernel_rfl) (.none rfl) rfl rfl (.load rfl) h ⟨st164, st162, trivial⟩ (fun v165 st166 h => ?_)
  refine JD.one (j := 2) (by kernel_rfl) ?_
  refine JD1.exC [false, false, true] rfl (by kernel_rfl) (.none rfl) rfl rfl (.func (vs := [v161]) en_66 rfl) h (fun v169 w h => ?_)
  obtain ⟨st167, h⟩ := h
  obtain ⟨st168, h⟩ := h
  refine ⟨⟨st167, st168, trivial⟩, ?_⟩
  refine JD.one (j := 5) (by kernel_rfl) ?_
  refine JD1.exC [false, true] rfl (by kernel_rfl) (.none rfl) rfl rfl (.func (vs := [v163]) en_67 rfl) h (fun v171 w h => ?_)
  obtain ⟨st170, h⟩ := h
  refine ⟨⟨st170, trivial⟩, ?_⟩
  refine JD.one (j := 8) (by kernel_rfl) ?_
  refine JD1.exC [true] rfl (by kernel_rfl) (.none rfl) rfl rfl (.func (vs := [v165]) en_67 rfl) h (fun v172 w h => ?_)
  refine ⟨trivial, ?_⟩
  refine JD.sPure (i := 9) [] rfl (by kernel_rfl) (by kernel_rfl) (by kernel_rfl) (by kernel_rfl) (.none rfl) rfl rfl ((.build (l' := [(0, v169), (1, v171), (2, v172)]) rfl)) h trivial (fun v173 h => ?_)
  refine JD.one (j := 10) (by kernel_rfl) ?_
  refine JD1.exU [] rfl (by kernel_rfl) (.none rfl) rfl (.store rfl rfl) h (fun w h => ?_)
  refine ⟨trivial, ?_⟩
  refine JD.done (by kernel_rfl) ?_
  refine JX.then ?_
  refine J.ret ?_
  exact JX.retC rfl rfl h

/-- cabstand/cabstandlaw01.LeftWaitings -/
def law01_LeftWaitings (a0 : Value) (a1 : Value) (K : Value → WP) : WP :=
  joinH (α := Bool) (fun y174 =>
    K (.bool y174)) fun k175 =>
    callB Try.prog 73 #[a0, a1] fun b176 =>
    andB b176 (fun k178 =>
      pureI Try.prog .i64 (Builtin.len_ #[36] 3 #[a1]) fun x180 =>
      pureV Try.prog (Instr.sliceAt 36 a0 none (some (.int .i64 (IntKind.i64.wrap (x180 + 1)))) none) fun v181 =>
      pureI Try.prog .i64 (Builtin.len_ #[36] 3 #[a1]) fun x182 =>
      pureA Try.prog (Instr.indexAt 36 v181 (.int .i64 x182)) fun p183 =>
      semV Try.prog (loadVar 56 p183) fun v184 =>
      callB Try.prog 74 #[v184, (.int .i64 7777)] fun b185 =>
      k178 b185) fun b177 =>
    k175 b177
set_option maxRecDepth 100000 in
set_option maxHeartbeats 1000000 in
theorem law01_LeftWaitings_ok {a0 : Value} {a1 : Value} {K : Value → WP} {w : World} (h : law01_LeftWaitings a0 a1 K w) : callH Try.prog 50 #[a0, a1] K w := by
  refine enter (l := [a0, a1]) Try.func50 rfl rfl rfl ?_
  show J Try.prog 20 [(0, a0), (1, a1)] _ _ _
  unfold law01_LeftWaitings at h
  refine J.seq ?_
  refine J.region ?_
  refine JL.exP (.none rfl) rfl rfl (.assign rfl) ?_
  refine JL.nil ?_
  refine JX.then ?_
  refine J.seq ?_
  refine J.join h (fun y174 => [(4, (.bool y174))]) (fun k175 w h => ?_) (fun y174 w h => ?_)
  · refine J.region ?_
    refine JL.exP (.none rfl) rfl rfl (.move rfl) ?_
    refine JL.exP (.none rfl) rfl rfl (.move rfl) ?_
    refine JL.exC (.none rfl) rfl rfl (.func (vs := [a0, a1]) en_73 rfl) h (fun vb176 w h => ?_)
    obtain ⟨b176, rfl, h⟩ := h
    refine JL.exP (.none rfl) rfl rfl (.move rfl) ?_
    rcases andB_cases h with ⟨hc179, h⟩ | ⟨hc179, h⟩
    · refine JL.exNo (.off rfl rfl rfl hc179 rfl) rfl rfl ?_
      refine JL.exNo (.off rfl rfl rfl hc179 rfl) rfl rfl ?_
      refine JL.exNo (.off rfl rfl rfl hc179 rfl) rfl rfl ?_
      refine JL.exNo (.off rfl rfl rfl hc179 rfl) rfl rfl ?_
      refine JL.exNo (.off rfl rfl rfl hc179 rfl) rfl rfl ?_
      refine JL.exNo (.off rfl rfl rfl hc179 rfl) rfl rfl ?_
      refine JL.exNo (.off rfl rfl rfl hc179 rfl) rfl rfl ?_
      refine JL.exNo (.off rfl rfl rfl hc179 rfl) rfl rfl ?_
      refine JL.exNo (.off rfl rfl rfl hc179 rfl) rfl rfl ?_
      refine JL.exNo (.off rfl rfl rfl hc179 rfl) rfl rfl ?_
      refine JL.exP (.none rfl) rfl rfl (.pickOff rfl hc179 rfl) ?_
      refine JL.exP (.none rfl) rfl rfl (.assign rfl) ?_
      refine JL.nil ?_
      exact JX.joinEnd h ⟨rfl, trivial⟩
    · refine JL.exP (.on rfl rfl rfl hc179) rfl rfl (.move rfl) ?_
      refine JL.exP (.on rfl rfl rfl hc179) rfl rfl (.move rfl) ?_
      refine JL.sPure (.on rfl rfl rfl hc179) rfl rfl ((.len (vs := [a1]) rfl)) h (fun vx180 w h => ?_)
      obtain ⟨x180, rfl, h⟩ := h
      refine JL.exP (.on rfl rfl rfl hc179) rfl rfl (.add rfl rfl) ?_
      refine JL.sPure (.on rfl rfl rfl hc179) rfl rfl (.slice rfl rfl rfl rfl) h (fun v181 w h => ?_)
      refine JL.exP (.on rfl rfl rfl hc179) rfl rfl (.move rfl) ?_
      refine JL.sPure (.on rfl rfl rfl hc179) rfl rfl ((.len (vs := [a1]) rfl)) h (fun vx182 w h => ?_)
      obtain ⟨x182, rfl, h⟩ := h
      refine JL.sPure (.on rfl rfl rfl hc179) rfl rfl (.indexAddr rfl rfl) h (fun vp183 w h => ?_)
      obtain ⟨p183, rfl, h⟩ := h
      refine JL.exV (.on rfl rfl rfl hc179) rfl rfl (.load rfl) h (fun v184 w h => ?_)
      refine JL.exC (.on rfl rfl rfl hc179) rfl rfl (.func (vs := [v184, (.int .i64 7777)]) en_74 rfl) h (fun vb185 w h => ?_)
      obtain ⟨b185, rfl, h⟩ := h
      refine JL.exP (.none rfl) rfl rfl (.pickOn rfl hc179 rfl) ?_
      refine JL.exP (.none rfl) rfl rfl (.assign rfl) ?_
      refine JL.nil ?_
      exact JX.joinEnd h ⟨rfl, trivial⟩
  · refine JX.then ?_
    refine J.ret ?_
    exact JX.ret1 rfl rfl h

/-- cabstand/cabstandlaw01.LeftIdles -/
def law01_LeftIdles (a0 : Value) (a1 : Value) (K : Value → WP) : WP :=
  joinH (α := Bool) (fun y186 =>
    K (.bool y186)) fun k187 =>
    callB Try.prog 75 #[a0, a1] fun b188 =>
    andB b188 (fun k190 =>
      pureI Try.prog .i64 (Builtin.len_ #[37] 3 #[a1]) fun x192 =>
      pureV Try.prog (Instr.sliceAt 37 a0 none (some (.int .i64 (IntKind.i64.wrap (x192 + 1)))) none) fun v193 =>
      pureI Try.prog .i64 (Builtin.len_ #[37] 3 #[a1]) fun x194 =>
      pureA Try.prog (Instr.indexAt 37 v193 (.int .i64 x194)) fun p195 =>
      semV Try.prog (loadVar 126 p195) fun v196 =>
      callB Try.prog 76 #[v196, (.int .i64 7777)] fun b197 =>
      k190 b197) fun b189 =>
    k187 b189
set_option maxRecDepth 100000 in
set_option maxHeartbeats 1000000 in
theorem law01_LeftIdles_ok {a0 : Value} {a1 : Value} {K : Value → WP} {w : World} (h : law01_LeftIdles a0 a1 K w) : callH Try.prog 51 #[a0, a1] K w := by
  refine enter (l := [a0, a1]) Try.func51 rfl rfl rfl ?_
  show J Try.prog 20 [(0, a0), (1, a1)] _ _ _
  unfold law01_LeftIdles at h
  refine J.seq ?_
  refine J.region ?_
  refine JL.exP (.none rfl) rfl rfl (.assign rfl) ?_
  refine JL.nil ?_
  refine JX.then ?_
  refine J.seq ?_
  refine J.join h (fun y186 => [(4, (.bool y186))]) (fun k187 w h => ?_) (fun y186 w h => ?_)
  · refine J.region ?_
    refine JL.exP (.none rfl) rfl rfl (.move rfl) ?_
    refine JL.exP (.none rfl) rfl rfl (.move rfl) ?_
    refine JL.exC (.none rfl) rfl rfl (.func (vs := [a0, a1]) en_75 rfl) h (fun vb188 w h => ?_)
    obtain ⟨b188, rfl, h⟩ := h
    refine JL.exP (.none rfl) rfl rfl (.move rfl) ?_
    rcases andB_cases h with ⟨hc191, h⟩ | ⟨hc191, h⟩
    · refine JL.exNo (.off rfl rfl rfl hc191 rfl) rfl rfl ?_
      refine JL.exNo (.off rfl rfl rfl hc191 rfl) rfl rfl ?_
      refine JL.exNo (.off rfl rfl rfl hc191 rfl) rfl rfl ?_
      refine JL.exNo (.off rfl rfl rfl hc191 rfl) rfl rfl ?_
      refine JL.exNo (.off rfl rfl rfl hc191 rfl) rfl rfl ?_
      refine JL.exNo (.off rfl rfl rfl hc191 rfl) rfl rfl ?_
      refine JL.exNo (.off rfl rfl rfl hc191 rfl) rfl rfl ?_
      refine JL.exNo (.off rfl rfl rfl hc191 rfl) rfl rfl ?_
      refine JL.exNo (.off rfl rfl rfl hc191 rfl) rfl rfl ?_
      refine JL.exNo (.off rfl rfl rfl hc191 rfl) rfl rfl ?_
      refine JL.exP (.none rfl) rfl rfl (.pickOff rfl hc191 rfl) ?_
      refine JL.exP (.none rfl) rfl rfl (.assign rfl) ?_
      refine JL.nil ?_
      exact JX.joinEnd h ⟨rfl, trivial⟩
    · refine JL.exP (.on rfl rfl rfl hc191) rfl rfl (.move rfl) ?_
      refine JL.exP (.on rfl rfl rfl hc191) rfl rfl (.move rfl) ?_
      refine JL.sPure (.on rfl rfl rfl hc191) rfl rfl ((.len (vs := [a1]) rfl)) h (fun vx192 w h => ?_)
      obtain ⟨x192, rfl, h⟩ := h
      refine JL.exP (.on rfl rfl rfl hc191) rfl rfl (.add rfl rfl) ?_
      refine JL.sPure (.on rfl rfl rfl hc191) rfl rfl (.slice rfl rfl rfl rfl) h (fun v193 w h => ?_)
      refine JL.exP (.on rfl rfl rfl hc191) rfl rfl (.move rfl) ?_
      refine JL.sPure (.on rfl rfl rfl hc191) rfl rfl ((.len (vs := [a1]) rfl)) h (fun vx194 w h => ?_)
      obtain ⟨x194, rfl, h⟩ := h
      refine JL.sPure (.on rfl rfl rfl hc191) rfl rfl (.indexAddr rfl rfl) h (fun vp195 w h => ?_)
      obtain ⟨p195, rfl, h⟩ := h
      refine JL.exV (.on rfl rfl rfl hc191) rfl rfl (.load rfl) h (fun v196 w h => ?_)
      refine JL.exC (.on rfl rfl rfl hc191) rfl rfl (.func (vs := [v196, (.int .i64 7777)]) en_76 rfl) h (fun vb197 w h => ?_)
      obtain ⟨b197, rfl, h⟩ := h
      refine JL.exP (.none rfl) rfl rfl (.pickOn rfl hc191 rfl) ?_
      refine JL.exP (.none rfl) rfl rfl (.assign rfl) ?_
      refine JL.nil ?_
      exact JX.joinEnd h ⟨rfl, trivial⟩
  · refine JX.then ?_
    refine J.ret ?_
    exact JX.ret1 rfl rfl h

/-- cabstand/cabstandlaw01.LeftGraph -/
def law01_LeftGraph (a0 : Value) (a1 : Value) (K : Value → WP) : WP :=
  semA Try.prog (Instr.box 40 a0) fun p198 =>
  semA Try.prog (Instr.box 40 a1) fun p199 =>
  joinH (α := Bool) (fun y200 =>
    K (.bool y200)) fun k201 =>
    semI Try.prog .i64 (loadVar 3 (p198.add 0)) fun x202 =>
    semI Try.prog .i64 (loadVar 3 (p199.add 0)) fun x203 =>
    andB ((x202 : Int) == x203) (fun k205 =>
      semI Try.prog .i64 (loadVar 3 (p198.add 1)) fun x207 =>
      semI Try.prog .i64 (loadVar 3 (p199.add 1)) fun x208 =>
      k205 ((x207 : Int) == x208)) fun b204 =>
    andB b204 (fun k210 =>
      semV Try.prog (loadVar 38 (p198.add 2)) fun v212 =>
      semV Try.prog (loadVar 38 (p199.add 2)) fun v213 =>
      callB Try.prog 77 #[v212, v213] fun b214 =>
      k210 b214) fun b209 =>
    k201 b209
set_option maxRecDepth 100000 in
set_option maxHeartbeats 1000000 in
theorem law01_LeftGraph_ok {a0 : Value} {a1 : Value} {K : Value → WP} {w : World} (h : law01_LeftGraph a0 a1 K w) : callH Try.prog 52 #[a0, a1] K w := by
  refine enter (l := [a0, a1]) Try.func52 rfl rfl rfl ?_
  show J Try.prog 24 [(0, a0), (1, a1)] _ _ _
  unfold law01_LeftGraph at h
  refine J.seq ?_
  refine J.region ?_
  refine JL.exV (.none rfl) rfl rfl (.box rfl) h (fun vp198 w h => ?_)
  obtain ⟨p198, rfl, h⟩ := h
  refine JL.exV (.none rfl) rfl rfl (.box rfl) h (fun vp199 w h => ?_)
  obtain ⟨p199, rfl, h⟩ := h
  refine JL.exP (.none rfl) rfl rfl (.assign rfl) ?_
  refine JL.nil ?_
  refine JX.then ?_
  refine J.seq ?_
  refine J.join h (fun y200 => [(4, (.bool y200))]) (fun k201 w h => ?_) (fun y200 w h => ?_)
  · refine J.region ?_
    refine JL.exP (.none rfl) rfl rfl (.fieldAddr rfl (fa_40_0 _)) ?_
    refine JL.exV (.none rfl) rfl rfl (.load rfl) h (fun vx202 w h => ?_)
    obtain ⟨x202, rfl, h⟩ := h
    refine JL.exP (.none rfl) rfl rfl (.fieldAddr rfl (fa_40_0 _)) ?_
    refine JL.exV (.none rfl) rfl rfl (.load rfl) h (fun vx203 w h => ?_)
    obtain ⟨x203, rfl, h⟩ := h
    refine JL.exP (.none rfl) rfl rfl (.eql rfl rfl) ?_
    refine JL.exP (.none rfl) rfl rfl (.move rfl) ?_
    rcases andB_cases h with ⟨hc206, h⟩ | ⟨hc206, h⟩
    · refine JL.exNo (.off rfl rfl rfl hc206 rfl) rfl rfl ?_
      refine JL.exNo (.off rfl rfl rfl hc206 rfl) rfl rfl ?_
      refine JL.exNo (.off rfl rfl rfl hc206 rfl) rfl rfl ?_
      refine JL.exNo (.off rfl rfl rfl hc206 rfl) rfl rfl ?_
      refine JL.exNo (.off rfl rfl rfl hc206 rfl) rfl rfl ?_
      refine JL.exP (.none rfl) rfl rfl (.pickOff rfl hc206 rfl) ?_
      refine JL.exP (.none rfl) rfl rfl (.move rfl) ?_
      have h := andB_false' h
      refine JL.exNo (.off rfl rfl rfl rfl rfl) rfl rfl ?_
      refine JL.exNo (.off rfl rfl rfl rfl rfl) rfl rfl ?_
      refine JL.exNo (.off rfl rfl rfl rfl rfl) rfl rfl ?_
      refine JL.exNo (.off rfl rfl rfl rfl rfl) rfl rfl ?_
      refine JL.exNo (.off rfl rfl rfl rfl rfl) rfl rfl ?_
      refine JL.exP (.none rfl) rfl rfl (.pickOff rfl rfl rfl) ?_
      refine JL.exP (.none rfl) rfl rfl (.assign rfl) ?_
      refine JL.nil ?_
      exact JX.joinEnd h ⟨rfl, trivial⟩
    · refine JL.exP (.on rfl rfl rfl hc206) rfl rfl (.fieldAddr rfl (fa_40_1 _)) ?_
      refine JL.exV (.on rfl rfl rfl hc206) rfl rfl (.load rfl) h (fun vx207 w h => ?_)
      obtain ⟨x207, rfl, h⟩ := h
      refine JL.exP (.on rfl rfl rfl hc206) rfl rfl (.fieldAddr rfl (fa_40_1 _)) ?_
      refine JL.exV (.on rfl rfl rfl hc206) rfl rfl (.load rfl) h (fun vx208 w h => ?_)
      obtain ⟨x208, rfl, h⟩ := h
      refine JL.exP (.on rfl rfl rfl hc206) rfl rfl (.eql rfl rfl) ?_
      refine JL.exP (.none rfl) rfl rfl (.pickOn rfl hc206 rfl) ?_
      refine JL.exP (.none rfl) rfl rfl (.move rfl) ?_
      rcases andB_cases h with ⟨hc211, h⟩ | ⟨hc211, h⟩
      · refine JL.exNo (.off rfl rfl rfl hc211 rfl) rfl rfl ?_
        refine JL.exNo (.off rfl rfl rfl hc211 rfl) rfl rfl ?_
        refine JL.exNo (.off rfl rfl rfl hc211 rfl) rfl rfl ?_
        refine JL.exNo (.off rfl rfl rfl hc211 rfl) rfl rfl ?_
        refine JL.exNo (.off rfl rfl rfl hc211 rfl) rfl rfl ?_
        refine JL.exP (.none rfl) rfl rfl (.pickOff rfl hc211 rfl) ?_
        refine JL.exP (.none rfl) rfl rfl (.assign rfl) ?_
        refine JL.nil ?_
        exact JX.joinEnd h ⟨rfl, trivial⟩
      · refine JL.exP (.on rfl rfl rfl hc211) rfl rfl (.fieldAddr rfl (fa_40_2 _)) ?_
        refine JL.exV (.on rfl rfl rfl hc211) rfl rfl (.load rfl) h (fun v212 w h => ?_)
        refine JL.exP (.on rfl rfl rfl hc211) rfl rfl (.fieldAddr rfl (fa_40_2 _)) ?_
        refine JL.exV (.on rfl rfl rfl hc211) rfl rfl (.load rfl) h (fun v213 w h => ?_)
        refine JL.exC (.on rfl rfl rfl hc211) rfl rfl (.func (vs := [v212, v213]) en_77 rfl) h (fun vb214 w h => ?_)
        obtain ⟨b214, rfl, h⟩ := h
        refine JL.exP (.none rfl) rfl rfl (.pickOn rfl hc211 rfl) ?_
        refine JL.exP (.none rfl) rfl rfl (.assign rfl) ?_
        refine JL.nil ?_
        exact JX.joinEnd h ⟨rfl, trivial⟩
  · refine JX.then ?_
    refine J.ret ?_
    exact JX.ret1 rfl rfl h

/-- cabstand/cabstandlaw01.LeftCert -/
def law01_LeftCert (a0 : Value) (a1 : Value) (K : Value → WP) : WP :=
  semA Try.prog (Instr.box 44 a0) fun p215 =>
  semA Try.prog (Instr.box 44 a1) fun p216 =>
  joinH (α := Bool) (fun y217 =>
    K (.bool y217)) fun k218 =>
    semV Try.prog (loadVar 41 (p215.add 0)) fun v219 =>
    semV Try.prog (loadVar 41 (p216.add 0)) fun v220 =>
    callB Try.prog 78 #[v219, v220] fun b221 =>
    andB b221 (fun k223 =>
      semV Try.prog (loadVar 42 (p215.add 1)) fun v225 =>
      semV Try.prog (loadVar 42 (p216.add 1)) fun v226 =>
      callB Try.prog 79 #[v225, v226] fun b227 =>
      k223 b227) fun b222 =>
    andB b222 (fun k229 =>
      semV Try.prog (loadVar 42 (p215.add 2)) fun v231 =>
      semV Try.prog (loadVar 42 (p216.add 2)) fun v232 =>
      callB Try.prog 79 #[v231, v232] fun b233 =>
      k229 b233) fun b228 =>
    k218 b228
set_option maxRecDepth 100000 in
set_option maxHeartbeats 1000000 in
theorem law01_LeftCert_ok {a0 : Value} {a1 : Value} {K : Value → WP} {w : World} (h : law01_LeftCert a0 a1 K w) : callH Try.prog 53 #[a0, a1] K w := by
  refine enter (l := [a0, a1]) Try.func53 rfl rfl rfl ?_
  show J Try.prog 24 [(0, a0), (1, a1)] _ _ _
  unfold law01_LeftCert at h
  refine J.seq ?_
  refine J.region ?_
  refine JL.exV (.none rfl) rfl rfl (.box rfl) h (fun vp215 w h => ?_)
  obtain ⟨p215, rfl, h⟩ := h
  refine JL.exV (.none rfl) rfl rfl (.box rfl) h (fun vp216 w h => ?_)
  obtain ⟨p216, rfl, h⟩ := h
  refine JL.exP (.none rfl) rfl rfl (.assign rfl) ?_
  refine JL.nil ?_
  refine JX.then ?_
  refine J.seq ?_
  refine J.join h (fun y217 => [(4, (.bool y217))]) (fun k218 w h => ?_) (fun y217 w h => ?_)
  · refine J.region ?_
    refine JL.exP (.none rfl) rfl rfl (.fieldAddr rfl (fa_44_0 _)) ?_
    refine JL.exV (.none rfl) rfl rfl (.load rfl) h (fun v219 w h => ?_)
    refine JL.exP (.none rfl) rfl rfl (.fieldAddr rfl (fa_44_0 _)) ?_
    refine JL.exV (.none rfl) rfl rfl (.load rfl) h (fun v220 w h => ?_)
    refine JL.exC (.none rfl) rfl rfl (.func (vs := [v219, v220]) en_78 rfl) h (fun vb221 w h => ?_)
    obtain ⟨b221, rfl, h⟩ := h
    refine JL.exP (.none rfl) rfl rfl (.move rfl) ?_
    rcases andB_cases h with ⟨hc224, h⟩ | ⟨hc224, h⟩
    · refine JL.exNo (.off rfl rfl rfl hc224 rfl) rfl rfl ?_
      refine JL.exNo (.off rfl rfl rfl hc224 rfl) rfl rfl ?_
      refine JL.exNo (.off rfl rfl rfl hc224 rfl) rfl rfl ?_
      refine JL.exNo (.off rfl rfl rfl hc224 rfl) rfl rfl ?_
      refine JL.exNo (.off rfl rfl rfl hc224 rfl) rfl rfl ?_
      refine JL.exP (.none rfl) rfl rfl (.pickOff rfl hc224 rfl) ?_
      refine JL.exP (.none rfl) rfl rfl (.move rfl) ?_
      have h := andB_false' h
      refine JL.exNo (.off rfl rfl rfl rfl rfl) rfl rfl ?_
      refine JL.exNo (.off rfl rfl rfl rfl rfl) rfl rfl ?_
      refine JL.exNo (.off rfl rfl rfl rfl rfl) rfl rfl ?_
      refine JL.exNo (.off rfl rfl rfl rfl rfl) rfl rfl ?_
      refine JL.exNo (.off rfl rfl rfl rfl rfl) rfl rfl ?_
      refine JL.exP (.none rfl) rfl rfl (.pickOff rfl rfl rfl) ?_
      refine JL.exP (.none rfl) rfl rfl (.assign rfl) ?_
      refine JL.nil ?_
      exact JX.joinEnd h ⟨rfl, trivial⟩
    · refine JL.exP (.on rfl rfl rfl hc224) rfl rfl (.fieldAddr rfl (fa_44_1 _)) ?_
      refine JL.exV (.on rfl rfl rfl hc224) rfl rfl (.load rfl) h (fun v225 w h => ?_)
      refine JL.exP (.on rfl rfl rfl hc224) rfl rfl (.fieldAddr rfl (fa_44_1 _)) ?_
      refine JL.exV (.on rfl rfl rfl hc224) rfl rfl (.load rfl) h (fun v226 w h => ?_)
      refine JL.exC (.on rfl rfl rfl hc224) rfl rfl (.func (vs := [v225, v226]) en_79 rfl) h (fun vb227 w h => ?_)
      obtain ⟨b227, rfl, h⟩ := h
      refine JL.exP (.none rfl) rfl rfl (.pickOn rfl hc224 rfl) ?_
      refine JL.exP (.none rfl) rfl rfl (.move rfl) ?_
      rcases andB_cases h with ⟨hc230, h⟩ | ⟨hc230, h⟩
      · refine JL.exNo (.off rfl rfl rfl hc230 rfl) rfl rfl ?_
        refine JL.exNo (.off rfl rfl rfl hc230 rfl) rfl rfl ?_
        refine JL.exNo (.off rfl rfl rfl hc230 rfl) rfl rfl ?_
        refine JL.exNo (.off rfl rfl rfl hc230 rfl) rfl rfl ?_
        refine JL.exNo (.off rfl rfl rfl hc230 rfl) rfl rfl ?_
        refine JL.exP (.none rfl) rfl rfl (.pickOff rfl hc230 rfl) ?_
        refine JL.exP (.none rfl) rfl rfl (.assign rfl) ?_
        refine JL.nil ?_
        exact JX.joinEnd h ⟨rfl, trivial⟩
      · refine JL.exP (.on rfl rfl rfl hc230) rfl rfl (.fieldAddr rfl (fa_44_2 _)) ?_
        refine JL.exV (.on rfl rfl rfl hc230) rfl rfl (.load rfl) h (fun v231 w h => ?_)
        refine JL.exP (.on rfl rfl rfl hc230) rfl rfl (.fieldAddr rfl (fa_44_2 _)) ?_
        refine JL.exV (.on rfl rfl rfl hc230) rfl rfl (.load rfl) h (fun v232 w h => ?_)
        refine JL.exC (.on rfl rfl rfl hc230) rfl rfl (.func (vs := [v231, v232]) en_79 rfl) h (fun vb233 w h => ?_)
        obtain ⟨b233, rfl, h⟩ := h
        refine JL.exP (.none rfl) rfl rfl (.pickOn rfl hc230 rfl) ?_
        refine JL.exP (.none rfl) rfl rfl (.assign rfl) ?_
        refine JL.nil ?_
        exact JX.joinEnd h ⟨rfl, trivial⟩
  · refine JX.then ?_
    refine J.ret ?_
    exact JX.ret1 rfl rfl h

/-- cabstand/cabstandlaw01.markWaiting -/
def law01_markWaiting (a0 : Int) (K : Value → WP) : WP :=
  semA Try.prog (Instr.alloc 56 true (.tuple #[])) fun p234 =>
  pureV Try.prog (Instr.build 56 #[(2, (.int .i64 (IntKind.i64.wrap ((-1000) - a0))))]) fun v235 =>
  semU Try.prog (storeVar 56 p234 v235) <|
  seeV Try.prog (loadVar 56 p234) K
set_option maxRecDepth 100000 in
set_option maxHeartbeats 1000000 in
theorem law01_markWaiting_ok {a0 : Int} {K : Value → WP} {w : World} (h : law01_markWaiting a0 K w) : callH Try.prog 63 #[(.int .i64 a0)] K w := by
  refine enter (l := [(.int .i64 a0)]) Try.func63 rfl rfl rfl ?_
  show J Try.prog 6 [(0, (.int .i64 a0))] _ _ _
  unfold law01_markWaiting at h
  refine J.seq ?_
  refine J.region ?_
  refine JL.exV (.none rfl) rfl rfl (.alloc) h (fun vp234 w h => ?_)
  obtain ⟨p234, rfl, h⟩ := h
  refine JL.nil ?_
  refine JX.then ?_
  refine J.seq ?_
  refine J.region ?_
  refine JL.exP (.none rfl) rfl rfl (.move rfl) ?_
  refine JL.exP (.none rfl) rfl rfl (.sub rfl rfl) ?_
  refine JL.sPure (.none rfl) rfl rfl ((.build (l' := [(2, (.int .i64 (IntKind.i64.wrap ((-1000) - a0))))]) rfl)) h (fun v235 w h => ?_)
  refine JL.exU (.none rfl) rfl (.store rfl rfl) h (fun w h => ?_)
  refine JL.nil ?_
  refine JX.then ?_
  refine J.ret ?_
  exact JX.retC rfl rfl h

/-- cabstand/cabstandlaw01.markIdle -/
def law01_markIdle (a0 : Int) (K : Value → WP) : WP :=
  semA Try.prog (Instr.alloc 126 true (.tuple #[])) fun p236 =>
  pureV Try.prog (Instr.build 126 #[(1, (.int .i64 (IntKind.i64.wrap ((-1000) - a0))))]) fun v237 =>
  semU Try.prog (storeVar 126 p236 v237) <|
  seeV Try.prog (loadVar 126 p236) K
set_option maxRecDepth 100000 in
set_option maxHeartbeats 1000000 in
theorem law01_markIdle_ok {a0 : Int} {K : Value → WP} {w : World} (h : law01_markIdle a0 K w) : callH Try.prog 64 #[(.int .i64 a0)] K w := by
  refine enter (l := [(.int .i64 a0)]) Try.func64 rfl rfl rfl ?_
  show J Try.prog 6 [(0, (.int .i64 a0))] _ _ _
  unfold law01_markIdle at h
  refine J.seq ?_
  refine J.region ?_
  refine JL.exV (.none rfl) rfl rfl (.alloc) h (fun vp236 w h => ?_)
  obtain ⟨p236, rfl, h⟩ := h
  refine JL.nil ?_
  refine JX.then ?_
  refine J.seq ?_
  refine J.region ?_
  refine JL.exP (.none rfl) rfl rfl (.move rfl) ?_
  refine JL.exP (.none rfl) rfl rfl (.sub rfl rfl) ?_
  refine JL.sPure (.none rfl) rfl rfl ((.build (l' := [(1, (.int .i64 (IntKind.i64.wrap ((-1000) - a0))))]) rfl)) h (fun v237 w h => ?_)
  refine JL.exU (.none rfl) rfl (.store rfl rfl) h (fun w h => ?_)
  refine JL.nil ?_
  refine JX.then ?_
  refine J.ret ?_
  exact JX.retC rfl rfl h

/-- cabstand/cabstandlaw01.TwinEdges -/
def law01_TwinEdges (a0 : Value) (K : Value → WP) : WP :=
  pureI Try.prog .i64 (Builtin.len_ #[38] 3 #[a0]) fun x238 =>
  semV Try.prog (Instr.makeSlice 38 (.int .i64 (IntKind.i64.wrap (x238 + 1))) (.int .i64 (IntKind.i64.wrap (x238 + 1)))) fun v239 =>
  loopH (σ := Int) (fun kc241 s240 =>
    pureI Try.prog .i64 (Builtin.len_ #[38] 3 #[a0]) fun x242 =>
    iteH (decide (s240 < x242)) (
      pureA Try.prog (Instr.indexAt 38 a0 (.int .i64 s240)) fun p243 =>
      semV Try.prog (loadVar 103 p243) fun v244 =>
      pureA Try.prog (Instr.indexAt 38 v239 (.int .i64 s240)) fun p245 =>
      semU Try.prog (storeVar 103 p245 v244) <|
      kc241 (IntKind.i64.wrap (s240 + 1))) (
      pureI Try.prog .i64 (Builtin.len_ #[38] 3 #[a0]) fun x246 =>
      callH Try.prog 93 #[(.int .i64 7777)] fun v247 =>
      pureA Try.prog (Instr.indexAt 38 v239 (.int .i64 x246)) fun p248 =>
      semU Try.prog (storeVar 103 p248 v247) <|
      pureI Try.prog .i64 (Builtin.len_ #[38] 3 #[a0]) fun x249 =>
      pureV Try.prog (Instr.sliceAt 38 v239 none (some (.int .i64 x249)) none) fun v250 =>
      K v250)) 0
set_option maxRecDepth 100000 in
set_option maxHeartbeats 1000000 in
theorem law01_TwinEdges_ok {a0 : Value} {K : Value → WP} {w : World} (h : law01_TwinEdges a0 K w) : callH Try.prog 65 #[a0] K w := by
  refine enter (l := [a0]) Try.func65 rfl rfl rfl ?_
  show J Try.prog 31 [(0, a0)] _ _ _
  unfold law01_TwinEdges at h
  refine J.seq ?_
  refine J.region ?_
  refine JL.exP (.none rfl) rfl rfl (.assign rfl) ?_
  refine JL.nil ?_
  refine JX.then ?_
  refine J.seq ?_
  refine J.region ?_
  refine JL.exP (.none rfl) rfl rfl (.move rfl) ?_
  refine JL.sPure (.none rfl) rfl rfl ((.len (vs := [a0]) rfl)) h (fun vx238 w h => ?_)
  obtain ⟨x238, rfl, h⟩ := h
  refine JL.exP (.none rfl) rfl rfl (.add rfl rfl) ?_
  refine JL.exV (.none rfl) rfl rfl (.makeSlice rfl rfl) h (fun v239 w h => ?_)
  refine JL.exP (.none rfl) rfl rfl (.assign rfl) ?_
  refine JL.nil ?_
  refine JX.then ?_
  refine J.seq ?_
  refine J.seq ?_
  refine J.region ?_
  refine JL.exP (.none rfl) rfl rfl (.assign rfl) ?_
  refine JL.nil ?_
  refine JX.then ?_
  refine J.block ?_
  refine J.loop h (fun s240 => [(0, a0), (2, (.slice none 0 0)), (3, v239), (4, (.int .i64 s240))]) ⟨rfl, rfl, rfl, rfl, trivial⟩ (fun I μ s240 w h => ?_)
  refine J.seq ?_
  refine J.seq ?_
  refine J.region ?_
  refine JL.exP (.none rfl) rfl rfl (.move rfl) ?_
  refine JL.exP (.none rfl) rfl rfl (.move rfl) ?_
  refine JL.sPure (.none rfl) rfl rfl ((.len (vs := [a0]) rfl)) h (fun vx242 w h => ?_)
  obtain ⟨x242, rfl, h⟩ := h
  refine JL.exP (.none rfl) rfl rfl (.lss rfl rfl) ?_
  refine JL.nil ?_
  refine JX.then ?_
  refine J.cond (b := _) rfl h (fun h => ?_) (fun h => ?_)
  · refine J.skip ?_
    refine JX.then ?_
    refine J.seq ?_
    refine J.block ?_
    refine J.region ?_
    refine JL.exP (.none rfl) rfl rfl (.move rfl) ?_
    refine JL.exP (.none rfl) rfl rfl (.move rfl) ?_
    refine JL.exP (.none rfl) rfl rfl (.move rfl) ?_
    refine JL.exP (.none rfl) rfl rfl (.move rfl) ?_
    refine JL.sPure (.none rfl) rfl rfl (.indexAddr rfl rfl) h (fun vp243 w h => ?_)
    obtain ⟨p243, rfl, h⟩ := h
    refine JL.exV (.none rfl) rfl rfl (.load rfl) h (fun v244 w h => ?_)
    refine JL.sPure (.none rfl) rfl rfl (.indexAddr rfl rfl) h (fun vp245 w h => ?_)
    obtain ⟨p245, rfl, h⟩ := h
    refine JL.exU (.none rfl) rfl (.store rfl rfl) h (fun w h => ?_)
    refine JL.nil ?_
    refine JX.blockNormal ?_
    refine JX.then ?_
    refine J.region ?_
    refine JL.exP (.none rfl) rfl rfl (.move rfl) ?_
    refine JL.exP (.none rfl) rfl rfl (.add rfl rfl) ?_
    refine JL.exP (.none rfl) rfl rfl (.assign rfl) ?_
    refine JL.nil ?_
    exact JX.loopEnd h ⟨rfl, rfl, rfl, rfl, trivial⟩
  · refine J.exit ?_
    refine JX.thenExit ?_
    refine JX.thenExit ?_
    refine JX.blockHere ?_
    refine JX.then ?_
    refine J.seq ?_
    refine J.region ?_
    refine JL.exP (.none rfl) rfl rfl (.move rfl) ?_
    refine JL.exP (.none rfl) rfl rfl (.move rfl) ?_
    refine JL.sPure (.none rfl) rfl rfl ((.len (vs := [a0]) rfl)) h (fun vx246 w h => ?_)
    obtain ⟨x246, rfl, h⟩ := h
    refine JL.exC (.none rfl) rfl rfl (.func (vs := [(.int .i64 7777)]) en_93 rfl) h (fun v247 w h => ?_)
    refine JL.sPure (.none rfl) rfl rfl (.indexAddr rfl rfl) h (fun vp248 w h => ?_)
    obtain ⟨p248, rfl, h⟩ := h
    refine JL.exU (.none rfl) rfl (.store rfl rfl) h (fun w h => ?_)
    refine JL.nil ?_
    refine JX.then ?_
    refine J.seq ?_
    refine J.region ?_
    refine JL.exP (.none rfl) rfl rfl (.move rfl) ?_
    refine JL.exP (.none rfl) rfl rfl (.move rfl) ?_
    refine JL.sPure (.none rfl) rfl rfl ((.len (vs := [a0]) rfl)) h (fun vx249 w h => ?_)
    obtain ⟨x249, rfl, h⟩ := h
    refine JL.sPure (.none rfl) rfl rfl (.slice rfl rfl rfl rfl) h (fun v250 w h => ?_)
    refine JL.exP (.none rfl) rfl rfl (.assign rfl) ?_
    refine JL.nil ?_
    refine JX.then ?_
    refine J.ret ?_
    exact JX.ret1 rfl rfl h

/-- cabstand/cabstandlaw01.TwinPairs -/
def law01_TwinPairs (a0 : Value) (K : Value → WP) : WP :=
  pureI Try.prog .i64 (Builtin.len_ #[41] 3 #[a0]) fun x251 =>
  semV Try.prog (Instr.makeSlice 41 (.int .i64 (IntKind.i64.wrap (x251 + 1))) (.int .i64 (IntKind.i64.wrap (x251 + 1)))) fun v252 =>
  loopH (σ := Int) (fun kc254 s253 =>
    pureI Try.prog .i64 (Builtin.len_ #[41] 3 #[a0]) fun x255 =>
    iteH (decide (s253 < x255)) (
      pureA Try.prog (Instr.indexAt 41 a0 (.int .i64 s253)) fun p256 =>
      semV Try.prog (loadVar 105 p256) fun v257 =>
      pureA Try.prog (Instr.indexAt 41 v252 (.int .i64 s253)) fun p258 =>
      semU Try.prog (storeVar 105 p258 v257) <|
      kc254 (IntKind.i64.wrap (s253 + 1))) (
      pureI Try.prog .i64 (Builtin.len_ #[41] 3 #[a0]) fun x259 =>
      callH Try.prog 94 #[(.int .i64 7777)] fun v260 =>
      pureA Try.prog (Instr.indexAt 41 v252 (.int .i64 x259)) fun p261 =>
      semU Try.prog (storeVar 105 p261 v260) <|
      pureI Try.prog .i64 (Builtin.len_ #[41] 3 #[a0]) fun x262 =>
      pureV Try.prog (Instr.sliceAt 41 v252 none (some (.int .i64 x262)) none) fun v263 =>
      K v263)) 0
set_option maxRecDepth 100000 in
set_option maxHeartbeats 1000000 in
theorem law01_TwinPairs_ok {a0 : Value} {K : Value → WP} {w : World} (h : law01_TwinPairs a0 K w) : callH Try.prog 66 #[a0] K w := by
  refine enter (l := [a0]) Try.func66 rfl rfl rfl ?_
  show J Try.prog 31 [(0, a0)] _ _ _
  unfold law01_TwinPairs at h
  refine J.seq ?_
  refine J.region ?_
  refine JL.exP (.none rfl) rfl rfl (.assign rfl) ?_
  refine JL.nil ?_
  refine JX.then ?_
  refine J.seq ?_
  refine J.region ?_
  refine JL.exP (.none rfl) rfl rfl (.move rfl) ?_
  refine JL.sPure (.none rfl) rfl rfl ((.len (vs := [a0]) rfl)) h (fun vx251 w h => ?_)
  obtain ⟨x251, rfl, h⟩ := h
  refine JL.exP (.none rfl) rfl rfl (.add rfl rfl) ?_
  refine JL.exV (.none rfl) rfl rfl (.makeSlice rfl rfl) h (fun v252 w h => ?_)
  refine JL.exP (.none rfl) rfl rfl (.assign rfl) ?_
  refine JL.nil ?_
  refine JX.then ?_
  refine J.seq ?_
  refine J.seq ?_
  refine J.region ?_
  refine JL.exP (.none rfl) rfl rfl (.assign rfl) ?_
  refine JL.nil ?_
  refine JX.then ?_
  refine J.block ?_
  refine J.loop h (fun s253 => [(0, a0), (2, (.slice none 0 0)), (3, v252), (4, (.int .i64 s253))]) ⟨rfl, rfl, rfl, rfl, trivial⟩ (fun I μ s253 w h => ?_)
  refine J.seq ?_
  refine J.seq ?_
  refine J.region ?_
  refine JL.exP (.none rfl) rfl rfl (.move rfl) ?_
  refine JL.exP (.none rfl) rfl rfl (.move rfl) ?_
  refine JL.sPure (.none rfl) rfl rfl ((.len (vs := [a0]) rfl)) h (fun vx255 w h => ?_)
  obtain ⟨x255, rfl, h⟩ := h
  refine JL.exP (.none rfl) rfl rfl (.lss rfl rfl) ?_
  refine JL.nil ?_
  refine JX.then ?_
  refine J.cond (b := _) rfl h (fun h => ?_) (fun h => ?_)
  · refine J.skip ?_
    refine JX.then ?_
    refine J.seq ?_
    refine J.block ?_
    refine J.region ?_
    refine JL.exP (.none rfl) rfl rfl (.move rfl) ?_
    refine JL.exP (.none rfl) rfl rfl (.move rfl) ?_
    refine JL.exP (.none rfl) rfl rfl (.move rfl) ?_
    refine JL.exP (.none rfl) rfl rfl (.move rfl) ?_
    refine JL.sPure (.none rfl) rfl rfl (.indexAddr rfl rfl) h (fun vp256 w h => ?_)
    obtain ⟨p256, rfl, h⟩ := h
    refine JL.exV (.none rfl) rfl rfl (.load rfl) h (fun v257 w h => ?_)
    refine JL.sPure (.none rfl) rfl rfl (.indexAddr rfl rfl) h (fun vp258 w h => ?_)
    obtain ⟨p258, rfl, h⟩ := h
    refine JL.exU (.none rfl) rfl (.store rfl rfl) h (fun w h => ?_)
    refine JL.nil ?_
    refine JX.blockNormal ?_
    refine JX.then ?_
    refine J.region ?_
    refine JL.exP (.none rfl) rfl rfl (.move rfl) ?_
    refine JL.exP (.none rfl) rfl rfl (.add rfl rfl) ?_
    refine JL.exP (.none rfl) rfl rfl (.assign rfl) ?_
    refine JL.nil ?_
    exact JX.loopEnd h ⟨rfl, rfl, rfl, rfl, trivial⟩
  · refine J.exit ?_
    refine JX.thenExit ?_
    refine JX.thenExit ?_
    refine JX.blockHere ?_
    refine JX.then ?_
    refine J.seq ?_
    refine J.region ?_
    refine JL.exP (.none rfl) rfl rfl (.move rfl) ?_
    refine JL.exP (.none rfl) rfl rfl (.move rfl) ?_
    refine JL.sPure (.none rfl) rfl rfl ((.len (vs := [a0]) rfl)) h (fun vx259 w h => ?_)
    obtain ⟨x259, rfl, h⟩ := h
    refine JL.exC (.none rfl) rfl rfl (.func (vs := [(.int .i64 7777)]) en_94 rfl) h (fun v260 w h => ?_)
    refine JL.sPure (.none rfl) rfl rfl (.indexAddr rfl rfl) h (fun vp261 w h => ?_)
    obtain ⟨p261, rfl, h⟩ := h
    refine JL.exU (.none rfl) rfl (.store rfl rfl) h (fun w h => ?_)
    refine JL.nil ?_
    refine JX.then ?_
    refine J.seq ?_
    refine J.region ?_
    refine JL.exP (.none rfl) rfl rfl (.move rfl) ?_
    refine JL.exP (.none rfl) rfl rfl (.move rfl) ?_
    refine JL.sPure (.none rfl) rfl rfl ((.len (vs := [a0]) rfl)) h (fun vx262 w h => ?_)
    obtain ⟨x262, rfl, h⟩ := h
    refine JL.sPure (.none rfl) rfl rfl (.slice rfl rfl rfl rfl) h (fun v263 w h => ?_)
    refine JL.exP (.none rfl) rfl rfl (.assign rfl) ?_
    refine JL.nil ?_
    refine JX.then ?_
    refine J.ret ?_
    exact JX.ret1 rfl rfl h

/-- cabstand/cabstandlaw01.TwinInts -/
def law01_TwinInts (a0 : Value) (K : Value → WP) : WP :=
  pureI Try.prog .i64 (Builtin.len_ #[42] 3 #[a0]) fun x264 =>
  semV Try.prog (Instr.makeSlice 42 (.int .i64 (IntKind.i64.wrap (x264 + 1))) (.int .i64 (IntKind.i64.wrap (x264 + 1)))) fun v265 =>
  loopH (σ := Int) (fun kc267 s266 =>
    pureI Try.prog .i64 (Builtin.len_ #[42] 3 #[a0]) fun x268 =>
    iteH (decide (s266 < x268)) (
      pureA Try.prog (Instr.indexAt 42 a0 (.int .i64 s266)) fun p269 =>
      semI Try.prog .i64 (loadVar 3 p269) fun x270 =>
      pureA Try.prog (Instr.indexAt 42 v265 (.int .i64 s266)) fun p271 =>
      semU Try.prog (storeVar 3 p271 (.int .i64 x270)) <|
      kc267 (IntKind.i64.wrap (s266 + 1))) (
      pureI Try.prog .i64 (Builtin.len_ #[42] 3 #[a0]) fun x272 =>
      callI Try.prog 95 #[(.int .i64 7777)] .i64 fun x273 =>
      pureA Try.prog (Instr.indexAt 42 v265 (.int .i64 x272)) fun p274 =>
      semU Try.prog (storeVar 3 p274 (.int .i64 x273)) <|
      pureI Try.prog .i64 (Builtin.len_ #[42] 3 #[a0]) fun x275 =>
      pureV Try.prog (Instr.sliceAt 42 v265 none (some (.int .i64 x275)) none) fun v276 =>
      K v276)) 0
set_option maxRecDepth 100000 in
set_option maxHeartbeats 1000000 in
theorem law01_TwinInts_ok {a0 : Value} {K : Value → WP} {w : World} (h : law01_TwinInts a0 K w) : callH Try.prog 67 #[a0] K w := by
  refine enter (l := [a0]) Try.func67 rfl rfl rfl ?_
  show J Try.prog 31 [(0, a0)] _ _ _
  unfold law01_TwinInts at h
  refine J.seq ?_
  refine J.region ?_
  refine JL.exP (.none rfl) rfl rfl (.assign rfl) ?_
  refine JL.nil ?_
  refine JX.then ?_
  refine J.seq ?_
  refine J.region ?_
  refine JL.exP (.none rfl) rfl rfl (.move rfl) ?_
  refine JL.sPure (.none rfl) rfl rfl ((.len (vs := [a0]) rfl)) h (fun vx264 w h => ?_)
  obtain ⟨x264, rfl, h⟩ := h
  refine JL.exP (.none rfl) rfl rfl (.add rfl rfl) ?_
  refine JL.exV (.none rfl) rfl rfl (.makeSlice rfl rfl) h (fun v265 w h => ?_)
  refine JL.exP (.none rfl) rfl rfl (.assign rfl) ?_
  refine JL.nil ?_
  refine JX.then ?_
  refine J.seq ?_
  refine J.seq ?_
  refine J.region ?_
  refine JL.exP (.none rfl) rfl rfl (.assign rfl) ?_
  refine JL.nil ?_
  refine JX.then ?_
  refine J.block ?_
  refine J.loop h (fun s266 => [(0, a0), (2, (.slice none 0 0)), (3, v265), (4, (.int .i64 s266))]) ⟨rfl, rfl, rfl, rfl, trivial⟩ (fun I μ s266 w h => ?_)
  refine J.seq ?_
  refine J.seq ?_
  refine J.region ?_
  refine JL.exP (.none rfl) rfl rfl (.move rfl) ?_
  refine JL.exP (.none rfl) rfl rfl (.move rfl) ?_
  refine JL.sPure (.none rfl) rfl rfl ((.len (vs := [a0]) rfl)) h (fun vx268 w h => ?_)
  obtain ⟨x268, rfl, h⟩ := h
  refine JL.exP (.none rfl) rfl rfl (.lss rfl rfl) ?_
  refine JL.nil ?_
  refine JX.then ?_
  refine J.cond (b := _) rfl h (fun h => ?_) (fun h => ?_)
  · refine J.skip ?_
    refine JX.then ?_
    refine J.seq ?_
    refine J.block ?_
    refine J.region ?_
    refine JL.exP (.none rfl) rfl rfl (.move rfl) ?_
    refine JL.exP (.none rfl) rfl rfl (.move rfl) ?_
    refine JL.exP (.none rfl) rfl rfl (.move rfl) ?_
    refine JL.exP (.none rfl) rfl rfl (.move rfl) ?_
    refine JL.sPure (.none rfl) rfl rfl (.indexAddr rfl rfl) h (fun vp269 w h => ?_)
    obtain ⟨p269, rfl, h⟩ := h
    refine JL.exV (.none rfl) rfl rfl (.load rfl) h (fun vx270 w h => ?_)
    obtain ⟨x270, rfl, h⟩ := h
    refine JL.sPure (.none rfl) rfl rfl (.indexAddr rfl rfl) h (fun vp271 w h => ?_)
    obtain ⟨p271, rfl, h⟩ := h
    refine JL.exU (.none rfl) rfl (.store rfl rfl) h (fun w h => ?_)
    refine JL.nil ?_
    refine JX.blockNormal ?_
    refine JX.then ?_
    refine J.region ?_
    refine JL.exP (.none rfl) rfl rfl (.move rfl) ?_
    refine JL.exP (.none rfl) rfl rfl (.add rfl rfl) ?_
    refine JL.exP (.none rfl) rfl rfl (.assign rfl) ?_
    refine JL.nil ?_
    exact JX.loopEnd h ⟨rfl, rfl, rfl, rfl, trivial⟩
  · refine J.exit ?_
    refine JX.thenExit ?_
    refine JX.thenExit ?_
    refine JX.blockHere ?_
    refine JX.then ?_
    refine J.seq ?_
    refine J.region ?_
    refine JL.exP (.none rfl) rfl rfl (.move rfl) ?_
    refine JL.exP (.none rfl) rfl rfl (.move rfl) ?_
    refine JL.sPure (.none rfl) rfl rfl ((.len (vs := [a0]) rfl)) h (fun vx272 w h => ?_)
    obtain ⟨x272, rfl, h⟩ := h
    refine JL.exC (.none rfl) rfl rfl (.func (vs := [(.int .i64 7777)]) en_95 rfl) h (fun vx273 w h => ?_)
    obtain ⟨x273, rfl, h⟩ := h
    refine JL.sPure (.none rfl) rfl rfl (.indexAddr rfl rfl) h (fun vp274 w h => ?_)
    obtain ⟨p274, rfl, h⟩ := h
    refine JL.exU (.none rfl) rfl (.store rfl rfl) h (fun w h => ?_)
    refine JL.nil ?_
    refine JX.then ?_
    refine J.seq ?_
    refine J.region ?_
    refine JL.exP (.none rfl) rfl rfl (.move rfl) ?_
    refine JL.exP (.none rfl) rfl rfl (.move rfl) ?_
    refine JL.sPure (.none rfl) rfl rfl ((.len (vs := [a0]) rfl)) h (fun vx275 w h => ?_)
    obtain ⟨x275, rfl, h⟩ := h
    refine JL.sPure (.none rfl) rfl rfl (.slice rfl rfl rfl rfl) h (fun v276 w h => ?_)
    refine JL.exP (.none rfl) rfl rfl (.assign rfl) ?_
    refine JL.nil ?_
    refine JX.then ?_
    refine J.ret ?_
    exact JX.ret1 rfl rfl h

/-- cabstand/cabstandlaw01.SameWaitings -/
def law01_SameWaitings (a0 : Value) (a1 : Value) (K : Value → WP) : WP :=
  pureI Try.prog .i64 (Builtin.len_ #[36] 3 #[a0]) fun x277 =>
  pureI Try.prog .i64 (Builtin.len_ #[36] 3 #[a1]) fun x278 =>
  iteH ((x277 : Int) != x278) (
    K (.bool false)) (
    loopH (σ := Bool × Int) (fun kc280 s279 =>
      pureI Try.prog .i64 (Builtin.len_ #[36] 3 #[a0]) fun x281 =>
      iteH (decide (s279.2 < x281)) (
        drawH <|
        pureA Try.prog (Instr.indexAt 36 a0 (.int .i64 s279.2)) fun p282 =>
        readV Try.prog (loadVar 56 p282) fun v283 =>
        pureA Try.prog (Instr.indexAt 36 a1 (.int .i64 s279.2)) fun p285 =>
        readV Try.prog (loadVar 56 p285) fun v286 =>
        pureB Try.prog (eqM .neq 56 (.tmp 20) (.tmp 24) v283 v286) fun b288 =>
        iteH b288 (
          K (.bool false)) (
          kc280 (s279.1, (IntKind.i64.wrap (s279.2 + 1))))) (
        K (.bool true))) (false, 0))
set_option maxRecDepth 100000 in
set_option maxHeartbeats 1000000 in
theorem law01_SameWaitings_ok {a0 : Value} {a1 : Value} {K : Value → WP} {w : World} (h : law01_SameWaitings a0 a1 K w) : callH Try.prog 73 #[a0, a1] K w := by
  refine enter (l := [a0, a1]) Try.func73 rfl rfl rfl ?_
  show J Try.prog 26 [(0, a0), (1, a1)] _ _ _
  unfold law01_SameWaitings at h
  refine J.seq ?_
  refine J.region ?_
  refine JL.exP (.none rfl) rfl rfl (.assign rfl) ?_
  refine JL.nil ?_
  refine JX.then ?_
  refine J.seq ?_
  refine J.seq ?_
  refine J.region ?_
  refine JL.exP (.none rfl) rfl rfl (.move rfl) ?_
  refine JL.sPure (.none rfl) rfl rfl ((.len (vs := [a0]) rfl)) h (fun vx277 w h => ?_)
  obtain ⟨x277, rfl, h⟩ := h
  refine JL.exP (.none rfl) rfl rfl (.move rfl) ?_
  refine JL.sPure (.none rfl) rfl rfl ((.len (vs := [a1]) rfl)) h (fun vx278 w h => ?_)
  obtain ⟨x278, rfl, h⟩ := h
  refine JL.exP (.none rfl) rfl rfl (.neq rfl rfl) ?_
  refine JL.nil ?_
  refine JX.then ?_
  refine J.cond (b := _) rfl h (fun h => ?_) (fun h => ?_)
  · refine J.seq ?_
    refine J.region ?_
    refine JL.exP (.none rfl) rfl rfl (.assign rfl) ?_
    refine JL.nil ?_
    refine JX.then ?_
    refine J.ret ?_
    refine JX.thenRet ?_
    exact JX.ret1 rfl rfl h
  · refine J.skip ?_
    refine JX.then ?_
    refine J.seq ?_
    refine J.seq ?_
    refine J.region ?_
    refine JL.exP (.none rfl) rfl rfl (.assign rfl) ?_
    refine JL.nil ?_
    refine JX.then ?_
    refine J.block ?_
    refine J.loop h (fun s279 => [(0, a0), (1, a1), (4, (.bool s279.1)), (5, (.int .i64 s279.2))]) ⟨rfl, rfl, rfl, rfl, trivial⟩ (fun I μ s279 w h => ?_)
    refine J.seq ?_
    refine J.seq ?_
    refine J.region ?_
    refine JL.exP (.none rfl) rfl rfl (.move rfl) ?_
    refine JL.exP (.none rfl) rfl rfl (.move rfl) ?_
    refine JL.sPure (.none rfl) rfl rfl ((.len (vs := [a0]) rfl)) h (fun vx281 w h => ?_)
    obtain ⟨x281, rfl, h⟩ := h
    refine JL.exP (.none rfl) rfl rfl (.lss rfl rfl) ?_
    refine JL.nil ?_
    refine JX.then ?_
    refine J.cond (b := _) rfl h (fun h => ?_) (fun h => ?_)
    · refine J.skip ?_
      refine JX.then ?_
      refine J.seq ?_
      refine J.block ?_
      refine J.seq ?_
      refine J.draw [[], [], [0, 1], [0, 1, 2], [], [], [4, 5], [4, 5, 6], [0, 1, 2, 3, 4, 5, 6, 7]] (by kernel_rfl) mixed h (fun w h => ?_)
      refine JD.pure_ (i := 0) [] rfl (by kernel_rfl) (by kernel_rfl) (by kernel_rfl) (by kernel_rfl) (.none rfl) rfl rfl (.move rfl) trivial ?_
      refine JD.pure_ (i := 1) [] rfl (by kernel_rfl) (by kernel_rfl) (by kernel_rfl) (by kernel_rfl) (.none rfl) rfl rfl (.move rfl) trivial ?_
      refine JD.sPure (i := 2) [] rfl (by kernel_rfl) (by kernel_rfl) (by kernel_rfl) (by kernel_rfl) (.none rfl) rfl rfl (.indexAddr rfl rfl) h trivial (fun vp282 h => ?_)
      obtain ⟨p282, rfl, h⟩ := h
      refine JD.read (i := 3) [] rfl (by kernel_rfl) (by kernel_rfl) (by kernel_rfl) (by kernel_rfl) (.none rfl) rfl rfl (.load rfl) h trivial (fun v283 st284 h => ?_)
      refine JD.pure_ (i := 4) [false] rfl (by kernel_rfl) (by kernel_rfl) (by kernel_rfl) (by kernel_rfl) (.none rfl) rfl rfl (.move rfl) ⟨st284, trivial⟩ ?_
      refine JD.pure_ (i := 5) [false] rfl (by kernel_rfl) (by kernel_rfl) (by kernel_rfl) (by kernel_rfl) (.none rfl) rfl rfl (.move rfl) ⟨st284, trivial⟩ ?_
      refine JD.sPure (i := 6) [false] rfl (by kernel_rfl) (by kernel_rfl) (by kernel_rfl) (by kernel_rfl) (.none rfl) rfl rfl (.indexAddr rfl rfl) h ⟨st284, trivial⟩ (fun vp285 h => ?_)
      obtain ⟨p285, rfl, h⟩ := h
      refine JD.read (i := 7) [false] rfl (by kernel_rfl) (by kernel_rfl) (by kernel_rfl) (by kernel_rfl) (.none rfl) rfl rfl (.load rfl) h ⟨st284, trivial⟩ (fun v286 st287 h => ?_)
      refine JD.sPure (i := 8) [true, true] rfl (by kernel_rfl) (by kernel_rfl) (by kernel_rfl) (by kernel_rfl) (.none rfl) rfl rfl (.binOp rfl rfl) h trivial (fun vb288 h => ?_)
      obtain ⟨b288, rfl, h⟩ := h
      refine JD.done (by kernel_rfl) ?_
      refine JX.then ?_
      refine J.cond (b := _) rfl h (fun h => ?_) (fun h => ?_)
      · refine J.seq ?_
        refine J.region ?_
        refine JL.exP (.none rfl) rfl rfl (.assign rfl) ?_
        refine JL.nil ?_
        refine JX.then ?_
        refine J.ret ?_
        refine JX.blockRet ?_
        refine JX.thenRet ?_
        refine JX.thenRet ?_
        refine JX.blockRet ?_
        refine JX.thenRet ?_
        exact JX.ret1 rfl rfl h
      · refine J.skip ?_
        refine JX.blockNormal ?_
        refine JX.then ?_
        refine J.region ?_
        refine JL.exP (.none rfl) rfl rfl (.move rfl) ?_
        refine JL.exP (.none rfl) rfl rfl (.add rfl rfl) ?_
        refine JL.exP (.none rfl) rfl rfl (.assign rfl) ?_
        refine JL.nil ?_
        exact JX.loopEnd h ⟨rfl, rfl, rfl, rfl, trivial⟩
    · refine J.exit ?_
      refine JX.thenExit ?_
      refine JX.thenExit ?_
      refine JX.blockHere ?_
      refine JX.then ?_
      refine J.seq ?_
      refine J.region ?_
      refine JL.exP (.none rfl) rfl rfl (.assign rfl) ?_
      refine JL.nil ?_
      refine JX.then ?_
      refine J.ret ?_
      exact JX.ret1 rfl rfl h

/-- cabstand/cabstandlaw01.isWaiting -/
def law01_isWaiting (a0 : Value) (a1 : Int) (K : Value → WP) : WP :=
  semA Try.prog (Instr.box 56 a0) fun p289 =>
  semV Try.prog (loadVar 56 p289) fun v290 =>
  pureV Try.prog (Instr.build 56 #[(2, (.int .i64 (IntKind.i64.wrap ((-1000) - a1))))]) fun v291 =>
  pureB Try.prog (eqM .eql 56 (.tmp 5) (.tmp 8) v290 v291) fun b292 =>
  K (.bool b292)
set_option maxRecDepth 100000 in
set_option maxHeartbeats 1000000 in
theorem law01_isWaiting_ok {a0 : Value} {a1 : Int} {K : Value → WP} {w : World} (h : law01_isWaiting a0 a1 K w) : callH Try.prog 74 #[a0, (.int .i64 a1)] K w := by
  refine enter (l := [a0, (.int .i64 a1)]) Try.func74 rfl rfl rfl ?_
  show J Try.prog 10 [(0, a0), (1, (.int .i64 a1))] _ _ _
  unfold law01_isWaiting at h
  refine J.seq ?_
  refine J.region ?_
  refine JL.exV (.none rfl) rfl rfl (.box rfl) h (fun vp289 w h => ?_)
  obtain ⟨p289, rfl, h⟩ := h
  refine JL.exP (.none rfl) rfl rfl (.assign rfl) ?_
  refine JL.nil ?_
  refine JX.then ?_
  refine J.seq ?_
  refine J.region ?_
  refine JL.exV (.none rfl) rfl rfl (.load rfl) h (fun v290 w h => ?_)
  refine JL.exP (.none rfl) rfl rfl (.move rfl) ?_
  refine JL.exP (.none rfl) rfl rfl (.sub rfl rfl) ?_
  refine JL.sPure (.none rfl) rfl rfl ((.build (l' := [(2, (.int .i64 (IntKind.i64.wrap ((-1000) - a1))))]) rfl)) h (fun v291 w h => ?_)
  refine JL.sPure (.none rfl) rfl rfl (.binOp rfl rfl) h (fun vb292 w h => ?_)
  obtain ⟨b292, rfl, h⟩ := h
  refine JL.exP (.none rfl) rfl rfl (.assign rfl) ?_
  refine JL.nil ?_
  refine JX.then ?_
  refine J.ret ?_
  exact JX.ret1 rfl rfl h

/-- cabstand/cabstandlaw01.SameIdles -/
def law01_SameIdles (a0 : Value) (a1 : Value) (K : Value → WP) : WP :=
  pureI Try.prog .i64 (Builtin.len_ #[37] 3 #[a0]) fun x293 =>
  pureI Try.prog .i64 (Builtin.len_ #[37] 3 #[a1]) fun x294 =>
  iteH ((x293 : Int) != x294) (
    K (.bool false)) (
    loopH (σ := Bool × Int) (fun kc296 s295 =>
      pureI Try.prog .i64 (Builtin.len_ #[37] 3 #[a0]) fun x297 =>
      iteH (decide (s295.2 < x297)) (
        drawH <|
        pureA Try.prog (Instr.indexAt 37 a0 (.int .i64 s295.2)) fun p298 =>
        readV Try.prog (loadVar 126 p298) fun v299 =>
        pureA Try.prog (Instr.indexAt 37 a1 (.int .i64 s295.2)) fun p301 =>
        readV Try.prog (loadVar 126 p301) fun v302 =>
        pureB Try.prog (eqM .neq 126 (.tmp 20) (.tmp 24) v299 v302) fun b304 =>
        iteH b304 (
          K (.bool false)) (
          kc296 (s295.1, (IntKind.i64.wrap (s295.2 + 1))))) (
        K (.bool true))) (false, 0))
set_option maxRecDepth 100000 in
set_option maxHeartbeats 1000000 in
theorem law01_SameIdles_ok {a0 : Value} {a1 : Value} {K : Value → WP} {w : World} (h : law01_SameIdles a0 a1 K w) : callH Try.prog 75 #[a0, a1] K w := by
  refine enter (l := [a0, a1]) Try.func75 rfl rfl rfl ?_
  show J Try.prog 26 [(0, a0), (1, a1)] _ _ _
  unfold law01_SameIdles at h
  refine J.seq ?_
  refine J.region ?_
  refine JL.exP (.none rfl) rfl rfl (.assign rfl) ?_
  refine JL.nil ?_
  refine JX.then ?_
  refine J.seq ?_
  refine J.seq ?_
  refine J.region ?_
  refine JL.exP (.none rfl) rfl rfl (.move rfl) ?_
  refine JL.sPure (.none rfl) rfl rfl ((.len (vs := [a0]) rfl)) h (fun vx293 w h => ?_)
  obtain ⟨x293, rfl, h⟩ := h
  refine JL.exP (.none rfl) rfl rfl (.move rfl) ?_
  refine JL.sPure (.none rfl) rfl rfl ((.len (vs := [a1]) rfl)) h (fun vx294 w h => ?_)
  obtain ⟨x294, rfl, h⟩ := h
  refine JL.exP (.none rfl) rfl rfl (.neq rfl rfl) ?_
  refine JL.nil ?_
  refine JX.then ?_
  refine J.cond (b := _) rfl h (fun h => ?_) (fun h => ?_)
  · refine J.seq ?_
    refine J.region ?_
    refine JL.exP (.none rfl) rfl rfl (.assign rfl) ?_
    refine JL.nil ?_
    refine JX.then ?_
    refine J.ret ?_
    refine JX.thenRet ?_
    exact JX.ret1 rfl rfl h
  · refine J.skip ?_
    refine JX.then ?_
    refine J.seq ?_
    refine J.seq ?_
    refine J.region ?_
    refine JL.exP (.none rfl) rfl rfl (.assign rfl) ?_
    refine JL.nil ?_
    refine JX.then ?_
    refine J.block ?_
    refine J.loop h (fun s295 => [(0, a0), (1, a1), (4, (.bool s295.1)), (5, (.int .i64 s295.2))]) ⟨rfl, rfl, rfl, rfl, trivial⟩ (fun I μ s295 w h => ?_)
    refine J.seq ?_
    refine J.seq ?_
    refine J.region ?_
    refine JL.exP (.none rfl) rfl rfl (.move rfl) ?_
    refine JL.exP (.none rfl) rfl rfl (.move rfl) ?_
    refine JL.sPure (.none rfl) rfl rfl ((.len (vs := [a0]) rfl)) h (fun vx297 w h => ?_)
    obtain ⟨x297, rfl, h⟩ := h
    refine JL.exP (.none rfl) rfl rfl (.lss rfl rfl) ?_
    refine JL.nil ?_
    refine JX.then ?_
    refine J.cond (b := _) rfl h (fun h => ?_) (fun h => ?_)
    · refine J.skip ?_
      refine JX.then ?_
      refine J.seq ?_
      refine J.block ?_
      refine J.seq ?_
      refine J.draw [[], [], [0, 1], [0, 1, 2], [], [], [4, 5], [4, 5, 6], [0, 1, 2, 3, 4, 5, 6, 7]] (by kernel_rfl) mixed h (fun w h => ?_)
      refine JD.pure_ (i := 0) [] rfl (by kernel_rfl) (by kernel_rfl) (by kernel_rfl) (by kernel_rfl) (.none rfl) rfl rfl (.move rfl) trivial ?_
      refine JD.pure_ (i := 1) [] rfl (by kernel_rfl) (by kernel_rfl) (by kernel_rfl) (by kernel_rfl) (.none rfl) rfl rfl (.move rfl) trivial ?_
      refine JD.sPure (i := 2) [] rfl (by kernel_rfl) (by kernel_rfl) (by kernel_rfl) (by kernel_rfl) (.none rfl) rfl rfl (.indexAddr rfl rfl) h trivial (fun vp298 h => ?_)
      obtain ⟨p298, rfl, h⟩ := h
      refine JD.read (i := 3) [] rfl (by kernel_rfl) (by kernel_rfl) (by kernel_rfl) (by kernel_rfl) (.none rfl) rfl rfl (.load rfl) h trivial (fun v299 st300 h => ?_)
      refine JD.pure_ (i := 4) [false] rfl (by kernel_rfl) (by kernel_rfl) (by kernel_rfl) (by kernel_rfl) (.none rfl) rfl rfl (.move rfl) ⟨st300, trivial⟩ ?_
      refine JD.pure_ (i := 5) [false] rfl (by kernel_rfl) (by kernel_rfl) (by kernel_rfl) (by kernel_rfl) (.none rfl) rfl rfl (.move rfl) ⟨st300, trivial⟩ ?_
      refine JD.sPure (i := 6) [false] rfl (by kernel_rfl) (by kernel_rfl) (by kernel_rfl) (by kernel_rfl) (.none rfl) rfl rfl (.indexAddr rfl rfl) h ⟨st300, trivial⟩ (fun vp301 h => ?_)
      obtain ⟨p301, rfl, h⟩ := h
      refine JD.read (i := 7) [false] rfl (by kernel_rfl) (by kernel_rfl) (by kernel_rfl) (by kernel_rfl) (.none rfl) rfl rfl (.load rfl) h ⟨st300, trivial⟩ (fun v302 st303 h => ?_)
      refine JD.sPure (i := 8) [true, true] rfl (by kernel_rfl) (by kernel_rfl) (by kernel_rfl) (by kernel_rfl) (.none rfl) rfl rfl (.binOp rfl rfl) h trivial (fun vb304 h => ?_)
      obtain ⟨b304, rfl, h⟩ := h
      refine JD.done (by kernel_rfl) ?_
      refine JX.then ?_
      refine J.cond (b := _) rfl h (fun h => ?_) (fun h => ?_)
      · refine J.seq ?_
        refine J.region ?_
        refine JL.exP (.none rfl) rfl rfl (.assign rfl) ?_
        refine JL.nil ?_
        refine JX.then ?_
        refine J.ret ?_
        refine JX.blockRet ?_
        refine JX.thenRet ?_
        refine JX.thenRet ?_
        refine JX.blockRet ?_
        refine JX.thenRet ?_
        exact JX.ret1 rfl rfl h
      · refine J.skip ?_
        refine JX.blockNormal ?_
        refine JX.then ?_
        refine J.region ?_
        refine JL.exP (.none rfl) rfl rfl (.move rfl) ?_
        refine JL.exP (.none rfl) rfl rfl (.add rfl rfl) ?_
        refine JL.exP (.none rfl) rfl rfl (.assign rfl) ?_
        refine JL.nil ?_
        exact JX.loopEnd h ⟨rfl, rfl, rfl, rfl, trivial⟩
    · refine J.exit ?_
      refine JX.thenExit ?_
      refine JX.thenExit ?_
      refine JX.blockHere ?_
      refine JX.then ?_
      refine J.seq ?_
      refine J.region ?_
      refine JL.exP (.none rfl) rfl rfl (.assign rfl) ?_
      refine JL.nil ?_
      refine JX.then ?_
      refine J.ret ?_
      exact JX.ret1 rfl rfl h

/-- cabstand/cabstandlaw01.isIdle -/
def law01_isIdle (a0 : Value) (a1 : Int) (K : Value → WP) : WP :=
  semA Try.prog (Instr.box 126 a0) fun p305 =>
  semV Try.prog (loadVar 126 p305) fun v306 =>
  pureV Try.prog (Instr.build 126 #[(1, (.int .i64 (IntKind.i64.wrap ((-1000) - a1))))]) fun v307 =>
  pureB Try.prog (eqM .eql 126 (.tmp 5) (.tmp 8) v306 v307) fun b308 =>
  K (.bool b308)
set_option maxRecDepth 100000 in
set_option maxHeartbeats 1000000 in
theorem law01_isIdle_ok {a0 : Value} {a1 : Int} {K : Value → WP} {w : World} (h : law01_isIdle a0 a1 K w) : callH Try.prog 76 #[a0, (.int .i64 a1)] K w := by
  refine enter (l := [a0, (.int .i64 a1)]) Try.func76 rfl rfl rfl ?_
  show J Try.prog 10 [(0, a0), (1, (.int .i64 a1))] _ _ _
  unfold law01_isIdle at h
  refine J.seq ?_
  refine J.region ?_
  refine JL.exV (.none rfl) rfl rfl (.box rfl) h (fun vp305 w h => ?_)
  obtain ⟨p305, rfl, h⟩ := h
  refine JL.exP (.none rfl) rfl rfl (.assign rfl) ?_
  refine JL.nil ?_
  refine JX.then ?_
  refine J.seq ?_
  refine J.region ?_
  refine JL.exV (.none rfl) rfl rfl (.load rfl) h (fun v306 w h => ?_)
  refine JL.exP (.none rfl) rfl rfl (.move rfl) ?_
  refine JL.exP (.none rfl) rfl rfl (.sub rfl rfl) ?_
  refine JL.sPure (.none rfl) rfl rfl ((.build (l' := [(1, (.int .i64 (IntKind.i64.wrap ((-1000) - a1))))]) rfl)) h (fun v307 w h => ?_)
  refine JL.sPure (.none rfl) rfl rfl (.binOp rfl rfl) h (fun vb308 w h => ?_)
  obtain ⟨b308, rfl, h⟩ := h
  refine JL.exP (.none rfl) rfl rfl (.assign rfl) ?_
  refine JL.nil ?_
  refine JX.then ?_
  refine J.ret ?_
  exact JX.ret1 rfl rfl h

/-- cabstand/cabstandlaw01.LeftEdges -/
def law01_LeftEdges (a0 : Value) (a1 : Value) (K : Value → WP) : WP :=
  joinH (α := Bool) (fun y309 =>
    K (.bool y309)) fun k310 =>
    callB Try.prog 100 #[a0, a1] fun b311 =>
    andB b311 (fun k313 =>
      pureI Try.prog .i64 (Builtin.len_ #[38] 3 #[a1]) fun x315 =>
      pureV Try.prog (Instr.sliceAt 38 a0 none (some (.int .i64 (IntKind.i64.wrap (x315 + 1)))) none) fun v316 =>
      pureI Try.prog .i64 (Builtin.len_ #[38] 3 #[a1]) fun x317 =>
      pureA Try.prog (Instr.indexAt 38 v316 (.int .i64 x317)) fun p318 =>
      semV Try.prog (loadVar 103 p318) fun v319 =>
      callB Try.prog 101 #[v319, (.int .i64 7777)] fun b320 =>
      k313 b320) fun b312 =>
    k310 b312
set_option maxRecDepth 100000 in
set_option maxHeartbeats 1000000 in
theorem law01_LeftEdges_ok {a0 : Value} {a1 : Value} {K : Value → WP} {w : World} (h : law01_LeftEdges a0 a1 K w) : callH Try.prog 77 #[a0, a1] K w := by
  refine enter (l := [a0, a1]) Try.func77 rfl rfl rfl ?_
  show J Try.prog 20 [(0, a0), (1, a1)] _ _ _
  unfold law01_LeftEdges at h
  refine J.seq ?_
  refine J.region ?_
  refine JL.exP (.none rfl) rfl rfl (.assign rfl) ?_
  refine JL.nil ?_
  refine JX.then ?_
  refine J.seq ?_
  refine J.join h (fun y309 => [(4, (.bool y309))]) (fun k310 w h => ?_) (fun y309 w h => ?_)
  · refine J.region ?_
    refine JL.exP (.none rfl) rfl rfl (.move rfl) ?_
    refine JL.exP (.none rfl) rfl rfl (.move rfl) ?_
    refine JL.exC (.none rfl) rfl rfl (.func (vs := [a0, a1]) en_100 rfl) h (fun vb311 w h => ?_)
    obtain ⟨b311, rfl, h⟩ := h
    refine JL.exP (.none rfl) rfl rfl (.move rfl) ?_
    rcases andB_cases h with ⟨hc314, h⟩ | ⟨hc314, h⟩
    · refine JL.exNo (.off rfl rfl rfl hc314 rfl) rfl rfl ?_
      refine JL.exNo (.off rfl rfl rfl hc314 rfl) rfl rfl ?_
      refine JL.exNo (.off rfl rfl rfl hc314 rfl) rfl rfl ?_
      refine JL.exNo (.off rfl rfl rfl hc314 rfl) rfl rfl ?_
      refine JL.exNo (.off rfl rfl rfl hc314 rfl) rfl rfl ?_
      refine JL.exNo (.off rfl rfl rfl hc314 rfl) rfl rfl ?_
      refine JL.exNo (.off rfl rfl rfl hc314 rfl) rfl rfl ?_
      refine JL.exNo (.off rfl rfl rfl hc314 rfl) rfl rfl ?_
      refine JL.exNo (.off rfl rfl rfl hc314 rfl) rfl rfl ?_
      refine JL.exNo (.off rfl rfl rfl hc314 rfl) rfl rfl ?_
      refine JL.exP (.none rfl) rfl rfl (.pickOff rfl hc314 rfl) ?_
      refine JL.exP (.none rfl) rfl rfl (.assign rfl) ?_
      refine JL.nil ?_
      exact JX.joinEnd h ⟨rfl, trivial⟩
    · refine JL.exP (.on rfl rfl rfl hc314) rfl rfl (.move rfl) ?_
      refine JL.exP (.on rfl rfl rfl hc314) rfl rfl (.move rfl) ?_
      refine JL.sPure (.on rfl rfl rfl hc314) rfl rfl ((.len (vs := [a1]) rfl)) h (fun vx315 w h => ?_)
      obtain ⟨x315, rfl, h⟩ := h
      refine JL.exP (.on rfl rfl rfl hc314) rfl rfl (.add rfl rfl) ?_
      refine JL.sPure (.on rfl rfl rfl hc314) rfl rfl (.slice rfl rfl rfl rfl) h (fun v316 w h => ?_)
      refine JL.exP (.on rfl rfl rfl hc314) rfl rfl (.move rfl) ?_
      refine JL.sPure (.on rfl rfl rfl hc314) rfl rfl ((.len (vs := [a1]) rfl)) h (fun vx317 w h => ?_)
      obtain ⟨x317, rfl, h⟩ := h
      refine JL.sPure (.on rfl rfl rfl hc314) rfl rfl (.indexAddr rfl rfl) h (fun vp318 w h => ?_)
      obtain ⟨p318, rfl, h⟩ := h
      refine JL.exV (.on rfl rfl rfl hc314) rfl rfl (.load rfl) h (fun v319 w h => ?_)
      refine JL.exC (.on rfl rfl rfl hc314) rfl rfl (.func (vs := [v319, (.int .i64 7777)]) en_101 rfl) h (fun vb320 w h => ?_)
      obtain ⟨b320, rfl, h⟩ := h
      refine JL.exP (.none rfl) rfl rfl (.pickOn rfl hc314 rfl) ?_
      refine JL.exP (.none rfl) rfl rfl (.assign rfl) ?_
      refine JL.nil ?_
      exact JX.joinEnd h ⟨rfl, trivial⟩
  · refine JX.then ?_
    refine J.ret ?_
    exact JX.ret1 rfl rfl h

/-- cabstand/cabstandlaw01.LeftPairs -/
def law01_LeftPairs (a0 : Value) (a1 : Value) (K : Value → WP) : WP :=
  joinH (α := Bool) (fun y321 =>
    K (.bool y321)) fun k322 =>
    callB Try.prog 102 #[a0, a1] fun b323 =>
    andB b323 (fun k325 =>
      pureI Try.prog .i64 (Builtin.len_ #[41] 3 #[a1]) fun x327 =>
      pureV Try.prog (Instr.sliceAt 41 a0 none (some (.int .i64 (IntKind.i64.wrap (x327 + 1)))) none) fun v328 =>
      pureI Try.prog .i64 (Builtin.len_ #[41] 3 #[a1]) fun x329 =>
      pureA Try.prog (Instr.indexAt 41 v328 (.int .i64 x329)) fun p330 =>
      semV Try.prog (loadVar 105 p330) fun v331 =>
      callB Try.prog 103 #[v331, (.int .i64 7777)] fun b332 =>
      k325 b332) fun b324 =>
    k322 b324
set_option maxRecDepth 100000 in
set_option maxHeartbeats 1000000 in
theorem law01_LeftPairs_ok {a0 : Value} {a1 : Value} {K : Value → WP} {w : World} (h : law01_LeftPairs a0 a1 K w) : callH Try.prog 78 #[a0, a1] K w := by
  refine enter (l := [a0, a1]) Try.func78 rfl rfl rfl ?_
  show J Try.prog 20 [(0, a0), (1, a1)] _ _ _
  unfold law01_LeftPairs at h
  refine J.seq ?_
  refine J.region ?_
  refine JL.exP (.none rfl) rfl rfl (.assign rfl) ?_
  refine JL.nil ?_
  refine JX.then ?_
  refine J.seq ?_
  refine J.join h (fun y321 => [(4, (.bool y321))]) (fun k322 w h => ?_) (fun y321 w h => ?_)
  · refine J.region ?_
    refine JL.exP (.none rfl) rfl rfl (.move rfl) ?_
    refine JL.exP (.none rfl) rfl rfl (.move rfl) ?_
    refine JL.exC (.none rfl) rfl rfl (.func (vs := [a0, a1]) en_102 rfl) h (fun vb323 w h => ?_)
    obtain ⟨b323, rfl, h⟩ := h
    refine JL.exP (.none rfl) rfl rfl (.move rfl) ?_
    rcases andB_cases h with ⟨hc326, h⟩ | ⟨hc326, h⟩
    · refine JL.exNo (.off rfl rfl rfl hc326 rfl) rfl rfl ?_
      refine JL.exNo (.off rfl rfl rfl hc326 rfl) rfl rfl ?_
      refine JL.exNo (.off rfl rfl rfl hc326 rfl) rfl rfl ?_
      refine JL.exNo (.off rfl rfl rfl hc326 rfl) rfl rfl ?_
      refine JL.exNo (.off rfl rfl rfl hc326 rfl) rfl rfl ?_
      refine JL.exNo (.off rfl rfl rfl hc326 rfl) rfl rfl ?_
      refine JL.exNo (.off rfl rfl rfl hc326 rfl) rfl rfl ?_
      refine JL.exNo (.off rfl rfl rfl hc326 rfl) rfl rfl ?_
      refine JL.exNo (.off rfl rfl rfl hc326 rfl) rfl rfl ?_
      refine JL.exNo (.off rfl rfl rfl hc326 rfl) rfl rfl ?_
      refine JL.exP (.none rfl) rfl rfl (.pickOff rfl hc326 rfl) ?_
      refine JL.exP (.none rfl) rfl rfl (.assign rfl) ?_
      refine JL.nil ?_
      exact JX.joinEnd h ⟨rfl, trivial⟩
    · refine JL.exP (.on rfl rfl rfl hc326) rfl rfl (.move rfl) ?_
      refine JL.exP (.on rfl rfl rfl hc326) rfl rfl (.move rfl) ?_
      refine JL.sPure (.on rfl rfl rfl hc326) rfl rfl ((.len (vs := [a1]) rfl)) h (fun vx327 w h => ?_)
      obtain ⟨x327, rfl, h⟩ := h
      refine JL.exP (.on rfl rfl rfl hc326) rfl rfl (.add rfl rfl) ?_
      refine JL.sPure (.on rfl rfl rfl hc326) rfl rfl (.slice rfl rfl rfl rfl) h (fun v328 w h => ?_)
      refine JL.exP (.on rfl rfl rfl hc326) rfl rfl (.move rfl) ?_
      refine JL.sPure (.on rfl rfl rfl hc326) rfl rfl ((.len (vs := [a1]) rfl)) h (fun vx329 w h => ?_)
      obtain ⟨x329, rfl, h⟩ := h
      refine JL.sPure (.on rfl rfl rfl hc326) rfl rfl (.indexAddr rfl rfl) h (fun vp330 w h => ?_)
      obtain ⟨p330, rfl, h⟩ := h
      refine JL.exV (.on rfl rfl rfl hc326) rfl rfl (.load rfl) h (fun v331 w h => ?_)
      refine JL.exC (.on rfl rfl rfl hc326) rfl rfl (.func (vs := [v331, (.int .i64 7777)]) en_103 rfl) h (fun vb332 w h => ?_)
      obtain ⟨b332, rfl, h⟩ := h
      refine JL.exP (.none rfl) rfl rfl (.pickOn rfl hc326 rfl) ?_
      refine JL.exP (.none rfl) rfl rfl (.assign rfl) ?_
      refine JL.nil ?_
      exact JX.joinEnd h ⟨rfl, trivial⟩
  · refine JX.then ?_
    refine J.ret ?_
    exact JX.ret1 rfl rfl h

/-- cabstand/cabstandlaw01.LeftInts -/
def law01_LeftInts (a0 : Value) (a1 : Value) (K : Value → WP) : WP :=
  joinH (α := Bool) (fun y333 =>
    K (.bool y333)) fun k334 =>
    callB Try.prog 104 #[a0, a1] fun b335 =>
    andB b335 (fun k337 =>
      pureI Try.prog .i64 (Builtin.len_ #[42] 3 #[a1]) fun x339 =>
      pureV Try.prog (Instr.sliceAt 42 a0 none (some (.int .i64 (IntKind.i64.wrap (x339 + 1)))) none) fun v340 =>
      pureI Try.prog .i64 (Builtin.len_ #[42] 3 #[a1]) fun x341 =>
      pureA Try.prog (Instr.indexAt 42 v340 (.int .i64 x341)) fun p342 =>
      semI Try.prog .i64 (loadVar 3 p342) fun x343 =>
      callB Try.prog 105 #[(.int .i64 x343), (.int .i64 7777)] fun b344 =>
      k337 b344) fun b336 =>
    k334 b336
set_option maxRecDepth 100000 in
set_option maxHeartbeats 1000000 in
theorem law01_LeftInts_ok {a0 : Value} {a1 : Value} {K : Value → WP} {w : World} (h : law01_LeftInts a0 a1 K w) : callH Try.prog 79 #[a0, a1] K w := by
  refine enter (l := [a0, a1]) Try.func79 rfl rfl rfl ?_
  show J Try.prog 20 [(0, a0), (1, a1)] _ _ _
  unfold law01_LeftInts at h
  refine J.seq ?_
  refine J.region ?_
  refine JL.exP (.none rfl) rfl rfl (.assign rfl) ?_
  refine JL.nil ?_
  refine JX.then ?_
  refine J.seq ?_
  refine J.join h (fun y333 => [(4, (.bool y333))]) (fun k334 w h => ?_) (fun y333 w h => ?_)
  · refine J.region ?_
    refine JL.exP (.none rfl) rfl rfl (.move rfl) ?_
    refine JL.exP (.none rfl) rfl rfl (.move rfl) ?_
    refine JL.exC (.none rfl) rfl rfl (.func (vs := [a0, a1]) en_104 rfl) h (fun vb335 w h => ?_)
    obtain ⟨b335, rfl, h⟩ := h
    refine JL.exP (.none rfl) rfl rfl (.move rfl) ?_
    rcases andB_cases h with ⟨hc338, h⟩ | ⟨hc338, h⟩
    · refine JL.exNo (.off rfl rfl rfl hc338 rfl) rfl rfl ?_
      refine JL.exNo (.off rfl rfl rfl hc338 rfl) rfl rfl ?_
      refine JL.exNo (.off rfl rfl rfl hc338 rfl) rfl rfl ?_
      refine JL.exNo (.off rfl rfl rfl hc338 rfl) rfl rfl ?_
      refine JL.exNo (.off rfl rfl rfl hc338 rfl) rfl rfl ?_
      refine JL.exNo (.off rfl rfl rfl hc338 rfl) rfl rfl ?_
      refine JL.exNo (.off rfl rfl rfl hc338 rfl) rfl rfl ?_
      refine JL.exNo (.off rfl rfl rfl hc338 rfl) rfl rfl ?_
      refine JL.exNo (.off rfl rfl rfl hc338 rfl) rfl rfl ?_
      refine JL.exNo (.off rfl rfl rfl hc338 rfl) rfl rfl ?_
      refine JL.exP (.none rfl) rfl rfl (.pickOff rfl hc338 rfl) ?_
      refine JL.exP (.none rfl) rfl rfl (.assign rfl) ?_
      refine JL.nil ?_
      exact JX.joinEnd h ⟨rfl, trivial⟩
    · refine JL.exP (.on rfl rfl rfl hc338) rfl rfl (.move rfl) ?_
      refine JL.exP (.on rfl rfl rfl hc338) rfl rfl (.move rfl) ?_
      refine JL.sPure (.on rfl rfl rfl hc338) rfl rfl ((.len (vs := [a1]) rfl)) h (fun vx339 w h => ?_)
      obtain ⟨x339, rfl, h⟩ := h
      refine JL.exP (.on rfl rfl rfl hc338) rfl rfl (.add rfl rfl) ?_
      refine JL.sPure (.on rfl rfl rfl hc338) rfl rfl (.slice rfl rfl rfl rfl) h (fun v340 w h => ?_)
      refine JL.exP (.on rfl rfl rfl hc338) rfl rfl (.move rfl) ?_
      refine JL.sPure (.on rfl rfl rfl hc338) rfl rfl ((.len (vs := [a1]) rfl)) h (fun vx341 w h => ?_)
      obtain ⟨x341, rfl, h⟩ := h
      refine JL.sPure (.on rfl rfl rfl hc338) rfl rfl (.indexAddr rfl rfl) h (fun vp342 w h => ?_)
      obtain ⟨p342, rfl, h⟩ := h
      refine JL.exV (.on rfl rfl rfl hc338) rfl rfl (.load rfl) h (fun vx343 w h => ?_)
      obtain ⟨x343, rfl, h⟩ := h
      refine JL.exC (.on rfl rfl rfl hc338) rfl rfl (.func (vs := [(.int .i64 x343), (.int .i64 7777)]) en_105 rfl) h (fun vb344 w h => ?_)
      obtain ⟨b344, rfl, h⟩ := h
      refine JL.exP (.none rfl) rfl rfl (.pickOn rfl hc338 rfl) ?_
      refine JL.exP (.none rfl) rfl rfl (.assign rfl) ?_
      refine JL.nil ?_
      exact JX.joinEnd h ⟨rfl, trivial⟩
  · refine JX.then ?_
    refine J.ret ?_
    exact JX.ret1 rfl rfl h

/-- cabstand/cabstandlaw01.markEdge -/
def law01_markEdge (a0 : Int) (K : Value → WP) : WP :=
  semA Try.prog (Instr.alloc 103 true (.tuple #[])) fun p345 =>
  pureV Try.prog (Instr.build 103 #[(2, (.int .i64 (IntKind.i64.wrap ((-1000) - a0))))]) fun v346 =>
  semU Try.prog (storeVar 103 p345 v346) <|
  seeV Try.prog (loadVar 103 p345) K
set_option maxRecDepth 100000 in
set_option maxHeartbeats 1000000 in
theorem law01_markEdge_ok {a0 : Int} {K : Value → WP} {w : World} (h : law01_markEdge a0 K w) : callH Try.prog 93 #[(.int .i64 a0)] K w := by
  refine enter (l := [(.int .i64 a0)]) Try.func93 rfl rfl rfl ?_
  show J Try.prog 6 [(0, (.int .i64 a0))] _ _ _
  unfold law01_markEdge at h
  refine J.seq ?_
  refine J.region ?_
  refine JL.exV (.none rfl) rfl rfl (.alloc) h (fun vp345 w h => ?_)
  obtain ⟨p345, rfl, h⟩ := h
  refine JL.nil ?_
  refine JX.then ?_
  refine J.seq ?_
  refine J.region ?_
  refine JL.exP (.none rfl) rfl rfl (.move rfl) ?_
  refine JL.exP (.none rfl) rfl rfl (.sub rfl rfl) ?_
  refine JL.sPure (.none rfl) rfl rfl ((.build (l' := [(2, (.int .i64 (IntKind.i64.wrap ((-1000) - a0))))]) rfl)) h (fun v346 w h => ?_)
  refine JL.exU (.none rfl) rfl (.store rfl rfl) h (fun w h => ?_)
  refine JL.nil ?_
  refine JX.then ?_
  refine J.ret ?_
  exact JX.retC rfl rfl h

/-- cabstand/cabstandlaw01.markPair -/
def law01_markPair (a0 : Int) (K : Value → WP) : WP :=
  semA Try.prog (Instr.alloc 105 true (.tuple #[])) fun p347 =>
  pureV Try.prog (Instr.build 105 #[(0, (.int .i64 (IntKind.i64.wrap ((-1000) - a0))))]) fun v348 =>
  semU Try.prog (storeVar 105 p347 v348) <|
  seeV Try.prog (loadVar 105 p347) K
set_option maxRecDepth 100000 in
set_option maxHeartbeats 1000000 in
theorem law01_markPair_ok {a0 : Int} {K : Value → WP} {w : World} (h : law01_markPair a0 K w) : callH Try.prog 94 #[(.int .i64 a0)] K w := by
  refine enter (l := [(.int .i64 a0)]) Try.func94 rfl rfl rfl ?_
  show J Try.prog 6 [(0, (.int .i64 a0))] _ _ _
  unfold law01_markPair at h
  refine J.seq ?_
  refine J.region ?_
  refine JL.exV (.none rfl) rfl rfl (.alloc) h (fun vp347 w h => ?_)
  obtain ⟨p347, rfl, h⟩ := h
  refine JL.nil ?_
  refine JX.then ?_
  refine J.seq ?_
  refine J.region ?_
  refine JL.exP (.none rfl) rfl rfl (.move rfl) ?_
  refine JL.exP (.none rfl) rfl rfl (.sub rfl rfl) ?_
  refine JL.sPure (.none rfl) rfl rfl ((.build (l' := [(0, (.int .i64 (IntKind.i64.wrap ((-1000) - a0))))]) rfl)) h (fun v348 w h => ?_)
  refine JL.exU (.none rfl) rfl (.store rfl rfl) h (fun w h => ?_)
  refine JL.nil ?_
  refine JX.then ?_
  refine J.ret ?_
  exact JX.retC rfl rfl h

/-- cabstand/cabstandlaw01.markInt -/
def law01_markInt (a0 : Int) (K : Value → WP) : WP :=
  K (.int .i64 (IntKind.i64.wrap ((-1000) - a0)))
set_option maxRecDepth 100000 in
set_option maxHeartbeats 1000000 in
theorem law01_markInt_ok {a0 : Int} {K : Value → WP} {w : World} (h : law01_markInt a0 K w) : callH Try.prog 95 #[(.int .i64 a0)] K w := by
  refine enter (l := [(.int .i64 a0)]) Try.func95 rfl rfl rfl ?_
  show J Try.prog 5 [(0, (.int .i64 a0))] _ _ _
  unfold law01_markInt at h
  refine J.seq ?_
  refine J.region ?_
  refine JL.exP (.none rfl) rfl rfl (.assign rfl) ?_
  refine JL.nil ?_
  refine JX.then ?_
  refine J.seq ?_
  refine J.region ?_
  refine JL.exP (.none rfl) rfl rfl (.move rfl) ?_
  refine JL.exP (.none rfl) rfl rfl (.sub rfl rfl) ?_
  refine JL.exP (.none rfl) rfl rfl (.assign rfl) ?_
  refine JL.nil ?_
  refine JX.then ?_
  refine J.ret ?_
  exact JX.ret1 rfl rfl h

/-- cabstand/cabstandlaw01.SameEdges -/
def law01_SameEdges (a0 : Value) (a1 : Value) (K : Value → WP) : WP :=
  pureI Try.prog .i64 (Builtin.len_ #[38] 3 #[a0]) fun x349 =>
  pureI Try.prog .i64 (Builtin.len_ #[38] 3 #[a1]) fun x350 =>
  iteH ((x349 : Int) != x350) (
    K (.bool false)) (
    loopH (σ := Bool × Int) (fun kc352 s351 =>
      pureI Try.prog .i64 (Builtin.len_ #[38] 3 #[a0]) fun x353 =>
      iteH (decide (s351.2 < x353)) (
        drawH <|
        pureA Try.prog (Instr.indexAt 38 a0 (.int .i64 s351.2)) fun p354 =>
        readV Try.prog (loadVar 103 p354) fun v355 =>
        pureA Try.prog (Instr.indexAt 38 a1 (.int .i64 s351.2)) fun p357 =>
        readV Try.prog (loadVar 103 p357) fun v358 =>
        pureB Try.prog (eqM .neq 103 (.tmp 20) (.tmp 24) v355 v358) fun b360 =>
        iteH b360 (
          K (.bool false)) (
          kc352 (s351.1, (IntKind.i64.wrap (s351.2 + 1))))) (
        K (.bool true))) (false, 0))
set_option maxRecDepth 100000 in
set_option maxHeartbeats 1000000 in
theorem law01_SameEdges_ok {a0 : Value} {a1 : Value} {K : Value → WP} {w : World} (h : law01_SameEdges a0 a1 K w) : callH Try.prog 100 #[a0, a1] K w := by
  refine enter (l := [a0, a1]) Try.func100 rfl rfl rfl ?_
  show J Try.prog 26 [(0, a0), (1, a1)] _ _ _
  unfold law01_SameEdges at h
  refine J.seq ?_
  refine J.region ?_
  refine JL.exP (.none rfl) rfl rfl (.assign rfl) ?_
  refine JL.nil ?_
  refine JX.then ?_
  refine J.seq ?_
  refine J.seq ?_
  refine J.region ?_
  refine JL.exP (.none rfl) rfl rfl (.move rfl) ?_
  refine JL.sPure (.none rfl) rfl rfl ((.len (vs := [a0]) rfl)) h (fun vx349 w h => ?_)
  obtain ⟨x349, rfl, h⟩ := h
  refine JL.exP (.none rfl) rfl rfl (.move rfl) ?_
  refine JL.sPure (.none rfl) rfl rfl ((.len (vs := [a1]) rfl)) h (fun vx350 w h => ?_)
  obtain ⟨x350, rfl, h⟩ := h
  refine JL.exP (.none rfl) rfl rfl (.neq rfl rfl) ?_
  refine JL.nil ?_
  refine JX.then ?_
  refine J.cond (b := _) rfl h (fun h => ?_) (fun h => ?_)
  · refine J.seq ?_
    refine J.region ?_
    refine JL.exP (.none rfl) rfl rfl (.assign rfl) ?_
    refine JL.nil ?_
    refine JX.then ?_
    refine J.ret ?_
    refine JX.thenRet ?_
    exact JX.ret1 rfl rfl h
  · refine J.skip ?_
    refine JX.then ?_
    refine J.seq ?_
    refine J.seq ?_
    refine J.region ?_
    refine JL.exP (.none rfl) rfl rfl (.assign rfl) ?_
    refine JL.nil ?_
    refine JX.then ?_
    refine J.block ?_
    refine J.loop h (fun s351 => [(0, a0), (1, a1), (4, (.bool s351.1)), (5, (.int .i64 s351.2))]) ⟨rfl, rfl, rfl, rfl, trivial⟩ (fun I μ s351 w h => ?_)
    refine J.seq ?_
    refine J.seq ?_
    refine J.region ?_
    refine JL.exP (.none rfl) rfl rfl (.move rfl) ?_
    refine JL.exP (.none rfl) rfl rfl (.move rfl) ?_
    refine JL.sPure (.none rfl) rfl rfl ((.len (vs := [a0]) rfl)) h (fun vx353 w h => ?_)
    obtain ⟨x353, rfl, h⟩ := h
    refine JL.exP (.none rfl) rfl rfl (.lss rfl rfl) ?_
    refine JL.nil ?_
    refine JX.then ?_
    refine J.cond (b := _) rfl h (fun h => ?_) (fun h => ?_)
    · refine J.skip ?_
      refine JX.then ?_
      refine J.seq ?_
      refine J.block ?_
      refine J.seq ?_
      refine J.draw [[], [], [0, 1], [0, 1, 2], [], [], [4, 5], [4, 5, 6], [0, 1, 2, 3, 4, 5, 6, 7]] (by kernel_rfl) mixed h (fun w h => ?_)
      refine JD.pure_ (i := 0) [] rfl (by kernel_rfl) (by kernel_rfl) (by kernel_rfl) (by kernel_rfl) (.none rfl) rfl rfl (.move rfl) trivial ?_
      refine JD.pure_ (i := 1) [] rfl (by kernel_rfl) (by kernel_rfl) (by kernel_rfl) (by kernel_rfl) (.none rfl) rfl rfl (.move rfl) trivial ?_
      refine JD.sPure (i := 2) [] rfl (by kernel_rfl) (by kernel_rfl) (by kernel_rfl) (by kernel_rfl) (.none rfl) rfl rfl (.indexAddr rfl rfl) h trivial (fun vp354 h => ?_)
      obtain ⟨p354, rfl, h⟩ := h
      refine JD.read (i := 3) [] rfl (by kernel_rfl) (by kernel_rfl) (by kernel_rfl) (by kernel_rfl) (.none rfl) rfl rfl (.load rfl) h trivial (fun v355 st356 h => ?_)
      refine JD.pure_ (i := 4) [false] rfl (by kernel_rfl) (by kernel_rfl) (by kernel_rfl) (by kernel_rfl) (.none rfl) rfl rfl (.move rfl) ⟨st356, trivial⟩ ?_
      refine JD.pure_ (i := 5) [false] rfl (by kernel_rfl) (by kernel_rfl) (by kernel_rfl) (by kernel_rfl) (.none rfl) rfl rfl (.move rfl) ⟨st356, trivial⟩ ?_
      refine JD.sPure (i := 6) [false] rfl (by kernel_rfl) (by kernel_rfl) (by kernel_rfl) (by kernel_rfl) (.none rfl) rfl rfl (.indexAddr rfl rfl) h ⟨st356, trivial⟩ (fun vp357 h => ?_)
      obtain ⟨p357, rfl, h⟩ := h
      refine JD.read (i := 7) [false] rfl (by kernel_rfl) (by kernel_rfl) (by kernel_rfl) (by kernel_rfl) (.none rfl) rfl rfl (.load rfl) h ⟨st356, trivial⟩ (fun v358 st359 h => ?_)
      refine JD.sPure (i := 8) [true, true] rfl (by kernel_rfl) (by kernel_rfl) (by kernel_rfl) (by kernel_rfl) (.none rfl) rfl rfl (.binOp rfl rfl) h trivial (fun vb360 h => ?_)
      obtain ⟨b360, rfl, h⟩ := h
      refine JD.done (by kernel_rfl) ?_
      refine JX.then ?_
      refine J.cond (b := _) rfl h (fun h => ?_) (fun h => ?_)
      · refine J.seq ?_
        refine J.region ?_
        refine JL.exP (.none rfl) rfl rfl (.assign rfl) ?_
        refine JL.nil ?_
        refine JX.then ?_
        refine J.ret ?_
        refine JX.blockRet ?_
        refine JX.thenRet ?_
        refine JX.thenRet ?_
        refine JX.blockRet ?_
        refine JX.thenRet ?_
        exact JX.ret1 rfl rfl h
      · refine J.skip ?_
        refine JX.blockNormal ?_
        refine JX.then ?_
        refine J.region ?_
        refine JL.exP (.none rfl) rfl rfl (.move rfl) ?_
        refine JL.exP (.none rfl) rfl rfl (.add rfl rfl) ?_
        refine JL.exP (.none rfl) rfl rfl (.assign rfl) ?_
        refine JL.nil ?_
        exact JX.loopEnd h ⟨rfl, rfl, rfl, rfl, trivial⟩
    · refine J.exit ?_
      refine JX.thenExit ?_
      refine JX.thenExit ?_
      refine JX.blockHere ?_
      refine JX.then ?_
      refine J.seq ?_
      refine J.region ?_
      refine JL.exP (.none rfl) rfl rfl (.assign rfl) ?_
      refine JL.nil ?_
      refine JX.then ?_
      refine J.ret ?_
      exact JX.ret1 rfl rfl h

/-- cabstand/cabstandlaw01.isEdge -/
def law01_isEdge (a0 : Value) (a1 : Int) (K : Value → WP) : WP :=
  semA Try.prog (Instr.box 103 a0) fun p361 =>
  semV Try.prog (loadVar 103 p361) fun v362 =>
  pureV Try.prog (Instr.build 103 #[(2, (.int .i64 (IntKind.i64.wrap ((-1000) - a1))))]) fun v363 =>
  pureB Try.prog (eqM .eql 103 (.tmp 5) (.tmp 8) v362 v363) fun b364 =>
  K (.bool b364)
set_option maxRecDepth 100000 in
set_option maxHeartbeats 1000000 in
theorem law01_isEdge_ok {a0 : Value} {a1 : Int} {K : Value → WP} {w : World} (h : law01_isEdge a0 a1 K w) : callH Try.prog 101 #[a0, (.int .i64 a1)] K w := by
  refine enter (l := [a0, (.int .i64 a1)]) Try.func101 rfl rfl rfl ?_
  show J Try.prog 10 [(0, a0), (1, (.int .i64 a1))] _ _ _
  unfold law01_isEdge at h
  refine J.seq ?_
  refine J.region ?_
  refine JL.exV (.none rfl) rfl rfl (.box rfl) h (fun vp361 w h => ?_)
  obtain ⟨p361, rfl, h⟩ := h
  refine JL.exP (.none rfl) rfl rfl (.assign rfl) ?_
  refine JL.nil ?_
  refine JX.then ?_
  refine J.seq ?_
  refine J.region ?_
  refine JL.exV (.none rfl) rfl rfl (.load rfl) h (fun v362 w h => ?_)
  refine JL.exP (.none rfl) rfl rfl (.move rfl) ?_
  refine JL.exP (.none rfl) rfl rfl (.sub rfl rfl) ?_
  refine JL.sPure (.none rfl) rfl rfl ((.build (l' := [(2, (.int .i64 (IntKind.i64.wrap ((-1000) - a1))))]) rfl)) h (fun v363 w h => ?_)
  refine JL.sPure (.none rfl) rfl rfl (.binOp rfl rfl) h (fun vb364 w h => ?_)
  obtain ⟨b364, rfl, h⟩ := h
  refine JL.exP (.none rfl) rfl rfl (.assign rfl) ?_
  refine JL.nil ?_
  refine JX.then ?_
  refine J.ret ?_
  exact JX.ret1 rfl rfl h

/-- cabstand/cabstandlaw01.SamePairs -/
def law01_SamePairs (a0 : Value) (a1 : Value) (K : Value → WP) : WP :=
  pureI Try.prog .i64 (Builtin.len_ #[41] 3 #[a0]) fun x365 =>
  pureI Try.prog .i64 (Builtin.len_ #[41] 3 #[a1]) fun x366 =>
  iteH ((x365 : Int) != x366) (
    K (.bool false)) (
    loopH (σ := Bool × Int) (fun kc368 s367 =>
      pureI Try.prog .i64 (Builtin.len_ #[41] 3 #[a0]) fun x369 =>
      iteH (decide (s367.2 < x369)) (
        drawH <|
        pureA Try.prog (Instr.indexAt 41 a0 (.int .i64 s367.2)) fun p370 =>
        readV Try.prog (loadVar 105 p370) fun v371 =>
        pureA Try.prog (Instr.indexAt 41 a1 (.int .i64 s367.2)) fun p373 =>
        readV Try.prog (loadVar 105 p373) fun v374 =>
        pureB Try.prog (eqM .neq 105 (.tmp 20) (.tmp 24) v371 v374) fun b376 =>
        iteH b376 (
          K (.bool false)) (
          kc368 (s367.1, (IntKind.i64.wrap (s367.2 + 1))))) (
        K (.bool true))) (false, 0))
set_option maxRecDepth 100000 in
set_option maxHeartbeats 1000000 in
theorem law01_SamePairs_ok {a0 : Value} {a1 : Value} {K : Value → WP} {w : World} (h : law01_SamePairs a0 a1 K w) : callH Try.prog 102 #[a0, a1] K w := by
  refine enter (l := [a0, a1]) Try.func102 rfl rfl rfl ?_
  show J Try.prog 26 [(0, a0), (1, a1)] _ _ _
  unfold law01_SamePairs at h
  refine J.seq ?_
  refine J.region ?_
  refine JL.exP (.none rfl) rfl rfl (.assign rfl) ?_
  refine JL.nil ?_
  refine JX.then ?_
  refine J.seq ?_
  refine J.seq ?_
  refine J.region ?_
  refine JL.exP (.none rfl) rfl rfl (.move rfl) ?_
  refine JL.sPure (.none rfl) rfl rfl ((.len (vs := [a0]) rfl)) h (fun vx365 w h => ?_)
  obtain ⟨x365, rfl, h⟩ := h
  refine JL.exP (.none rfl) rfl rfl (.move rfl) ?_
  refine JL.sPure (.none rfl) rfl rfl ((.len (vs := [a1]) rfl)) h (fun vx366 w h => ?_)
  obtain ⟨x366, rfl, h⟩ := h
  refine JL.exP (.none rfl) rfl rfl (.neq rfl rfl) ?_
  refine JL.nil ?_
  refine JX.then ?_
  refine J.cond (b := _) rfl h (fun h => ?_) (fun h => ?_)
  · refine J.seq ?_
    refine J.region ?_
    refine JL.exP (.none rfl) rfl rfl (.assign rfl) ?_
    refine JL.nil ?_
    refine JX.then ?_
    refine J.ret ?_
    refine JX.thenRet ?_
    exact JX.ret1 rfl rfl h
  · refine J.skip ?_
    refine JX.then ?_
    refine J.seq ?_
    refine J.seq ?_
    refine J.region ?_
    refine JL.exP (.none rfl) rfl rfl (.assign rfl) ?_
    refine JL.nil ?_
    refine JX.then ?_
    refine J.block ?_
    refine J.loop h (fun s367 => [(0, a0), (1, a1), (4, (.bool s367.1)), (5, (.int .i64 s367.2))]) ⟨rfl, rfl, rfl, rfl, trivial⟩ (fun I μ s367 w h => ?_)
    refine J.seq ?_
    refine J.seq ?_
    refine J.region ?_
    refine JL.exP (.none rfl) rfl rfl (.move rfl) ?_
    refine JL.exP (.none rfl) rfl rfl (.move rfl) ?_
    refine JL.sPure (.none rfl) rfl rfl ((.len (vs := [a0]) rfl)) h (fun vx369 w h => ?_)
    obtain ⟨x369, rfl, h⟩ := h
    refine JL.exP (.none rfl) rfl rfl (.lss rfl rfl) ?_
    refine JL.nil ?_
    refine JX.then ?_
    refine J.cond (b := _) rfl h (fun h => ?_) (fun h => ?_)
    · refine J.skip ?_
      refine JX.then ?_
      refine J.seq ?_
      refine J.block ?_
      refine J.seq ?_
      refine J.draw [[], [], [0, 1], [0, 1, 2], [], [], [4, 5], [4, 5, 6], [0, 1, 2, 3, 4, 5, 6, 7]] (by kernel_rfl) mixed h (fun w h => ?_)
      refine JD.pure_ (i := 0) [] rfl (by kernel_rfl) (by kernel_rfl) (by kernel_rfl) (by kernel_rfl) (.none rfl) rfl rfl (.move rfl) trivial ?_
      refine JD.pure_ (i := 1) [] rfl (by kernel_rfl) (by kernel_rfl) (by kernel_rfl) (by kernel_rfl) (.none rfl) rfl rfl (.move rfl) trivial ?_
      refine JD.sPure (i := 2) [] rfl (by kernel_rfl) (by kernel_rfl) (by kernel_rfl) (by kernel_rfl) (.none rfl) rfl rfl (.indexAddr rfl rfl) h trivial (fun vp370 h => ?_)
      obtain ⟨p370, rfl, h⟩ := h
      refine JD.read (i := 3) [] rfl (by kernel_rfl) (by kernel_rfl) (by kernel_rfl) (by kernel_rfl) (.none rfl) rfl rfl (.load rfl) h trivial (fun v371 st372 h => ?_)
      refine JD.pure_ (i := 4) [false] rfl (by kernel_rfl) (by kernel_rfl) (by kernel_rfl) (by kernel_rfl) (.none rfl) rfl rfl (.move rfl) ⟨st372, trivial⟩ ?_
      refine JD.pure_ (i := 5) [false] rfl (by kernel_rfl) (by kernel_rfl) (by kernel_rfl) (by kernel_rfl) (.none rfl) rfl rfl (.move rfl) ⟨st372, trivial⟩ ?_
      refine JD.sPure (i := 6) [false] rfl (by kernel_rfl) (by kernel_rfl) (by kernel_rfl) (by kernel_rfl) (.none rfl) rfl rfl (.indexAddr rfl rfl) h ⟨st372, trivial⟩ (fun vp373 h => ?_)
      obtain ⟨p373, rfl, h⟩ := h
      refine JD.read (i := 7) [false] rfl (by kernel_rfl) (by kernel_rfl) (by kernel_rfl) (by kernel_rfl) (.none rfl) rfl rfl (.load rfl) h ⟨st372, trivial⟩ (fun v374 st375 h => ?_)
      refine JD.sPure (i := 8) [true, true] rfl (by kernel_rfl) (by kernel_rfl) (by kernel_rfl) (by kernel_rfl) (.none rfl) rfl rfl (.binOp rfl rfl) h trivial (fun vb376 h => ?_)
      obtain ⟨b376, rfl, h⟩ := h
      refine JD.done (by kernel_rfl) ?_
      refine JX.then ?_
      refine J.cond (b := _) rfl h (fun h => ?_) (fun h => ?_)
      · refine J.seq ?_
        refine J.region ?_
        refine JL.exP (.none rfl) rfl rfl (.assign rfl) ?_
        refine JL.nil ?_
        refine JX.then ?_
        refine J.ret ?_
        refine JX.blockRet ?_
        refine JX.thenRet ?_
        refine JX.thenRet ?_
        refine JX.blockRet ?_
        refine JX.thenRet ?_
        exact JX.ret1 rfl rfl h
      · refine J.skip ?_
        refine JX.blockNormal ?_
        refine JX.then ?_
        refine J.region ?_
        refine JL.exP (.none rfl) rfl rfl (.move rfl) ?_
        refine JL.exP (.none rfl) rfl rfl (.add rfl rfl) ?_
        refine JL.exP (.none rfl) rfl rfl (.assign rfl) ?_
        refine JL.nil ?_
        exact JX.loopEnd h ⟨rfl, rfl, rfl, rfl, trivial⟩
    · refine J.exit ?_
      refine JX.thenExit ?_
      refine JX.thenExit ?_
      refine JX.blockHere ?_
      refine JX.then ?_
      refine J.seq ?_
      refine J.region ?_
      refine JL.exP (.none rfl) rfl rfl (.assign rfl) ?_
      refine JL.nil ?_
      refine JX.then ?_
      refine J.ret ?_
      exact JX.ret1 rfl rfl h

/-- cabstand/cabstandlaw01.isPair -/
def law01_isPair (a0 : Value) (a1 : Int) (K : Value → WP) : WP :=
  semA Try.prog (Instr.box 105 a0) fun p377 =>
  semV Try.prog (loadVar 105 p377) fun v378 =>
  pureV Try.prog (Instr.build 105 #[(0, (.int .i64 (IntKind.i64.wrap ((-1000) - a1))))]) fun v379 =>
  pureB Try.prog (eqM .eql 105 (.tmp 5) (.tmp 8) v378 v379) fun b380 =>
  K (.bool b380)
set_option maxRecDepth 100000 in
set_option maxHeartbeats 1000000 in
theorem law01_isPair_ok {a0 : Value} {a1 : Int} {K : Value → WP} {w : World} (h : law01_isPair a0 a1 K w) : callH Try.prog 103 #[a0, (.int .i64 a1)] K w := by
  refine enter (l := [a0, (.int .i64 a1)]) Try.func103 rfl rfl rfl ?_
  show J Try.prog 10 [(0, a0), (1, (.int .i64 a1))] _ _ _
  unfold law01_isPair at h
  refine J.seq ?_
  refine J.region ?_
  refine JL.exV (.none rfl) rfl rfl (.box rfl) h (fun vp377 w h => ?_)
  obtain ⟨p377, rfl, h⟩ := h
  refine JL.exP (.none rfl) rfl rfl (.assign rfl) ?_
  refine JL.nil ?_
  refine JX.then ?_
  refine J.seq ?_
  refine J.region ?_
  refine JL.exV (.none rfl) rfl rfl (.load rfl) h (fun v378 w h => ?_)
  refine JL.exP (.none rfl) rfl rfl (.move rfl) ?_
  refine JL.exP (.none rfl) rfl rfl (.sub rfl rfl) ?_
  refine JL.sPure (.none rfl) rfl rfl ((.build (l' := [(0, (.int .i64 (IntKind.i64.wrap ((-1000) - a1))))]) rfl)) h (fun v379 w h => ?_)
  refine JL.sPure (.none rfl) rfl rfl (.binOp rfl rfl) h (fun vb380 w h => ?_)
  obtain ⟨b380, rfl, h⟩ := h
  refine JL.exP (.none rfl) rfl rfl (.assign rfl) ?_
  refine JL.nil ?_
  refine JX.then ?_
  refine J.ret ?_
  exact JX.ret1 rfl rfl h

/-- cabstand/cabstandlaw01.SameInts -/
def law01_SameInts (a0 : Value) (a1 : Value) (K : Value → WP) : WP :=
  pureI Try.prog .i64 (Builtin.len_ #[42] 3 #[a0]) fun x381 =>
  pureI Try.prog .i64 (Builtin.len_ #[42] 3 #[a1]) fun x382 =>
  iteH ((x381 : Int) != x382) (
    K (.bool false)) (
    loopH (σ := Bool × Int) (fun kc384 s383 =>
      pureI Try.prog .i64 (Builtin.len_ #[42] 3 #[a0]) fun x385 =>
      iteH (decide (s383.2 < x385)) (
        drawH <|
        pureA Try.prog (Instr.indexAt 42 a0 (.int .i64 s383.2)) fun p386 =>
        readI Try.prog .i64 (loadVar 3 p386) fun x387 =>
        pureA Try.prog (Instr.indexAt 42 a1 (.int .i64 s383.2)) fun p389 =>
        readI Try.prog .i64 (loadVar 3 p389) fun x390 =>
        iteH ((x387 : Int) != x390) (
          K (.bool false)) (
          kc384 (s383.1, (IntKind.i64.wrap (s383.2 + 1))))) (
        K (.bool true))) (false, 0))
set_option maxRecDepth 100000 in
set_option maxHeartbeats 1000000 in
theorem law01_SameInts_ok {a0 : Value} {a1 : Value} {K : Value → WP} {w : World} (h : law01_SameInts a0 a1 K w) : callH Try.prog 104 #[a0, a1] K w := by
  refine enter (l := [a0, a1]) Try.func104 rfl rfl rfl ?_
  show J Try.prog 26 [(0, a0), (1, a1)] _ _ _
  unfold law01_SameInts at h
  refine J.seq ?_
  refine J.region ?_
  refine JL.exP (.none rfl) rfl rfl (.assign rfl) ?_
  refine JL.nil ?_
  refine JX.then ?_
  refine J.seq ?_
  refine J.seq ?_
  refine J.region ?_
  refine JL.exP (.none rfl) rfl rfl (.move rfl) ?_
  refine JL.sPure (.none rfl) rfl rfl ((.len (vs := [a0]) rfl)) h (fun vx381 w h => ?_)
  obtain ⟨x381, rfl, h⟩ := h
  refine JL.exP (.none rfl) rfl rfl (.move rfl) ?_
  refine JL.sPure (.none rfl) rfl rfl ((.len (vs := [a1]) rfl)) h (fun vx382 w h => ?_)
  obtain ⟨x382, rfl, h⟩ := h
  refine JL.exP (.none rfl) rfl rfl (.neq rfl rfl) ?_
  refine JL.nil ?_
  refine JX.then ?_
  refine J.cond (b := _) rfl h (fun h => ?_) (fun h => ?_)
  · refine J.seq ?_
    refine J.region ?_
    refine JL.exP (.none rfl) rfl rfl (.assign rfl) ?_
    refine JL.nil ?_
    refine JX.then ?_
    refine J.ret ?_
    refine JX.thenRet ?_
    exact JX.ret1 rfl rfl h
  · refine J.skip ?_
    refine JX.then ?_
    refine J.seq ?_
    refine J.seq ?_
    refine J.region ?_
    refine JL.exP (.none rfl) rfl rfl (.assign rfl) ?_
    refine JL.nil ?_
    refine JX.then ?_
    refine J.block ?_
    refine J.loop h (fun s383 => [(0, a0), (1, a1), (4, (.bool s383.1)), (5, (.int .i64 s383.2))]) ⟨rfl, rfl, rfl, rfl, trivial⟩ (fun I μ s383 w h => ?_)
    refine J.seq ?_
    refine J.seq ?_
    refine J.region ?_
    refine JL.exP (.none rfl) rfl rfl (.move rfl) ?_
    refine JL.exP (.none rfl) rfl rfl (.move rfl) ?_
    refine JL.sPure (.none rfl) rfl rfl ((.len (vs := [a0]) rfl)) h (fun vx385 w h => ?_)
    obtain ⟨x385, rfl, h⟩ := h
    refine JL.exP (.none rfl) rfl rfl (.lss rfl rfl) ?_
    refine JL.nil ?_
    refine JX.then ?_
    refine J.cond (b := _) rfl h (fun h => ?_) (fun h => ?_)
    · refine J.skip ?_
      refine JX.then ?_
      refine J.seq ?_
      refine J.block ?_
      refine J.seq ?_
      refine J.draw [[], [], [0, 1], [0, 1, 2], [], [], [4, 5], [4, 5, 6], [0, 1, 2, 3, 4, 5, 6, 7]] (by kernel_rfl) mixed h (fun w h => ?_)
      refine JD.pure_ (i := 0) [] rfl (by kernel_rfl) (by kernel_rfl) (by kernel_rfl) (by kernel_rfl) (.none rfl) rfl rfl (.move rfl) trivial ?_
      refine JD.pure_ (i := 1) [] rfl (by kernel_rfl) (by kernel_rfl) (by kernel_rfl) (by kernel_rfl) (.none rfl) rfl rfl (.move rfl) trivial ?_
      refine JD.sPure (i := 2) [] rfl (by kernel_rfl) (by kernel_rfl) (by kernel_rfl) (by kernel_rfl) (.none rfl) rfl rfl (.indexAddr rfl rfl) h trivial (fun vp386 h => ?_)
      obtain ⟨p386, rfl, h⟩ := h
      refine JD.read (i := 3) [] rfl (by kernel_rfl) (by kernel_rfl) (by kernel_rfl) (by kernel_rfl) (.none rfl) rfl rfl (.load rfl) h trivial (fun vx387 st388 h => ?_)
      obtain ⟨x387, rfl, h⟩ := h
      refine JD.pure_ (i := 4) [false] rfl (by kernel_rfl) (by kernel_rfl) (by kernel_rfl) (by kernel_rfl) (.none rfl) rfl rfl (.move rfl) ⟨st388, trivial⟩ ?_
      refine JD.pure_ (i := 5) [false] rfl (by kernel_rfl) (by kernel_rfl) (by kernel_rfl) (by kernel_rfl) (.none rfl) rfl rfl (.move rfl) ⟨st388, trivial⟩ ?_
      refine JD.sPure (i := 6) [false] rfl (by kernel_rfl) (by kernel_rfl) (by kernel_rfl) (by kernel_rfl) (.none rfl) rfl rfl (.indexAddr rfl rfl) h ⟨st388, trivial⟩ (fun vp389 h => ?_)
      obtain ⟨p389, rfl, h⟩ := h
      refine JD.read (i := 7) [false] rfl (by kernel_rfl) (by kernel_rfl) (by kernel_rfl) (by kernel_rfl) (.none rfl) rfl rfl (.load rfl) h ⟨st388, trivial⟩ (fun vx390 st391 h => ?_)
      obtain ⟨x390, rfl, h⟩ := h
      refine JD.pure_ (i := 8) [true, true] rfl (by kernel_rfl) (by kernel_rfl) (by kernel_rfl) (by kernel_rfl) (.none rfl) rfl rfl (.neq rfl rfl) trivial ?_
      refine JD.done (by kernel_rfl) ?_
      refine JX.then ?_
      refine J.cond (b := _) rfl h (fun h => ?_) (fun h => ?_)
      · refine J.seq ?_
        refine J.region ?_
        refine JL.exP (.none rfl) rfl rfl (.assign rfl) ?_
        refine JL.nil ?_
        refine JX.then ?_
        refine J.ret ?_
        refine JX.blockRet ?_
        refine JX.thenRet ?_
        refine JX.thenRet ?_
        refine JX.blockRet ?_
        refine JX.thenRet ?_
        exact JX.ret1 rfl rfl h
      · refine J.skip ?_
        refine JX.blockNormal ?_
        refine JX.then ?_
        refine J.region ?_
        refine JL.exP (.none rfl) rfl rfl (.move rfl) ?_
        refine JL.exP (.none rfl) rfl rfl (.add rfl rfl) ?_
        refine JL.exP (.none rfl) rfl rfl (.assign rfl) ?_
        refine JL.nil ?_
        exact JX.loopEnd h ⟨rfl, rfl, rfl, rfl, trivial⟩
    · refine J.exit ?_
      refine JX.thenExit ?_
      refine JX.thenExit ?_
      refine JX.blockHere ?_
      refine JX.then ?_
      refine J.seq ?_
      refine J.region ?_
      refine JL.exP (.none rfl) rfl rfl (.assign rfl) ?_
      refine JL.nil ?_
      refine JX.then ?_
      refine J.ret ?_
      exact JX.ret1 rfl rfl h

/-- cabstand/cabstandlaw01.isInt -/
def law01_isInt (a0 : Int) (a1 : Int) (K : Value → WP) : WP :=
  K (.bool ((a0 : Int) == (IntKind.i64.wrap ((-1000) - a1))))
set_option maxRecDepth 100000 in
set_option maxHeartbeats 1000000 in
theorem law01_isInt_ok {a0 : Int} {a1 : Int} {K : Value → WP} {w : World} (h : law01_isInt a0 a1 K w) : callH Try.prog 105 #[(.int .i64 a0), (.int .i64 a1)] K w := by
  refine enter (l := [(.int .i64 a0), (.int .i64 a1)]) Try.func105 rfl rfl rfl ?_
  show J Try.prog 9 [(0, (.int .i64 a0)), (1, (.int .i64 a1))] _ _ _
  unfold law01_isInt at h
  refine J.seq ?_
  refine J.region ?_
  refine JL.exP (.none rfl) rfl rfl (.assign rfl) ?_
  refine JL.nil ?_
  refine JX.then ?_
  refine J.seq ?_
  refine J.region ?_
  refine JL.exP (.none rfl) rfl rfl (.move rfl) ?_
  refine JL.exP (.none rfl) rfl rfl (.move rfl) ?_
  refine JL.exP (.none rfl) rfl rfl (.sub rfl rfl) ?_
  refine JL.exP (.none rfl) rfl rfl (.eql rfl rfl) ?_
  refine JL.exP (.none rfl) rfl rfl (.assign rfl) ?_
  refine JL.nil ?_
  refine JX.then ?_
  refine J.ret ?_
  exact JX.ret1 rfl rfl h

end S
end Go.Cab

