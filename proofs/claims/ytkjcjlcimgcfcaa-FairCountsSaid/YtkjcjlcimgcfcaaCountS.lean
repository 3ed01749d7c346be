/- A part of the proof: CountS. -/
import Derived.Test.YtkjcjlcimgcfcaaBase
namespace Go.Cab
set_option linter.unusedSimpArgs false
set_option linter.unusedVariables false
set_option linter.unusedSectionVars false
open Go Go.Proofs
theorem mixed : Try.prog.follows .mixedOrders = true := by kernel_rfl
theorem en_25 : Enters Try.prog 25 := .of Try.func25 rfl (by kernel_rfl)
theorem en_22 : Enters Try.prog 22 := .of Try.func22 rfl (by kernel_rfl)
theorem fa_46_1 (a : Addr) (w : World) : (Instr.fieldAt 46 (.pointer (some a)) 1).run Try.prog w = .ok (.pointer (some (a.add 1))) w := by kernel_rfl
theorem fa_56_0 (a : Addr) (w : World) : (Instr.fieldAt 56 (.pointer (some a)) 0).run Try.prog w = .ok (.pointer (some (a.add 0))) w := by kernel_rfl
theorem fa_54_0 (a : Addr) (w : World) : (Instr.fieldAt 54 (.pointer (some a)) 0).run Try.prog w = .ok (.pointer (some (a.add 0))) w := by kernel_rfl
theorem en_18 : Enters Try.prog 18 := .of Try.func18 rfl (by kernel_rfl)
theorem en_23 : Enters Try.prog 23 := .of Try.func23 rfl (by kernel_rfl)
theorem en_26 : Enters Try.prog 26 := .of Try.func26 rfl (by kernel_rfl)
theorem en_21 : Enters Try.prog 21 := .of Try.func21 rfl (by kernel_rfl)
theorem en_24 : Enters Try.prog 24 := .of Try.func24 rfl (by kernel_rfl)
theorem fa_112_0 (a : Addr) (w : World) : (Instr.fieldAt 112 (.pointer (some a)) 0).run Try.prog w = .ok (.pointer (some (a.add 0))) w := by kernel_rfl
theorem fa_112_1 (a : Addr) (w : World) : (Instr.fieldAt 112 (.pointer (some a)) 1).run Try.prog w = .ok (.pointer (some (a.add 8))) w := by kernel_rfl
theorem en_38 : Enters Try.prog 38 := .of Try.func38 rfl (by kernel_rfl)
namespace S
/-- cabstand/cabstandlaw21.FairCounts -/
def law21_FairCounts (a0 : Value) (K : Value → WP) : WP :=
  callH Try.prog 25 #[] fun v1 =>
  pureB Try.prog (eqM .eql 61 (.tmp 16) (.const (.pointer none)) v1 (.pointer none)) fun b2 =>
  iteH b2 (
    K (.bool false)) (
    semV Try.prog (Instr.makeMap 62 none) fun v3 =>
    semA Try.prog (Instr.alloc 46 true (.tuple #[])) fun p4 =>
    loopH (σ := Bool × Int × Int × Int) (fun kc6 s5 =>
      joinH (α := Bool) (fun y7 =>
        iteH y7 (
          pureA Try.prog (Instr.indexAt 48 a0 (.int .i64 s5.2.2.2)) fun p13 =>
          semV Try.prog (loadVar 46 p13) fun v14 =>
          semA Try.prog (Instr.alloc 46 true (.tuple #[])) fun p15 =>
          semU Try.prog (storeVar 46 p15 v14) <|
          semV Try.prog (loadVar 46 p15) fun v16 =>
          callI Try.prog 22 #[v1, v16] .i64 fun x17 =>
          joinH (α := Bool × Int × Int) (fun y18 =>
            joinH (α := Bool) (fun y57 =>
              iteH y57 (
                K (.bool false)) (
                kc6 (y18.1, y18.2.1, y18.2.2, (IntKind.i64.wrap (s5.2.2.2 + 1))))) fun k58 =>
              callI Try.prog 23 #[v1] .i64 fun x59 =>
              orB ((x59 : Int) != y18.2.1) (fun k61 =>
                k61 (decide (y18.2.2 < y18.2.1))) fun b60 =>
              orB b60 (fun k64 =>
                semV Try.prog (loadVar 46 p4) fun v66 =>
                callB Try.prog 26 #[v1, v66, v3] fun b67 =>
                k64 (!b67)) fun b63 =>
              k58 b63) fun k19 =>
            iteH ((x17 : Int) == 0) (
              semV Try.prog (loadVar 46 p15) fun v20 =>
              semU Try.prog (storeVar 46 p4 v20) <|
              loopH (σ := Bool × Int × Int) (fun kc22 s21 =>
                semV Try.prog (loadVar 36 (p15.add 1)) fun v23 =>
                pureI Try.prog .i64 (Builtin.len_ #[36] 3 #[v23]) fun x24 =>
                iteH (decide (s21.2.2 < x24)) (
                  joinH (α := Bool × Int) (fun y25 =>
                    kc22 (y25.1, y25.2, (IntKind.i64.wrap (s21.2.2 + 1)))) fun k26 =>
                    semV Try.prog (loadVar 36 (p15.add 1)) fun v27 =>
                    pureA Try.prog (Instr.indexAt 36 v27 (.int .i64 s21.2.2)) fun p28 =>
                    semV Try.prog (loadVar 28 ((p28.add 0).add 0)) fun v29 =>
                    semA Try.prog (Instr.alloc 28 true (.tuple #[])) fun p30 =>
                    semU Try.prog (storeVar 28 p30 v29) <|
                    semV Try.prog (loadVar 46 p15) fun v31 =>
                    semV Try.prog (loadVar 28 p30) fun v32 =>
                    callH Try.prog 18 #[v31, v32] fun v33 =>
                    pureB Try.prog (Instr.extract v33 0) fun b34 =>
                    pureB Try.prog (Instr.extract v33 1) fun b35 =>
                    pureB Try.prog (Instr.extract v33 2) fun b36 =>
                    iteH (!b34) (
                      K (.bool false)) (
                      joinH (α := Bool) (fun y37 =>
                        joinH (α := Unit) (fun y42 =>
                          semV Try.prog (loadVar 28 p30) fun v51 =>
                          semI Try.prog .i64 (Instr.lookup 62 v3 v51 false) fun x52 =>
                          joinH (α := Int) (fun y53 =>
                            k26 (s21.1, y53)) fun k54 =>
                            iteH (decide (s21.2.1 < x52)) (
                              semV Try.prog (loadVar 28 p30) fun v55 =>
                              semI Try.prog .i64 (Instr.lookup 62 v3 v55 false) fun x56 =>
                              k54 x56) (
                              k54 s21.2.1)) fun k43 =>
                          iteH y37 (
                            drawH <|
                            readV Try.prog (loadVar 28 p30) fun v44 =>
                            readI Try.prog .i64 (Instr.lookup 62 v3 v44 false) fun x46 =>
                            semV Try.prog (Instr.mapEntry 62 v3 v44) fun v49 =>
                            keepR Try.prog (Instr.lookup 62 v3 v44 false) (.int .i64 x46) <|
                            pureI Try.prog .i64 (Instr.extract v49 1) fun x50 =>
                            semU Try.prog (Instr.entryStore 62 v3 (.int .i64 x50) (.int .i64 (IntKind.i64.wrap (x46 + 1)))) <|
                            k43 ()) (
                            k43 ())) fun k38 =>
                        andB b35 (fun k40 =>
                          k40 (!b36)) fun b39 =>
                        k38 b39)) (
                  k19 (s21.1, s21.2.1, (IntKind.i64.wrap (s5.2.2.1 + 1))))) (s5.1, s5.2.1, 0)) (
              k19 (s5.1, s5.2.1, s5.2.2.1))) (
          callB Try.prog 21 #[] fun b68 =>
          K (.bool b68))) fun k8 =>
        pureI Try.prog .i64 (Builtin.len_ #[48] 3 #[a0]) fun x9 =>
        andB (decide (s5.2.2.2 < x9)) (fun k11 =>
          k11 (decide (s5.2.2.2 < 200))) fun b10 =>
        k8 b10) (false, 0, 0, 0))
set_option maxRecDepth 100000 in
set_option maxHeartbeats 1000000 in
theorem law21_FairCounts_ok {a0 : Value} {K : Value → WP} {w : World} (h : law21_FairCounts a0 K w) : callH Try.prog 6 #[a0] K w := by
  refine enter (l := [a0]) Try.func6 rfl rfl rfl ?_
  show J Try.prog 99 [(0, a0)] _ _ _
  unfold law21_FairCounts at h
  refine J.seq ?_
  refine J.region ?_
  refine JL.exP (.none rfl) rfl rfl (.assign rfl) ?_
  refine JL.nil ?_
  refine JX.then ?_
  refine J.seq ?_
  refine J.region ?_
  refine JL.exC (.none rfl) rfl rfl (.func (vs := []) en_25 rfl) h (fun v1 w h => ?_)
  refine JL.exP (.none rfl) rfl rfl (.assign rfl) ?_
  refine JL.nil ?_
  refine JX.then ?_
  refine J.seq ?_
  refine J.seq ?_
  refine J.region ?_
  refine JL.exP (.none rfl) rfl rfl (.move rfl) ?_
  refine JL.sPure (.none rfl) rfl rfl (.binOp rfl rfl) h (fun vb2 w h => ?_)
  obtain ⟨b2, rfl, h⟩ := h
  refine JL.nil ?_
  refine JX.then ?_
  refine J.cond (b := _) rfl h (fun h => ?_) (fun h => ?_)
  · refine J.seq ?_
    refine J.region ?_
    refine JL.exP (.none rfl) rfl rfl (.assign rfl) ?_
    refine JL.nil ?_
    refine JX.then ?_
    refine J.ret ?_
    refine JX.thenRet ?_
    exact JX.ret1 rfl rfl h
  · refine J.skip ?_
    refine JX.then ?_
    refine J.seq ?_
    refine J.region ?_
    refine JL.exV (.none rfl) rfl rfl (.makeMap) h (fun v3 w h => ?_)
    refine JL.exP (.none rfl) rfl rfl (.assign rfl) ?_
    refine JL.nil ?_
    refine JX.then ?_
    refine J.seq ?_
    refine J.region ?_
    refine JL.exP (.none rfl) rfl rfl (.assign rfl) ?_
    refine JL.nil ?_
    refine JX.then ?_
    refine J.seq ?_
    refine J.region ?_
    refine JL.exP (.none rfl) rfl rfl (.assign rfl) ?_
    refine JL.nil ?_
    refine JX.then ?_
    refine J.seq ?_
    refine J.region ?_
    refine JL.exV (.none rfl) rfl rfl (.alloc) h (fun vp4 w h => ?_)
    obtain ⟨p4, rfl, h⟩ := h
    refine JL.nil ?_
    refine JX.then ?_
    refine J.seq ?_
    refine J.seq ?_
    refine J.region ?_
    refine JL.exP (.none rfl) rfl rfl (.assign rfl) ?_
    refine JL.nil ?_
    refine JX.then ?_
    refine J.block ?_
    refine J.loop h (fun s5 => [(0, a0), (2, (.bool s5.1)), (3, v1), (4, v3), (5, (.int .i64 s5.2.1)), (6, (.int .i64 s5.2.2.1)), (7, (.pointer (some p4))), (8, (.int .i64 s5.2.2.2))]) ⟨rfl, rfl, rfl, rfl, rfl, rfl, rfl, rfl, trivial⟩ (fun I μ s5 w h => ?_)
    refine J.seq ?_
    refine J.seq ?_
    refine J.join h (fun y7 => [(0, a0), (2, (.bool s5.1)), (3, v1), (4, v3), (5, (.int .i64 s5.2.1)), (6, (.int .i64 s5.2.2.1)), (7, (.pointer (some p4))), (8, (.int .i64 s5.2.2.2)), (26, (.bool y7))]) (fun k8 w h => ?_) (fun y7 w h => ?_)
    · refine J.region ?_
      refine JL.exP (.none rfl) rfl rfl (.move rfl) ?_
      refine JL.exP (.none rfl) rfl rfl (.move rfl) ?_
      refine JL.sPure (.none rfl) rfl rfl ((.len (vs := [a0]) rfl)) h (fun vx9 w h => ?_)
      obtain ⟨x9, rfl, h⟩ := h
      refine JL.exP (.none rfl) rfl rfl (.lss rfl rfl) ?_
      refine JL.exP (.none rfl) rfl rfl (.move rfl) ?_
      rcases andB_cases h with ⟨hc12, h⟩ | ⟨hc12, h⟩
      · refine JL.exNo (.off rfl rfl rfl hc12 rfl) rfl rfl ?_
        refine JL.exNo (.off rfl rfl rfl hc12 rfl) rfl rfl ?_
        refine JL.exP (.none rfl) rfl rfl (.pickOff rfl hc12 rfl) ?_
        refine JL.nil ?_
        exact JX.joinEnd h ⟨rfl, rfl, rfl, rfl, rfl, rfl, rfl, rfl, rfl, trivial⟩
      · refine JL.exP (.on rfl rfl rfl hc12) rfl rfl (.move rfl) ?_
        refine JL.exP (.on rfl rfl rfl hc12) rfl rfl (.lss rfl rfl) ?_
        refine JL.exP (.none rfl) rfl rfl (.pickOn rfl hc12 rfl) ?_
        refine JL.nil ?_
        exact JX.joinEnd h ⟨rfl, rfl, rfl, rfl, rfl, rfl, rfl, rfl, rfl, trivial⟩
    · refine JX.then ?_
      refine J.cond (b := _) rfl h (fun h => ?_) (fun h => ?_)
      · refine J.skip ?_
        refine JX.then ?_
        refine J.seq ?_
        refine J.block ?_
        refine J.seq ?_
        refine J.region ?_
        refine JL.exP (.none rfl) rfl rfl (.move rfl) ?_
        refine JL.exP (.none rfl) rfl rfl (.move rfl) ?_
        refine JL.sPure (.none rfl) rfl rfl (.indexAddr rfl rfl) h (fun vp13 w h => ?_)
        obtain ⟨p13, rfl, h⟩ := h
        refine JL.exV (.none rfl) rfl rfl (.load rfl) h (fun v14 w h => ?_)
        refine JL.exV (.none rfl) rfl rfl (.alloc) h (fun vp15 w h => ?_)
        obtain ⟨p15, rfl, h⟩ := h
        refine JL.exU (.none rfl) rfl (.store rfl rfl) h (fun w h => ?_)
        refine JL.nil ?_
        refine JX.then ?_
        refine J.seq ?_
        refine J.seq ?_
        refine J.region ?_
        refine JL.exP (.none rfl) rfl rfl (.move rfl) ?_
        refine JL.exV (.none rfl) rfl rfl (.load rfl) h (fun v16 w h => ?_)
        refine JL.exC (.none rfl) rfl rfl (.func (vs := [v1, v16]) en_22 rfl) h (fun vx17 w h => ?_)
        obtain ⟨x17, rfl, h⟩ := h
        refine JL.exP (.none rfl) rfl rfl (.eql rfl rfl) ?_
        refine JL.nil ?_
        refine JX.then ?_
        refine J.join h (fun y18 => [(0, a0), (2, (.bool y18.1)), (3, v1), (4, v3), (5, (.int .i64 y18.2.1)), (6, (.int .i64 y18.2.2)), (7, (.pointer (some p4))), (8, (.int .i64 s5.2.2.2))]) (fun k19 w h => ?_) (fun y18 w h => ?_)
        · refine J.cond (b := _) rfl h (fun h => ?_) (fun h => ?_)
          · refine J.seq ?_
            refine J.region ?_
            refine JL.exP (.none rfl) rfl rfl (.move rfl) ?_
            refine JL.exP (.none rfl) rfl rfl (.add rfl rfl) ?_
            refine JL.exP (.none rfl) rfl rfl (.assign rfl) ?_
            refine JL.nil ?_
            refine JX.then ?_
            refine J.seq ?_
            refine J.region ?_
            refine JL.exV (.none rfl) rfl rfl (.load rfl) h (fun v20 w h => ?_)
            refine JL.exU (.none rfl) rfl (.store rfl rfl) h (fun w h => ?_)
            refine JL.nil ?_
            refine JX.then ?_
            refine J.seq ?_
            refine J.region ?_
            refine JL.exP (.none rfl) rfl rfl (.assign rfl) ?_
            refine JL.nil ?_
            refine JX.then ?_
            refine J.block ?_
            refine J.loop h (fun s21 => [(0, a0), (2, (.bool s21.1)), (3, v1), (4, v3), (5, (.int .i64 s21.2.1)), (6, (.int .i64 (IntKind.i64.wrap (s5.2.2.1 + 1)))), (7, (.pointer (some p4))), (8, (.int .i64 s5.2.2.2)), (9, (.pointer (some p15))), (10, (.int .i64 s21.2.2))]) ⟨rfl, rfl, rfl, rfl, rfl, rfl, rfl, rfl, rfl, rfl, trivial⟩ (fun I μ s21 w h => ?_)
            refine J.seq ?_
            refine J.seq ?_
            refine J.region ?_
            refine JL.exP (.none rfl) rfl rfl (.move rfl) ?_
            refine JL.exP (.none rfl) rfl rfl (.fieldAddr rfl (fa_46_1 _)) ?_
            refine JL.exV (.none rfl) rfl rfl (.load rfl) h (fun v23 w h => ?_)
            refine JL.sPure (.none rfl) rfl rfl ((.len (vs := [v23]) rfl)) h (fun vx24 w h => ?_)
            obtain ⟨x24, rfl, h⟩ := h
            refine JL.exP (.none rfl) rfl rfl (.lss rfl rfl) ?_
            refine JL.nil ?_
            refine JX.then ?_
            refine J.cond (b := _) rfl h (fun h => ?_) (fun h => ?_)
            · refine J.skip ?_
              refine JX.then ?_
              refine J.seq ?_
              refine J.join h (fun y25 => [(0, a0), (2, (.bool y25.1)), (3, v1), (4, v3), (5, (.int .i64 y25.2)), (6, (.int .i64 (IntKind.i64.wrap (s5.2.2.1 + 1)))), (7, (.pointer (some p4))), (8, (.int .i64 s5.2.2.2)), (9, (.pointer (some p15))), (10, (.int .i64 s21.2.2))]) (fun k26 w h => ?_) (fun y25 w h => ?_)
              · refine J.block ?_
                refine J.seq ?_
                refine J.region ?_
                refine JL.exP (.none rfl) rfl rfl (.fieldAddr rfl (fa_46_1 _)) ?_
                refine JL.exV (.none rfl) rfl rfl (.load rfl) h (fun v27 w h => ?_)
                refine JL.exP (.none rfl) rfl rfl (.move rfl) ?_
                refine JL.sPure (.none rfl) rfl rfl (.indexAddr rfl rfl) h (fun vp28 w h => ?_)
                obtain ⟨p28, rfl, h⟩ := h
                refine JL.exP (.none rfl) rfl rfl (.fieldAddr rfl (fa_56_0 _)) ?_
                refine JL.exP (.none rfl) rfl rfl (.fieldAddr rfl (fa_54_0 _)) ?_
                refine JL.exV (.none rfl) rfl rfl (.load rfl) h (fun v29 w h => ?_)
                refine JL.exV (.none rfl) rfl rfl (.alloc) h (fun vp30 w h => ?_)
                obtain ⟨p30, rfl, h⟩ := h
                refine JL.exU (.none rfl) rfl (.store rfl rfl) h (fun w h => ?_)
                refine JL.nil ?_
                refine JX.then ?_
                refine J.seq ?_
                refine J.region ?_
                refine JL.exV (.none rfl) rfl rfl (.load rfl) h (fun v31 w h => ?_)
                refine JL.exV (.none rfl) rfl rfl (.load rfl) h (fun v32 w h => ?_)
                refine JL.exC (.none rfl) rfl rfl (.func (vs := [v31, v32]) en_18 rfl) h (fun v33 w h => ?_)
                refine JL.exP (.none rfl) rfl rfl (.move rfl) ?_
                refine JL.sPure (.none rfl) rfl rfl (.extract rfl) h (fun vb34 w h => ?_)
                obtain ⟨b34, rfl, h⟩ := h
                refine JL.sPure (.none rfl) rfl rfl (.extract rfl) h (fun vb35 w h => ?_)
                obtain ⟨b35, rfl, h⟩ := h
                refine JL.sPure (.none rfl) rfl rfl (.extract rfl) h (fun vb36 w h => ?_)
                obtain ⟨b36, rfl, h⟩ := h
                refine JL.exP (.none rfl) rfl rfl (.assign rfl) ?_
                refine JL.exP (.none rfl) rfl rfl (.assign rfl) ?_
                refine JL.exP (.none rfl) rfl rfl (.assign rfl) ?_
                refine JL.nil ?_
                refine JX.then ?_
                refine J.seq ?_
                refine J.seq ?_
                refine J.region ?_
                refine JL.exP (.none rfl) rfl rfl (.move rfl) ?_
                refine JL.exP (.none rfl) rfl rfl (.not rfl) ?_
                refine JL.nil ?_
                refine JX.then ?_
                refine J.cond (b := _) rfl h (fun h => ?_) (fun h => ?_)
                · refine J.seq ?_
                  refine J.region ?_
                  refine JL.exP (.none rfl) rfl rfl (.assign rfl) ?_
                  refine JL.nil ?_
                  refine JX.then ?_
                  refine J.ret ?_
                  refine JX.thenRet ?_
                  refine JX.blockRet ?_
                  refine JX.joinRet ?_
                  refine JX.thenRet ?_
                  refine JX.thenRet ?_
                  refine JX.blockRet ?_
                  refine JX.joinRet ?_
                  refine JX.thenRet ?_
                  refine JX.blockRet ?_
                  refine JX.thenRet ?_
                  refine JX.thenRet ?_
                  refine JX.blockRet ?_
                  refine JX.thenRet ?_
                  exact JX.ret1 rfl rfl h
                · refine J.skip ?_
                  refine JX.then ?_
                  refine J.seq ?_
                  refine J.seq ?_
                  refine J.join h (fun y37 => [(0, a0), (2, (.bool s21.1)), (3, v1), (4, v3), (5, (.int .i64 s21.2.1)), (6, (.int .i64 (IntKind.i64.wrap (s5.2.2.1 + 1)))), (7, (.pointer (some p4))), (8, (.int .i64 s5.2.2.2)), (9, (.pointer (some p15))), (10, (.int .i64 s21.2.2)), (11, (.pointer (some p30))), (67, (.bool y37))]) (fun k38 w h => ?_) (fun y37 w h => ?_)
                  · refine J.region ?_
                    refine JL.exP (.none rfl) rfl rfl (.move rfl) ?_
                    refine JL.exP (.none rfl) rfl rfl (.move rfl) ?_
                    rcases andB_cases h with ⟨hc41, h⟩ | ⟨hc41, h⟩
                    · refine JL.exNo (.off rfl rfl rfl hc41 rfl) rfl rfl ?_
                      refine JL.exNo (.off rfl rfl rfl hc41 rfl) rfl rfl ?_
                      refine JL.exP (.none rfl) rfl rfl (.pickOff rfl hc41 rfl) ?_
                      refine JL.nil ?_
                      exact JX.joinEnd h ⟨rfl, rfl, rfl, rfl, rfl, rfl, rfl, rfl, rfl, rfl, rfl, rfl, trivial⟩
                    · refine JL.exP (.on rfl rfl rfl hc41) rfl rfl (.move rfl) ?_
                      refine JL.exP (.on rfl rfl rfl hc41) rfl rfl (.not rfl) ?_
                      refine JL.exP (.none rfl) rfl rfl (.pickOn rfl hc41 rfl) ?_
                      refine JL.nil ?_
                      exact JX.joinEnd h ⟨rfl, rfl, rfl, rfl, rfl, rfl, rfl, rfl, rfl, rfl, rfl, rfl, trivial⟩
                  · refine JX.then ?_
                    refine J.join h (fun y42 => [(0, a0), (2, (.bool s21.1)), (3, v1), (4, v3), (5, (.int .i64 s21.2.1)), (6, (.int .i64 (IntKind.i64.wrap (s5.2.2.1 + 1)))), (7, (.pointer (some p4))), (8, (.int .i64 s5.2.2.2)), (9, (.pointer (some p15))), (10, (.int .i64 s21.2.2)), (11, (.pointer (some p30)))]) (fun k43 w h => ?_) (fun y42 w h => ?_)
                    · refine J.cond (b := _) rfl h (fun h => ?_) (fun h => ?_)
                      · refine J.draw [[], [], [0, 1], [0, 1, 2], [0, 1], [0, 1, 4], [0, 1, 2, 3, 4, 5]] (by kernel_rfl) mixed h (fun w h => ?_)
                        refine JD.pure_ (i := 0) [] rfl (by kernel_rfl) (by kernel_rfl) (by kernel_rfl) (by kernel_rfl) (.none rfl) rfl rfl (.move rfl) trivial ?_
                        refine JD.read (i := 1) [] rfl (by kernel_rfl) (by kernel_rfl) (by kernel_rfl) (by kernel_rfl) (.none rfl) rfl rfl (.load rfl) h trivial (fun v44 st45 h => ?_)
                        refine JD.read (i := 2) [true] rfl (by kernel_rfl) (by kernel_rfl) (by kernel_rfl) (by kernel_rfl) (.none rfl) rfl rfl (.lookup rfl rfl) h trivial (fun vx46 st47 h => ?_)
                        obtain ⟨x46, rfl, h⟩ := h
                        refine JD.pure_ (i := 3) [true, true] rfl (by kernel_rfl) (by kernel_rfl) (by kernel_rfl) (by kernel_rfl) (.none rfl) rfl rfl (.add rfl rfl) trivial ?_
                        refine JD.one (j := 4) (by kernel_rfl) ?_
                        refine JD1.exV [false, true] rfl (by kernel_rfl) (.none rfl) rfl rfl (.mapEntry rfl rfl) h (fun v49 w h => ?_)
                        obtain ⟨st48, h⟩ := h
                        refine ⟨⟨st48, trivial⟩, ?_⟩
                        refine JD.sPure (i := 5) [false] rfl (by kernel_rfl) (by kernel_rfl) (by kernel_rfl) (by kernel_rfl) (.none rfl) rfl rfl (.extract rfl) h ⟨st48, trivial⟩ (fun vx50 h => ?_)
                        obtain ⟨x50, rfl, h⟩ := h
                        refine JD.one (j := 6) (by kernel_rfl) ?_
                        refine JD1.exU [true] rfl (by kernel_rfl) (.none rfl) rfl (.entryStore rfl rfl rfl) h (fun w h => ?_)
                        refine ⟨trivial, ?_⟩
                        refine JD.done (by kernel_rfl) ?_
                        exact JX.joinEnd h ⟨rfl, rfl, rfl, rfl, rfl, rfl, rfl, rfl, rfl, rfl, rfl, trivial⟩
                      · refine J.skip ?_
                        exact JX.joinEnd h ⟨rfl, rfl, rfl, rfl, rfl, rfl, rfl, rfl, rfl, rfl, rfl, trivial⟩
                    · refine JX.then ?_
                      refine J.seq ?_
                      refine J.region ?_
                      refine JL.exP (.none rfl) rfl rfl (.move rfl) ?_
                      refine JL.exV (.none rfl) rfl rfl (.load rfl) h (fun v51 w h => ?_)
                      refine JL.exV (.none rfl) rfl rfl (.lookup rfl rfl) h (fun vx52 w h => ?_)
                      obtain ⟨x52, rfl, h⟩ := h
                      refine JL.exP (.none rfl) rfl rfl (.move rfl) ?_
                      refine JL.exP (.none rfl) rfl rfl (.gtr rfl rfl) ?_
                      refine JL.nil ?_
                      refine JX.then ?_
                      refine J.join h (fun y53 => [(0, a0), (2, (.bool s21.1)), (3, v1), (4, v3), (5, (.int .i64 y53)), (6, (.int .i64 (IntKind.i64.wrap (s5.2.2.1 + 1)))), (7, (.pointer (some p4))), (8, (.int .i64 s5.2.2.2)), (9, (.pointer (some p15))), (10, (.int .i64 s21.2.2))]) (fun k54 w h => ?_) (fun y53 w h => ?_)
                      · refine J.cond (b := _) rfl h (fun h => ?_) (fun h => ?_)
                        · refine J.region ?_
                          refine JL.exP (.none rfl) rfl rfl (.move rfl) ?_
                          refine JL.exV (.none rfl) rfl rfl (.load rfl) h (fun v55 w h => ?_)
                          refine JL.exV (.none rfl) rfl rfl (.lookup rfl rfl) h (fun vx56 w h => ?_)
                          obtain ⟨x56, rfl, h⟩ := h
                          refine JL.exP (.none rfl) rfl rfl (.assign rfl) ?_
                          refine JL.nil ?_
                          exact JX.joinEnd h ⟨rfl, rfl, rfl, rfl, rfl, rfl, rfl, rfl, rfl, rfl, trivial⟩
                        · refine J.skip ?_
                          exact JX.joinEnd h ⟨rfl, rfl, rfl, rfl, rfl, rfl, rfl, rfl, rfl, rfl, trivial⟩
                      · refine JX.blockNormal ?_
                        exact JX.joinEnd h ⟨rfl, rfl, rfl, rfl, rfl, rfl, rfl, rfl, rfl, rfl, trivial⟩
              · refine JX.then ?_
                refine J.region ?_
                refine JL.exP (.none rfl) rfl rfl (.move rfl) ?_
                refine JL.exP (.none rfl) rfl rfl (.add rfl rfl) ?_
                refine JL.exP (.none rfl) rfl rfl (.assign rfl) ?_
                refine JL.nil ?_
                exact JX.loopEnd h ⟨rfl, rfl, rfl, rfl, rfl, rfl, rfl, rfl, rfl, rfl, trivial⟩
            · refine J.exit ?_
              refine JX.thenExit ?_
              refine JX.thenExit ?_
              refine JX.blockHere ?_
              exact JX.joinEnd h ⟨rfl, rfl, rfl, rfl, rfl, rfl, rfl, rfl, trivial⟩
          · refine J.skip ?_
            exact JX.joinEnd h ⟨rfl, rfl, rfl, rfl, rfl, rfl, rfl, rfl, trivial⟩
        · refine JX.then ?_
          refine J.seq ?_
          refine J.join h (fun y57 => [(0, a0), (2, (.bool y18.1)), (3, v1), (4, v3), (5, (.int .i64 y18.2.1)), (6, (.int .i64 y18.2.2)), (7, (.pointer (some p4))), (8, (.int .i64 s5.2.2.2)), (97, (.bool y57))]) (fun k58 w h => ?_) (fun y57 w h => ?_)
          · refine J.region ?_
            refine JL.exP (.none rfl) rfl rfl (.move rfl) ?_
            refine JL.exC (.none rfl) rfl rfl (.func (vs := [v1]) en_23 rfl) h (fun vx59 w h => ?_)
            obtain ⟨x59, rfl, h⟩ := h
            refine JL.exP (.none rfl) rfl rfl (.move rfl) ?_
            refine JL.exP (.none rfl) rfl rfl (.neq rfl rfl) ?_
            refine JL.exP (.none rfl) rfl rfl (.move rfl) ?_
            rcases orB_cases h with ⟨hc62, h⟩ | ⟨hc62, h⟩
            · refine JL.exNo (.off rfl rfl rfl hc62 rfl) rfl rfl ?_
              refine JL.exNo (.off rfl rfl rfl hc62 rfl) rfl rfl ?_
              refine JL.exNo (.off rfl rfl rfl hc62 rfl) rfl rfl ?_
              refine JL.exP (.none rfl) rfl rfl (.pickOn rfl hc62 rfl) ?_
              refine JL.exP (.none rfl) rfl rfl (.move rfl) ?_
              have h := orB_true' h
              refine JL.exNo (.off rfl rfl rfl rfl rfl) rfl rfl ?_
              refine JL.exNo (.off rfl rfl rfl rfl rfl) rfl rfl ?_
              refine JL.exNo (.off rfl rfl rfl rfl rfl) rfl rfl ?_
              refine JL.exNo (.off rfl rfl rfl rfl rfl) rfl rfl ?_
              refine JL.exNo (.off rfl rfl rfl rfl rfl) rfl rfl ?_
              refine JL.exP (.none rfl) rfl rfl (.pickOn rfl rfl rfl) ?_
              refine JL.nil ?_
              exact JX.joinEnd h ⟨rfl, rfl, rfl, rfl, rfl, rfl, rfl, rfl, rfl, trivial⟩
            · refine JL.exP (.on rfl rfl rfl hc62) rfl rfl (.move rfl) ?_
              refine JL.exP (.on rfl rfl rfl hc62) rfl rfl (.move rfl) ?_
              refine JL.exP (.on rfl rfl rfl hc62) rfl rfl (.gtr rfl rfl) ?_
              refine JL.exP (.none rfl) rfl rfl (.pickOff rfl hc62 rfl) ?_
              refine JL.exP (.none rfl) rfl rfl (.move rfl) ?_
              rcases orB_cases h with ⟨hc65, h⟩ | ⟨hc65, h⟩
              · refine JL.exNo (.off rfl rfl rfl hc65 rfl) rfl rfl ?_
                refine JL.exNo (.off rfl rfl rfl hc65 rfl) rfl rfl ?_
                refine JL.exNo (.off rfl rfl rfl hc65 rfl) rfl rfl ?_
                refine JL.exNo (.off rfl rfl rfl hc65 rfl) rfl rfl ?_
                refine JL.exNo (.off rfl rfl rfl hc65 rfl) rfl rfl ?_
                refine JL.exP (.none rfl) rfl rfl (.pickOn rfl hc65 rfl) ?_
                refine JL.nil ?_
                exact JX.joinEnd h ⟨rfl, rfl, rfl, rfl, rfl, rfl, rfl, rfl, rfl, trivial⟩
              · refine JL.exP (.on rfl rfl rfl hc65) rfl rfl (.move rfl) ?_
                refine JL.exV (.on rfl rfl rfl hc65) rfl rfl (.load rfl) h (fun v66 w h => ?_)
                refine JL.exP (.on rfl rfl rfl hc65) rfl rfl (.move rfl) ?_
                refine JL.exC (.on rfl rfl rfl hc65) rfl rfl (.func (vs := [v1, v66, v3]) en_26 rfl) h (fun vb67 w h => ?_)
                obtain ⟨b67, rfl, h⟩ := h
                refine JL.exP (.on rfl rfl rfl hc65) rfl rfl (.not rfl) ?_
                refine JL.exP (.none rfl) rfl rfl (.pickOff rfl hc65 rfl) ?_
                refine JL.nil ?_
                exact JX.joinEnd h ⟨rfl, rfl, rfl, rfl, rfl, rfl, rfl, rfl, rfl, trivial⟩
          · refine JX.then ?_
            refine J.cond (b := _) rfl h (fun h => ?_) (fun h => ?_)
            · refine J.seq ?_
              refine J.region ?_
              refine JL.exP (.none rfl) rfl rfl (.assign rfl) ?_
              refine JL.nil ?_
              refine JX.then ?_
              refine J.ret ?_
              refine JX.blockRet ?_
              refine JX.thenRet ?_
              refine JX.thenRet ?_
              refine JX.blockRet ?_
              refine JX.thenRet ?_
              exact JX.ret1 rfl rfl h
            · refine J.skip ?_
              refine JX.blockNormal ?_
              refine JX.then ?_
              refine J.region ?_
              refine JL.exP (.none rfl) rfl rfl (.move rfl) ?_
              refine JL.exP (.none rfl) rfl rfl (.add rfl rfl) ?_
              refine JL.exP (.none rfl) rfl rfl (.assign rfl) ?_
              refine JL.nil ?_
              exact JX.loopEnd h ⟨rfl, rfl, rfl, rfl, rfl, rfl, rfl, rfl, trivial⟩
      · refine J.exit ?_
        refine JX.thenExit ?_
        refine JX.thenExit ?_
        refine JX.blockHere ?_
        refine JX.then ?_
        refine J.seq ?_
        refine J.region ?_
        refine JL.exC (.none rfl) rfl rfl (.func (vs := []) en_21 rfl) h (fun vb68 w h => ?_)
        obtain ⟨b68, rfl, h⟩ := h
        refine JL.exP (.none rfl) rfl rfl (.assign rfl) ?_
        refine JL.nil ?_
        refine JX.then ?_
        refine J.ret ?_
        exact JX.ret1 rfl rfl h

/-- cabstand/cabstandlaw21.standing -/
def law21_standing (a0 : Value) (a1 : Value) (a2 : Value) (K : Value → WP) : WP :=
  semA Try.prog (Instr.box 46 a1) fun p69 =>
  callH Try.prog 24 #[a0] fun v70 =>
  loopH (σ := Int × Int) (fun kc72 s71 =>
    semV Try.prog (loadVar 36 (p69.add 1)) fun v73 =>
    pureI Try.prog .i64 (Builtin.len_ #[36] 3 #[v73]) fun x74 =>
    iteH (decide (s71.2 < x74)) (
      joinH (α := Int) (fun y75 =>
        kc72 (y75, (IntKind.i64.wrap (s71.2 + 1)))) fun k76 =>
        drawH <|
        readV Try.prog (loadVar 46 p69) fun v77 =>
        readV Try.prog (loadVar 36 (p69.add 1)) fun v79 =>
        pureA Try.prog (Instr.indexAt 36 v79 (.int .i64 s71.2)) fun p81 =>
        readV Try.prog (loadVar 28 ((p81.add 0).add 0)) fun v82 =>
        callH Try.prog 18 #[v77, v82] fun v84 =>
        pureB Try.prog (Instr.extract v84 0) fun b85 =>
        pureB Try.prog (Instr.extract v84 1) fun b86 =>
        pureB Try.prog (Instr.extract v84 2) fun b87 =>
        joinH (α := Int) (fun y88 =>
          k76 y88) fun k89 =>
          iteH (!b87) (
            k89 (IntKind.i64.wrap (s71.1 + 1))) (
            k89 s71.1)) (
      loopH (σ := Bool × Int) (fun kc91 s90 =>
        pureI Try.prog .i64 (Builtin.len_ #[67] 3 #[v70]) fun x92 =>
        iteH (decide (s90.2 < x92)) (
          drawH <|
          readV Try.prog (loadVar 46 p69) fun v93 =>
          pureA Try.prog (Instr.indexAt 67 v70 (.int .i64 s90.2)) fun p95 =>
          readV Try.prog (loadVar 28 (p95.add 0)) fun v96 =>
          callH Try.prog 18 #[v93, v96] fun v98 =>
          pureB Try.prog (Instr.extract v98 0) fun b99 =>
          pureB Try.prog (Instr.extract v98 1) fun b100 =>
          pureB Try.prog (Instr.extract v98 2) fun b101 =>
          joinH (α := Bool) (fun y102 =>
            iteH y102 (
              K (.bool false)) (
              kc91 (s90.1, (IntKind.i64.wrap (s90.2 + 1))))) fun k103 =>
            drawH <|
            orB (!b99) (fun k105 =>
              k105 b101) fun b104 =>
            orB b104 (fun k108 =>
              pureA Try.prog (Instr.indexAt 67 v70 (.int .i64 s90.2)) fun p110 =>
              readI Try.prog .i64 (loadVar 3 (p110.add 8)) fun x111 =>
              pureA Try.prog (Instr.indexAt 67 v70 (.int .i64 s90.2)) fun p113 =>
              readV Try.prog (loadVar 28 (p113.add 0)) fun v114 =>
              readI Try.prog .i64 (Instr.lookup 62 a2 v114 false) fun x116 =>
              k108 ((x111 : Int) != x116)) fun b107 =>
            orB b107 (fun k119 =>
              andB (decide (0 < s90.2)) (fun k122 =>
                pureA Try.prog (Instr.indexAt 67 v70 (.int .i64 (IntKind.i64.wrap (s90.2 - 1)))) fun p124 =>
                readV Try.prog (loadVar 28 (p124.add 0)) fun v125 =>
                pureA Try.prog (Instr.indexAt 67 v70 (.int .i64 s90.2)) fun p127 =>
                readV Try.prog (loadVar 28 (p127.add 0)) fun v128 =>
                callI Try.prog 38 #[v125, v128] .i64 fun x130 =>
                k122 (decide (0 ≤ x130))) fun b121 =>
              k119 b121) fun b118 =>
            k103 b118) (
          pureI Try.prog .i64 (Builtin.len_ #[67] 3 #[v70]) fun x131 =>
          K (.bool ((x131 : Int) == s71.1)))) (false, 0))) (0, 0)
set_option maxRecDepth 100000 in
set_option maxHeartbeats 1000000 in
theorem law21_standing_ok {a0 : Value} {a1 : Value} {a2 : Value} {K : Value → WP} {w : World} (h : law21_standing a0 a1 a2 K w) : callH Try.prog 26 #[a0, a1, a2] K w := by
  refine enter (l := [a0, a1, a2]) Try.func26 rfl rfl rfl ?_
  show J Try.prog 103 [(0, a0), (1, a1), (2, a2)] _ _ _
  unfold law21_standing at h
  refine J.seq ?_
  refine J.region ?_
  refine JL.exV (.none rfl) rfl rfl (.box rfl) h (fun vp69 w h => ?_)
  obtain ⟨p69, rfl, h⟩ := h
  refine JL.exP (.none rfl) rfl rfl (.assign rfl) ?_
  refine JL.nil ?_
  refine JX.then ?_
  refine J.seq ?_
  refine J.region ?_
  refine JL.exP (.none rfl) rfl rfl (.move rfl) ?_
  refine JL.exC (.none rfl) rfl rfl (.func (vs := [a0]) en_24 rfl) h (fun v70 w h => ?_)
  refine JL.exP (.none rfl) rfl rfl (.assign rfl) ?_
  refine JL.nil ?_
  refine JX.then ?_
  refine J.seq ?_
  refine J.region ?_
  refine JL.exP (.none rfl) rfl rfl (.assign rfl) ?_
  refine JL.nil ?_
  refine JX.then ?_
  refine J.seq ?_
  refine J.seq ?_
  refine J.region ?_
  refine JL.exP (.none rfl) rfl rfl (.assign rfl) ?_
  refine JL.nil ?_
  refine JX.then ?_
  refine J.block ?_
  refine J.loop h (fun s71 => [(2, a2), (4, (.pointer (some p69))), (6, (.bool false)), (7, v70), (8, (.int .i64 s71.1)), (9, (.int .i64 s71.2))]) ⟨rfl, rfl, rfl, rfl, rfl, rfl, trivial⟩ (fun I μ s71 w h => ?_)
  refine J.seq ?_
  refine J.seq ?_
  refine J.region ?_
  refine JL.exP (.none rfl) rfl rfl (.move rfl) ?_
  refine JL.exP (.none rfl) rfl rfl (.fieldAddr rfl (fa_46_1 _)) ?_
  refine JL.exV (.none rfl) rfl rfl (.load rfl) h (fun v73 w h => ?_)
  refine JL.sPure (.none rfl) rfl rfl ((.len (vs := [v73]) rfl)) h (fun vx74 w h => ?_)
  obtain ⟨x74, rfl, h⟩ := h
  refine JL.exP (.none rfl) rfl rfl (.lss rfl rfl) ?_
  refine JL.nil ?_
  refine JX.then ?_
  refine J.cond (b := _) rfl h (fun h => ?_) (fun h => ?_)
  · refine J.skip ?_
    refine JX.then ?_
    refine J.seq ?_
    refine J.join h (fun y75 => [(2, a2), (4, (.pointer (some p69))), (6, (.bool false)), (7, v70), (8, (.int .i64 y75)), (9, (.int .i64 s71.2))]) (fun k76 w h => ?_) (fun y75 w h => ?_)
    · refine J.block ?_
      refine J.seq ?_
      refine J.draw [[], [], [1], [], [1, 2, 3], [1, 2, 3, 4], [1, 2, 3, 4, 5], [1, 2, 3, 4, 5, 6], [0, 1, 2, 3, 4, 5, 6, 7], [0, 1, 2, 3, 4, 5, 6, 7, 8], [0, 1, 2, 3, 4, 5, 6, 7, 8, 9], [0, 1, 2, 3, 4, 5, 6, 7, 8, 9], [0, 1, 2, 3, 4, 5, 6, 7, 8, 9], [0, 1, 2, 3, 4, 5, 6, 7, 8, 9, 10], [0, 1, 2, 3, 4, 5, 6, 7, 8, 9, 10, 11, 13], [0, 1, 2, 3, 4, 5, 6, 7, 8, 9, 10, 11, 12, 13, 14]] (by kernel_rfl) mixed h (fun w h => ?_)
      refine JD.read (i := 0) [] rfl (by kernel_rfl) (by kernel_rfl) (by kernel_rfl) (by kernel_rfl) (.none rfl) rfl rfl (.load rfl) h trivial (fun v77 st78 h => ?_)
      refine JD.pure_ (i := 1) [false] rfl (by kernel_rfl) (by kernel_rfl) (by kernel_rfl) (by kernel_rfl) (.none rfl) rfl rfl (.fieldAddr rfl (fa_46_1 _)) ⟨st78, trivial⟩ ?_
      refine JD.read (i := 2) [false] rfl (by kernel_rfl) (by kernel_rfl) (by kernel_rfl) (by kernel_rfl) (.none rfl) rfl rfl (.load rfl) h ⟨st78, trivial⟩ (fun v79 st80 h => ?_)
      refine JD.pure_ (i := 3) [false, false] rfl (by kernel_rfl) (by kernel_rfl) (by kernel_rfl) (by kernel_rfl) (.none rfl) rfl rfl (.move rfl) ⟨st80, st78, trivial⟩ ?_
      refine JD.sPure (i := 4) [true, false] rfl (by kernel_rfl) (by kernel_rfl) (by kernel_rfl) (by kernel_rfl) (.none rfl) rfl rfl (.indexAddr rfl rfl) h ⟨st78, trivial⟩ (fun vp81 h => ?_)
      obtain ⟨p81, rfl, h⟩ := h
      refine JD.pure_ (i := 5) [true, false] rfl (by kernel_rfl) (by kernel_rfl) (by kernel_rfl) (by kernel_rfl) (.none rfl) rfl rfl (.fieldAddr rfl (fa_56_0 _)) ⟨st78, trivial⟩ ?_
      refine JD.pure_ (i := 6) [true, false] rfl (by kernel_rfl) (by kernel_rfl) (by kernel_rfl) (by kernel_rfl) (.none rfl) rfl rfl (.fieldAddr rfl (fa_54_0 _)) ⟨st78, trivial⟩ ?_
      refine JD.read (i := 7) [true, false] rfl (by kernel_rfl) (by kernel_rfl) (by kernel_rfl) (by kernel_rfl) (.none rfl) rfl rfl (.load rfl) h ⟨st78, trivial⟩ (fun v82 st83 h => ?_)
      refine JD.one (j := 8) (by kernel_rfl) ?_
      refine JD1.exC [true, true, true] rfl (by kernel_rfl) (.none rfl) rfl rfl (.func (vs := [v77, v82]) en_18 rfl) h (fun v84 w h => ?_)
      refine ⟨trivial, ?_⟩
      refine JD.pure_ (i := 9) [] rfl (by kernel_rfl) (by kernel_rfl) (by kernel_rfl) (by kernel_rfl) (.none rfl) rfl rfl (.move rfl) trivial ?_
      refine JD.sPure (i := 10) [] rfl (by kernel_rfl) (by kernel_rfl) (by kernel_rfl) (by kernel_rfl) (.none rfl) rfl rfl (.extract rfl) h trivial (fun vb85 h => ?_)
      obtain ⟨b85, rfl, h⟩ := h
      refine JD.sPure (i := 11) [] rfl (by kernel_rfl) (by kernel_rfl) (by kernel_rfl) (by kernel_rfl) (.none rfl) rfl rfl (.extract rfl) h trivial (fun vb86 h => ?_)
      obtain ⟨b86, rfl, h⟩ := h
      refine JD.sPure (i := 12) [] rfl (by kernel_rfl) (by kernel_rfl) (by kernel_rfl) (by kernel_rfl) (.none rfl) rfl rfl (.extract rfl) h trivial (fun vb87 h => ?_)
      obtain ⟨b87, rfl, h⟩ := h
      refine JD.pure_ (i := 13) [] rfl (by kernel_rfl) (by kernel_rfl) (by kernel_rfl) (by kernel_rfl) (.none rfl) rfl rfl (.assign rfl) trivial ?_
      refine JD.pure_ (i := 14) [] rfl (by kernel_rfl) (by kernel_rfl) (by kernel_rfl) (by kernel_rfl) (.none rfl) rfl rfl (.assign rfl) trivial ?_
      refine JD.pure_ (i := 15) [] rfl (by kernel_rfl) (by kernel_rfl) (by kernel_rfl) (by kernel_rfl) (.none rfl) rfl rfl (.assign rfl) trivial ?_
      refine JD.done (by kernel_rfl) ?_
      refine JX.then ?_
      refine J.seq ?_
      refine J.region ?_
      refine JL.exP (.none rfl) rfl rfl (.move rfl) ?_
      refine JL.exP (.none rfl) rfl rfl (.not rfl) ?_
      refine JL.nil ?_
      refine JX.then ?_
      refine J.join h (fun y88 => [(2, a2), (4, (.pointer (some p69))), (6, (.bool false)), (7, v70), (8, (.int .i64 y88)), (9, (.int .i64 s71.2))]) (fun k89 w h => ?_) (fun y88 w h => ?_)
      · refine J.cond (b := _) rfl h (fun h => ?_) (fun h => ?_)
        · refine J.region ?_
          refine JL.exP (.none rfl) rfl rfl (.move rfl) ?_
          refine JL.exP (.none rfl) rfl rfl (.add rfl rfl) ?_
          refine JL.exP (.none rfl) rfl rfl (.assign rfl) ?_
          refine JL.nil ?_
          exact JX.joinEnd h ⟨rfl, rfl, rfl, rfl, rfl, rfl, trivial⟩
        · refine J.skip ?_
          exact JX.joinEnd h ⟨rfl, rfl, rfl, rfl, rfl, rfl, trivial⟩
      · refine JX.blockNormal ?_
        exact JX.joinEnd h ⟨rfl, rfl, rfl, rfl, rfl, rfl, trivial⟩
    · refine JX.then ?_
      refine J.region ?_
      refine JL.exP (.none rfl) rfl rfl (.move rfl) ?_
      refine JL.exP (.none rfl) rfl rfl (.add rfl rfl) ?_
      refine JL.exP (.none rfl) rfl rfl (.assign rfl) ?_
      refine JL.nil ?_
      exact JX.loopEnd h ⟨rfl, rfl, rfl, rfl, rfl, rfl, trivial⟩
  · refine J.exit ?_
    refine JX.thenExit ?_
    refine JX.thenExit ?_
    refine JX.blockHere ?_
    refine JX.then ?_
    refine J.seq ?_
    refine J.seq ?_
    refine J.region ?_
    refine JL.exP (.none rfl) rfl rfl (.assign rfl) ?_
    refine JL.nil ?_
    refine JX.then ?_
    refine J.block ?_
    refine J.loop h (fun s90 => [(2, a2), (4, (.pointer (some p69))), (6, (.bool s90.1)), (7, v70), (8, (.int .i64 s71.1)), (13, (.int .i64 s90.2))]) ⟨rfl, rfl, rfl, rfl, rfl, rfl, trivial⟩ (fun I μ s90 w h => ?_)
    refine J.seq ?_
    refine J.seq ?_
    refine J.region ?_
    refine JL.exP (.none rfl) rfl rfl (.move rfl) ?_
    refine JL.exP (.none rfl) rfl rfl (.move rfl) ?_
    refine JL.sPure (.none rfl) rfl rfl ((.len (vs := [v70]) rfl)) h (fun vx92 w h => ?_)
    obtain ⟨x92, rfl, h⟩ := h
    refine JL.exP (.none rfl) rfl rfl (.lss rfl rfl) ?_
    refine JL.nil ?_
    refine JX.then ?_
    refine J.cond (b := _) rfl h (fun h => ?_) (fun h => ?_)
    · refine J.skip ?_
      refine JX.then ?_
      refine J.seq ?_
      refine J.block ?_
      refine J.seq ?_
      refine J.draw [[], [], [], [1, 2], [1, 2, 3], [1, 2, 3, 4], [0, 1, 2, 3, 4, 5], [0, 1, 2, 3, 4, 5, 6], [0, 1, 2, 3, 4, 5, 6, 7], [0, 1, 2, 3, 4, 5, 6, 7], [0, 1, 2, 3, 4, 5, 6, 7], [0, 1, 2, 3, 4, 5, 6, 7, 8], [0, 1, 2, 3, 4, 5, 6, 7, 8, 9, 11], [0, 1, 2, 3, 4, 5, 6, 7, 8, 9, 10, 11, 12]] (by kernel_rfl) mixed h (fun w h => ?_)
      refine JD.read (i := 0) [] rfl (by kernel_rfl) (by kernel_rfl) (by kernel_rfl) (by kernel_rfl) (.none rfl) rfl rfl (.load rfl) h trivial (fun v93 st94 h => ?_)
      refine JD.pure_ (i := 1) [false] rfl (by kernel_rfl) (by kernel_rfl) (by kernel_rfl) (by kernel_rfl) (.none rfl) rfl rfl (.move rfl) ⟨st94, trivial⟩ ?_
      refine JD.pure_ (i := 2) [false] rfl (by kernel_rfl) (by kernel_rfl) (by kernel_rfl) (by kernel_rfl) (.none rfl) rfl rfl (.move rfl) ⟨st94, trivial⟩ ?_
      refine JD.sPure (i := 3) [false] rfl (by kernel_rfl) (by kernel_rfl) (by kernel_rfl) (by kernel_rfl) (.none rfl) rfl rfl (.indexAddr rfl rfl) h ⟨st94, trivial⟩ (fun vp95 h => ?_)
      obtain ⟨p95, rfl, h⟩ := h
      refine JD.pure_ (i := 4) [false] rfl (by kernel_rfl) (by kernel_rfl) (by kernel_rfl) (by kernel_rfl) (.none rfl) rfl rfl (.fieldAddr rfl (fa_112_0 _)) ⟨st94, trivial⟩ ?_
      refine JD.read (i := 5) [false] rfl (by kernel_rfl) (by kernel_rfl) (by kernel_rfl) (by kernel_rfl) (.none rfl) rfl rfl (.load rfl) h ⟨st94, trivial⟩ (fun v96 st97 h => ?_)
      refine JD.one (j := 6) (by kernel_rfl) ?_
      refine JD1.exC [true, true] rfl (by kernel_rfl) (.none rfl) rfl rfl (.func (vs := [v93, v96]) en_18 rfl) h (fun v98 w h => ?_)
      refine ⟨trivial, ?_⟩
      refine JD.pure_ (i := 7) [] rfl (by kernel_rfl) (by kernel_rfl) (by kernel_rfl) (by kernel_rfl) (.none rfl) rfl rfl (.move rfl) trivial ?_
      refine JD.sPure (i := 8) [] rfl (by kernel_rfl) (by kernel_rfl) (by kernel_rfl) (by kernel_rfl) (.none rfl) rfl rfl (.extract rfl) h trivial (fun vb99 h => ?_)
      obtain ⟨b99, rfl, h⟩ := h
      refine JD.sPure (i := 9) [] rfl (by kernel_rfl) (by kernel_rfl) (by kernel_rfl) (by kernel_rfl) (.none rfl) rfl rfl (.extract rfl) h trivial (fun vb100 h => ?_)
      obtain ⟨b100, rfl, h⟩ := h
      refine JD.sPure (i := 10) [] rfl (by kernel_rfl) (by kernel_rfl) (by kernel_rfl) (by kernel_rfl) (.none rfl) rfl rfl (.extract rfl) h trivial (fun vb101 h => ?_)
      obtain ⟨b101, rfl, h⟩ := h
      refine JD.pure_ (i := 11) [] rfl (by kernel_rfl) (by kernel_rfl) (by kernel_rfl) (by kernel_rfl) (.none rfl) rfl rfl (.assign rfl) trivial ?_
      refine JD.pure_ (i := 12) [] rfl (by kernel_rfl) (by kernel_rfl) (by kernel_rfl) (by kernel_rfl) (.none rfl) rfl rfl (.assign rfl) trivial ?_
      refine JD.pure_ (i := 13) [] rfl (by kernel_rfl) (by kernel_rfl) (by kernel_rfl) (by kernel_rfl) (.none rfl) rfl rfl (.assign rfl) trivial ?_
      refine JD.done (by kernel_rfl) ?_
      refine JX.then ?_
      refine J.seq ?_
      refine J.join h (fun y102 => [(2, a2), (4, (.pointer (some p69))), (6, (.bool s90.1)), (7, v70), (8, (.int .i64 s71.1)), (13, (.int .i64 s90.2)), (98, (.bool y102))]) (fun k103 w h => ?_) (fun y102 w h => ?_)
      · refine J.draw [[], [0], [0, 1], [0, 1, 2], [0, 1, 2, 3], [0, 1, 2, 3, 4], [0, 1, 2, 3, 4, 5], [0, 1, 2, 3, 4, 5], [0, 1, 2, 3, 4, 5, 6, 7], [0, 1, 2, 3, 4, 5, 6, 7, 8], [0, 1, 2, 3, 4, 5, 6, 7, 8, 9], [0, 1, 2, 3, 4, 5], [0, 1, 2, 3, 4, 5], [0, 1, 2, 3, 4, 5], [0, 1, 2, 3, 4, 5, 12, 13], [0, 1, 2, 3, 4, 5, 12, 13, 14], [0, 1, 2, 3, 4, 5, 12, 13, 14, 15], [0, 1, 2, 3, 4, 5, 11, 12, 13, 14, 15, 16], [0, 1, 2, 3, 4, 5, 6, 7, 8, 9, 10, 11, 12, 13, 14, 15, 16, 17], [0, 1, 2, 3, 4, 5, 6, 7, 8, 9, 10, 11, 12, 13, 14, 15, 16, 17, 18], [0, 1, 2, 3, 4, 5, 6, 7, 8, 9, 10, 11, 12, 13, 14, 15, 16, 17, 18, 19], [0, 1, 2, 3, 4, 5, 6, 7, 8, 9, 10, 11, 12, 13, 14, 15, 16, 17, 18, 19, 20], [0, 1, 2, 3, 4, 5, 6, 7, 8, 9, 10, 11, 12, 13, 14, 15, 16, 17, 18, 19, 20, 21], [0, 1, 2, 3, 4, 5, 6, 7, 8, 9, 10, 11, 12, 13, 14, 15, 16, 17, 18, 19, 20, 21, 22], [0, 1, 2, 3, 4, 5, 6, 7, 8, 9, 10, 11, 12, 13, 14, 15, 16, 17, 18, 19, 20, 21, 22, 23], [0, 1, 2, 3, 4, 5, 6, 7, 8, 9, 10, 11, 12, 13, 14, 15, 16, 17, 18, 19, 20, 21, 22, 23], [0, 1, 2, 3, 4, 5, 6, 7, 8, 9, 10, 11, 12, 13, 14, 15, 16, 17, 18, 19, 20, 21, 22, 23, 25], [0, 1, 2, 3, 4, 5, 6, 7, 8, 9, 10, 11, 12, 13, 14, 15, 16, 17, 18, 19, 20, 21, 22, 23, 24, 25, 26], [0, 1, 2, 3, 4, 5, 6, 7, 8, 9, 10, 11, 12, 13, 14, 15, 16, 17, 18, 19, 20, 21, 22, 23, 24, 25, 26, 27], [0, 1, 2, 3, 4, 5, 6, 7, 8, 9, 10, 11, 12, 13, 14, 15, 16, 17, 18, 19, 20, 21, 22, 23, 24, 25, 26, 27, 28], [0, 1, 2, 3, 4, 5, 6, 7, 8, 9, 10, 11, 12, 13, 14, 15, 16, 17, 18, 19, 20, 21, 22, 23], [0, 1, 2, 3, 4, 5, 6, 7, 8, 9, 10, 11, 12, 13, 14, 15, 16, 17, 18, 19, 20, 21, 22, 23], [0, 1, 2, 3, 4, 5, 6, 7, 8, 9, 10, 11, 12, 13, 14, 15, 16, 17, 18, 19, 20, 21, 22, 23, 30, 31], [0, 1, 2, 3, 4, 5, 6, 7, 8, 9, 10, 11, 12, 13, 14, 15, 16, 17, 18, 19, 20, 21, 22, 23, 30, 31, 32], [0, 1, 2, 3, 4, 5, 6, 7, 8, 9, 10, 11, 12, 13, 14, 15, 16, 17, 18, 19, 20, 21, 22, 23, 30, 31, 32, 33], [0, 1, 2, 3, 4, 5, 6, 7, 8, 9, 10, 11, 12, 13, 14, 15, 16, 17, 18, 19, 20, 21, 22, 23, 24, 25, 26, 27, 28, 29, 30, 31, 32, 33, 34], [0, 1, 2, 3, 4, 5, 6, 7, 8, 9, 10, 11, 12, 13, 14, 15, 16, 17, 18, 19, 20, 21, 22, 23, 24, 25, 26, 27, 28, 29, 30, 31, 32, 33, 34, 35], [0, 1, 2, 3, 4, 5, 6, 7, 8, 9, 10, 11, 12, 13, 14, 15, 16, 17, 18, 19, 20, 21, 22, 23, 24, 25, 26, 27, 28, 29, 30, 31, 32, 33, 34, 35, 36], [0, 1, 2, 3, 4, 5, 6, 7, 8, 9, 10, 11, 12, 13, 14, 15, 16, 17, 18, 19, 20, 21, 22, 23, 24, 25, 26, 27, 28, 29, 30, 31, 32, 33, 34, 35, 36, 37]] (by kernel_rfl) mixed h (fun w h => ?_)
        refine JD.pure_ (i := 0) [] rfl (by kernel_rfl) (by kernel_rfl) (by kernel_rfl) (by kernel_rfl) (.none rfl) rfl rfl (.move rfl) trivial ?_
        refine JD.pure_ (i := 1) [] rfl (by kernel_rfl) (by kernel_rfl) (by kernel_rfl) (by kernel_rfl) (.none rfl) rfl rfl (.not rfl) trivial ?_
        refine JD.pure_ (i := 2) [] rfl (by kernel_rfl) (by kernel_rfl) (by kernel_rfl) (by kernel_rfl) (.none rfl) rfl rfl (.move rfl) trivial ?_
        rcases orB_cases h with ⟨hc106, h⟩ | ⟨hc106, h⟩
        · refine JD.skip (i := 3) [] rfl (by kernel_rfl) (by kernel_rfl) (by kernel_rfl) (by kernel_rfl) (.off rfl rfl rfl hc106 rfl) rfl rfl trivial ?_
          refine JD.pure_ (i := 4) [] rfl (by kernel_rfl) (by kernel_rfl) (by kernel_rfl) (by kernel_rfl) (.none rfl) rfl rfl (.pickOn rfl hc106 rfl) trivial ?_
          refine JD.pure_ (i := 5) [] rfl (by kernel_rfl) (by kernel_rfl) (by kernel_rfl) (by kernel_rfl) (.none rfl) rfl rfl (.move rfl) trivial ?_
          rcases orB_cases h with ⟨hc109, h⟩ | ⟨hc109, h⟩
          · refine JD.skip (i := 6) [] rfl (by kernel_rfl) (by kernel_rfl) (by kernel_rfl) (by kernel_rfl) (.off rfl rfl rfl hc109 rfl) rfl rfl trivial ?_
            refine JD.skip (i := 7) [] rfl (by kernel_rfl) (by kernel_rfl) (by kernel_rfl) (by kernel_rfl) (.off rfl rfl rfl hc109 rfl) rfl rfl trivial ?_
            refine JD.skip (i := 8) [] rfl (by kernel_rfl) (by kernel_rfl) (by kernel_rfl) (by kernel_rfl) (.off rfl rfl rfl hc109 rfl) rfl rfl trivial ?_
            refine JD.skip (i := 9) [] rfl (by kernel_rfl) (by kernel_rfl) (by kernel_rfl) (by kernel_rfl) (.off rfl rfl rfl hc109 rfl) rfl rfl trivial ?_
            refine JD.skip (i := 10) [] rfl (by kernel_rfl) (by kernel_rfl) (by kernel_rfl) (by kernel_rfl) (.off rfl rfl rfl hc109 rfl) rfl rfl trivial ?_
            refine JD.skip (i := 11) [] rfl (by kernel_rfl) (by kernel_rfl) (by kernel_rfl) (by kernel_rfl) (.off rfl rfl rfl hc109 rfl) rfl rfl trivial ?_
            refine JD.skip (i := 12) [] rfl (by kernel_rfl) (by kernel_rfl) (by kernel_rfl) (by kernel_rfl) (.off rfl rfl rfl hc109 rfl) rfl rfl trivial ?_
            refine JD.skip (i := 13) [] rfl (by kernel_rfl) (by kernel_rfl) (by kernel_rfl) (by kernel_rfl) (.off rfl rfl rfl hc109 rfl) rfl rfl trivial ?_
            refine JD.skip (i := 14) [] rfl (by kernel_rfl) (by kernel_rfl) (by kernel_rfl) (by kernel_rfl) (.off rfl rfl rfl hc109 rfl) rfl rfl trivial ?_
            refine JD.skip (i := 15) [] rfl (by kernel_rfl) (by kernel_rfl) (by kernel_rfl) (by kernel_rfl) (.off rfl rfl rfl hc109 rfl) rfl rfl trivial ?_
            refine JD.skip (i := 16) [] rfl (by kernel_rfl) (by kernel_rfl) (by kernel_rfl) (by kernel_rfl) (.off rfl rfl rfl hc109 rfl) rfl rfl trivial ?_
            refine JD.skip (i := 17) [] rfl (by kernel_rfl) (by kernel_rfl) (by kernel_rfl) (by kernel_rfl) (.off rfl rfl rfl hc109 rfl) rfl rfl trivial ?_
            refine JD.skip (i := 18) [] rfl (by kernel_rfl) (by kernel_rfl) (by kernel_rfl) (by kernel_rfl) (.off rfl rfl rfl hc109 rfl) rfl rfl trivial ?_
            refine JD.pure_ (i := 19) [] rfl (by kernel_rfl) (by kernel_rfl) (by kernel_rfl) (by kernel_rfl) (.none rfl) rfl rfl (.pickOn rfl hc109 rfl) trivial ?_
            refine JD.pure_ (i := 20) [] rfl (by kernel_rfl) (by kernel_rfl) (by kernel_rfl) (by kernel_rfl) (.none rfl) rfl rfl (.move rfl) trivial ?_
            rcases orB_cases h with ⟨hc120, h⟩ | ⟨hc120, h⟩
            · refine JD.skip (i := 21) [] rfl (by kernel_rfl) (by kernel_rfl) (by kernel_rfl) (by kernel_rfl) (.off rfl rfl rfl hc120 rfl) rfl rfl trivial ?_
              refine JD.skip (i := 22) [] rfl (by kernel_rfl) (by kernel_rfl) (by kernel_rfl) (by kernel_rfl) (.off rfl rfl rfl hc120 rfl) rfl rfl trivial ?_
              refine JD.skip (i := 23) [] rfl (by kernel_rfl) (by kernel_rfl) (by kernel_rfl) (by kernel_rfl) (.off rfl rfl rfl hc120 rfl) rfl rfl trivial ?_
              refine JD.skip (i := 24) [] rfl (by kernel_rfl) (by kernel_rfl) (by kernel_rfl) (by kernel_rfl) (.undef rfl rfl rfl) rfl rfl trivial ?_
              refine JD.skip (i := 25) [] rfl (by kernel_rfl) (by kernel_rfl) (by kernel_rfl) (by kernel_rfl) (.undef rfl rfl rfl) rfl rfl trivial ?_
              refine JD.skip (i := 26) [] rfl (by kernel_rfl) (by kernel_rfl) (by kernel_rfl) (by kernel_rfl) (.undef rfl rfl rfl) rfl rfl trivial ?_
              refine JD.skip (i := 27) [] rfl (by kernel_rfl) (by kernel_rfl) (by kernel_rfl) (by kernel_rfl) (.undef rfl rfl rfl) rfl rfl trivial ?_
              refine JD.skip (i := 28) [] rfl (by kernel_rfl) (by kernel_rfl) (by kernel_rfl) (by kernel_rfl) (.undef rfl rfl rfl) rfl rfl trivial ?_
              refine JD.skip (i := 29) [] rfl (by kernel_rfl) (by kernel_rfl) (by kernel_rfl) (by kernel_rfl) (.undef rfl rfl rfl) rfl rfl trivial ?_
              refine JD.skip (i := 30) [] rfl (by kernel_rfl) (by kernel_rfl) (by kernel_rfl) (by kernel_rfl) (.undef rfl rfl rfl) rfl rfl trivial ?_
              refine JD.skip (i := 31) [] rfl (by kernel_rfl) (by kernel_rfl) (by kernel_rfl) (by kernel_rfl) (.undef rfl rfl rfl) rfl rfl trivial ?_
              refine JD.skip (i := 32) [] rfl (by kernel_rfl) (by kernel_rfl) (by kernel_rfl) (by kernel_rfl) (.undef rfl rfl rfl) rfl rfl trivial ?_
              refine JD.skip (i := 33) [] rfl (by kernel_rfl) (by kernel_rfl) (by kernel_rfl) (by kernel_rfl) (.undef rfl rfl rfl) rfl rfl trivial ?_
              refine JD.skip (i := 34) [] rfl (by kernel_rfl) (by kernel_rfl) (by kernel_rfl) (by kernel_rfl) (.undef rfl rfl rfl) rfl rfl trivial ?_
              refine JD.skip (i := 35) [] rfl (by kernel_rfl) (by kernel_rfl) (by kernel_rfl) (by kernel_rfl) (.undef rfl rfl rfl) rfl rfl trivial ?_
              refine JD.skip (i := 36) [] rfl (by kernel_rfl) (by kernel_rfl) (by kernel_rfl) (by kernel_rfl) (.undef rfl rfl rfl) rfl rfl trivial ?_
              refine JD.skip (i := 37) [] rfl (by kernel_rfl) (by kernel_rfl) (by kernel_rfl) (by kernel_rfl) (.off rfl rfl rfl hc120 rfl) rfl rfl trivial ?_
              refine JD.pure_ (i := 38) [] rfl (by kernel_rfl) (by kernel_rfl) (by kernel_rfl) (by kernel_rfl) (.none rfl) rfl rfl (.pickOn rfl hc120 rfl) trivial ?_
              refine JD.done (by kernel_rfl) ?_
              exact JX.joinEnd h ⟨rfl, rfl, rfl, rfl, rfl, rfl, rfl, trivial⟩
            · refine JD.pure_ (i := 21) [] rfl (by kernel_rfl) (by kernel_rfl) (by kernel_rfl) (by kernel_rfl) (.on rfl rfl rfl hc120) rfl rfl (.move rfl) trivial ?_
              refine JD.pure_ (i := 22) [] rfl (by kernel_rfl) (by kernel_rfl) (by kernel_rfl) (by kernel_rfl) (.on rfl rfl rfl hc120) rfl rfl (.gtr rfl rfl) trivial ?_
              refine JD.pure_ (i := 23) [] rfl (by kernel_rfl) (by kernel_rfl) (by kernel_rfl) (by kernel_rfl) (.on rfl rfl rfl hc120) rfl rfl (.move rfl) trivial ?_
              rcases andB_cases h with ⟨hc123, h⟩ | ⟨hc123, h⟩
              · refine JD.skip (i := 24) [] rfl (by kernel_rfl) (by kernel_rfl) (by kernel_rfl) (by kernel_rfl) (.off rfl rfl rfl hc123 rfl) rfl rfl trivial ?_
                refine JD.skip (i := 25) [] rfl (by kernel_rfl) (by kernel_rfl) (by kernel_rfl) (by kernel_rfl) (.off rfl rfl rfl hc123 rfl) rfl rfl trivial ?_
                refine JD.skip (i := 26) [] rfl (by kernel_rfl) (by kernel_rfl) (by kernel_rfl) (by kernel_rfl) (.off rfl rfl rfl hc123 rfl) rfl rfl trivial ?_
                refine JD.skip (i := 27) [] rfl (by kernel_rfl) (by kernel_rfl) (by kernel_rfl) (by kernel_rfl) (.off rfl rfl rfl hc123 rfl) rfl rfl trivial ?_
                refine JD.skip (i := 28) [] rfl (by kernel_rfl) (by kernel_rfl) (by kernel_rfl) (by kernel_rfl) (.off rfl rfl rfl hc123 rfl) rfl rfl trivial ?_
                refine JD.skip (i := 29) [] rfl (by kernel_rfl) (by kernel_rfl) (by kernel_rfl) (by kernel_rfl) (.off rfl rfl rfl hc123 rfl) rfl rfl trivial ?_
                refine JD.skip (i := 30) [] rfl (by kernel_rfl) (by kernel_rfl) (by kernel_rfl) (by kernel_rfl) (.off rfl rfl rfl hc123 rfl) rfl rfl trivial ?_
                refine JD.skip (i := 31) [] rfl (by kernel_rfl) (by kernel_rfl) (by kernel_rfl) (by kernel_rfl) (.off rfl rfl rfl hc123 rfl) rfl rfl trivial ?_
                refine JD.skip (i := 32) [] rfl (by kernel_rfl) (by kernel_rfl) (by kernel_rfl) (by kernel_rfl) (.off rfl rfl rfl hc123 rfl) rfl rfl trivial ?_
                refine JD.skip (i := 33) [] rfl (by kernel_rfl) (by kernel_rfl) (by kernel_rfl) (by kernel_rfl) (.off rfl rfl rfl hc123 rfl) rfl rfl trivial ?_
                refine JD.skip (i := 34) [] rfl (by kernel_rfl) (by kernel_rfl) (by kernel_rfl) (by kernel_rfl) (.off rfl rfl rfl hc123 rfl) rfl rfl trivial ?_
                refine JD.skip (i := 35) [] rfl (by kernel_rfl) (by kernel_rfl) (by kernel_rfl) (by kernel_rfl) (.off rfl rfl rfl hc123 rfl) rfl rfl trivial ?_
                refine JD.skip (i := 36) [] rfl (by kernel_rfl) (by kernel_rfl) (by kernel_rfl) (by kernel_rfl) (.off rfl rfl rfl hc123 rfl) rfl rfl trivial ?_
                refine JD.pure_ (i := 37) [] rfl (by kernel_rfl) (by kernel_rfl) (by kernel_rfl) (by kernel_rfl) (.on rfl rfl rfl hc120) rfl rfl (.pickOff rfl hc123 rfl) trivial ?_
                refine JD.pure_ (i := 38) [] rfl (by kernel_rfl) (by kernel_rfl) (by kernel_rfl) (by kernel_rfl) (.none rfl) rfl rfl (.pickOff rfl hc120 rfl) trivial ?_
                refine JD.done (by kernel_rfl) ?_
                exact JX.joinEnd h ⟨rfl, rfl, rfl, rfl, rfl, rfl, rfl, trivial⟩
              · refine JD.pure_ (i := 24) [] rfl (by kernel_rfl) (by kernel_rfl) (by kernel_rfl) (by kernel_rfl) (.on rfl rfl rfl hc123) rfl rfl (.move rfl) trivial ?_
                refine JD.pure_ (i := 25) [] rfl (by kernel_rfl) (by kernel_rfl) (by kernel_rfl) (by kernel_rfl) (.on rfl rfl rfl hc123) rfl rfl (.move rfl) trivial ?_
                refine JD.pure_ (i := 26) [] rfl (by kernel_rfl) (by kernel_rfl) (by kernel_rfl) (by kernel_rfl) (.on rfl rfl rfl hc123) rfl rfl (.sub rfl rfl) trivial ?_
                refine JD.sPure (i := 27) [] rfl (by kernel_rfl) (by kernel_rfl) (by kernel_rfl) (by kernel_rfl) (.on rfl rfl rfl hc123) rfl rfl (.indexAddr rfl rfl) h trivial (fun vp124 h => ?_)
                obtain ⟨p124, rfl, h⟩ := h
                refine JD.pure_ (i := 28) [] rfl (by kernel_rfl) (by kernel_rfl) (by kernel_rfl) (by kernel_rfl) (.on rfl rfl rfl hc123) rfl rfl (.fieldAddr rfl (fa_112_0 _)) trivial ?_
                refine JD.read (i := 29) [] rfl (by kernel_rfl) (by kernel_rfl) (by kernel_rfl) (by kernel_rfl) (.on rfl rfl rfl hc123) rfl rfl (.load rfl) h trivial (fun v125 st126 h => ?_)
                refine JD.pure_ (i := 30) [false] rfl (by kernel_rfl) (by kernel_rfl) (by kernel_rfl) (by kernel_rfl) (.on rfl rfl rfl hc123) rfl rfl (.move rfl) ⟨st126, trivial⟩ ?_
                refine JD.pure_ (i := 31) [false] rfl (by kernel_rfl) (by kernel_rfl) (by kernel_rfl) (by kernel_rfl) (.on rfl rfl rfl hc123) rfl rfl (.move rfl) ⟨st126, trivial⟩ ?_
                refine JD.sPure (i := 32) [false] rfl (by kernel_rfl) (by kernel_rfl) (by kernel_rfl) (by kernel_rfl) (.on rfl rfl rfl hc123) rfl rfl (.indexAddr rfl rfl) h ⟨st126, trivial⟩ (fun vp127 h => ?_)
                obtain ⟨p127, rfl, h⟩ := h
                refine JD.pure_ (i := 33) [false] rfl (by kernel_rfl) (by kernel_rfl) (by kernel_rfl) (by kernel_rfl) (.on rfl rfl rfl hc123) rfl rfl (.fieldAddr rfl (fa_112_0 _)) ⟨st126, trivial⟩ ?_
                refine JD.read (i := 34) [false] rfl (by kernel_rfl) (by kernel_rfl) (by kernel_rfl) (by kernel_rfl) (.on rfl rfl rfl hc123) rfl rfl (.load rfl) h ⟨st126, trivial⟩ (fun v128 st129 h => ?_)
                refine JD.one (j := 35) (by kernel_rfl) ?_
                refine JD1.exC [true, true] rfl (by kernel_rfl) (.on rfl rfl rfl hc123) rfl rfl (.func (vs := [v125, v128]) en_38 rfl) h (fun vx130 w h => ?_)
                obtain ⟨x130, rfl, h⟩ := h
                refine ⟨trivial, ?_⟩
                refine JD.pure_ (i := 36) [] rfl (by kernel_rfl) (by kernel_rfl) (by kernel_rfl) (by kernel_rfl) (.on rfl rfl rfl hc123) rfl rfl (.geq rfl rfl) trivial ?_
                refine JD.pure_ (i := 37) [] rfl (by kernel_rfl) (by kernel_rfl) (by kernel_rfl) (by kernel_rfl) (.on rfl rfl rfl hc120) rfl rfl (.pickOn rfl hc123 rfl) trivial ?_
                refine JD.pure_ (i := 38) [] rfl (by kernel_rfl) (by kernel_rfl) (by kernel_rfl) (by kernel_rfl) (.none rfl) rfl rfl (.pickOff rfl hc120 rfl) trivial ?_
                refine JD.done (by kernel_rfl) ?_
                exact JX.joinEnd h ⟨rfl, rfl, rfl, rfl, rfl, rfl, rfl, trivial⟩
          · refine JD.pure_ (i := 6) [] rfl (by kernel_rfl) (by kernel_rfl) (by kernel_rfl) (by kernel_rfl) (.on rfl rfl rfl hc109) rfl rfl (.move rfl) trivial ?_
            refine JD.pure_ (i := 7) [] rfl (by kernel_rfl) (by kernel_rfl) (by kernel_rfl) (by kernel_rfl) (.on rfl rfl rfl hc109) rfl rfl (.move rfl) trivial ?_
            refine JD.sPure (i := 8) [] rfl (by kernel_rfl) (by kernel_rfl) (by kernel_rfl) (by kernel_rfl) (.on rfl rfl rfl hc109) rfl rfl (.indexAddr rfl rfl) h trivial (fun vp110 h => ?_)
            obtain ⟨p110, rfl, h⟩ := h
            refine JD.pure_ (i := 9) [] rfl (by kernel_rfl) (by kernel_rfl) (by kernel_rfl) (by kernel_rfl) (.on rfl rfl rfl hc109) rfl rfl (.fieldAddr rfl (fa_112_1 _)) trivial ?_
            refine JD.read (i := 10) [] rfl (by kernel_rfl) (by kernel_rfl) (by kernel_rfl) (by kernel_rfl) (.on rfl rfl rfl hc109) rfl rfl (.load rfl) h trivial (fun vx111 st112 h => ?_)
            obtain ⟨x111, rfl, h⟩ := h
            refine JD.pure_ (i := 11) [false] rfl (by kernel_rfl) (by kernel_rfl) (by kernel_rfl) (by kernel_rfl) (.on rfl rfl rfl hc109) rfl rfl (.move rfl) ⟨st112, trivial⟩ ?_
            refine JD.pure_ (i := 12) [false] rfl (by kernel_rfl) (by kernel_rfl) (by kernel_rfl) (by kernel_rfl) (.on rfl rfl rfl hc109) rfl rfl (.move rfl) ⟨st112, trivial⟩ ?_
            refine JD.pure_ (i := 13) [false] rfl (by kernel_rfl) (by kernel_rfl) (by kernel_rfl) (by kernel_rfl) (.on rfl rfl rfl hc109) rfl rfl (.move rfl) ⟨st112, trivial⟩ ?_
            refine JD.sPure (i := 14) [false] rfl (by kernel_rfl) (by kernel_rfl) (by kernel_rfl) (by kernel_rfl) (.on rfl rfl rfl hc109) rfl rfl (.indexAddr rfl rfl) h ⟨st112, trivial⟩ (fun vp113 h => ?_)
            obtain ⟨p113, rfl, h⟩ := h
            refine JD.pure_ (i := 15) [false] rfl (by kernel_rfl) (by kernel_rfl) (by kernel_rfl) (by kernel_rfl) (.on rfl rfl rfl hc109) rfl rfl (.fieldAddr rfl (fa_112_0 _)) ⟨st112, trivial⟩ ?_
            refine JD.read (i := 16) [false] rfl (by kernel_rfl) (by kernel_rfl) (by kernel_rfl) (by kernel_rfl) (.on rfl rfl rfl hc109) rfl rfl (.load rfl) h ⟨st112, trivial⟩ (fun v114 st115 h => ?_)
            refine JD.read (i := 17) [true, false] rfl (by kernel_rfl) (by kernel_rfl) (by kernel_rfl) (by kernel_rfl) (.on rfl rfl rfl hc109) rfl rfl (.lookup rfl rfl) h ⟨st112, trivial⟩ (fun vx116 st117 h => ?_)
            obtain ⟨x116, rfl, h⟩ := h
            refine JD.pure_ (i := 18) [true, true, true] rfl (by kernel_rfl) (by kernel_rfl) (by kernel_rfl) (by kernel_rfl) (.on rfl rfl rfl hc109) rfl rfl (.neq rfl rfl) trivial ?_
            refine JD.pure_ (i := 19) [true, true, true] rfl (by kernel_rfl) (by kernel_rfl) (by kernel_rfl) (by kernel_rfl) (.none rfl) rfl rfl (.pickOff rfl hc109 rfl) trivial ?_
            refine JD.pure_ (i := 20) [true, true, true] rfl (by kernel_rfl) (by kernel_rfl) (by kernel_rfl) (by kernel_rfl) (.none rfl) rfl rfl (.move rfl) trivial ?_
            rcases orB_cases h with ⟨hc120, h⟩ | ⟨hc120, h⟩
            · refine JD.skip (i := 21) [true, true, true] rfl (by kernel_rfl) (by kernel_rfl) (by kernel_rfl) (by kernel_rfl) (.off rfl rfl rfl hc120 rfl) rfl rfl trivial ?_
              refine JD.skip (i := 22) [true, true, true] rfl (by kernel_rfl) (by kernel_rfl) (by kernel_rfl) (by kernel_rfl) (.off rfl rfl rfl hc120 rfl) rfl rfl trivial ?_
              refine JD.skip (i := 23) [true, true, true] rfl (by kernel_rfl) (by kernel_rfl) (by kernel_rfl) (by kernel_rfl) (.off rfl rfl rfl hc120 rfl) rfl rfl trivial ?_
              refine JD.skip (i := 24) [true, true, true] rfl (by kernel_rfl) (by kernel_rfl) (by kernel_rfl) (by kernel_rfl) (.undef rfl rfl rfl) rfl rfl trivial ?_
              refine JD.skip (i := 25) [true, true, true] rfl (by kernel_rfl) (by kernel_rfl) (by kernel_rfl) (by kernel_rfl) (.undef rfl rfl rfl) rfl rfl trivial ?_
              refine JD.skip (i := 26) [true, true, true] rfl (by kernel_rfl) (by kernel_rfl) (by kernel_rfl) (by kernel_rfl) (.undef rfl rfl rfl) rfl rfl trivial ?_
              refine JD.skip (i := 27) [true, true, true] rfl (by kernel_rfl) (by kernel_rfl) (by kernel_rfl) (by kernel_rfl) (.undef rfl rfl rfl) rfl rfl trivial ?_
              refine JD.skip (i := 28) [true, true, true] rfl (by kernel_rfl) (by kernel_rfl) (by kernel_rfl) (by kernel_rfl) (.undef rfl rfl rfl) rfl rfl trivial ?_
              refine JD.skip (i := 29) [true, true, true] rfl (by kernel_rfl) (by kernel_rfl) (by kernel_rfl) (by kernel_rfl) (.undef rfl rfl rfl) rfl rfl trivial ?_
              refine JD.skip (i := 30) [true, true, true] rfl (by kernel_rfl) (by kernel_rfl) (by kernel_rfl) (by kernel_rfl) (.undef rfl rfl rfl) rfl rfl trivial ?_
              refine JD.skip (i := 31) [true, true, true] rfl (by kernel_rfl) (by kernel_rfl) (by kernel_rfl) (by kernel_rfl) (.undef rfl rfl rfl) rfl rfl trivial ?_
              refine JD.skip (i := 32) [true, true, true] rfl (by kernel_rfl) (by kernel_rfl) (by kernel_rfl) (by kernel_rfl) (.undef rfl rfl rfl) rfl rfl trivial ?_
              refine JD.skip (i := 33) [true, true, true] rfl (by kernel_rfl) (by kernel_rfl) (by kernel_rfl) (by kernel_rfl) (.undef rfl rfl rfl) rfl rfl trivial ?_
              refine JD.skip (i := 34) [true, true, true] rfl (by kernel_rfl) (by kernel_rfl) (by kernel_rfl) (by kernel_rfl) (.undef rfl rfl rfl) rfl rfl trivial ?_
              refine JD.skip (i := 35) [true, true, true] rfl (by kernel_rfl) (by kernel_rfl) (by kernel_rfl) (by kernel_rfl) (.undef rfl rfl rfl) rfl rfl trivial ?_
              refine JD.skip (i := 36) [true, true, true] rfl (by kernel_rfl) (by kernel_rfl) (by kernel_rfl) (by kernel_rfl) (.undef rfl rfl rfl) rfl rfl trivial ?_
              refine JD.skip (i := 37) [true, true, true] rfl (by kernel_rfl) (by kernel_rfl) (by kernel_rfl) (by kernel_rfl) (.off rfl rfl rfl hc120 rfl) rfl rfl trivial ?_
              refine JD.pure_ (i := 38) [true, true, true] rfl (by kernel_rfl) (by kernel_rfl) (by kernel_rfl) (by kernel_rfl) (.none rfl) rfl rfl (.pickOn rfl hc120 rfl) trivial ?_
              refine JD.done (by kernel_rfl) ?_
              exact JX.joinEnd h ⟨rfl, rfl, rfl, rfl, rfl, rfl, rfl, trivial⟩
            · refine JD.pure_ (i := 21) [true, true, true] rfl (by kernel_rfl) (by kernel_rfl) (by kernel_rfl) (by kernel_rfl) (.on rfl rfl rfl hc120) rfl rfl (.move rfl) trivial ?_
              refine JD.pure_ (i := 22) [true, true, true] rfl (by kernel_rfl) (by kernel_rfl) (by kernel_rfl) (by kernel_rfl) (.on rfl rfl rfl hc120) rfl rfl (.gtr rfl rfl) trivial ?_
              refine JD.pure_ (i := 23) [true, true, true] rfl (by kernel_rfl) (by kernel_rfl) (by kernel_rfl) (by kernel_rfl) (.on rfl rfl rfl hc120) rfl rfl (.move rfl) trivial ?_
              rcases andB_cases h with ⟨hc123, h⟩ | ⟨hc123, h⟩
              · refine JD.skip (i := 24) [true, true, true] rfl (by kernel_rfl) (by kernel_rfl) (by kernel_rfl) (by kernel_rfl) (.off rfl rfl rfl hc123 rfl) rfl rfl trivial ?_
                refine JD.skip (i := 25) [true, true, true] rfl (by kernel_rfl) (by kernel_rfl) (by kernel_rfl) (by kernel_rfl) (.off rfl rfl rfl hc123 rfl) rfl rfl trivial ?_
                refine JD.skip (i := 26) [true, true, true] rfl (by kernel_rfl) (by kernel_rfl) (by kernel_rfl) (by kernel_rfl) (.off rfl rfl rfl hc123 rfl) rfl rfl trivial ?_
                refine JD.skip (i := 27) [true, true, true] rfl (by kernel_rfl) (by kernel_rfl) (by kernel_rfl) (by kernel_rfl) (.off rfl rfl rfl hc123 rfl) rfl rfl trivial ?_
                refine JD.skip (i := 28) [true, true, true] rfl (by kernel_rfl) (by kernel_rfl) (by kernel_rfl) (by kernel_rfl) (.off rfl rfl rfl hc123 rfl) rfl rfl trivial ?_
                refine JD.skip (i := 29) [true, true, true] rfl (by kernel_rfl) (by kernel_rfl) (by kernel_rfl) (by kernel_rfl) (.off rfl rfl rfl hc123 rfl) rfl rfl trivial ?_
                refine JD.skip (i := 30) [true, true, true] rfl (by kernel_rfl) (by kernel_rfl) (by kernel_rfl) (by kernel_rfl) (.off rfl rfl rfl hc123 rfl) rfl rfl trivial ?_
                refine JD.skip (i := 31) [true, true, true] rfl (by kernel_rfl) (by kernel_rfl) (by kernel_rfl) (by kernel_rfl) (.off rfl rfl rfl hc123 rfl) rfl rfl trivial ?_
                refine JD.skip (i := 32) [true, true, true] rfl (by kernel_rfl) (by kernel_rfl) (by kernel_rfl) (by kernel_rfl) (.off rfl rfl rfl hc123 rfl) rfl rfl trivial ?_
                refine JD.skip (i := 33) [true, true, true] rfl (by kernel_rfl) (by kernel_rfl) (by kernel_rfl) (by kernel_rfl) (.off rfl rfl rfl hc123 rfl) rfl rfl trivial ?_
                refine JD.skip (i := 34) [true, true, true] rfl (by kernel_rfl) (by kernel_rfl) (by kernel_rfl) (by kernel_rfl) (.off rfl rfl rfl hc123 rfl) rfl rfl trivial ?_
                refine JD.skip (i := 35) [true, true, true] rfl (by kernel_rfl) (by kernel_rfl) (by kernel_rfl) (by kernel_rfl) (.off rfl rfl rfl hc123 rfl) rfl rfl trivial ?_
                refine JD.skip (i := 36) [true, true, true] rfl (by kernel_rfl) (by kernel_rfl) (by kernel_rfl) (by kernel_rfl) (.off rfl rfl rfl hc123 rfl) rfl rfl trivial ?_
                refine JD.pure_ (i := 37) [true, true, true] rfl (by kernel_rfl) (by kernel_rfl) (by kernel_rfl) (by kernel_rfl) (.on rfl rfl rfl hc120) rfl rfl (.pickOff rfl hc123 rfl) trivial ?_
                refine JD.pure_ (i := 38) [true, true, true] rfl (by kernel_rfl) (by kernel_rfl) (by kernel_rfl) (by kernel_rfl) (.none rfl) rfl rfl (.pickOff rfl hc120 rfl) trivial ?_
                refine JD.done (by kernel_rfl) ?_
                exact JX.joinEnd h ⟨rfl, rfl, rfl, rfl, rfl, rfl, rfl, trivial⟩
              · refine JD.pure_ (i := 24) [true, true, true] rfl (by kernel_rfl) (by kernel_rfl) (by kernel_rfl) (by kernel_rfl) (.on rfl rfl rfl hc123) rfl rfl (.move rfl) trivial ?_
                refine JD.pure_ (i := 25) [true, true, true] rfl (by kernel_rfl) (by kernel_rfl) (by kernel_rfl) (by kernel_rfl) (.on rfl rfl rfl hc123) rfl rfl (.move rfl) trivial ?_
                refine JD.pure_ (i := 26) [true, true, true] rfl (by kernel_rfl) (by kernel_rfl) (by kernel_rfl) (by kernel_rfl) (.on rfl rfl rfl hc123) rfl rfl (.sub rfl rfl) trivial ?_
                refine JD.sPure (i := 27) [true, true, true] rfl (by kernel_rfl) (by kernel_rfl) (by kernel_rfl) (by kernel_rfl) (.on rfl rfl rfl hc123) rfl rfl (.indexAddr rfl rfl) h trivial (fun vp124 h => ?_)
                obtain ⟨p124, rfl, h⟩ := h
                refine JD.pure_ (i := 28) [true, true, true] rfl (by kernel_rfl) (by kernel_rfl) (by kernel_rfl) (by kernel_rfl) (.on rfl rfl rfl hc123) rfl rfl (.fieldAddr rfl (fa_112_0 _)) trivial ?_
                refine JD.read (i := 29) [true, true, true] rfl (by kernel_rfl) (by kernel_rfl) (by kernel_rfl) (by kernel_rfl) (.on rfl rfl rfl hc123) rfl rfl (.load rfl) h trivial (fun v125 st126 h => ?_)
                refine JD.pure_ (i := 30) [false, true, true, true] rfl (by kernel_rfl) (by kernel_rfl) (by kernel_rfl) (by kernel_rfl) (.on rfl rfl rfl hc123) rfl rfl (.move rfl) ⟨st126, trivial⟩ ?_
                refine JD.pure_ (i := 31) [false, true, true, true] rfl (by kernel_rfl) (by kernel_rfl) (by kernel_rfl) (by kernel_rfl) (.on rfl rfl rfl hc123) rfl rfl (.move rfl) ⟨st126, trivial⟩ ?_
                refine JD.sPure (i := 32) [false, true, true, true] rfl (by kernel_rfl) (by kernel_rfl) (by kernel_rfl) (by kernel_rfl) (.on rfl rfl rfl hc123) rfl rfl (.indexAddr rfl rfl) h ⟨st126, trivial⟩ (fun vp127 h => ?_)
                obtain ⟨p127, rfl, h⟩ := h
                refine JD.pure_ (i := 33) [false, true, true, true] rfl (by kernel_rfl) (by kernel_rfl) (by kernel_rfl) (by kernel_rfl) (.on rfl rfl rfl hc123) rfl rfl (.fieldAddr rfl (fa_112_0 _)) ⟨st126, trivial⟩ ?_
                refine JD.read (i := 34) [false, true, true, true] rfl (by kernel_rfl) (by kernel_rfl) (by kernel_rfl) (by kernel_rfl) (.on rfl rfl rfl hc123) rfl rfl (.load rfl) h ⟨st126, trivial⟩ (fun v128 st129 h => ?_)
                refine JD.one (j := 35) (by kernel_rfl) ?_
                refine JD1.exC [true, true, true, true, true] rfl (by kernel_rfl) (.on rfl rfl rfl hc123) rfl rfl (.func (vs := [v125, v128]) en_38 rfl) h (fun vx130 w h => ?_)
                obtain ⟨x130, rfl, h⟩ := h
                refine ⟨trivial, ?_⟩
                refine JD.pure_ (i := 36) [] rfl (by kernel_rfl) (by kernel_rfl) (by kernel_rfl) (by kernel_rfl) (.on rfl rfl rfl hc123) rfl rfl (.geq rfl rfl) trivial ?_
                refine JD.pure_ (i := 37) [] rfl (by kernel_rfl) (by kernel_rfl) (by kernel_rfl) (by kernel_rfl) (.on rfl rfl rfl hc120) rfl rfl (.pickOn rfl hc123 rfl) trivial ?_
                refine JD.pure_ (i := 38) [] rfl (by kernel_rfl) (by kernel_rfl) (by kernel_rfl) (by kernel_rfl) (.none rfl) rfl rfl (.pickOff rfl hc120 rfl) trivial ?_
                refine JD.done (by kernel_rfl) ?_
                exact JX.joinEnd h ⟨rfl, rfl, rfl, rfl, rfl, rfl, rfl, trivial⟩
        · refine JD.pure_ (i := 3) [] rfl (by kernel_rfl) (by kernel_rfl) (by kernel_rfl) (by kernel_rfl) (.on rfl rfl rfl hc106) rfl rfl (.move rfl) trivial ?_
          refine JD.pure_ (i := 4) [] rfl (by kernel_rfl) (by kernel_rfl) (by kernel_rfl) (by kernel_rfl) (.none rfl) rfl rfl (.pickOff rfl hc106 rfl) trivial ?_
          refine JD.pure_ (i := 5) [] rfl (by kernel_rfl) (by kernel_rfl) (by kernel_rfl) (by kernel_rfl) (.none rfl) rfl rfl (.move rfl) trivial ?_
          rcases orB_cases h with ⟨hc109, h⟩ | ⟨hc109, h⟩
          · refine JD.skip (i := 6) [] rfl (by kernel_rfl) (by kernel_rfl) (by kernel_rfl) (by kernel_rfl) (.off rfl rfl rfl hc109 rfl) rfl rfl trivial ?_
            refine JD.skip (i := 7) [] rfl (by kernel_rfl) (by kernel_rfl) (by kernel_rfl) (by kernel_rfl) (.off rfl rfl rfl hc109 rfl) rfl rfl trivial ?_
            refine JD.skip (i := 8) [] rfl (by kernel_rfl) (by kernel_rfl) (by kernel_rfl) (by kernel_rfl) (.off rfl rfl rfl hc109 rfl) rfl rfl trivial ?_
            refine JD.skip (i := 9) [] rfl (by kernel_rfl) (by kernel_rfl) (by kernel_rfl) (by kernel_rfl) (.off rfl rfl rfl hc109 rfl) rfl rfl trivial ?_
            refine JD.skip (i := 10) [] rfl (by kernel_rfl) (by kernel_rfl) (by kernel_rfl) (by kernel_rfl) (.off rfl rfl rfl hc109 rfl) rfl rfl trivial ?_
            refine JD.skip (i := 11) [] rfl (by kernel_rfl) (by kernel_rfl) (by kernel_rfl) (by kernel_rfl) (.off rfl rfl rfl hc109 rfl) rfl rfl trivial ?_
            refine JD.skip (i := 12) [] rfl (by kernel_rfl) (by kernel_rfl) (by kernel_rfl) (by kernel_rfl) (.off rfl rfl rfl hc109 rfl) rfl rfl trivial ?_
            refine JD.skip (i := 13) [] rfl (by kernel_rfl) (by kernel_rfl) (by kernel_rfl) (by kernel_rfl) (.off rfl rfl rfl hc109 rfl) rfl rfl trivial ?_
            refine JD.skip (i := 14) [] rfl (by kernel_rfl) (by kernel_rfl) (by kernel_rfl) (by kernel_rfl) (.off rfl rfl rfl hc109 rfl) rfl rfl trivial ?_
            refine JD.skip (i := 15) [] rfl (by kernel_rfl) (by kernel_rfl) (by kernel_rfl) (by kernel_rfl) (.off rfl rfl rfl hc109 rfl) rfl rfl trivial ?_
            refine JD.skip (i := 16) [] rfl (by kernel_rfl) (by kernel_rfl) (by kernel_rfl) (by kernel_rfl) (.off rfl rfl rfl hc109 rfl) rfl rfl trivial ?_
            refine JD.skip (i := 17) [] rfl (by kernel_rfl) (by kernel_rfl) (by kernel_rfl) (by kernel_rfl) (.off rfl rfl rfl hc109 rfl) rfl rfl trivial ?_
            refine JD.skip (i := 18) [] rfl (by kernel_rfl) (by kernel_rfl) (by kernel_rfl) (by kernel_rfl) (.off rfl rfl rfl hc109 rfl) rfl rfl trivial ?_
            refine JD.pure_ (i := 19) [] rfl (by kernel_rfl) (by kernel_rfl) (by kernel_rfl) (by kernel_rfl) (.none rfl) rfl rfl (.pickOn rfl hc109 rfl) trivial ?_
            refine JD.pure_ (i := 20) [] rfl (by kernel_rfl) (by kernel_rfl) (by kernel_rfl) (by kernel_rfl) (.none rfl) rfl rfl (.move rfl) trivial ?_
            rcases orB_cases h with ⟨hc120, h⟩ | ⟨hc120, h⟩
            · refine JD.skip (i := 21) [] rfl (by kernel_rfl) (by kernel_rfl) (by kernel_rfl) (by kernel_rfl) (.off rfl rfl rfl hc120 rfl) rfl rfl trivial ?_
              refine JD.skip (i := 22) [] rfl (by kernel_rfl) (by kernel_rfl) (by kernel_rfl) (by kernel_rfl) (.off rfl rfl rfl hc120 rfl) rfl rfl trivial ?_
              refine JD.skip (i := 23) [] rfl (by kernel_rfl) (by kernel_rfl) (by kernel_rfl) (by kernel_rfl) (.off rfl rfl rfl hc120 rfl) rfl rfl trivial ?_
              refine JD.skip (i := 24) [] rfl (by kernel_rfl) (by kernel_rfl) (by kernel_rfl) (by kernel_rfl) (.undef rfl rfl rfl) rfl rfl trivial ?_
              refine JD.skip (i := 25) [] rfl (by kernel_rfl) (by kernel_rfl) (by kernel_rfl) (by kernel_rfl) (.undef rfl rfl rfl) rfl rfl trivial ?_
              refine JD.skip (i := 26) [] rfl (by kernel_rfl) (by kernel_rfl) (by kernel_rfl) (by kernel_rfl) (.undef rfl rfl rfl) rfl rfl trivial ?_
              refine JD.skip (i := 27) [] rfl (by kernel_rfl) (by kernel_rfl) (by kernel_rfl) (by kernel_rfl) (.undef rfl rfl rfl) rfl rfl trivial ?_
              refine JD.skip (i := 28) [] rfl (by kernel_rfl) (by kernel_rfl) (by kernel_rfl) (by kernel_rfl) (.undef rfl rfl rfl) rfl rfl trivial ?_
              refine JD.skip (i := 29) [] rfl (by kernel_rfl) (by kernel_rfl) (by kernel_rfl) (by kernel_rfl) (.undef rfl rfl rfl) rfl rfl trivial ?_
              refine JD.skip (i := 30) [] rfl (by kernel_rfl) (by kernel_rfl) (by kernel_rfl) (by kernel_rfl) (.undef rfl rfl rfl) rfl rfl trivial ?_
              refine JD.skip (i := 31) [] rfl (by kernel_rfl) (by kernel_rfl) (by kernel_rfl) (by kernel_rfl) (.undef rfl rfl rfl) rfl rfl trivial ?_
              refine JD.skip (i := 32) [] rfl (by kernel_rfl) (by kernel_rfl) (by kernel_rfl) (by kernel_rfl) (.undef rfl rfl rfl) rfl rfl trivial ?_
              refine JD.skip (i := 33) [] rfl (by kernel_rfl) (by kernel_rfl) (by kernel_rfl) (by kernel_rfl) (.undef rfl rfl rfl) rfl rfl trivial ?_
              refine JD.skip (i := 34) [] rfl (by kernel_rfl) (by kernel_rfl) (by kernel_rfl) (by kernel_rfl) (.undef rfl rfl rfl) rfl rfl trivial ?_
              refine JD.skip (i := 35) [] rfl (by kernel_rfl) (by kernel_rfl) (by kernel_rfl) (by kernel_rfl) (.undef rfl rfl rfl) rfl rfl trivial ?_
              refine JD.skip (i := 36) [] rfl (by kernel_rfl) (by kernel_rfl) (by kernel_rfl) (by kernel_rfl) (.undef rfl rfl rfl) rfl rfl trivial ?_
              refine JD.skip (i := 37) [] rfl (by kernel_rfl) (by kernel_rfl) (by kernel_rfl) (by kernel_rfl) (.off rfl rfl rfl hc120 rfl) rfl rfl trivial ?_
              refine JD.pure_ (i := 38) [] rfl (by kernel_rfl) (by kernel_rfl) (by kernel_rfl) (by kernel_rfl) (.none rfl) rfl rfl (.pickOn rfl hc120 rfl) trivial ?_
              refine JD.done (by kernel_rfl) ?_
              exact JX.joinEnd h ⟨rfl, rfl, rfl, rfl, rfl, rfl, rfl, trivial⟩
            · refine JD.pure_ (i := 21) [] rfl (by kernel_rfl) (by kernel_rfl) (by kernel_rfl) (by kernel_rfl) (.on rfl rfl rfl hc120) rfl rfl (.move rfl) trivial ?_
              refine JD.pure_ (i := 22) [] rfl (by kernel_rfl) (by kernel_rfl) (by kernel_rfl) (by kernel_rfl) (.on rfl rfl rfl hc120) rfl rfl (.gtr rfl rfl) trivial ?_
              refine JD.pure_ (i := 23) [] rfl (by kernel_rfl) (by kernel_rfl) (by kernel_rfl) (by kernel_rfl) (.on rfl rfl rfl hc120) rfl rfl (.move rfl) trivial ?_
              rcases andB_cases h with ⟨hc123, h⟩ | ⟨hc123, h⟩
              · refine JD.skip (i := 24) [] rfl (by kernel_rfl) (by kernel_rfl) (by kernel_rfl) (by kernel_rfl) (.off rfl rfl rfl hc123 rfl) rfl rfl trivial ?_
                refine JD.skip (i := 25) [] rfl (by kernel_rfl) (by kernel_rfl) (by kernel_rfl) (by kernel_rfl) (.off rfl rfl rfl hc123 rfl) rfl rfl trivial ?_
                refine JD.skip (i := 26) [] rfl (by kernel_rfl) (by kernel_rfl) (by kernel_rfl) (by kernel_rfl) (.off rfl rfl rfl hc123 rfl) rfl rfl trivial ?_
                refine JD.skip (i := 27) [] rfl (by kernel_rfl) (by kernel_rfl) (by kernel_rfl) (by kernel_rfl) (.off rfl rfl rfl hc123 rfl) rfl rfl trivial ?_
                refine JD.skip (i := 28) [] rfl (by kernel_rfl) (by kernel_rfl) (by kernel_rfl) (by kernel_rfl) (.off rfl rfl rfl hc123 rfl) rfl rfl trivial ?_
                refine JD.skip (i := 29) [] rfl (by kernel_rfl) (by kernel_rfl) (by kernel_rfl) (by kernel_rfl) (.off rfl rfl rfl hc123 rfl) rfl rfl trivial ?_
                refine JD.skip (i := 30) [] rfl (by kernel_rfl) (by kernel_rfl) (by kernel_rfl) (by kernel_rfl) (.off rfl rfl rfl hc123 rfl) rfl rfl trivial ?_
                refine JD.skip (i := 31) [] rfl (by kernel_rfl) (by kernel_rfl) (by kernel_rfl) (by kernel_rfl) (.off rfl rfl rfl hc123 rfl) rfl rfl trivial ?_
                refine JD.skip (i := 32) [] rfl (by kernel_rfl) (by kernel_rfl) (by kernel_rfl) (by kernel_rfl) (.off rfl rfl rfl hc123 rfl) rfl rfl trivial ?_
                refine JD.skip (i := 33) [] rfl (by kernel_rfl) (by kernel_rfl) (by kernel_rfl) (by kernel_rfl) (.off rfl rfl rfl hc123 rfl) rfl rfl trivial ?_
                refine JD.skip (i := 34) [] rfl (by kernel_rfl) (by kernel_rfl) (by kernel_rfl) (by kernel_rfl) (.off rfl rfl rfl hc123 rfl) rfl rfl trivial ?_
                refine JD.skip (i := 35) [] rfl (by kernel_rfl) (by kernel_rfl) (by kernel_rfl) (by kernel_rfl) (.off rfl rfl rfl hc123 rfl) rfl rfl trivial ?_
                refine JD.skip (i := 36) [] rfl (by kernel_rfl) (by kernel_rfl) (by kernel_rfl) (by kernel_rfl) (.off rfl rfl rfl hc123 rfl) rfl rfl trivial ?_
                refine JD.pure_ (i := 37) [] rfl (by kernel_rfl) (by kernel_rfl) (by kernel_rfl) (by kernel_rfl) (.on rfl rfl rfl hc120) rfl rfl (.pickOff rfl hc123 rfl) trivial ?_
                refine JD.pure_ (i := 38) [] rfl (by kernel_rfl) (by kernel_rfl) (by kernel_rfl) (by kernel_rfl) (.none rfl) rfl rfl (.pickOff rfl hc120 rfl) trivial ?_
                refine JD.done (by kernel_rfl) ?_
                exact JX.joinEnd h ⟨rfl, rfl, rfl, rfl, rfl, rfl, rfl, trivial⟩
              · refine JD.pure_ (i := 24) [] rfl (by kernel_rfl) (by kernel_rfl) (by kernel_rfl) (by kernel_rfl) (.on rfl rfl rfl hc123) rfl rfl (.move rfl) trivial ?_
                refine JD.pure_ (i := 25) [] rfl (by kernel_rfl) (by kernel_rfl) (by kernel_rfl) (by kernel_rfl) (.on rfl rfl rfl hc123) rfl rfl (.move rfl) trivial ?_
                refine JD.pure_ (i := 26) [] rfl (by kernel_rfl) (by kernel_rfl) (by kernel_rfl) (by kernel_rfl) (.on rfl rfl rfl hc123) rfl rfl (.sub rfl rfl) trivial ?_
                refine JD.sPure (i := 27) [] rfl (by kernel_rfl) (by kernel_rfl) (by kernel_rfl) (by kernel_rfl) (.on rfl rfl rfl hc123) rfl rfl (.indexAddr rfl rfl) h trivial (fun vp124 h => ?_)
                obtain ⟨p124, rfl, h⟩ := h
                refine JD.pure_ (i := 28) [] rfl (by kernel_rfl) (by kernel_rfl) (by kernel_rfl) (by kernel_rfl) (.on rfl rfl rfl hc123) rfl rfl (.fieldAddr rfl (fa_112_0 _)) trivial ?_
                refine JD.read (i := 29) [] rfl (by kernel_rfl) (by kernel_rfl) (by kernel_rfl) (by kernel_rfl) (.on rfl rfl rfl hc123) rfl rfl (.load rfl) h trivial (fun v125 st126 h => ?_)
                refine JD.pure_ (i := 30) [false] rfl (by kernel_rfl) (by kernel_rfl) (by kernel_rfl) (by kernel_rfl) (.on rfl rfl rfl hc123) rfl rfl (.move rfl) ⟨st126, trivial⟩ ?_
                refine JD.pure_ (i := 31) [false] rfl (by kernel_rfl) (by kernel_rfl) (by kernel_rfl) (by kernel_rfl) (.on rfl rfl rfl hc123) rfl rfl (.move rfl) ⟨st126, trivial⟩ ?_
                refine JD.sPure (i := 32) [false] rfl (by kernel_rfl) (by kernel_rfl) (by kernel_rfl) (by kernel_rfl) (.on rfl rfl rfl hc123) rfl rfl (.indexAddr rfl rfl) h ⟨st126, trivial⟩ (fun vp127 h => ?_)
                obtain ⟨p127, rfl, h⟩ := h
                refine JD.pure_ (i := 33) [false] rfl (by kernel_rfl) (by kernel_rfl) (by kernel_rfl) (by kernel_rfl) (.on rfl rfl rfl hc123) rfl rfl (.fieldAddr rfl (fa_112_0 _)) ⟨st126, trivial⟩ ?_
                refine JD.read (i := 34) [false] rfl (by kernel_rfl) (by kernel_rfl) (by kernel_rfl) (by kernel_rfl) (.on rfl rfl rfl hc123) rfl rfl (.load rfl) h ⟨st126, trivial⟩ (fun v128 st129 h => ?_)
                refine JD.one (j := 35) (by kernel_rfl) ?_
                refine JD1.exC [true, true] rfl (by kernel_rfl) (.on rfl rfl rfl hc123) rfl rfl (.func (vs := [v125, v128]) en_38 rfl) h (fun vx130 w h => ?_)
                obtain ⟨x130, rfl, h⟩ := h
                refine ⟨trivial, ?_⟩
                refine JD.pure_ (i := 36) [] rfl (by kernel_rfl) (by kernel_rfl) (by kernel_rfl) (by kernel_rfl) (.on rfl rfl rfl hc123) rfl rfl (.geq rfl rfl) trivial ?_
                refine JD.pure_ (i := 37) [] rfl (by kernel_rfl) (by kernel_rfl) (by kernel_rfl) (by kernel_rfl) (.on rfl rfl rfl hc120) rfl rfl (.pickOn rfl hc123 rfl) trivial ?_
                refine JD.pure_ (i := 38) [] rfl (by kernel_rfl) (by kernel_rfl) (by kernel_rfl) (by kernel_rfl) (.none rfl) rfl rfl (.pickOff rfl hc120 rfl) trivial ?_
                refine JD.done (by kernel_rfl) ?_
                exact JX.joinEnd h ⟨rfl, rfl, rfl, rfl, rfl, rfl, rfl, trivial⟩
          · refine JD.pure_ (i := 6) [] rfl (by kernel_rfl) (by kernel_rfl) (by kernel_rfl) (by kernel_rfl) (.on rfl rfl rfl hc109) rfl rfl (.move rfl) trivial ?_
            refine JD.pure_ (i := 7) [] rfl (by kernel_rfl) (by kernel_rfl) (by kernel_rfl) (by kernel_rfl) (.on rfl rfl rfl hc109) rfl rfl (.move rfl) trivial ?_
            refine JD.sPure (i := 8) [] rfl (by kernel_rfl) (by kernel_rfl) (by kernel_rfl) (by kernel_rfl) (.on rfl rfl rfl hc109) rfl rfl (.indexAddr rfl rfl) h trivial (fun vp110 h => ?_)
            obtain ⟨p110, rfl, h⟩ := h
            refine JD.pure_ (i := 9) [] rfl (by kernel_rfl) (by kernel_rfl) (by kernel_rfl) (by kernel_rfl) (.on rfl rfl rfl hc109) rfl rfl (.fieldAddr rfl (fa_112_1 _)) trivial ?_
            refine JD.read (i := 10) [] rfl (by kernel_rfl) (by kernel_rfl) (by kernel_rfl) (by kernel_rfl) (.on rfl rfl rfl hc109) rfl rfl (.load rfl) h trivial (fun vx111 st112 h => ?_)
            obtain ⟨x111, rfl, h⟩ := h
            refine JD.pure_ (i := 11) [false] rfl (by kernel_rfl) (by kernel_rfl) (by kernel_rfl) (by kernel_rfl) (.on rfl rfl rfl hc109) rfl rfl (.move rfl) ⟨st112, trivial⟩ ?_
            refine JD.pure_ (i := 12) [false] rfl (by kernel_rfl) (by kernel_rfl) (by kernel_rfl) (by kernel_rfl) (.on rfl rfl rfl hc109) rfl rfl (.move rfl) ⟨st112, trivial⟩ ?_
            refine JD.pure_ (i := 13) [false] rfl (by kernel_rfl) (by kernel_rfl) (by kernel_rfl) (by kernel_rfl) (.on rfl rfl rfl hc109) rfl rfl (.move rfl) ⟨st112, trivial⟩ ?_
            refine JD.sPure (i := 14) [false] rfl (by kernel_rfl) (by kernel_rfl) (by kernel_rfl) (by kernel_rfl) (.on rfl rfl rfl hc109) rfl rfl (.indexAddr rfl rfl) h ⟨st112, trivial⟩ (fun vp113 h => ?_)
            obtain ⟨p113, rfl, h⟩ := h
            refine JD.pure_ (i := 15) [false] rfl (by kernel_rfl) (by kernel_rfl) (by kernel_rfl) (by kernel_rfl) (.on rfl rfl rfl hc109) rfl rfl (.fieldAddr rfl (fa_112_0 _)) ⟨st112, trivial⟩ ?_
            refine JD.read (i := 16) [false] rfl (by kernel_rfl) (by kernel_rfl) (by kernel_rfl) (by kernel_rfl) (.on rfl rfl rfl hc109) rfl rfl (.load rfl) h ⟨st112, trivial⟩ (fun v114 st115 h => ?_)
            refine JD.read (i := 17) [true, false] rfl (by kernel_rfl) (by kernel_rfl) (by kernel_rfl) (by kernel_rfl) (.on rfl rfl rfl hc109) rfl rfl (.lookup rfl rfl) h ⟨st112, trivial⟩ (fun vx116 st117 h => ?_)
            obtain ⟨x116, rfl, h⟩ := h
            refine JD.pure_ (i := 18) [true, true, true] rfl (by kernel_rfl) (by kernel_rfl) (by kernel_rfl) (by kernel_rfl) (.on rfl rfl rfl hc109) rfl rfl (.neq rfl rfl) trivial ?_
            refine JD.pure_ (i := 19) [true, true, true] rfl (by kernel_rfl) (by kernel_rfl) (by kernel_rfl) (by kernel_rfl) (.none rfl) rfl rfl (.pickOff rfl hc109 rfl) trivial ?_
            refine JD.pure_ (i := 20) [true, true, true] rfl (by kernel_rfl) (by kernel_rfl) (by kernel_rfl) (by kernel_rfl) (.none rfl) rfl rfl (.move rfl) trivial ?_
            rcases orB_cases h with ⟨hc120, h⟩ | ⟨hc120, h⟩
            · refine JD.skip (i := 21) [true, true, true] rfl (by kernel_rfl) (by kernel_rfl) (by kernel_rfl) (by kernel_rfl) (.off rfl rfl rfl hc120 rfl) rfl rfl trivial ?_
              refine JD.skip (i := 22) [true, true, true] rfl (by kernel_rfl) (by kernel_rfl) (by kernel_rfl) (by kernel_rfl) (.off rfl rfl rfl hc120 rfl) rfl rfl trivial ?_
              refine JD.skip (i := 23) [true, true, true] rfl (by kernel_rfl) (by kernel_rfl) (by kernel_rfl) (by kernel_rfl) (.off rfl rfl rfl hc120 rfl) rfl rfl trivial ?_
              refine JD.skip (i := 24) [true, true, true] rfl (by kernel_rfl) (by kernel_rfl) (by kernel_rfl) (by kernel_rfl) (.undef rfl rfl rfl) rfl rfl trivial ?_
              refine JD.skip (i := 25) [true, true, true] rfl (by kernel_rfl) (by kernel_rfl) (by kernel_rfl) (by kernel_rfl) (.undef rfl rfl rfl) rfl rfl trivial ?_
              refine JD.skip (i := 26) [true, true, true] rfl (by kernel_rfl) (by kernel_rfl) (by kernel_rfl) (by kernel_rfl) (.undef rfl rfl rfl) rfl rfl trivial ?_
              refine JD.skip (i := 27) [true, true, true] rfl (by kernel_rfl) (by kernel_rfl) (by kernel_rfl) (by kernel_rfl) (.undef rfl rfl rfl) rfl rfl trivial ?_
              refine JD.skip (i := 28) [true, true, true] rfl (by kernel_rfl) (by kernel_rfl) (by kernel_rfl) (by kernel_rfl) (.undef rfl rfl rfl) rfl rfl trivial ?_
              refine JD.skip (i := 29) [true, true, true] rfl (by kernel_rfl) (by kernel_rfl) (by kernel_rfl) (by kernel_rfl) (.undef rfl rfl rfl) rfl rfl trivial ?_
              refine JD.skip (i := 30) [true, true, true] rfl (by kernel_rfl) (by kernel_rfl) (by kernel_rfl) (by kernel_rfl) (.undef rfl rfl rfl) rfl rfl trivial ?_
              refine JD.skip (i := 31) [true, true, true] rfl (by kernel_rfl) (by kernel_rfl) (by kernel_rfl) (by kernel_rfl) (.undef rfl rfl rfl) rfl rfl trivial ?_
              refine JD.skip (i := 32) [true, true, true] rfl (by kernel_rfl) (by kernel_rfl) (by kernel_rfl) (by kernel_rfl) (.undef rfl rfl rfl) rfl rfl trivial ?_
              refine JD.skip (i := 33) [true, true, true] rfl (by kernel_rfl) (by kernel_rfl) (by kernel_rfl) (by kernel_rfl) (.undef rfl rfl rfl) rfl rfl trivial ?_
              refine JD.skip (i := 34) [true, true, true] rfl (by kernel_rfl) (by kernel_rfl) (by kernel_rfl) (by kernel_rfl) (.undef rfl rfl rfl) rfl rfl trivial ?_
              refine JD.skip (i := 35) [true, true, true] rfl (by kernel_rfl) (by kernel_rfl) (by kernel_rfl) (by kernel_rfl) (.undef rfl rfl rfl) rfl rfl trivial ?_
              refine JD.skip (i := 36) [true, true, true] rfl (by kernel_rfl) (by kernel_rfl) (by kernel_rfl) (by kernel_rfl) (.undef rfl rfl rfl) rfl rfl trivial ?_
              refine JD.skip (i := 37) [true, true, true] rfl (by kernel_rfl) (by kernel_rfl) (by kernel_rfl) (by kernel_rfl) (.off rfl rfl rfl hc120 rfl) rfl rfl trivial ?_
              refine JD.pure_ (i := 38) [true, true, true] rfl (by kernel_rfl) (by kernel_rfl) (by kernel_rfl) (by kernel_rfl) (.none rfl) rfl rfl (.pickOn rfl hc120 rfl) trivial ?_
              refine JD.done (by kernel_rfl) ?_
              exact JX.joinEnd h ⟨rfl, rfl, rfl, rfl, rfl, rfl, rfl, trivial⟩
            · refine JD.pure_ (i := 21) [true, true, true] rfl (by kernel_rfl) (by kernel_rfl) (by kernel_rfl) (by kernel_rfl) (.on rfl rfl rfl hc120) rfl rfl (.move rfl) trivial ?_
              refine JD.pure_ (i := 22) [true, true, true] rfl (by kernel_rfl) (by kernel_rfl) (by kernel_rfl) (by kernel_rfl) (.on rfl rfl rfl hc120) rfl rfl (.gtr rfl rfl) trivial ?_
              refine JD.pure_ (i := 23) [true, true, true] rfl (by kernel_rfl) (by kernel_rfl) (by kernel_rfl) (by kernel_rfl) (.on rfl rfl rfl hc120) rfl rfl (.move rfl) trivial ?_
              rcases andB_cases h with ⟨hc123, h⟩ | ⟨hc123, h⟩
              · refine JD.skip (i := 24) [true, true, true] rfl (by kernel_rfl) (by kernel_rfl) (by kernel_rfl) (by kernel_rfl) (.off rfl rfl rfl hc123 rfl) rfl rfl trivial ?_
                refine JD.skip (i := 25) [true, true, true] rfl (by kernel_rfl) (by kernel_rfl) (by kernel_rfl) (by kernel_rfl) (.off rfl rfl rfl hc123 rfl) rfl rfl trivial ?_
                refine JD.skip (i := 26) [true, true, true] rfl (by kernel_rfl) (by kernel_rfl) (by kernel_rfl) (by kernel_rfl) (.off rfl rfl rfl hc123 rfl) rfl rfl trivial ?_
                refine JD.skip (i := 27) [true, true, true] rfl (by kernel_rfl) (by kernel_rfl) (by kernel_rfl) (by kernel_rfl) (.off rfl rfl rfl hc123 rfl) rfl rfl trivial ?_
                refine JD.skip (i := 28) [true, true, true] rfl (by kernel_rfl) (by kernel_rfl) (by kernel_rfl) (by kernel_rfl) (.off rfl rfl rfl hc123 rfl) rfl rfl trivial ?_
                refine JD.skip (i := 29) [true, true, true] rfl (by kernel_rfl) (by kernel_rfl) (by kernel_rfl) (by kernel_rfl) (.off rfl rfl rfl hc123 rfl) rfl rfl trivial ?_
                refine JD.skip (i := 30) [true, true, true] rfl (by kernel_rfl) (by kernel_rfl) (by kernel_rfl) (by kernel_rfl) (.off rfl rfl rfl hc123 rfl) rfl rfl trivial ?_
                refine JD.skip (i := 31) [true, true, true] rfl (by kernel_rfl) (by kernel_rfl) (by kernel_rfl) (by kernel_rfl) (.off rfl rfl rfl hc123 rfl) rfl rfl trivial ?_
                refine JD.skip (i := 32) [true, true, true] rfl (by kernel_rfl) (by kernel_rfl) (by kernel_rfl) (by kernel_rfl) (.off rfl rfl rfl hc123 rfl) rfl rfl trivial ?_
                refine JD.skip (i := 33) [true, true, true] rfl (by kernel_rfl) (by kernel_rfl) (by kernel_rfl) (by kernel_rfl) (.off rfl rfl rfl hc123 rfl) rfl rfl trivial ?_
                refine JD.skip (i := 34) [true, true, true] rfl (by kernel_rfl) (by kernel_rfl) (by kernel_rfl) (by kernel_rfl) (.off rfl rfl rfl hc123 rfl) rfl rfl trivial ?_
                refine JD.skip (i := 35) [true, true, true] rfl (by kernel_rfl) (by kernel_rfl) (by kernel_rfl) (by kernel_rfl) (.off rfl rfl rfl hc123 rfl) rfl rfl trivial ?_
                refine JD.skip (i := 36) [true, true, true] rfl (by kernel_rfl) (by kernel_rfl) (by kernel_rfl) (by kernel_rfl) (.off rfl rfl rfl hc123 rfl) rfl rfl trivial ?_
                refine JD.pure_ (i := 37) [true, true, true] rfl (by kernel_rfl) (by kernel_rfl) (by kernel_rfl) (by kernel_rfl) (.on rfl rfl rfl hc120) rfl rfl (.pickOff rfl hc123 rfl) trivial ?_
                refine JD.pure_ (i := 38) [true, true, true] rfl (by kernel_rfl) (by kernel_rfl) (by kernel_rfl) (by kernel_rfl) (.none rfl) rfl rfl (.pickOff rfl hc120 rfl) trivial ?_
                refine JD.done (by kernel_rfl) ?_
                exact JX.joinEnd h ⟨rfl, rfl, rfl, rfl, rfl, rfl, rfl, trivial⟩
              · refine JD.pure_ (i := 24) [true, true, true] rfl (by kernel_rfl) (by kernel_rfl) (by kernel_rfl) (by kernel_rfl) (.on rfl rfl rfl hc123) rfl rfl (.move rfl) trivial ?_
                refine JD.pure_ (i := 25) [true, true, true] rfl (by kernel_rfl) (by kernel_rfl) (by kernel_rfl) (by kernel_rfl) (.on rfl rfl rfl hc123) rfl rfl (.move rfl) trivial ?_
                refine JD.pure_ (i := 26) [true, true, true] rfl (by kernel_rfl) (by kernel_rfl) (by kernel_rfl) (by kernel_rfl) (.on rfl rfl rfl hc123) rfl rfl (.sub rfl rfl) trivial ?_
                refine JD.sPure (i := 27) [true, true, true] rfl (by kernel_rfl) (by kernel_rfl) (by kernel_rfl) (by kernel_rfl) (.on rfl rfl rfl hc123) rfl rfl (.indexAddr rfl rfl) h trivial (fun vp124 h => ?_)
                obtain ⟨p124, rfl, h⟩ := h
                refine JD.pure_ (i := 28) [true, true, true] rfl (by kernel_rfl) (by kernel_rfl) (by kernel_rfl) (by kernel_rfl) (.on rfl rfl rfl hc123) rfl rfl (.fieldAddr rfl (fa_112_0 _)) trivial ?_
                refine JD.read (i := 29) [true, true, true] rfl (by kernel_rfl) (by kernel_rfl) (by kernel_rfl) (by kernel_rfl) (.on rfl rfl rfl hc123) rfl rfl (.load rfl) h trivial (fun v125 st126 h => ?_)
                refine JD.pure_ (i := 30) [false, true, true, true] rfl (by kernel_rfl) (by kernel_rfl) (by kernel_rfl) (by kernel_rfl) (.on rfl rfl rfl hc123) rfl rfl (.move rfl) ⟨st126, trivial⟩ ?_
                refine JD.pure_ (i := 31) [false, true, true, true] rfl (by kernel_rfl) (by kernel_rfl) (by kernel_rfl) (by kernel_rfl) (.on rfl rfl rfl hc123) rfl rfl (.move rfl) ⟨st126, trivial⟩ ?_
                refine JD.sPure (i := 32) [false, true, true, true] rfl (by kernel_rfl) (by kernel_rfl) (by kernel_rfl) (by kernel_rfl) (.on rfl rfl rfl hc123) rfl rfl (.indexAddr rfl rfl) h ⟨st126, trivial⟩ (fun vp127 h => ?_)
                obtain ⟨p127, rfl, h⟩ := h
                refine JD.pure_ (i := 33) [false, true, true, true] rfl (by kernel_rfl) (by kernel_rfl) (by kernel_rfl) (by kernel_rfl) (.on rfl rfl rfl hc123) rfl rfl (.fieldAddr rfl (fa_112_0 _)) ⟨st126, trivial⟩ ?_
                refine JD.read (i := 34) [false, true, true, true] rfl (by kernel_rfl) (by kernel_rfl) (by kernel_rfl) (by kernel_rfl) (.on rfl rfl rfl hc123) rfl rfl (.load rfl) h ⟨st126, trivial⟩ (fun v128 st129 h => ?_)
                refine JD.one (j := 35) (by kernel_rfl) ?_
                refine JD1.exC [true, true, true, true, true] rfl (by kernel_rfl) (.on rfl rfl rfl hc123) rfl rfl (.func (vs := [v125, v128]) en_38 rfl) h (fun vx130 w h => ?_)
                obtain ⟨x130, rfl, h⟩ := h
                refine ⟨trivial, ?_⟩
                refine JD.pure_ (i := 36) [] rfl (by kernel_rfl) (by kernel_rfl) (by kernel_rfl) (by kernel_rfl) (.on rfl rfl rfl hc123) rfl rfl (.geq rfl rfl) trivial ?_
                refine JD.pure_ (i := 37) [] rfl (by kernel_rfl) (by kernel_rfl) (by kernel_rfl) (by kernel_rfl) (.on rfl rfl rfl hc120) rfl rfl (.pickOn rfl hc123 rfl) trivial ?_
                refine JD.pure_ (i := 38) [] rfl (by kernel_rfl) (by kernel_rfl) (by kernel_rfl) (by kernel_rfl) (.none rfl) rfl rfl (.pickOff rfl hc120 rfl) trivial ?_
                refine JD.done (by kernel_rfl) ?_
                exact JX.joinEnd h ⟨rfl, rfl, rfl, rfl, rfl, rfl, rfl, trivial⟩
      · refine JX.then ?_
        refine J.cond (b := _) rfl h (fun h => ?_) (fun h => ?_)
        · refine J.seq ?_
          refine J.region ?_
          refine JL.exP (.none rfl) rfl rfl (.assign rfl) ?_
          refine JL.nil ?_
          refine JX.then ?_
          refine J.ret ?_
          refine JX.blockRet ?_
          refine JX.thenRet ?_
          refine JX.thenRet ?_
          refine JX.blockRet ?_
          refine JX.thenRet ?_
          exact JX.ret1 rfl rfl h
        · refine J.skip ?_
          refine JX.blockNormal ?_
          refine JX.then ?_
          refine J.region ?_
          refine JL.exP (.none rfl) rfl rfl (.move rfl) ?_
          refine JL.exP (.none rfl) rfl rfl (.add rfl rfl) ?_
          refine JL.exP (.none rfl) rfl rfl (.assign rfl) ?_
          refine JL.nil ?_
          exact JX.loopEnd h ⟨rfl, rfl, rfl, rfl, rfl, rfl, trivial⟩
    · refine J.exit ?_
      refine JX.thenExit ?_
      refine JX.thenExit ?_
      refine JX.blockHere ?_
      refine JX.then ?_
      refine J.seq ?_
      refine J.region ?_
      refine JL.exP (.none rfl) rfl rfl (.move rfl) ?_
      refine JL.sPure (.none rfl) rfl rfl ((.len (vs := [v70]) rfl)) h (fun vx131 w h => ?_)
      obtain ⟨x131, rfl, h⟩ := h
      refine JL.exP (.none rfl) rfl rfl (.move rfl) ?_
      refine JL.exP (.none rfl) rfl rfl (.eql rfl rfl) ?_
      refine JL.exP (.none rfl) rfl rfl (.assign rfl) ?_
      refine JL.nil ?_
      refine JX.then ?_
      refine J.ret ?_
      exact JX.ret1 rfl rfl h

end S
end Go.Cab

