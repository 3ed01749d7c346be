/- A part of the proof: StarveS. -/
import Derived.Test.YtkjcjlcimgcfcaaBase
namespace Go.Cab
set_option linter.unusedSimpArgs false
set_option linter.unusedVariables false
set_option linter.unusedSectionVars false
open Go Go.Proofs
theorem mixed : Try.prog.follows .mixedOrders = true := by kernel_rfl
theorem en_25 : Enters Try.prog 25 := .of Try.func25 rfl (by kernel_rfl)
theorem en_27 : Enters Try.prog 27 := .of Try.func27 rfl (by kernel_rfl)
theorem en_28 : Enters Try.prog 28 := .of Try.func28 rfl (by kernel_rfl)
theorem en_29 : Enters Try.prog 29 := .of Try.func29 rfl (by kernel_rfl)
theorem en_21 : Enters Try.prog 21 := .of Try.func21 rfl (by kernel_rfl)
theorem fa_46_1 (a : Addr) (w : World) : (Instr.fieldAt 46 (.pointer (some a)) 1).run Try.prog w = .ok (.pointer (some (a.add 1))) w := by kernel_rfl
theorem fa_56_0 (a : Addr) (w : World) : (Instr.fieldAt 56 (.pointer (some a)) 0).run Try.prog w = .ok (.pointer (some (a.add 0))) w := by kernel_rfl
theorem fa_54_0 (a : Addr) (w : World) : (Instr.fieldAt 54 (.pointer (some a)) 0).run Try.prog w = .ok (.pointer (some (a.add 0))) w := by kernel_rfl
theorem fa_56_1 (a : Addr) (w : World) : (Instr.fieldAt 56 (.pointer (some a)) 1).run Try.prog w = .ok (.pointer (some (a.add 16))) w := by kernel_rfl
theorem en_22 : Enters Try.prog 22 := .of Try.func22 rfl (by kernel_rfl)
theorem en_23 : Enters Try.prog 23 := .of Try.func23 rfl (by kernel_rfl)
theorem en_49 : Enters Try.prog 49 := .of Try.func49 rfl (by kernel_rfl)
theorem en_48 : Enters Try.prog 48 := .of Try.func48 rfl (by kernel_rfl)
theorem fa_74_0 (a : Addr) (w : World) : (Instr.fieldAt 74 (.pointer (some a)) 0).run Try.prog w = .ok (.pointer (some (a.add 0))) w := by kernel_rfl
theorem fa_46_0 (a : Addr) (w : World) : (Instr.fieldAt 46 (.pointer (some a)) 0).run Try.prog w = .ok (.pointer (some (a.add 0))) w := by kernel_rfl
theorem fa_46_3 (a : Addr) (w : World) : (Instr.fieldAt 46 (.pointer (some a)) 3).run Try.prog w = .ok (.pointer (some (a.add 3))) w := by kernel_rfl
theorem fa_46_4 (a : Addr) (w : World) : (Instr.fieldAt 46 (.pointer (some a)) 4).run Try.prog w = .ok (.pointer (some (a.add 6))) w := by kernel_rfl
theorem en_56 : Enters Try.prog 56 := .of Try.func56 rfl (by kernel_rfl)
theorem en_57 : Enters Try.prog 57 := .of Try.func57 rfl (by kernel_rfl)
theorem en_19 : Enters Try.prog 19 := .of Try.func19 rfl (by kernel_rfl)
theorem fa_44_0 (a : Addr) (w : World) : (Instr.fieldAt 44 (.pointer (some a)) 0).run Try.prog w = .ok (.pointer (some (a.add 0))) w := by kernel_rfl
theorem en_72 : Enters Try.prog 72 := .of Try.func72 rfl (by kernel_rfl)
theorem fa_44_1 (a : Addr) (w : World) : (Instr.fieldAt 44 (.pointer (some a)) 1).run Try.prog w = .ok (.pointer (some (a.add 1))) w := by kernel_rfl
theorem fa_44_2 (a : Addr) (w : World) : (Instr.fieldAt 44 (.pointer (some a)) 2).run Try.prog w = .ok (.pointer (some (a.add 2))) w := by kernel_rfl
theorem en_80 : Enters Try.prog 80 := .of Try.func80 rfl (by kernel_rfl)
theorem en_81 : Enters Try.prog 81 := .of Try.func81 rfl (by kernel_rfl)
theorem fa_40_2 (a : Addr) (w : World) : (Instr.fieldAt 40 (.pointer (some a)) 2).run Try.prog w = .ok (.pointer (some (a.add 2))) w := by kernel_rfl
theorem fa_103_0 (a : Addr) (w : World) : (Instr.fieldAt 103 (.pointer (some a)) 0).run Try.prog w = .ok (.pointer (some (a.add 0))) w := by kernel_rfl
theorem fa_103_2 (a : Addr) (w : World) : (Instr.fieldAt 103 (.pointer (some a)) 2).run Try.prog w = .ok (.pointer (some (a.add 2))) w := by kernel_rfl
theorem en_71 : Enters Try.prog 71 := .of Try.func71 rfl (by kernel_rfl)
theorem fa_40_0 (a : Addr) (w : World) : (Instr.fieldAt 40 (.pointer (some a)) 0).run Try.prog w = .ok (.pointer (some (a.add 0))) w := by kernel_rfl
theorem fa_40_1 (a : Addr) (w : World) : (Instr.fieldAt 40 (.pointer (some a)) 1).run Try.prog w = .ok (.pointer (some (a.add 1))) w := by kernel_rfl
theorem en_106 : Enters Try.prog 106 := .of Try.func106 rfl (by kernel_rfl)
theorem en_107 : Enters Try.prog 107 := .of Try.func107 rfl (by kernel_rfl)
theorem fa_105_0 (a : Addr) (w : World) : (Instr.fieldAt 105 (.pointer (some a)) 0).run Try.prog w = .ok (.pointer (some (a.add 0))) w := by kernel_rfl
theorem fa_105_1 (a : Addr) (w : World) : (Instr.fieldAt 105 (.pointer (some a)) 1).run Try.prog w = .ok (.pointer (some (a.add 1))) w := by kernel_rfl
theorem en_99 : Enters Try.prog 99 := .of Try.func99 rfl (by kernel_rfl)
theorem fa_103_1 (a : Addr) (w : World) : (Instr.fieldAt 103 (.pointer (some a)) 1).run Try.prog w = .ok (.pointer (some (a.add 1))) w := by kernel_rfl
namespace S
/-- cabstand/cabstandlaw21.FairStarves -/
def law21_FairStarves (a0 : Value) (K : Value → WP) : WP :=
  callH Try.prog 25 #[] fun v1 =>
  pureV Try.prog (Instr.build 74 #[]) fun v2 =>
  semA Try.prog (Instr.box 74 v2) fun p3 =>
  pureB Try.prog (eqM .eql 61 (.tmp 15) (.const (.pointer none)) v1 (.pointer none)) fun b4 =>
  iteH b4 (
    K (.bool false)) (
    pureI Try.prog .i64 (Builtin.len_ #[48] 3 #[a0]) fun x5 =>
    iteH (decide (200 < x5)) (
      K (.bool true)) (
      semV Try.prog (Instr.makeMap 62 none) fun v6 =>
      loopH (σ := Bool × Int × Int) (fun kc8 s7 =>
        pureI Try.prog .i64 (Builtin.len_ #[48] 3 #[a0]) fun x9 =>
        iteH (decide (s7.2.2 < x9)) (
          pureA Try.prog (Instr.indexAt 48 a0 (.int .i64 s7.2.2)) fun p10 =>
          semV Try.prog (loadVar 46 p10) fun v11 =>
          semA Try.prog (Instr.alloc 46 true (.tuple #[])) fun p12 =>
          semU Try.prog (storeVar 46 p12 v11) <|
          joinH (α := Bool) (fun y13 =>
            iteH y13 (
              callB Try.prog 21 #[] fun b36 =>
              K (.bool b36)) (
              loopH (σ := Bool × Int) (fun kc38 s37 =>
                semV Try.prog (loadVar 36 (p12.add 1)) fun v39 =>
                pureI Try.prog .i64 (Builtin.len_ #[36] 3 #[v39]) fun x40 =>
                iteH (decide (s37.2 < x40)) (
                  semV Try.prog (loadVar 36 (p12.add 1)) fun v41 =>
                  pureA Try.prog (Instr.indexAt 36 v41 (.int .i64 s37.2)) fun p42 =>
                  semV Try.prog (loadVar 28 ((p42.add 0).add 0)) fun v43 =>
                  semV Try.prog (Instr.lookup 62 v6 v43 true) fun v44 =>
                  pureI Try.prog .i64 (Instr.extract v44 0) fun x45 =>
                  pureB Try.prog (Instr.extract v44 1) fun b46 =>
                  joinH (α := Bool) (fun y47 =>
                    iteH y47 (
                      callB Try.prog 21 #[] fun b55 =>
                      K (.bool b55)) (
                      drawH <|
                      readV Try.prog (loadVar 36 (p12.add 1)) fun v56 =>
                      pureA Try.prog (Instr.indexAt 36 v56 (.int .i64 s37.2)) fun p58 =>
                      readV Try.prog (loadVar 28 ((p58.add 0).add 0)) fun v59 =>
                      readV Try.prog (loadVar 36 (p12.add 1)) fun v61 =>
                      pureA Try.prog (Instr.indexAt 36 v61 (.int .i64 s37.2)) fun p63 =>
                      readI Try.prog .i64 (loadVar 3 (p63.add 16)) fun x64 =>
                      semU Try.prog (Instr.mapUpdate 62 v6 v59 (.int .i64 x64)) <|
                      kc38 (s37.1, (IntKind.i64.wrap (s37.2 + 1))))) fun k48 =>
                    andB b46 (fun k50 =>
                      semV Try.prog (loadVar 36 (p12.add 1)) fun v52 =>
                      pureA Try.prog (Instr.indexAt 36 v52 (.int .i64 s37.2)) fun p53 =>
                      semI Try.prog .i64 (loadVar 3 (p53.add 16)) fun x54 =>
                      k50 ((x45 : Int) != x54)) fun b49 =>
                    k48 b49) (
                  semV Try.prog (loadVar 36 (p12.add 1)) fun v66 =>
                  pureI Try.prog .i64 (Builtin.len_ #[36] 3 #[v66]) fun x67 =>
                  joinH (α := Int) (fun y68 =>
                    semV Try.prog (loadVar 46 p12) fun v72 =>
                    callI Try.prog 22 #[v1, v72] .i64 fun x73 =>
                    iteH ((x73 : Int) != 0) (
                      K (.bool false)) (
                      kc8 (s37.1, y68, (IntKind.i64.wrap (s7.2.2 + 1))))) fun k69 =>
                    iteH (decide (s7.2.1 < x67)) (
                      semV Try.prog (loadVar 36 (p12.add 1)) fun v70 =>
                      pureI Try.prog .i64 (Builtin.len_ #[36] 3 #[v70]) fun x71 =>
                      k69 x71) (
                      k69 s7.2.1))) (s7.1, 0))) fun k14 =>
            drawH <|
            readV Try.prog (loadVar 46 p12) fun v15 =>
            callI Try.prog 27 #[(.pointer (some p3)), v15] .i64 fun x17 =>
            orB ((x17 : Int) != 0) (fun k19 =>
              readV Try.prog (loadVar 46 p12) fun v21 =>
              callB Try.prog 28 #[v21] fun b23 =>
              k19 (!b23)) fun b18 =>
            orB b18 (fun k25 =>
              andB (decide (0 < s7.2.2)) (fun k28 =>
                pureA Try.prog (Instr.indexAt 48 a0 (.int .i64 (IntKind.i64.wrap (s7.2.2 - 1)))) fun p30 =>
                readV Try.prog (loadVar 46 p30) fun v31 =>
                readV Try.prog (loadVar 46 p12) fun v33 =>
                callB Try.prog 29 #[v31, v33] fun b35 =>
                k28 (!b35)) fun b27 =>
              k25 b27) fun b24 =>
            k14 b24) (
          joinH (α := Bool) (fun y74 =>
            K (.bool y74)) fun k75 =>
            callI Try.prog 23 #[v1] .i64 fun x76 =>
            orB (decide (x76 < s7.2.1)) (fun k78 =>
              callI Try.prog 23 #[v1] .i64 fun x80 =>
              k78 ((x80 : Int) == 0)) fun b77 =>
            andB b77 (fun k82 =>
              callB Try.prog 21 #[] fun b84 =>
              k82 b84) fun b81 =>
            k75 b81)) (false, 0, 0)))
set_option maxRecDepth 100000 in
set_option maxHeartbeats 1000000 in
theorem law21_FairStarves_ok {a0 : Value} {K : Value → WP} {w : World} (h : law21_FairStarves a0 K w) : callH Try.prog 7 #[a0] K w := by
  refine enter (l := [a0]) Try.func7 rfl rfl rfl ?_
  show J Try.prog 124 [(0, a0)] _ _ _
  unfold law21_FairStarves at h
  refine J.seq ?_
  refine J.region ?_
  refine JL.exP (.none rfl) rfl rfl (.assign rfl) ?_
  refine JL.nil ?_
  refine JX.then ?_
  refine J.seq ?_
  refine J.region ?_
  refine JL.exC (.none rfl) rfl rfl (.func (vs := []) en_25 rfl) h (fun v1 w h => ?_)
  refine JL.exP (.none rfl) rfl rfl (.assign rfl) ?_
  refine JL.nil ?_
  refine JX.then ?_
  refine J.seq ?_
  refine J.region ?_
  refine JL.sPure (.none rfl) rfl rfl ((.build (l' := []) rfl)) h (fun v2 w h => ?_)
  refine JL.exV (.none rfl) rfl rfl (.box rfl) h (fun vp3 w h => ?_)
  obtain ⟨p3, rfl, h⟩ := h
  refine JL.exP (.none rfl) rfl rfl (.assign rfl) ?_
  refine JL.nil ?_
  refine JX.then ?_
  refine J.seq ?_
  refine J.seq ?_
  refine J.region ?_
  refine JL.exP (.none rfl) rfl rfl (.move rfl) ?_
  refine JL.sPure (.none rfl) rfl rfl (.binOp rfl rfl) h (fun vb4 w h => ?_)
  obtain ⟨b4, rfl, h⟩ := h
  refine JL.nil ?_
  refine JX.then ?_
  refine J.cond (b := _) rfl h (fun h => ?_) (fun h => ?_)
  · refine J.seq ?_
    refine J.region ?_
    refine JL.exP (.none rfl) rfl rfl (.assign rfl) ?_
    refine JL.nil ?_
    refine JX.then ?_
    refine J.ret ?_
    refine JX.thenRet ?_
    exact JX.ret1 rfl rfl h
  · refine J.skip ?_
    refine JX.then ?_
    refine J.seq ?_
    refine J.seq ?_
    refine J.region ?_
    refine JL.exP (.none rfl) rfl rfl (.move rfl) ?_
    refine JL.sPure (.none rfl) rfl rfl ((.len (vs := [a0]) rfl)) h (fun vx5 w h => ?_)
    obtain ⟨x5, rfl, h⟩ := h
    refine JL.exP (.none rfl) rfl rfl (.gtr rfl rfl) ?_
    refine JL.nil ?_
    refine JX.then ?_
    refine J.cond (b := _) rfl h (fun h => ?_) (fun h => ?_)
    · refine J.seq ?_
      refine J.region ?_
      refine JL.exP (.none rfl) rfl rfl (.assign rfl) ?_
      refine JL.nil ?_
      refine JX.then ?_
      refine J.ret ?_
      refine JX.thenRet ?_
      exact JX.ret1 rfl rfl h
    · refine J.skip ?_
      refine JX.then ?_
      refine J.seq ?_
      refine J.region ?_
      refine JL.exV (.none rfl) rfl rfl (.makeMap) h (fun v6 w h => ?_)
      refine JL.exP (.none rfl) rfl rfl (.assign rfl) ?_
      refine JL.nil ?_
      refine JX.then ?_
      refine J.seq ?_
      refine J.region ?_
      refine JL.exP (.none rfl) rfl rfl (.assign rfl) ?_
      refine JL.nil ?_
      refine JX.then ?_
      refine J.seq ?_
      refine J.seq ?_
      refine J.region ?_
      refine JL.exP (.none rfl) rfl rfl (.assign rfl) ?_
      refine JL.nil ?_
      refine JX.then ?_
      refine J.block ?_
      refine J.loop h (fun s7 => [(0, a0), (2, (.bool s7.1)), (3, v1), (4, (.pointer (some p3))), (5, v6), (6, (.int .i64 s7.2.1)), (7, (.int .i64 s7.2.2))]) ⟨rfl, rfl, rfl, rfl, rfl, rfl, rfl, trivial⟩ (fun I μ s7 w h => ?_)
      refine J.seq ?_
      refine J.seq ?_
      refine J.region ?_
      refine JL.exP (.none rfl) rfl rfl (.move rfl) ?_
      refine JL.exP (.none rfl) rfl rfl (.move rfl) ?_
      refine JL.sPure (.none rfl) rfl rfl ((.len (vs := [a0]) rfl)) h (fun vx9 w h => ?_)
      obtain ⟨x9, rfl, h⟩ := h
      refine JL.exP (.none rfl) rfl rfl (.lss rfl rfl) ?_
      refine JL.nil ?_
      refine JX.then ?_
      refine J.cond (b := _) rfl h (fun h => ?_) (fun h => ?_)
      · refine J.skip ?_
        refine JX.then ?_
        refine J.seq ?_
        refine J.block ?_
        refine J.seq ?_
        refine J.region ?_
        refine JL.exP (.none rfl) rfl rfl (.move rfl) ?_
        refine JL.exP (.none rfl) rfl rfl (.move rfl) ?_
        refine JL.sPure (.none rfl) rfl rfl (.indexAddr rfl rfl) h (fun vp10 w h => ?_)
        obtain ⟨p10, rfl, h⟩ := h
        refine JL.exV (.none rfl) rfl rfl (.load rfl) h (fun v11 w h => ?_)
        refine JL.exV (.none rfl) rfl rfl (.alloc) h (fun vp12 w h => ?_)
        obtain ⟨p12, rfl, h⟩ := h
        refine JL.exU (.none rfl) rfl (.store rfl rfl) h (fun w h => ?_)
        refine JL.nil ?_
        refine JX.then ?_
        refine J.seq ?_
        refine J.seq ?_
        refine J.join h (fun y13 => [(0, a0), (2, (.bool s7.1)), (3, v1), (4, (.pointer (some p3))), (5, v6), (6, (.int .i64 s7.2.1)), (7, (.int .i64 s7.2.2)), (8, (.pointer (some p12))), (53, (.bool y13))]) (fun k14 w h => ?_) (fun y13 w h => ?_)
        · refine J.draw [[], [], [0, 1], [0, 1, 2], [0, 1, 2, 3], [0, 1, 2, 3, 4], [0, 1, 2, 3, 4, 5], [0, 1, 2, 3, 4, 5, 6], [0, 1, 2, 3, 4, 5, 6, 7], [0, 1, 2, 3, 4, 5, 6, 7, 8], [0, 1, 2, 3, 4, 5, 6, 7, 8, 9], [0, 1, 2, 3, 4, 5, 6, 7, 8, 9, 10], [0, 1, 2, 3, 4, 5, 6, 7, 8, 9, 10, 11], [0, 1, 2, 3, 4, 5, 6, 7, 8, 9, 10, 11, 12], [0, 1, 2, 3, 4, 5, 6, 7, 8, 9, 10, 11, 12], [0, 1, 2, 3, 4, 5, 6, 7, 8, 9, 10, 11, 12, 14], [0, 1, 2, 3, 4, 5, 6, 7, 8, 9, 10, 11, 12, 13, 14, 15], [0, 1, 2, 3, 4, 5, 6, 7, 8, 9, 10, 11, 12, 13, 14, 15, 16], [0, 1, 2, 3, 4, 5, 6, 7, 8, 9, 10, 11, 12], [0, 1, 2, 3, 4, 5, 6, 7, 8, 9, 10, 11, 12, 13, 14, 15, 16, 17, 18], [0, 1, 2, 3, 4, 5, 6, 7, 8, 9, 10, 11, 12, 13, 14, 15, 16, 17, 18, 19], [0, 1, 2, 3, 4, 5, 6, 7, 8, 9, 10, 11, 12, 13, 14, 15, 16, 17, 18, 19, 20], [0, 1, 2, 3, 4, 5, 6, 7, 8, 9, 10, 11, 12, 13, 14, 15, 16, 17, 18, 19, 20, 21]] (by kernel_rfl) mixed h (fun w h => ?_)
          refine JD.pure_ (i := 0) [] rfl (by kernel_rfl) (by kernel_rfl) (by kernel_rfl) (by kernel_rfl) (.none rfl) rfl rfl (.move rfl) trivial ?_
          refine JD.read (i := 1) [] rfl (by kernel_rfl) (by kernel_rfl) (by kernel_rfl) (by kernel_rfl) (.none rfl) rfl rfl (.load rfl) h trivial (fun v15 st16 h => ?_)
          refine JD.one (j := 2) (by kernel_rfl) ?_
          refine JD1.exC [true] rfl (by kernel_rfl) (.none rfl) rfl rfl (.func (vs := [(.pointer (some p3)), v15]) en_27 rfl) h (fun vx17 w h => ?_)
          obtain ⟨x17, rfl, h⟩ := h
          refine ⟨trivial, ?_⟩
          refine JD.pure_ (i := 3) [] rfl (by kernel_rfl) (by kernel_rfl) (by kernel_rfl) (by kernel_rfl) (.none rfl) rfl rfl (.neq rfl rfl) trivial ?_
          refine JD.pure_ (i := 4) [] rfl (by kernel_rfl) (by kernel_rfl) (by kernel_rfl) (by kernel_rfl) (.none rfl) rfl rfl (.move rfl) trivial ?_
          rcases orB_cases h with ⟨hc20, h⟩ | ⟨hc20, h⟩
          · refine JD.skip (i := 5) [] rfl (by kernel_rfl) (by kernel_rfl) (by kernel_rfl) (by kernel_rfl) (.off rfl rfl rfl hc20 rfl) rfl rfl trivial ?_
            refine JD.skip (i := 6) [] rfl (by kernel_rfl) (by kernel_rfl) (by kernel_rfl) (by kernel_rfl) (.off rfl rfl rfl hc20 rfl) rfl rfl trivial ?_
            refine JD.skip (i := 7) [] rfl (by kernel_rfl) (by kernel_rfl) (by kernel_rfl) (by kernel_rfl) (.off rfl rfl rfl hc20 rfl) rfl rfl trivial ?_
            refine JD.pure_ (i := 8) [] rfl (by kernel_rfl) (by kernel_rfl) (by kernel_rfl) (by kernel_rfl) (.none rfl) rfl rfl (.pickOn rfl hc20 rfl) trivial ?_
            refine JD.pure_ (i := 9) [] rfl (by kernel_rfl) (by kernel_rfl) (by kernel_rfl) (by kernel_rfl) (.none rfl) rfl rfl (.move rfl) trivial ?_
            rcases orB_cases h with ⟨hc26, h⟩ | ⟨hc26, h⟩
            · refine JD.skip (i := 10) [] rfl (by kernel_rfl) (by kernel_rfl) (by kernel_rfl) (by kernel_rfl) (.off rfl rfl rfl hc26 rfl) rfl rfl trivial ?_
              refine JD.skip (i := 11) [] rfl (by kernel_rfl) (by kernel_rfl) (by kernel_rfl) (by kernel_rfl) (.off rfl rfl rfl hc26 rfl) rfl rfl trivial ?_
              refine JD.skip (i := 12) [] rfl (by kernel_rfl) (by kernel_rfl) (by kernel_rfl) (by kernel_rfl) (.off rfl rfl rfl hc26 rfl) rfl rfl trivial ?_
              refine JD.skip (i := 13) [] rfl (by kernel_rfl) (by kernel_rfl) (by kernel_rfl) (by kernel_rfl) (.undef rfl rfl rfl) rfl rfl trivial ?_
              refine JD.skip (i := 14) [] rfl (by kernel_rfl) (by kernel_rfl) (by kernel_rfl) (by kernel_rfl) (.undef rfl rfl rfl) rfl rfl trivial ?_
              refine JD.skip (i := 15) [] rfl (by kernel_rfl) (by kernel_rfl) (by kernel_rfl) (by kernel_rfl) (.undef rfl rfl rfl) rfl rfl trivial ?_
              refine JD.skip (i := 16) [] rfl (by kernel_rfl) (by kernel_rfl) (by kernel_rfl) (by kernel_rfl) (.undef rfl rfl rfl) rfl rfl trivial ?_
              refine JD.skip (i := 17) [] rfl (by kernel_rfl) (by kernel_rfl) (by kernel_rfl) (by kernel_rfl) (.undef rfl rfl rfl) rfl rfl trivial ?_
              refine JD.skip (i := 18) [] rfl (by kernel_rfl) (by kernel_rfl) (by kernel_rfl) (by kernel_rfl) (.undef rfl rfl rfl) rfl rfl trivial ?_
              refine JD.skip (i := 19) [] rfl (by kernel_rfl) (by kernel_rfl) (by kernel_rfl) (by kernel_rfl) (.undef rfl rfl rfl) rfl rfl trivial ?_
              refine JD.skip (i := 20) [] rfl (by kernel_rfl) (by kernel_rfl) (by kernel_rfl) (by kernel_rfl) (.undef rfl rfl rfl) rfl rfl trivial ?_
              refine JD.skip (i := 21) [] rfl (by kernel_rfl) (by kernel_rfl) (by kernel_rfl) (by kernel_rfl) (.off rfl rfl rfl hc26 rfl) rfl rfl trivial ?_
              refine JD.pure_ (i := 22) [] rfl (by kernel_rfl) (by kernel_rfl) (by kernel_rfl) (by kernel_rfl) (.none rfl) rfl rfl (.pickOn rfl hc26 rfl) trivial ?_
              refine JD.done (by kernel_rfl) ?_
              exact JX.joinEnd h ⟨rfl, rfl, rfl, rfl, rfl, rfl, rfl, rfl, rfl, trivial⟩
            · refine JD.pure_ (i := 10) [] rfl (by kernel_rfl) (by kernel_rfl) (by kernel_rfl) (by kernel_rfl) (.on rfl rfl rfl hc26) rfl rfl (.move rfl) trivial ?_
              refine JD.pure_ (i := 11) [] rfl (by kernel_rfl) (by kernel_rfl) (by kernel_rfl) (by kernel_rfl) (.on rfl rfl rfl hc26) rfl rfl (.gtr rfl rfl) trivial ?_
              refine JD.pure_ (i := 12) [] rfl (by kernel_rfl) (by kernel_rfl) (by kernel_rfl) (by kernel_rfl) (.on rfl rfl rfl hc26) rfl rfl (.move rfl) trivial ?_
              rcases andB_cases h with ⟨hc29, h⟩ | ⟨hc29, h⟩
              · refine JD.skip (i := 13) [] rfl (by kernel_rfl) (by kernel_rfl) (by kernel_rfl) (by kernel_rfl) (.off rfl rfl rfl hc29 rfl) rfl rfl trivial ?_
                refine JD.skip (i := 14) [] rfl (by kernel_rfl) (by kernel_rfl) (by kernel_rfl) (by kernel_rfl) (.off rfl rfl rfl hc29 rfl) rfl rfl trivial ?_
                refine JD.skip (i := 15) [] rfl (by kernel_rfl) (by kernel_rfl) (by kernel_rfl) (by kernel_rfl) (.off rfl rfl rfl hc29 rfl) rfl rfl trivial ?_
                refine JD.skip (i := 16) [] rfl (by kernel_rfl) (by kernel_rfl) (by kernel_rfl) (by kernel_rfl) (.off rfl rfl rfl hc29 rfl) rfl rfl trivial ?_
                refine JD.skip (i := 17) [] rfl (by kernel_rfl) (by kernel_rfl) (by kernel_rfl) (by kernel_rfl) (.off rfl rfl rfl hc29 rfl) rfl rfl trivial ?_
                refine JD.skip (i := 18) [] rfl (by kernel_rfl) (by kernel_rfl) (by kernel_rfl) (by kernel_rfl) (.off rfl rfl rfl hc29 rfl) rfl rfl trivial ?_
                refine JD.skip (i := 19) [] rfl (by kernel_rfl) (by kernel_rfl) (by kernel_rfl) (by kernel_rfl) (.off rfl rfl rfl hc29 rfl) rfl rfl trivial ?_
                refine JD.skip (i := 20) [] rfl (by kernel_rfl) (by kernel_rfl) (by kernel_rfl) (by kernel_rfl) (.off rfl rfl rfl hc29 rfl) rfl rfl trivial ?_
                refine JD.pure_ (i := 21) [] rfl (by kernel_rfl) (by kernel_rfl) (by kernel_rfl) (by kernel_rfl) (.on rfl rfl rfl hc26) rfl rfl (.pickOff rfl hc29 rfl) trivial ?_
                refine JD.pure_ (i := 22) [] rfl (by kernel_rfl) (by kernel_rfl) (by kernel_rfl) (by kernel_rfl) (.none rfl) rfl rfl (.pickOff rfl hc26 rfl) trivial ?_
                refine JD.done (by kernel_rfl) ?_
                exact JX.joinEnd h ⟨rfl, rfl, rfl, rfl, rfl, rfl, rfl, rfl, rfl, trivial⟩
              · refine JD.pure_ (i := 13) [] rfl (by kernel_rfl) (by kernel_rfl) (by kernel_rfl) (by kernel_rfl) (.on rfl rfl rfl hc29) rfl rfl (.move rfl) trivial ?_
                refine JD.pure_ (i := 14) [] rfl (by kernel_rfl) (by kernel_rfl) (by kernel_rfl) (by kernel_rfl) (.on rfl rfl rfl hc29) rfl rfl (.move rfl) trivial ?_
                refine JD.pure_ (i := 15) [] rfl (by kernel_rfl) (by kernel_rfl) (by kernel_rfl) (by kernel_rfl) (.on rfl rfl rfl hc29) rfl rfl (.sub rfl rfl) trivial ?_
                refine JD.sPure (i := 16) [] rfl (by kernel_rfl) (by kernel_rfl) (by kernel_rfl) (by kernel_rfl) (.on rfl rfl rfl hc29) rfl rfl (.indexAddr rfl rfl) h trivial (fun vp30 h => ?_)
                obtain ⟨p30, rfl, h⟩ := h
                refine JD.read (i := 17) [] rfl (by kernel_rfl) (by kernel_rfl) (by kernel_rfl) (by kernel_rfl) (.on rfl rfl rfl hc29) rfl rfl (.load rfl) h trivial (fun v31 st32 h => ?_)
                refine JD.read (i := 18) [false] rfl (by kernel_rfl) (by kernel_rfl) (by kernel_rfl) (by kernel_rfl) (.on rfl rfl rfl hc29) rfl rfl (.load rfl) h ⟨st32, trivial⟩ (fun v33 st34 h => ?_)
                refine JD.one (j := 19) (by kernel_rfl) ?_
                refine JD1.exC [true, true] rfl (by kernel_rfl) (.on rfl rfl rfl hc29) rfl rfl (.func (vs := [v31, v33]) en_29 rfl) h (fun vb35 w h => ?_)
                obtain ⟨b35, rfl, h⟩ := h
                refine ⟨trivial, ?_⟩
                refine JD.pure_ (i := 20) [] rfl (by kernel_rfl) (by kernel_rfl) (by kernel_rfl) (by kernel_rfl) (.on rfl rfl rfl hc29) rfl rfl (.not rfl) trivial ?_
                refine JD.pure_ (i := 21) [] rfl (by kernel_rfl) (by kernel_rfl) (by kernel_rfl) (by kernel_rfl) (.on rfl rfl rfl hc26) rfl rfl (.pickOn rfl hc29 rfl) trivial ?_
                refine JD.pure_ (i := 22) [] rfl (by kernel_rfl) (by kernel_rfl) (by kernel_rfl) (by kernel_rfl) (.none rfl) rfl rfl (.pickOff rfl hc26 rfl) trivial ?_
                refine JD.done (by kernel_rfl) ?_
                exact JX.joinEnd h ⟨rfl, rfl, rfl, rfl, rfl, rfl, rfl, rfl, rfl, trivial⟩
          · refine JD.read (i := 5) [] rfl (by kernel_rfl) (by kernel_rfl) (by kernel_rfl) (by kernel_rfl) (.on rfl rfl rfl hc20) rfl rfl (.load rfl) h trivial (fun v21 st22 h => ?_)
            refine JD.one (j := 6) (by kernel_rfl) ?_
            refine JD1.exC [true] rfl (by kernel_rfl) (.on rfl rfl rfl hc20) rfl rfl (.func (vs := [v21]) en_28 rfl) h (fun vb23 w h => ?_)
            obtain ⟨b23, rfl, h⟩ := h
            refine ⟨trivial, ?_⟩
            refine JD.pure_ (i := 7) [] rfl (by kernel_rfl) (by kernel_rfl) (by kernel_rfl) (by kernel_rfl) (.on rfl rfl rfl hc20) rfl rfl (.not rfl) trivial ?_
            refine JD.pure_ (i := 8) [] rfl (by kernel_rfl) (by kernel_rfl) (by kernel_rfl) (by kernel_rfl) (.none rfl) rfl rfl (.pickOff rfl hc20 rfl) trivial ?_
            refine JD.pure_ (i := 9) [] rfl (by kernel_rfl) (by kernel_rfl) (by kernel_rfl) (by kernel_rfl) (.none rfl) rfl rfl (.move rfl) trivial ?_
            rcases orB_cases h with ⟨hc26, h⟩ | ⟨hc26, h⟩
            · refine JD.skip (i := 10) [] rfl (by kernel_rfl) (by kernel_rfl) (by kernel_rfl) (by kernel_rfl) (.off rfl rfl rfl hc26 rfl) rfl rfl trivial ?_
              refine JD.skip (i := 11) [] rfl (by kernel_rfl) (by kernel_rfl) (by kernel_rfl) (by kernel_rfl) (.off rfl rfl rfl hc26 rfl) rfl rfl trivial ?_
              refine JD.skip (i := 12) [] rfl (by kernel_rfl) (by kernel_rfl) (by kernel_rfl) (by kernel_rfl) (.off rfl rfl rfl hc26 rfl) rfl rfl trivial ?_
              refine JD.skip (i := 13) [] rfl (by kernel_rfl) (by kernel_rfl) (by kernel_rfl) (by kernel_rfl) (.undef rfl rfl rfl) rfl rfl trivial ?_
              refine JD.skip (i := 14) [] rfl (by kernel_rfl) (by kernel_rfl) (by kernel_rfl) (by kernel_rfl) (.undef rfl rfl rfl) rfl rfl trivial ?_
              refine JD.skip (i := 15) [] rfl (by kernel_rfl) (by kernel_rfl) (by kernel_rfl) (by kernel_rfl) (.undef rfl rfl rfl) rfl rfl trivial ?_
              refine JD.skip (i := 16) [] rfl (by kernel_rfl) (by kernel_rfl) (by kernel_rfl) (by kernel_rfl) (.undef rfl rfl rfl) rfl rfl trivial ?_
              refine JD.skip (i := 17) [] rfl (by kernel_rfl) (by kernel_rfl) (by kernel_rfl) (by kernel_rfl) (.undef rfl rfl rfl) rfl rfl trivial ?_
              refine JD.skip (i := 18) [] rfl (by kernel_rfl) (by kernel_rfl) (by kernel_rfl) (by kernel_rfl) (.undef rfl rfl rfl) rfl rfl trivial ?_
              refine JD.skip (i := 19) [] rfl (by kernel_rfl) (by kernel_rfl) (by kernel_rfl) (by kernel_rfl) (.undef rfl rfl rfl) rfl rfl trivial ?_
              refine JD.skip (i := 20) [] rfl (by kernel_rfl) (by kernel_rfl) (by kernel_rfl) (by kernel_rfl) (.undef rfl rfl rfl) rfl rfl trivial ?_
              refine JD.skip (i := 21) [] rfl (by kernel_rfl) (by kernel_rfl) (by kernel_rfl) (by kernel_rfl) (.off rfl rfl rfl hc26 rfl) rfl rfl trivial ?_
              refine JD.pure_ (i := 22) [] rfl (by kernel_rfl) (by kernel_rfl) (by kernel_rfl) (by kernel_rfl) (.none rfl) rfl rfl (.pickOn rfl hc26 rfl) trivial ?_
              refine JD.done (by kernel_rfl) ?_
              exact JX.joinEnd h ⟨rfl, rfl, rfl, rfl, rfl, rfl, rfl, rfl, rfl, trivial⟩
            · refine JD.pure_ (i := 10) [] rfl (by kernel_rfl) (by kernel_rfl) (by kernel_rfl) (by kernel_rfl) (.on rfl rfl rfl hc26) rfl rfl (.move rfl) trivial ?_
              refine JD.pure_ (i := 11) [] rfl (by kernel_rfl) (by kernel_rfl) (by kernel_rfl) (by kernel_rfl) (.on rfl rfl rfl hc26) rfl rfl (.gtr rfl rfl) trivial ?_
              refine JD.pure_ (i := 12) [] rfl (by kernel_rfl) (by kernel_rfl) (by kernel_rfl) (by kernel_rfl) (.on rfl rfl rfl hc26) rfl rfl (.move rfl) trivial ?_
              rcases andB_cases h with ⟨hc29, h⟩ | ⟨hc29, h⟩
              · refine JD.skip (i := 13) [] rfl (by kernel_rfl) (by kernel_rfl) (by kernel_rfl) (by kernel_rfl) (.off rfl rfl rfl hc29 rfl) rfl rfl trivial ?_
                refine JD.skip (i := 14) [] rfl (by kernel_rfl) (by kernel_rfl) (by kernel_rfl) (by kernel_rfl) (.off rfl rfl rfl hc29 rfl) rfl rfl trivial ?_
                refine JD.skip (i := 15) [] rfl (by kernel_rfl) (by kernel_rfl) (by kernel_rfl) (by kernel_rfl) (.off rfl rfl rfl hc29 rfl) rfl rfl trivial ?_
                refine JD.skip (i := 16) [] rfl (by kernel_rfl) (by kernel_rfl) (by kernel_rfl) (by kernel_rfl) (.off rfl rfl rfl hc29 rfl) rfl rfl trivial ?_
                refine JD.skip (i := 17) [] rfl (by kernel_rfl) (by kernel_rfl) (by kernel_rfl) (by kernel_rfl) (.off rfl rfl rfl hc29 rfl) rfl rfl trivial ?_
                refine JD.skip (i := 18) [] rfl (by kernel_rfl) (by kernel_rfl) (by kernel_rfl) (by kernel_rfl) (.off rfl rfl rfl hc29 rfl) rfl rfl trivial ?_
                refine JD.skip (i := 19) [] rfl (by kernel_rfl) (by kernel_rfl) (by kernel_rfl) (by kernel_rfl) (.off rfl rfl rfl hc29 rfl) rfl rfl trivial ?_
                refine JD.skip (i := 20) [] rfl (by kernel_rfl) (by kernel_rfl) (by kernel_rfl) (by kernel_rfl) (.off rfl rfl rfl hc29 rfl) rfl rfl trivial ?_
                refine JD.pure_ (i := 21) [] rfl (by kernel_rfl) (by kernel_rfl) (by kernel_rfl) (by kernel_rfl) (.on rfl rfl rfl hc26) rfl rfl (.pickOff rfl hc29 rfl) trivial ?_
                refine JD.pure_ (i := 22) [] rfl (by kernel_rfl) (by kernel_rfl) (by kernel_rfl) (by kernel_rfl) (.none rfl) rfl rfl (.pickOff rfl hc26 rfl) trivial ?_
                refine JD.done (by kernel_rfl) ?_
                exact JX.joinEnd h ⟨rfl, rfl, rfl, rfl, rfl, rfl, rfl, rfl, rfl, trivial⟩
              · refine JD.pure_ (i := 13) [] rfl (by kernel_rfl) (by kernel_rfl) (by kernel_rfl) (by kernel_rfl) (.on rfl rfl rfl hc29) rfl rfl (.move rfl) trivial ?_
                refine JD.pure_ (i := 14) [] rfl (by kernel_rfl) (by kernel_rfl) (by kernel_rfl) (by kernel_rfl) (.on rfl rfl rfl hc29) rfl rfl (.move rfl) trivial ?_
                refine JD.pure_ (i := 15) [] rfl (by kernel_rfl) (by kernel_rfl) (by kernel_rfl) (by kernel_rfl) (.on rfl rfl rfl hc29) rfl rfl (.sub rfl rfl) trivial ?_
                refine JD.sPure (i := 16) [] rfl (by kernel_rfl) (by kernel_rfl) (by kernel_rfl) (by kernel_rfl) (.on rfl rfl rfl hc29) rfl rfl (.indexAddr rfl rfl) h trivial (fun vp30 h => ?_)
                obtain ⟨p30, rfl, h⟩ := h
                refine JD.read (i := 17) [] rfl (by kernel_rfl) (by kernel_rfl) (by kernel_rfl) (by kernel_rfl) (.on rfl rfl rfl hc29) rfl rfl (.load rfl) h trivial (fun v31 st32 h => ?_)
                refine JD.read (i := 18) [false] rfl (by kernel_rfl) (by kernel_rfl) (by kernel_rfl) (by kernel_rfl) (.on rfl rfl rfl hc29) rfl rfl (.load rfl) h ⟨st32, trivial⟩ (fun v33 st34 h => ?_)
                refine JD.one (j := 19) (by kernel_rfl) ?_
                refine JD1.exC [true, true] rfl (by kernel_rfl) (.on rfl rfl rfl hc29) rfl rfl (.func (vs := [v31, v33]) en_29 rfl) h (fun vb35 w h => ?_)
                obtain ⟨b35, rfl, h⟩ := h
                refine ⟨trivial, ?_⟩
                refine JD.pure_ (i := 20) [] rfl (by kernel_rfl) (by kernel_rfl) (by kernel_rfl) (by kernel_rfl) (.on rfl rfl rfl hc29) rfl rfl (.not rfl) trivial ?_
                refine JD.pure_ (i := 21) [] rfl (by kernel_rfl) (by kernel_rfl) (by kernel_rfl) (by kernel_rfl) (.on rfl rfl rfl hc26) rfl rfl (.pickOn rfl hc29 rfl) trivial ?_
                refine JD.pure_ (i := 22) [] rfl (by kernel_rfl) (by kernel_rfl) (by kernel_rfl) (by kernel_rfl) (.none rfl) rfl rfl (.pickOff rfl hc26 rfl) trivial ?_
                refine JD.done (by kernel_rfl) ?_
                exact JX.joinEnd h ⟨rfl, rfl, rfl, rfl, rfl, rfl, rfl, rfl, rfl, trivial⟩
        · refine JX.then ?_
          refine J.cond (b := _) rfl h (fun h => ?_) (fun h => ?_)
          · refine J.seq ?_
            refine J.region ?_
            refine JL.exC (.none rfl) rfl rfl (.func (vs := []) en_21 rfl) h (fun vb36 w h => ?_)
            obtain ⟨b36, rfl, h⟩ := h
            refine JL.exP (.none rfl) rfl rfl (.assign rfl) ?_
            refine JL.nil ?_
            refine JX.then ?_
            refine J.ret ?_
            refine JX.thenRet ?_
            refine JX.blockRet ?_
            refine JX.thenRet ?_
            refine JX.thenRet ?_
            refine JX.blockRet ?_
            refine JX.thenRet ?_
            exact JX.ret1 rfl rfl h
          · refine J.skip ?_
            refine JX.then ?_
            refine J.seq ?_
            refine J.seq ?_
            refine J.region ?_
            refine JL.exP (.none rfl) rfl rfl (.assign rfl) ?_
            refine JL.nil ?_
            refine JX.then ?_
            refine J.block ?_
            refine J.loop h (fun s37 => [(0, a0), (2, (.bool s37.1)), (3, v1), (4, (.pointer (some p3))), (5, v6), (6, (.int .i64 s7.2.1)), (7, (.int .i64 s7.2.2)), (8, (.pointer (some p12))), (9, (.int .i64 s37.2))]) ⟨rfl, rfl, rfl, rfl, rfl, rfl, rfl, rfl, rfl, trivial⟩ (fun I μ s37 w h => ?_)
            refine J.seq ?_
            refine J.seq ?_
            refine J.region ?_
            refine JL.exP (.none rfl) rfl rfl (.move rfl) ?_
            refine JL.exP (.none rfl) rfl rfl (.fieldAddr rfl (fa_46_1 _)) ?_
            refine JL.exV (.none rfl) rfl rfl (.load rfl) h (fun v39 w h => ?_)
            refine JL.sPure (.none rfl) rfl rfl ((.len (vs := [v39]) rfl)) h (fun vx40 w h => ?_)
            obtain ⟨x40, rfl, h⟩ := h
            refine JL.exP (.none rfl) rfl rfl (.lss rfl rfl) ?_
            refine JL.nil ?_
            refine JX.then ?_
            refine J.cond (b := _) rfl h (fun h => ?_) (fun h => ?_)
            · refine J.skip ?_
              refine JX.then ?_
              refine J.seq ?_
              refine J.block ?_
              refine J.seq ?_
              refine J.region ?_
              refine JL.exP (.none rfl) rfl rfl (.move rfl) ?_
              refine JL.exP (.none rfl) rfl rfl (.fieldAddr rfl (fa_46_1 _)) ?_
              refine JL.exV (.none rfl) rfl rfl (.load rfl) h (fun v41 w h => ?_)
              refine JL.exP (.none rfl) rfl rfl (.move rfl) ?_
              refine JL.sPure (.none rfl) rfl rfl (.indexAddr rfl rfl) h (fun vp42 w h => ?_)
              obtain ⟨p42, rfl, h⟩ := h
              refine JL.exP (.none rfl) rfl rfl (.fieldAddr rfl (fa_56_0 _)) ?_
              refine JL.exP (.none rfl) rfl rfl (.fieldAddr rfl (fa_54_0 _)) ?_
              refine JL.exV (.none rfl) rfl rfl (.load rfl) h (fun v43 w h => ?_)
              refine JL.exV (.none rfl) rfl rfl (.lookup rfl rfl) h (fun v44 w h => ?_)
              refine JL.exP (.none rfl) rfl rfl (.move rfl) ?_
              refine JL.sPure (.none rfl) rfl rfl (.extract rfl) h (fun vx45 w h => ?_)
              obtain ⟨x45, rfl, h⟩ := h
              refine JL.sPure (.none rfl) rfl rfl (.extract rfl) h (fun vb46 w h => ?_)
              obtain ⟨b46, rfl, h⟩ := h
              refine JL.exP (.none rfl) rfl rfl (.assign rfl) ?_
              refine JL.exP (.none rfl) rfl rfl (.assign rfl) ?_
              refine JL.nil ?_
              refine JX.then ?_
              refine J.seq ?_
              refine J.seq ?_
              refine J.join h (fun y47 => [(0, a0), (2, (.bool s37.1)), (3, v1), (4, (.pointer (some p3))), (5, v6), (6, (.int .i64 s7.2.1)), (7, (.int .i64 s7.2.2)), (8, (.pointer (some p12))), (9, (.int .i64 s37.2)), (84, (.bool y47))]) (fun k48 w h => ?_) (fun y47 w h => ?_)
              · refine J.region ?_
                refine JL.exP (.none rfl) rfl rfl (.move rfl) ?_
                refine JL.exP (.none rfl) rfl rfl (.move rfl) ?_
                rcases andB_cases h with ⟨hc51, h⟩ | ⟨hc51, h⟩
                · refine JL.exNo (.off rfl rfl rfl hc51 rfl) rfl rfl ?_
                  refine JL.exNo (.off rfl rfl rfl hc51 rfl) rfl rfl ?_
                  refine JL.exNo (.off rfl rfl rfl hc51 rfl) rfl rfl ?_
                  refine JL.exNo (.off rfl rfl rfl hc51 rfl) rfl rfl ?_
                  refine JL.exNo (.off rfl rfl rfl hc51 rfl) rfl rfl ?_
                  refine JL.exNo (.off rfl rfl rfl hc51 rfl) rfl rfl ?_
                  refine JL.exNo (.off rfl rfl rfl hc51 rfl) rfl rfl ?_
                  refine JL.exNo (.off rfl rfl rfl hc51 rfl) rfl rfl ?_
                  refine JL.exP (.none rfl) rfl rfl (.pickOff rfl hc51 rfl) ?_
                  refine JL.nil ?_
                  exact JX.joinEnd h ⟨rfl, rfl, rfl, rfl, rfl, rfl, rfl, rfl, rfl, rfl, trivial⟩
                · refine JL.exP (.on rfl rfl rfl hc51) rfl rfl (.move rfl) ?_
                  refine JL.exP (.on rfl rfl rfl hc51) rfl rfl (.fieldAddr rfl (fa_46_1 _)) ?_
                  refine JL.exV (.on rfl rfl rfl hc51) rfl rfl (.load rfl) h (fun v52 w h => ?_)
                  refine JL.exP (.on rfl rfl rfl hc51) rfl rfl (.move rfl) ?_
                  refine JL.sPure (.on rfl rfl rfl hc51) rfl rfl (.indexAddr rfl rfl) h (fun vp53 w h => ?_)
                  obtain ⟨p53, rfl, h⟩ := h
                  refine JL.exP (.on rfl rfl rfl hc51) rfl rfl (.fieldAddr rfl (fa_56_1 _)) ?_
                  refine JL.exV (.on rfl rfl rfl hc51) rfl rfl (.load rfl) h (fun vx54 w h => ?_)
                  obtain ⟨x54, rfl, h⟩ := h
                  refine JL.exP (.on rfl rfl rfl hc51) rfl rfl (.neq rfl rfl) ?_
                  refine JL.exP (.none rfl) rfl rfl (.pickOn rfl hc51 rfl) ?_
                  refine JL.nil ?_
                  exact JX.joinEnd h ⟨rfl, rfl, rfl, rfl, rfl, rfl, rfl, rfl, rfl, rfl, trivial⟩
              · refine JX.then ?_
                refine J.cond (b := _) rfl h (fun h => ?_) (fun h => ?_)
                · refine J.seq ?_
                  refine J.region ?_
                  refine JL.exC (.none rfl) rfl rfl (.func (vs := []) en_21 rfl) h (fun vb55 w h => ?_)
                  obtain ⟨b55, rfl, h⟩ := h
                  refine JL.exP (.none rfl) rfl rfl (.assign rfl) ?_
                  refine JL.nil ?_
                  refine JX.then ?_
                  refine J.ret ?_
                  refine JX.thenRet ?_
                  refine JX.blockRet ?_
                  refine JX.thenRet ?_
                  refine JX.thenRet ?_
                  refine JX.blockRet ?_
                  refine JX.thenRet ?_
                  refine JX.blockRet ?_
                  refine JX.thenRet ?_
                  refine JX.thenRet ?_
                  refine JX.blockRet ?_
                  refine JX.thenRet ?_
                  exact JX.ret1 rfl rfl h
                · refine J.skip ?_
                  refine JX.then ?_
                  refine J.draw [[], [], [1], [], [1, 2, 3], [1, 2, 3, 4], [1, 2, 3, 4, 5], [1, 2, 3, 4, 5, 6], [], [8], [], [8, 9, 10], [8, 9, 10, 11], [8, 9, 10, 11, 12], [0, 1, 2, 3, 4, 5, 6, 7, 8, 9, 10, 11, 12, 13]] (by kernel_rfl) mixed h (fun w h => ?_)
                  refine JD.pure_ (i := 0) [] rfl (by kernel_rfl) (by kernel_rfl) (by kernel_rfl) (by kernel_rfl) (.none rfl) rfl rfl (.move rfl) trivial ?_
                  refine JD.pure_ (i := 1) [] rfl (by kernel_rfl) (by kernel_rfl) (by kernel_rfl) (by kernel_rfl) (.none rfl) rfl rfl (.fieldAddr rfl (fa_46_1 _)) trivial ?_
                  refine JD.read (i := 2) [] rfl (by kernel_rfl) (by kernel_rfl) (by kernel_rfl) (by kernel_rfl) (.none rfl) rfl rfl (.load rfl) h trivial (fun v56 st57 h => ?_)
                  refine JD.pure_ (i := 3) [false] rfl (by kernel_rfl) (by kernel_rfl) (by kernel_rfl) (by kernel_rfl) (.none rfl) rfl rfl (.move rfl) ⟨st57, trivial⟩ ?_
                  refine JD.sPure (i := 4) [true] rfl (by kernel_rfl) (by kernel_rfl) (by kernel_rfl) (by kernel_rfl) (.none rfl) rfl rfl (.indexAddr rfl rfl) h trivial (fun vp58 h => ?_)
                  obtain ⟨p58, rfl, h⟩ := h
                  refine JD.pure_ (i := 5) [true] rfl (by kernel_rfl) (by kernel_rfl) (by kernel_rfl) (by kernel_rfl) (.none rfl) rfl rfl (.fieldAddr rfl (fa_56_0 _)) trivial ?_
                  refine JD.pure_ (i := 6) [true] rfl (by kernel_rfl) (by kernel_rfl) (by kernel_rfl) (by kernel_rfl) (.none rfl) rfl rfl (.fieldAddr rfl (fa_54_0 _)) trivial ?_
                  refine JD.read (i := 7) [true] rfl (by kernel_rfl) (by kernel_rfl) (by kernel_rfl) (by kernel_rfl) (.none rfl) rfl rfl (.load rfl) h trivial (fun v59 st60 h => ?_)
                  refine JD.pure_ (i := 8) [false, false] rfl (by kernel_rfl) (by kernel_rfl) (by kernel_rfl) (by kernel_rfl) (.none rfl) rfl rfl (.fieldAddr rfl (fa_46_1 _)) ⟨st60, st57, trivial⟩ ?_
                  refine JD.read (i := 9) [false, false] rfl (by kernel_rfl) (by kernel_rfl) (by kernel_rfl) (by kernel_rfl) (.none rfl) rfl rfl (.load rfl) h ⟨st60, st57, trivial⟩ (fun v61 st62 h => ?_)
                  refine JD.pure_ (i := 10) [false, false, false] rfl (by kernel_rfl) (by kernel_rfl) (by kernel_rfl) (by kernel_rfl) (.none rfl) rfl rfl (.move rfl) ⟨st62, st60, st57, trivial⟩ ?_
                  refine JD.sPure (i := 11) [true, false, false] rfl (by kernel_rfl) (by kernel_rfl) (by kernel_rfl) (by kernel_rfl) (.none rfl) rfl rfl (.indexAddr rfl rfl) h ⟨st60, st57, trivial⟩ (fun vp63 h => ?_)
                  obtain ⟨p63, rfl, h⟩ := h
                  refine JD.pure_ (i := 12) [true, false, false] rfl (by kernel_rfl) (by kernel_rfl) (by kernel_rfl) (by kernel_rfl) (.none rfl) rfl rfl (.fieldAddr rfl (fa_56_1 _)) ⟨st60, st57, trivial⟩ ?_
                  refine JD.read (i := 13) [true, false, false] rfl (by kernel_rfl) (by kernel_rfl) (by kernel_rfl) (by kernel_rfl) (.none rfl) rfl rfl (.load rfl) h ⟨st60, st57, trivial⟩ (fun vx64 st65 h => ?_)
                  obtain ⟨x64, rfl, h⟩ := h
                  refine JD.one (j := 14) (by kernel_rfl) ?_
                  refine JD1.exU [true, true, true, true] rfl (by kernel_rfl) (.none rfl) rfl (.mapUpdate rfl rfl rfl) h (fun w h => ?_)
                  refine ⟨trivial, ?_⟩
                  refine JD.done (by kernel_rfl) ?_
                  refine JX.blockNormal ?_
                  refine JX.then ?_
                  refine J.region ?_
                  refine JL.exP (.none rfl) rfl rfl (.move rfl) ?_
                  refine JL.exP (.none rfl) rfl rfl (.add rfl rfl) ?_
                  refine JL.exP (.none rfl) rfl rfl (.assign rfl) ?_
                  refine JL.nil ?_
                  exact JX.loopEnd h ⟨rfl, rfl, rfl, rfl, rfl, rfl, rfl, rfl, rfl, trivial⟩
            · refine J.exit ?_
              refine JX.thenExit ?_
              refine JX.thenExit ?_
              refine JX.blockHere ?_
              refine JX.then ?_
              refine J.seq ?_
              refine J.seq ?_
              refine J.region ?_
              refine JL.exP (.none rfl) rfl rfl (.fieldAddr rfl (fa_46_1 _)) ?_
              refine JL.exV (.none rfl) rfl rfl (.load rfl) h (fun v66 w h => ?_)
              refine JL.sPure (.none rfl) rfl rfl ((.len (vs := [v66]) rfl)) h (fun vx67 w h => ?_)
              obtain ⟨x67, rfl, h⟩ := h
              refine JL.exP (.none rfl) rfl rfl (.move rfl) ?_
              refine JL.exP (.none rfl) rfl rfl (.gtr rfl rfl) ?_
              refine JL.nil ?_
              refine JX.then ?_
              refine J.join h (fun y68 => [(0, a0), (2, (.bool s37.1)), (3, v1), (4, (.pointer (some p3))), (5, v6), (6, (.int .i64 y68)), (7, (.int .i64 s7.2.2)), (8, (.pointer (some p12)))]) (fun k69 w h => ?_) (fun y68 w h => ?_)
              · refine J.cond (b := _) rfl h (fun h => ?_) (fun h => ?_)
                · refine J.region ?_
                  refine JL.exP (.none rfl) rfl rfl (.fieldAddr rfl (fa_46_1 _)) ?_
                  refine JL.exV (.none rfl) rfl rfl (.load rfl) h (fun v70 w h => ?_)
                  refine JL.sPure (.none rfl) rfl rfl ((.len (vs := [v70]) rfl)) h (fun vx71 w h => ?_)
                  obtain ⟨x71, rfl, h⟩ := h
                  refine JL.exP (.none rfl) rfl rfl (.assign rfl) ?_
                  refine JL.nil ?_
                  exact JX.joinEnd h ⟨rfl, rfl, rfl, rfl, rfl, rfl, rfl, rfl, trivial⟩
                · refine J.skip ?_
                  exact JX.joinEnd h ⟨rfl, rfl, rfl, rfl, rfl, rfl, rfl, rfl, trivial⟩
              · refine JX.then ?_
                refine J.seq ?_
                refine J.region ?_
                refine JL.exP (.none rfl) rfl rfl (.move rfl) ?_
                refine JL.exV (.none rfl) rfl rfl (.load rfl) h (fun v72 w h => ?_)
                refine JL.exC (.none rfl) rfl rfl (.func (vs := [v1, v72]) en_22 rfl) h (fun vx73 w h => ?_)
                obtain ⟨x73, rfl, h⟩ := h
                refine JL.exP (.none rfl) rfl rfl (.neq rfl rfl) ?_
                refine JL.nil ?_
                refine JX.then ?_
                refine J.cond (b := _) rfl h (fun h => ?_) (fun h => ?_)
                · refine J.seq ?_
                  refine J.region ?_
                  refine JL.exP (.none rfl) rfl rfl (.assign rfl) ?_
                  refine JL.nil ?_
                  refine JX.then ?_
                  refine J.ret ?_
                  refine JX.blockRet ?_
                  refine JX.thenRet ?_
                  refine JX.thenRet ?_
                  refine JX.blockRet ?_
                  refine JX.thenRet ?_
                  exact JX.ret1 rfl rfl h
                · refine J.skip ?_
                  refine JX.blockNormal ?_
                  refine JX.then ?_
                  refine J.region ?_
                  refine JL.exP (.none rfl) rfl rfl (.move rfl) ?_
                  refine JL.exP (.none rfl) rfl rfl (.add rfl rfl) ?_
                  refine JL.exP (.none rfl) rfl rfl (.assign rfl) ?_
                  refine JL.nil ?_
                  exact JX.loopEnd h ⟨rfl, rfl, rfl, rfl, rfl, rfl, rfl, trivial⟩
      · refine J.exit ?_
        refine JX.thenExit ?_
        refine JX.thenExit ?_
        refine JX.blockHere ?_
        refine JX.then ?_
        refine J.seq ?_
        refine J.join h (fun y74 => [(2, (.bool y74))]) (fun k75 w h => ?_) (fun y74 w h => ?_)
        · refine J.region ?_
          refine JL.exP (.none rfl) rfl rfl (.move rfl) ?_
          refine JL.exC (.none rfl) rfl rfl (.func (vs := [v1]) en_23 rfl) h (fun vx76 w h => ?_)
          obtain ⟨x76, rfl, h⟩ := h
          refine JL.exP (.none rfl) rfl rfl (.move rfl) ?_
          refine JL.exP (.none rfl) rfl rfl (.lss rfl rfl) ?_
          refine JL.exP (.none rfl) rfl rfl (.move rfl) ?_
          rcases orB_cases h with ⟨hc79, h⟩ | ⟨hc79, h⟩
          · refine JL.exNo (.off rfl rfl rfl hc79 rfl) rfl rfl ?_
            refine JL.exNo (.off rfl rfl rfl hc79 rfl) rfl rfl ?_
            refine JL.exNo (.off rfl rfl rfl hc79 rfl) rfl rfl ?_
            refine JL.exP (.none rfl) rfl rfl (.pickOn rfl hc79 rfl) ?_
            refine JL.exP (.none rfl) rfl rfl (.move rfl) ?_
            have h := andB_true' h
            refine JL.exC (.on rfl rfl rfl rfl) rfl rfl (.func (vs := []) en_21 rfl) h (fun vb84 w h => ?_)
            obtain ⟨b84, rfl, h⟩ := h
            refine JL.exP (.none rfl) rfl rfl (.pickOn rfl rfl rfl) ?_
            refine JL.exP (.none rfl) rfl rfl (.assign rfl) ?_
            refine JL.nil ?_
            exact JX.joinEnd h ⟨rfl, trivial⟩
          · refine JL.exP (.on rfl rfl rfl hc79) rfl rfl (.move rfl) ?_
            refine JL.exC (.on rfl rfl rfl hc79) rfl rfl (.func (vs := [v1]) en_23 rfl) h (fun vx80 w h => ?_)
            obtain ⟨x80, rfl, h⟩ := h
            refine JL.exP (.on rfl rfl rfl hc79) rfl rfl (.eql rfl rfl) ?_
            refine JL.exP (.none rfl) rfl rfl (.pickOff rfl hc79 rfl) ?_
            refine JL.exP (.none rfl) rfl rfl (.move rfl) ?_
            rcases andB_cases h with ⟨hc83, h⟩ | ⟨hc83, h⟩
            · refine JL.exNo (.off rfl rfl rfl hc83 rfl) rfl rfl ?_
              refine JL.exP (.none rfl) rfl rfl (.pickOff rfl hc83 rfl) ?_
              refine JL.exP (.none rfl) rfl rfl (.assign rfl) ?_
              refine JL.nil ?_
              exact JX.joinEnd h ⟨rfl, trivial⟩
            · refine JL.exC (.on rfl rfl rfl hc83) rfl rfl (.func (vs := []) en_21 rfl) h (fun vb84 w h => ?_)
              obtain ⟨b84, rfl, h⟩ := h
              refine JL.exP (.none rfl) rfl rfl (.pickOn rfl hc83 rfl) ?_
              refine JL.exP (.none rfl) rfl rfl (.assign rfl) ?_
              refine JL.nil ?_
              exact JX.joinEnd h ⟨rfl, trivial⟩
        · refine JX.then ?_
          refine J.ret ?_
          exact JX.ret1 rfl rfl h

/-- (*cabstand/cabstandref21.Watch).See -/
def ref21_Watch_See (a0 : Value) (a1 : Value) (K : Value → WP) : WP :=
  semA Try.prog (Instr.box 46 a1) fun p85 =>
  semV Try.prog (loadVar 46 p85) fun v86 =>
  callI Try.prog 49 #[v86] .i64 fun x87 =>
  iteH ((x87 : Int) != 0) (
    K (.int .i64 x87)) (
    loopH (σ := Int × Int) (fun kc89 s88 =>
      semV Try.prog (loadVar 36 (p85.add 1)) fun v90 =>
      pureI Try.prog .i64 (Builtin.len_ #[36] 3 #[v90]) fun x91 =>
      iteH (decide (s88.2 < x91)) (
        drawH <|
        readV Try.prog (loadVar 46 p85) fun v92 =>
        readV Try.prog (loadVar 36 (p85.add 1)) fun v94 =>
        pureA Try.prog (Instr.indexAt 36 v94 (.int .i64 s88.2)) fun p96 =>
        readV Try.prog (loadVar 28 ((p96.add 0).add 0)) fun v97 =>
        callI Try.prog 48 #[v92, v97] .i64 fun x99 =>
        iteH ((x99 : Int) != s88.2) (
          K (.int .i64 130)) (
          kc89 (s88.1, (IntKind.i64.wrap (s88.2 + 1))))) (
        asP a0 fun p100 =>
        semV Try.prog (loadVar 48 (p100.add 0)) fun v101 =>
        pureI Try.prog .i64 (Builtin.len_ #[48] 3 #[v101]) fun x102 =>
        joinH (α := Bool) (fun y103 =>
          iteH y103 (
            K (.int .i64 4)) (
            drawH <|
            asP a0 fun p116 =>
            readV Try.prog (loadVar 48 (p116.add 0)) fun v117 =>
            readV Try.prog (loadVar 46 p85) fun v119 =>
            semV Try.prog (Instr.buildSlice 48 1 #[(0, v119)]) fun v122 =>
            keepR Try.prog (loadVar 48 (p116.add 0)) v117 <|
            semV Try.prog (Builtin.append_ #[48, 48] 48 #[v117, v122]) fun v123 =>
            asP a0 fun p124 =>
            semU Try.prog (storeVar 48 (p124.add 0) v123) <|
            K (.int .i64 0))) fun k104 =>
          drawH <|
          andB (decide (0 < x102)) (fun k106 =>
            readI Try.prog .i64 (loadVar 3 (p85.add 0)) fun x108 =>
            asP a0 fun p110 =>
            readV Try.prog (loadVar 48 (p110.add 0)) fun v111 =>
            pureA Try.prog (Instr.indexAt 48 v111 (.int .i64 (IntKind.i64.wrap (x102 - 1)))) fun p113 =>
            readI Try.prog .i64 (loadVar 3 (p113.add 0)) fun x114 =>
            k106 (decide (x108 ≤ x114))) fun b105 =>
          k104 b105)) (0, 0))
set_option maxRecDepth 100000 in
set_option maxHeartbeats 1000000 in
theorem ref21_Watch_See_ok {a0 : Value} {a1 : Value} {K : Value → WP} {w : World} (h : ref21_Watch_See a0 a1 K w) : callH Try.prog 27 #[a0, a1] K w := by
  refine enter (l := [a0, a1]) Try.func27 rfl rfl rfl ?_
  show J Try.prog 62 [(0, a0), (1, a1)] _ _ _
  unfold ref21_Watch_See at h
  refine J.seq ?_
  refine J.region ?_
  refine JL.exV (.none rfl) rfl rfl (.box rfl) h (fun vp85 w h => ?_)
  obtain ⟨p85, rfl, h⟩ := h
  refine JL.exP (.none rfl) rfl rfl (.assign rfl) ?_
  refine JL.nil ?_
  refine JX.then ?_
  refine J.seq ?_
  refine J.region ?_
  refine JL.exV (.none rfl) rfl rfl (.load rfl) h (fun v86 w h => ?_)
  refine JL.exC (.none rfl) rfl rfl (.func (vs := [v86]) en_49 rfl) h (fun vx87 w h => ?_)
  obtain ⟨x87, rfl, h⟩ := h
  refine JL.exP (.none rfl) rfl rfl (.assign rfl) ?_
  refine JL.nil ?_
  refine JX.then ?_
  refine J.seq ?_
  refine J.seq ?_
  refine J.region ?_
  refine JL.exP (.none rfl) rfl rfl (.move rfl) ?_
  refine JL.exP (.none rfl) rfl rfl (.neq rfl rfl) ?_
  refine JL.nil ?_
  refine JX.then ?_
  refine J.cond (b := _) rfl h (fun h => ?_) (fun h => ?_)
  · refine J.seq ?_
    refine J.region ?_
    refine JL.exP (.none rfl) rfl rfl (.move rfl) ?_
    refine JL.exP (.none rfl) rfl rfl (.assign rfl) ?_
    refine JL.nil ?_
    refine JX.then ?_
    refine J.ret ?_
    refine JX.thenRet ?_
    exact JX.ret1 rfl rfl h
  · refine J.skip ?_
    refine JX.then ?_
    refine J.seq ?_
    refine J.seq ?_
    refine J.region ?_
    refine JL.exP (.none rfl) rfl rfl (.assign rfl) ?_
    refine JL.nil ?_
    refine JX.then ?_
    refine J.block ?_
    refine J.loop h (fun s88 => [(0, a0), (3, (.pointer (some p85))), (4, (.int .i64 s88.1)), (6, (.int .i64 s88.2))]) ⟨rfl, rfl, rfl, rfl, trivial⟩ (fun I μ s88 w h => ?_)
    refine J.seq ?_
    refine J.seq ?_
    refine J.region ?_
    refine JL.exP (.none rfl) rfl rfl (.move rfl) ?_
    refine JL.exP (.none rfl) rfl rfl (.fieldAddr rfl (fa_46_1 _)) ?_
    refine JL.exV (.none rfl) rfl rfl (.load rfl) h (fun v90 w h => ?_)
    refine JL.sPure (.none rfl) rfl rfl ((.len (vs := [v90]) rfl)) h (fun vx91 w h => ?_)
    obtain ⟨x91, rfl, h⟩ := h
    refine JL.exP (.none rfl) rfl rfl (.lss rfl rfl) ?_
    refine JL.nil ?_
    refine JX.then ?_
    refine J.cond (b := _) rfl h (fun h => ?_) (fun h => ?_)
    · refine J.skip ?_
      refine JX.then ?_
      refine J.seq ?_
      refine J.block ?_
      refine J.seq ?_
      refine J.draw [[], [], [1], [], [1, 2, 3], [1, 2, 3, 4], [1, 2, 3, 4, 5], [1, 2, 3, 4, 5, 6], [0, 1, 2, 3, 4, 5, 6, 7], [], [0, 1, 2, 3, 4, 5, 6, 7, 8, 9]] (by kernel_rfl) mixed h (fun w h => ?_)
      refine JD.read (i := 0) [] rfl (by kernel_rfl) (by kernel_rfl) (by kernel_rfl) (by kernel_rfl) (.none rfl) rfl rfl (.load rfl) h trivial (fun v92 st93 h => ?_)
      refine JD.pure_ (i := 1) [false] rfl (by kernel_rfl) (by kernel_rfl) (by kernel_rfl) (by kernel_rfl) (.none rfl) rfl rfl (.fieldAddr rfl (fa_46_1 _)) ⟨st93, trivial⟩ ?_
      refine JD.read (i := 2) [false] rfl (by kernel_rfl) (by kernel_rfl) (by kernel_rfl) (by kernel_rfl) (.none rfl) rfl rfl (.load rfl) h ⟨st93, trivial⟩ (fun v94 st95 h => ?_)
      refine JD.pure_ (i := 3) [false, false] rfl (by kernel_rfl) (by kernel_rfl) (by kernel_rfl) (by kernel_rfl) (.none rfl) rfl rfl (.move rfl) ⟨st95, st93, trivial⟩ ?_
      refine JD.sPure (i := 4) [true, false] rfl (by kernel_rfl) (by kernel_rfl) (by kernel_rfl) (by kernel_rfl) (.none rfl) rfl rfl (.indexAddr rfl rfl) h ⟨st93, trivial⟩ (fun vp96 h => ?_)
      obtain ⟨p96, rfl, h⟩ := h
      refine JD.pure_ (i := 5) [true, false] rfl (by kernel_rfl) (by kernel_rfl) (by kernel_rfl) (by kernel_rfl) (.none rfl) rfl rfl (.fieldAddr rfl (fa_56_0 _)) ⟨st93, trivial⟩ ?_
      refine JD.pure_ (i := 6) [true, false] rfl (by kernel_rfl) (by kernel_rfl) (by kernel_rfl) (by kernel_rfl) (.none rfl) rfl rfl (.fieldAddr rfl (fa_54_0 _)) ⟨st93, trivial⟩ ?_
      refine JD.read (i := 7) [true, false] rfl (by kernel_rfl) (by kernel_rfl) (by kernel_rfl) (by kernel_rfl) (.none rfl) rfl rfl (.load rfl) h ⟨st93, trivial⟩ (fun v97 st98 h => ?_)
      refine JD.pure_ (i := 9) [false, false, false] rfl (by kernel_rfl) (by kernel_rfl) (by kernel_rfl) (by kernel_rfl) (.none rfl) rfl rfl (.move rfl) ⟨st98, st95, st93, trivial⟩ ?_
      refine JD.one (j := 8) (by kernel_rfl) ?_
      refine JD1.exC [true, true, true] rfl (by kernel_rfl) (.none rfl) rfl rfl (.func (vs := [v92, v97]) en_48 rfl) h (fun vx99 w h => ?_)
      obtain ⟨x99, rfl, h⟩ := h
      refine ⟨trivial, ?_⟩
      refine JD.pure_ (i := 10) [] rfl (by kernel_rfl) (by kernel_rfl) (by kernel_rfl) (by kernel_rfl) (.none rfl) rfl rfl (.neq rfl rfl) trivial ?_
      refine JD.done (by kernel_rfl) ?_
      refine JX.then ?_
      refine J.cond (b := _) rfl h (fun h => ?_) (fun h => ?_)
      · refine J.seq ?_
        refine J.region ?_
        refine JL.exP (.none rfl) rfl rfl (.assign rfl) ?_
        refine JL.nil ?_
        refine JX.then ?_
        refine J.ret ?_
        refine JX.blockRet ?_
        refine JX.thenRet ?_
        refine JX.thenRet ?_
        refine JX.blockRet ?_
        refine JX.thenRet ?_
        exact JX.ret1 rfl rfl h
      · refine J.skip ?_
        refine JX.blockNormal ?_
        refine JX.then ?_
        refine J.region ?_
        refine JL.exP (.none rfl) rfl rfl (.move rfl) ?_
        refine JL.exP (.none rfl) rfl rfl (.add rfl rfl) ?_
        refine JL.exP (.none rfl) rfl rfl (.assign rfl) ?_
        refine JL.nil ?_
        exact JX.loopEnd h ⟨rfl, rfl, rfl, rfl, trivial⟩
    · refine J.exit ?_
      refine JX.thenExit ?_
      refine JX.thenExit ?_
      refine JX.blockHere ?_
      refine JX.then ?_
      refine J.seq ?_
      refine J.region ?_
      refine JL.exP (.none rfl) rfl rfl (.move rfl) ?_
      obtain ⟨p100, hp100, h⟩ := h
      refine JL.exP (.none rfl) rfl rfl (.nilCheck rfl hp100) ?_
      refine JL.exP (.none rfl) rfl rfl (.fieldAddr rfl (fa_74_0 _)) ?_
      refine JL.exV (.none rfl) rfl rfl (.load rfl) h (fun v101 w h => ?_)
      refine JL.sPure (.none rfl) rfl rfl ((.len (vs := [v101]) rfl)) h (fun vx102 w h => ?_)
      obtain ⟨x102, rfl, h⟩ := h
      refine JL.exP (.none rfl) rfl rfl (.assign rfl) ?_
      refine JL.nil ?_
      refine JX.then ?_
      refine J.seq ?_
      refine J.seq ?_
      refine J.join h (fun y103 => [(0, a0), (3, (.pointer (some p85))), (4, (.int .i64 s88.1)), (51, (.bool y103))]) (fun k104 w h => ?_) (fun y103 w h => ?_)
      · refine J.draw [[], [0], [0, 1], [0, 1, 2], [0, 1, 2, 3], [0, 1, 2], [0, 1, 2, 5], [0, 1, 2, 5, 6], [0, 1, 2, 5, 6, 7], [0, 1, 2], [0, 1, 2, 9], [0, 1, 2, 5, 6, 7, 8, 9, 10], [0, 1, 2, 5, 6, 7, 8, 9, 10, 11], [0, 1, 2, 5, 6, 7, 8, 9, 10, 11, 12], [0, 1, 2, 3, 4, 5, 6, 7, 8, 9, 10, 11, 12, 13], [0, 1, 2, 3, 4, 5, 6, 7, 8, 9, 10, 11, 12, 13, 14]] (by kernel_rfl) mixed h (fun w h => ?_)
        refine JD.pure_ (i := 0) [] rfl (by kernel_rfl) (by kernel_rfl) (by kernel_rfl) (by kernel_rfl) (.none rfl) rfl rfl (.move rfl) trivial ?_
        refine JD.pure_ (i := 1) [] rfl (by kernel_rfl) (by kernel_rfl) (by kernel_rfl) (by kernel_rfl) (.none rfl) rfl rfl (.gtr rfl rfl) trivial ?_
        refine JD.pure_ (i := 2) [] rfl (by kernel_rfl) (by kernel_rfl) (by kernel_rfl) (by kernel_rfl) (.none rfl) rfl rfl (.move rfl) trivial ?_
        rcases andB_cases h with ⟨hc107, h⟩ | ⟨hc107, h⟩
        · refine JD.skip (i := 3) [] rfl (by kernel_rfl) (by kernel_rfl) (by kernel_rfl) (by kernel_rfl) (.off rfl rfl rfl hc107 rfl) rfl rfl trivial ?_
          refine JD.skip (i := 4) [] rfl (by kernel_rfl) (by kernel_rfl) (by kernel_rfl) (by kernel_rfl) (.off rfl rfl rfl hc107 rfl) rfl rfl trivial ?_
          refine JD.skip (i := 5) [] rfl (by kernel_rfl) (by kernel_rfl) (by kernel_rfl) (by kernel_rfl) (.off rfl rfl rfl hc107 rfl) rfl rfl trivial ?_
          refine JD.skip (i := 6) [] rfl (by kernel_rfl) (by kernel_rfl) (by kernel_rfl) (by kernel_rfl) (.off rfl rfl rfl hc107 rfl) rfl rfl trivial ?_
          refine JD.skip (i := 7) [] rfl (by kernel_rfl) (by kernel_rfl) (by kernel_rfl) (by kernel_rfl) (.off rfl rfl rfl hc107 rfl) rfl rfl trivial ?_
          refine JD.skip (i := 8) [] rfl (by kernel_rfl) (by kernel_rfl) (by kernel_rfl) (by kernel_rfl) (.off rfl rfl rfl hc107 rfl) rfl rfl trivial ?_
          refine JD.skip (i := 9) [] rfl (by kernel_rfl) (by kernel_rfl) (by kernel_rfl) (by kernel_rfl) (.off rfl rfl rfl hc107 rfl) rfl rfl trivial ?_
          refine JD.skip (i := 10) [] rfl (by kernel_rfl) (by kernel_rfl) (by kernel_rfl) (by kernel_rfl) (.off rfl rfl rfl hc107 rfl) rfl rfl trivial ?_
          refine JD.skip (i := 11) [] rfl (by kernel_rfl) (by kernel_rfl) (by kernel_rfl) (by kernel_rfl) (.off rfl rfl rfl hc107 rfl) rfl rfl trivial ?_
          refine JD.skip (i := 12) [] rfl (by kernel_rfl) (by kernel_rfl) (by kernel_rfl) (by kernel_rfl) (.off rfl rfl rfl hc107 rfl) rfl rfl trivial ?_
          refine JD.skip (i := 13) [] rfl (by kernel_rfl) (by kernel_rfl) (by kernel_rfl) (by kernel_rfl) (.off rfl rfl rfl hc107 rfl) rfl rfl trivial ?_
          refine JD.skip (i := 14) [] rfl (by kernel_rfl) (by kernel_rfl) (by kernel_rfl) (by kernel_rfl) (.off rfl rfl rfl hc107 rfl) rfl rfl trivial ?_
          refine JD.pure_ (i := 15) [] rfl (by kernel_rfl) (by kernel_rfl) (by kernel_rfl) (by kernel_rfl) (.none rfl) rfl rfl (.pickOff rfl hc107 rfl) trivial ?_
          refine JD.done (by kernel_rfl) ?_
          exact JX.joinEnd h ⟨rfl, rfl, rfl, rfl, trivial⟩
        · refine JD.pure_ (i := 3) [] rfl (by kernel_rfl) (by kernel_rfl) (by kernel_rfl) (by kernel_rfl) (.on rfl rfl rfl hc107) rfl rfl (.fieldAddr rfl (fa_46_0 _)) trivial ?_
          refine JD.read (i := 4) [] rfl (by kernel_rfl) (by kernel_rfl) (by kernel_rfl) (by kernel_rfl) (.on rfl rfl rfl hc107) rfl rfl (.load rfl) h trivial (fun vx108 st109 h => ?_)
          obtain ⟨x108, rfl, h⟩ := h
          refine JD.pure_ (i := 5) [false] rfl (by kernel_rfl) (by kernel_rfl) (by kernel_rfl) (by kernel_rfl) (.on rfl rfl rfl hc107) rfl rfl (.move rfl) ⟨st109, trivial⟩ ?_
          obtain ⟨p110, hp110, h⟩ := h
          refine JD.pure_ (i := 6) [false] rfl (by kernel_rfl) (by kernel_rfl) (by kernel_rfl) (by kernel_rfl) (.on rfl rfl rfl hc107) rfl rfl (.nilCheck rfl hp110) ⟨st109, trivial⟩ ?_
          refine JD.pure_ (i := 7) [false] rfl (by kernel_rfl) (by kernel_rfl) (by kernel_rfl) (by kernel_rfl) (.on rfl rfl rfl hc107) rfl rfl (.fieldAddr rfl (fa_74_0 _)) ⟨st109, trivial⟩ ?_
          refine JD.read (i := 8) [false] rfl (by kernel_rfl) (by kernel_rfl) (by kernel_rfl) (by kernel_rfl) (.on rfl rfl rfl hc107) rfl rfl (.load rfl) h ⟨st109, trivial⟩ (fun v111 st112 h => ?_)
          refine JD.pure_ (i := 9) [false, false] rfl (by kernel_rfl) (by kernel_rfl) (by kernel_rfl) (by kernel_rfl) (.on rfl rfl rfl hc107) rfl rfl (.move rfl) ⟨st112, st109, trivial⟩ ?_
          refine JD.pure_ (i := 10) [false, false] rfl (by kernel_rfl) (by kernel_rfl) (by kernel_rfl) (by kernel_rfl) (.on rfl rfl rfl hc107) rfl rfl (.sub rfl rfl) ⟨st112, st109, trivial⟩ ?_
          refine JD.sPure (i := 11) [true, false] rfl (by kernel_rfl) (by kernel_rfl) (by kernel_rfl) (by kernel_rfl) (.on rfl rfl rfl hc107) rfl rfl (.indexAddr rfl rfl) h ⟨st109, trivial⟩ (fun vp113 h => ?_)
          obtain ⟨p113, rfl, h⟩ := h
          refine JD.pure_ (i := 12) [true, false] rfl (by kernel_rfl) (by kernel_rfl) (by kernel_rfl) (by kernel_rfl) (.on rfl rfl rfl hc107) rfl rfl (.fieldAddr rfl (fa_46_0 _)) ⟨st109, trivial⟩ ?_
          refine JD.read (i := 13) [true, false] rfl (by kernel_rfl) (by kernel_rfl) (by kernel_rfl) (by kernel_rfl) (.on rfl rfl rfl hc107) rfl rfl (.load rfl) h ⟨st109, trivial⟩ (fun vx114 st115 h => ?_)
          obtain ⟨x114, rfl, h⟩ := h
          refine JD.pure_ (i := 14) [true, true, true] rfl (by kernel_rfl) (by kernel_rfl) (by kernel_rfl) (by kernel_rfl) (.on rfl rfl rfl hc107) rfl rfl (.leq rfl rfl) trivial ?_
          refine JD.pure_ (i := 15) [true, true, true] rfl (by kernel_rfl) (by kernel_rfl) (by kernel_rfl) (by kernel_rfl) (.none rfl) rfl rfl (.pickOn rfl hc107 rfl) trivial ?_
          refine JD.done (by kernel_rfl) ?_
          exact JX.joinEnd h ⟨rfl, rfl, rfl, rfl, trivial⟩
      · refine JX.then ?_
        refine J.cond (b := _) rfl h (fun h => ?_) (fun h => ?_)
        · refine J.seq ?_
          refine J.region ?_
          refine JL.exP (.none rfl) rfl rfl (.assign rfl) ?_
          refine JL.nil ?_
          refine JX.then ?_
          refine J.ret ?_
          refine JX.thenRet ?_
          exact JX.ret1 rfl rfl h
        · refine J.skip ?_
          refine JX.then ?_
          refine J.seq ?_
          refine J.draw [[], [], [1], [1, 2], [1, 2, 3], [], [5], [1, 2, 3, 4, 5, 6], [0, 1, 2, 3, 4, 5, 6, 7], [0, 1, 2, 3, 4, 5, 6, 7, 8], [0, 1, 2, 3, 4, 5, 6, 7, 8, 9]] (by kernel_rfl) mixed h (fun w h => ?_)
          refine JD.pure_ (i := 0) [] rfl (by kernel_rfl) (by kernel_rfl) (by kernel_rfl) (by kernel_rfl) (.none rfl) rfl rfl (.move rfl) trivial ?_
          refine JD.pure_ (i := 1) [] rfl (by kernel_rfl) (by kernel_rfl) (by kernel_rfl) (by kernel_rfl) (.none rfl) rfl rfl (.move rfl) trivial ?_
          obtain ⟨p116, hp116, h⟩ := h
          refine JD.pure_ (i := 2) [] rfl (by kernel_rfl) (by kernel_rfl) (by kernel_rfl) (by kernel_rfl) (.none rfl) rfl rfl (.nilCheck rfl hp116) trivial ?_
          refine JD.pure_ (i := 3) [] rfl (by kernel_rfl) (by kernel_rfl) (by kernel_rfl) (by kernel_rfl) (.none rfl) rfl rfl (.fieldAddr rfl (fa_74_0 _)) trivial ?_
          refine JD.read (i := 4) [] rfl (by kernel_rfl) (by kernel_rfl) (by kernel_rfl) (by kernel_rfl) (.none rfl) rfl rfl (.load rfl) h trivial (fun v117 st118 h => ?_)
          refine JD.read (i := 5) [false] rfl (by kernel_rfl) (by kernel_rfl) (by kernel_rfl) (by kernel_rfl) (.none rfl) rfl rfl (.load rfl) h ⟨st118, trivial⟩ (fun v119 st120 h => ?_)
          refine JD.one (j := 6) (by kernel_rfl) ?_
          refine JD1.exV [true, false] rfl (by kernel_rfl) (.none rfl) rfl rfl ((.buildSlice (l' := [(0, v119)]) rfl)) h (fun v122 w h => ?_)
          obtain ⟨st121, h⟩ := h
          refine ⟨⟨st121, trivial⟩, ?_⟩
          refine JD.one (j := 7) (by kernel_rfl) ?_
          refine JD1.exV [true] rfl (by kernel_rfl) (.none rfl) rfl rfl ((.append (vs := [v117, v122]) rfl)) h (fun v123 w h => ?_)
          refine ⟨trivial, ?_⟩
          obtain ⟨p124, hp124, h⟩ := h
          refine JD.pure_ (i := 8) [] rfl (by kernel_rfl) (by kernel_rfl) (by kernel_rfl) (by kernel_rfl) (.none rfl) rfl rfl (.nilCheck rfl hp124) trivial ?_
          refine JD.pure_ (i := 9) [] rfl (by kernel_rfl) (by kernel_rfl) (by kernel_rfl) (by kernel_rfl) (.none rfl) rfl rfl (.fieldAddr rfl (fa_74_0 _)) trivial ?_
          refine JD.one (j := 10) (by kernel_rfl) ?_
          refine JD1.exU [] rfl (by kernel_rfl) (.none rfl) rfl (.store rfl rfl) h (fun w h => ?_)
          refine ⟨trivial, ?_⟩
          refine JD.done (by kernel_rfl) ?_
          refine JX.then ?_
          refine J.seq ?_
          refine J.region ?_
          refine JL.exP (.none rfl) rfl rfl (.assign rfl) ?_
          refine JL.nil ?_
          refine JX.then ?_
          refine J.ret ?_
          exact JX.ret1 rfl rfl h

/-- cabstand/cabstandlaw21.ordered -/
def law21_ordered (a0 : Value) (K : Value → WP) : WP :=
  semA Try.prog (Instr.box 46 a0) fun p125 =>
  semV Try.prog (loadVar 40 (p125.add 3)) fun v126 =>
  semV Try.prog (loadVar 44 (p125.add 6)) fun v127 =>
  callI Try.prog 56 #[v126, v127] .i64 fun x128 =>
  iteH ((x128 : Int) != 0) (
    K (.bool false)) (
    loopH (σ := Bool × Int) (fun kc130 s129 =>
      semV Try.prog (loadVar 36 (p125.add 1)) fun v131 =>
      pureI Try.prog .i64 (Builtin.len_ #[36] 3 #[v131]) fun x132 =>
      iteH (decide (s129.2 < x132)) (
        semV Try.prog (loadVar 40 (p125.add 3)) fun v133 =>
        callI Try.prog 57 #[v133, (.int .i64 s129.2)] .i64 fun x134 =>
        joinH (α := Bool) (fun y135 =>
          iteH y135 (
            K (.bool false)) (
            loopH (σ := Bool × Int) (fun kc148 s147 =>
              semV Try.prog (loadVar 36 (p125.add 1)) fun v149 =>
              pureI Try.prog .i64 (Builtin.len_ #[36] 3 #[v149]) fun x150 =>
              iteH (decide (s147.2 < x150)) (
                semV Try.prog (loadVar 40 (p125.add 3)) fun v151 =>
                callI Try.prog 57 #[v151, (.int .i64 s147.2)] .i64 fun x152 =>
                joinH (α := Bool) (fun y153 =>
                  iteH y153 (
                    K (.bool false)) (
                    kc148 (s147.1, (IntKind.i64.wrap (s147.2 + 1))))) fun k154 =>
                  drawH <|
                  andB (decide (0 < x134)) (fun k156 =>
                    k156 (decide (0 < x152))) fun b155 =>
                  andB b155 (fun k159 =>
                    k159 (decide (x152 ≤ x134))) fun b158 =>
                  andB b158 (fun k162 =>
                    readV Try.prog (loadVar 36 (p125.add 1)) fun v164 =>
                    pureA Try.prog (Instr.indexAt 36 v164 (.int .i64 s129.2)) fun p166 =>
                    readI Try.prog .i64 (loadVar 3 (p166.add 16)) fun x167 =>
                    readV Try.prog (loadVar 36 (p125.add 1)) fun v169 =>
                    pureA Try.prog (Instr.indexAt 36 v169 (.int .i64 s147.2)) fun p171 =>
                    readI Try.prog .i64 (loadVar 3 (p171.add 16)) fun x172 =>
                    k162 (decide (x172 < x167))) fun b161 =>
                  k154 b161) (
                kc130 (s147.1, (IntKind.i64.wrap (s129.2 + 1))))) (s129.1, 0))) fun k136 =>
          drawH <|
          orB (decide (x134 < 0)) (fun k138 =>
            readV Try.prog (loadVar 36 (p125.add 1)) fun v140 =>
            pureA Try.prog (Instr.indexAt 36 v140 (.int .i64 s129.2)) fun p142 =>
            readI Try.prog .i64 (loadVar 3 (p142.add 16)) fun x143 =>
            readI Try.prog .i64 (loadVar 3 (p125.add 0)) fun x145 =>
            k138 (decide (x145 ≤ x143))) fun b137 =>
          k136 b137) (
        K (.bool true))) (false, 0))
set_option maxRecDepth 100000 in
set_option maxHeartbeats 1000000 in
theorem law21_ordered_ok {a0 : Value} {K : Value → WP} {w : World} (h : law21_ordered a0 K w) : callH Try.prog 28 #[a0] K w := by
  refine enter (l := [a0]) Try.func28 rfl rfl rfl ?_
  show J Try.prog 74 [(0, a0)] _ _ _
  unfold law21_ordered at h
  refine J.seq ?_
  refine J.region ?_
  refine JL.exV (.none rfl) rfl rfl (.box rfl) h (fun vp125 w h => ?_)
  obtain ⟨p125, rfl, h⟩ := h
  refine JL.exP (.none rfl) rfl rfl (.assign rfl) ?_
  refine JL.nil ?_
  refine JX.then ?_
  refine J.seq ?_
  refine J.seq ?_
  refine J.region ?_
  refine JL.exP (.none rfl) rfl rfl (.fieldAddr rfl (fa_46_3 _)) ?_
  refine JL.exV (.none rfl) rfl rfl (.load rfl) h (fun v126 w h => ?_)
  refine JL.exP (.none rfl) rfl rfl (.fieldAddr rfl (fa_46_4 _)) ?_
  refine JL.exV (.none rfl) rfl rfl (.load rfl) h (fun v127 w h => ?_)
  refine JL.exC (.none rfl) rfl rfl (.func (vs := [v126, v127]) en_56 rfl) h (fun vx128 w h => ?_)
  obtain ⟨x128, rfl, h⟩ := h
  refine JL.exP (.none rfl) rfl rfl (.neq rfl rfl) ?_
  refine JL.nil ?_
  refine JX.then ?_
  refine J.cond (b := _) rfl h (fun h => ?_) (fun h => ?_)
  · refine J.seq ?_
    refine J.region ?_
    refine JL.exP (.none rfl) rfl rfl (.assign rfl) ?_
    refine JL.nil ?_
    refine JX.then ?_
    refine J.ret ?_
    refine JX.thenRet ?_
    exact JX.ret1 rfl rfl h
  · refine J.skip ?_
    refine JX.then ?_
    refine J.seq ?_
    refine J.seq ?_
    refine J.region ?_
    refine JL.exP (.none rfl) rfl rfl (.assign rfl) ?_
    refine JL.nil ?_
    refine JX.then ?_
    refine J.block ?_
    refine J.loop h (fun s129 => [(1, (.pointer (some p125))), (2, (.bool s129.1)), (3, (.int .i64 s129.2))]) ⟨rfl, rfl, rfl, trivial⟩ (fun I μ s129 w h => ?_)
    refine J.seq ?_
    refine J.seq ?_
    refine J.region ?_
    refine JL.exP (.none rfl) rfl rfl (.move rfl) ?_
    refine JL.exP (.none rfl) rfl rfl (.fieldAddr rfl (fa_46_1 _)) ?_
    refine JL.exV (.none rfl) rfl rfl (.load rfl) h (fun v131 w h => ?_)
    refine JL.sPure (.none rfl) rfl rfl ((.len (vs := [v131]) rfl)) h (fun vx132 w h => ?_)
    obtain ⟨x132, rfl, h⟩ := h
    refine JL.exP (.none rfl) rfl rfl (.lss rfl rfl) ?_
    refine JL.nil ?_
    refine JX.then ?_
    refine J.cond (b := _) rfl h (fun h => ?_) (fun h => ?_)
    · refine J.skip ?_
      refine JX.then ?_
      refine J.seq ?_
      refine J.block ?_
      refine J.seq ?_
      refine J.region ?_
      refine JL.exP (.none rfl) rfl rfl (.fieldAddr rfl (fa_46_3 _)) ?_
      refine JL.exV (.none rfl) rfl rfl (.load rfl) h (fun v133 w h => ?_)
      refine JL.exP (.none rfl) rfl rfl (.move rfl) ?_
      refine JL.exC (.none rfl) rfl rfl (.func (vs := [v133, (.int .i64 s129.2)]) en_57 rfl) h (fun vx134 w h => ?_)
      obtain ⟨x134, rfl, h⟩ := h
      refine JL.exP (.none rfl) rfl rfl (.assign rfl) ?_
      refine JL.nil ?_
      refine JX.then ?_
      refine J.seq ?_
      refine J.seq ?_
      refine J.join h (fun y135 => [(1, (.pointer (some p125))), (2, (.bool s129.1)), (3, (.int .i64 s129.2)), (4, (.int .i64 x134)), (36, (.bool y135))]) (fun k136 w h => ?_) (fun y135 w h => ?_)
      · refine J.draw [[], [0], [0, 1], [0, 1, 2], [0, 1, 2, 3], [0, 1, 2], [0, 1, 2, 3, 4, 5], [0, 1, 2, 3, 4, 5, 6], [0, 1, 2, 3, 4, 5, 6, 7], [0, 1, 2], [0, 1, 2, 9], [0, 1, 2, 3, 4, 5, 6, 7, 8, 9, 10], [0, 1, 2, 3, 4, 5, 6, 7, 8, 9, 10, 11]] (by kernel_rfl) mixed h (fun w h => ?_)
        refine JD.pure_ (i := 0) [] rfl (by kernel_rfl) (by kernel_rfl) (by kernel_rfl) (by kernel_rfl) (.none rfl) rfl rfl (.move rfl) trivial ?_
        refine JD.pure_ (i := 1) [] rfl (by kernel_rfl) (by kernel_rfl) (by kernel_rfl) (by kernel_rfl) (.none rfl) rfl rfl (.lss rfl rfl) trivial ?_
        refine JD.pure_ (i := 2) [] rfl (by kernel_rfl) (by kernel_rfl) (by kernel_rfl) (by kernel_rfl) (.none rfl) rfl rfl (.move rfl) trivial ?_
        rcases orB_cases h with ⟨hc139, h⟩ | ⟨hc139, h⟩
        · refine JD.skip (i := 3) [] rfl (by kernel_rfl) (by kernel_rfl) (by kernel_rfl) (by kernel_rfl) (.off rfl rfl rfl hc139 rfl) rfl rfl trivial ?_
          refine JD.skip (i := 4) [] rfl (by kernel_rfl) (by kernel_rfl) (by kernel_rfl) (by kernel_rfl) (.off rfl rfl rfl hc139 rfl) rfl rfl trivial ?_
          refine JD.skip (i := 5) [] rfl (by kernel_rfl) (by kernel_rfl) (by kernel_rfl) (by kernel_rfl) (.off rfl rfl rfl hc139 rfl) rfl rfl trivial ?_
          refine JD.skip (i := 6) [] rfl (by kernel_rfl) (by kernel_rfl) (by kernel_rfl) (by kernel_rfl) (.off rfl rfl rfl hc139 rfl) rfl rfl trivial ?_
          refine JD.skip (i := 7) [] rfl (by kernel_rfl) (by kernel_rfl) (by kernel_rfl) (by kernel_rfl) (.off rfl rfl rfl hc139 rfl) rfl rfl trivial ?_
          refine JD.skip (i := 8) [] rfl (by kernel_rfl) (by kernel_rfl) (by kernel_rfl) (by kernel_rfl) (.off rfl rfl rfl hc139 rfl) rfl rfl trivial ?_
          refine JD.skip (i := 9) [] rfl (by kernel_rfl) (by kernel_rfl) (by kernel_rfl) (by kernel_rfl) (.off rfl rfl rfl hc139 rfl) rfl rfl trivial ?_
          refine JD.skip (i := 10) [] rfl (by kernel_rfl) (by kernel_rfl) (by kernel_rfl) (by kernel_rfl) (.off rfl rfl rfl hc139 rfl) rfl rfl trivial ?_
          refine JD.skip (i := 11) [] rfl (by kernel_rfl) (by kernel_rfl) (by kernel_rfl) (by kernel_rfl) (.off rfl rfl rfl hc139 rfl) rfl rfl trivial ?_
          refine JD.pure_ (i := 12) [] rfl (by kernel_rfl) (by kernel_rfl) (by kernel_rfl) (by kernel_rfl) (.none rfl) rfl rfl (.pickOn rfl hc139 rfl) trivial ?_
          refine JD.done (by kernel_rfl) ?_
          exact JX.joinEnd h ⟨rfl, rfl, rfl, rfl, rfl, trivial⟩
        · refine JD.pure_ (i := 3) [] rfl (by kernel_rfl) (by kernel_rfl) (by kernel_rfl) (by kernel_rfl) (.on rfl rfl rfl hc139) rfl rfl (.fieldAddr rfl (fa_46_1 _)) trivial ?_
          refine JD.read (i := 4) [] rfl (by kernel_rfl) (by kernel_rfl) (by kernel_rfl) (by kernel_rfl) (.on rfl rfl rfl hc139) rfl rfl (.load rfl) h trivial (fun v140 st141 h => ?_)
          refine JD.pure_ (i := 5) [false] rfl (by kernel_rfl) (by kernel_rfl) (by kernel_rfl) (by kernel_rfl) (.on rfl rfl rfl hc139) rfl rfl (.move rfl) ⟨st141, trivial⟩ ?_
          refine JD.sPure (i := 6) [true] rfl (by kernel_rfl) (by kernel_rfl) (by kernel_rfl) (by kernel_rfl) (.on rfl rfl rfl hc139) rfl rfl (.indexAddr rfl rfl) h trivial (fun vp142 h => ?_)
          obtain ⟨p142, rfl, h⟩ := h
          refine JD.pure_ (i := 7) [true] rfl (by kernel_rfl) (by kernel_rfl) (by kernel_rfl) (by kernel_rfl) (.on rfl rfl rfl hc139) rfl rfl (.fieldAddr rfl (fa_56_1 _)) trivial ?_
          refine JD.read (i := 8) [true] rfl (by kernel_rfl) (by kernel_rfl) (by kernel_rfl) (by kernel_rfl) (.on rfl rfl rfl hc139) rfl rfl (.load rfl) h trivial (fun vx143 st144 h => ?_)
          obtain ⟨x143, rfl, h⟩ := h
          refine JD.pure_ (i := 9) [false, false] rfl (by kernel_rfl) (by kernel_rfl) (by kernel_rfl) (by kernel_rfl) (.on rfl rfl rfl hc139) rfl rfl (.fieldAddr rfl (fa_46_0 _)) ⟨st144, st141, trivial⟩ ?_
          refine JD.read (i := 10) [false, false] rfl (by kernel_rfl) (by kernel_rfl) (by kernel_rfl) (by kernel_rfl) (.on rfl rfl rfl hc139) rfl rfl (.load rfl) h ⟨st144, st141, trivial⟩ (fun vx145 st146 h => ?_)
          obtain ⟨x145, rfl, h⟩ := h
          refine JD.pure_ (i := 11) [true, true, true] rfl (by kernel_rfl) (by kernel_rfl) (by kernel_rfl) (by kernel_rfl) (.on rfl rfl rfl hc139) rfl rfl (.geq rfl rfl) trivial ?_
          refine JD.pure_ (i := 12) [true, true, true] rfl (by kernel_rfl) (by kernel_rfl) (by kernel_rfl) (by kernel_rfl) (.none rfl) rfl rfl (.pickOff rfl hc139 rfl) trivial ?_
          refine JD.done (by kernel_rfl) ?_
          exact JX.joinEnd h ⟨rfl, rfl, rfl, rfl, rfl, trivial⟩
      · refine JX.then ?_
        refine J.cond (b := _) rfl h (fun h => ?_) (fun h => ?_)
        · refine J.seq ?_
          refine J.region ?_
          refine JL.exP (.none rfl) rfl rfl (.assign rfl) ?_
          refine JL.nil ?_
          refine JX.then ?_
          refine J.ret ?_
          refine JX.thenRet ?_
          refine JX.blockRet ?_
          refine JX.thenRet ?_
          refine JX.thenRet ?_
          refine JX.blockRet ?_
          refine JX.thenRet ?_
          exact JX.ret1 rfl rfl h
        · refine J.skip ?_
          refine JX.then ?_
          refine J.seq ?_
          refine J.region ?_
          refine JL.exP (.none rfl) rfl rfl (.assign rfl) ?_
          refine JL.nil ?_
          refine JX.then ?_
          refine J.block ?_
          refine J.loop h (fun s147 => [(1, (.pointer (some p125))), (2, (.bool s147.1)), (3, (.int .i64 s129.2)), (4, (.int .i64 x134)), (5, (.int .i64 s147.2))]) ⟨rfl, rfl, rfl, rfl, rfl, trivial⟩ (fun I μ s147 w h => ?_)
          refine J.seq ?_
          refine J.seq ?_
          refine J.region ?_
          refine JL.exP (.none rfl) rfl rfl (.move rfl) ?_
          refine JL.exP (.none rfl) rfl rfl (.fieldAddr rfl (fa_46_1 _)) ?_
          refine JL.exV (.none rfl) rfl rfl (.load rfl) h (fun v149 w h => ?_)
          refine JL.sPure (.none rfl) rfl rfl ((.len (vs := [v149]) rfl)) h (fun vx150 w h => ?_)
          obtain ⟨x150, rfl, h⟩ := h
          refine JL.exP (.none rfl) rfl rfl (.lss rfl rfl) ?_
          refine JL.nil ?_
          refine JX.then ?_
          refine J.cond (b := _) rfl h (fun h => ?_) (fun h => ?_)
          · refine J.skip ?_
            refine JX.then ?_
            refine J.seq ?_
            refine J.block ?_
            refine J.seq ?_
            refine J.region ?_
            refine JL.exP (.none rfl) rfl rfl (.fieldAddr rfl (fa_46_3 _)) ?_
            refine JL.exV (.none rfl) rfl rfl (.load rfl) h (fun v151 w h => ?_)
            refine JL.exP (.none rfl) rfl rfl (.move rfl) ?_
            refine JL.exC (.none rfl) rfl rfl (.func (vs := [v151, (.int .i64 s147.2)]) en_57 rfl) h (fun vx152 w h => ?_)
            obtain ⟨x152, rfl, h⟩ := h
            refine JL.exP (.none rfl) rfl rfl (.assign rfl) ?_
            refine JL.nil ?_
            refine JX.then ?_
            refine J.seq ?_
            refine J.join h (fun y153 => [(1, (.pointer (some p125))), (2, (.bool s147.1)), (3, (.int .i64 s129.2)), (4, (.int .i64 x134)), (5, (.int .i64 s147.2)), (73, (.bool y153))]) (fun k154 w h => ?_) (fun y153 w h => ?_)
            · refine J.draw [[], [0], [0, 1], [0, 1, 2], [0, 1, 2, 3], [0, 1, 2, 3, 4], [0, 1, 2, 3, 4, 5], [0, 1, 2, 3, 4, 5, 6], [0, 1, 2, 3, 4, 5, 6], [0, 1, 2, 3, 4, 5, 6, 7, 8], [0, 1, 2, 3, 4, 5, 6, 7, 8, 9], [0, 1, 2, 3, 4, 5, 6, 7, 8, 9, 10], [0, 1, 2, 3, 4, 5, 6, 7, 8, 9, 10, 11], [0, 1, 2, 3, 4, 5, 6, 7, 8, 9, 10, 11, 12], [0, 1, 2, 3, 4, 5, 6, 7, 8, 9, 10, 11], [0, 1, 2, 3, 4, 5, 6, 7, 8, 9, 10, 11, 12, 13, 14], [0, 1, 2, 3, 4, 5, 6, 7, 8, 9, 10, 11, 12, 13, 14, 15], [0, 1, 2, 3, 4, 5, 6, 7, 8, 9, 10, 11, 12, 13, 14, 15, 16], [0, 1, 2, 3, 4, 5, 6, 7, 8, 9, 10, 11], [0, 1, 2, 3, 4, 5, 6, 7, 8, 9, 10, 11, 18], [0, 1, 2, 3, 4, 5, 6, 7, 8, 9, 10, 11], [0, 1, 2, 3, 4, 5, 6, 7, 8, 9, 10, 11, 18, 19, 20], [0, 1, 2, 3, 4, 5, 6, 7, 8, 9, 10, 11, 18, 19, 20, 21], [0, 1, 2, 3, 4, 5, 6, 7, 8, 9, 10, 11, 18, 19, 20, 21, 22], [0, 1, 2, 3, 4, 5, 6, 7, 8, 9, 10, 11, 12, 13, 14, 15, 16, 17, 18, 19, 20, 21, 22, 23], [0, 1, 2, 3, 4, 5, 6, 7, 8, 9, 10, 11, 12, 13, 14, 15, 16, 17, 18, 19, 20, 21, 22, 23, 24]] (by kernel_rfl) mixed h (fun w h => ?_)
              refine JD.pure_ (i := 0) [] rfl (by kernel_rfl) (by kernel_rfl) (by kernel_rfl) (by kernel_rfl) (.none rfl) rfl rfl (.move rfl) trivial ?_
              refine JD.pure_ (i := 1) [] rfl (by kernel_rfl) (by kernel_rfl) (by kernel_rfl) (by kernel_rfl) (.none rfl) rfl rfl (.gtr rfl rfl) trivial ?_
              refine JD.pure_ (i := 2) [] rfl (by kernel_rfl) (by kernel_rfl) (by kernel_rfl) (by kernel_rfl) (.none rfl) rfl rfl (.move rfl) trivial ?_
              rcases andB_cases h with ⟨hc157, h⟩ | ⟨hc157, h⟩
              · refine JD.skip (i := 3) [] rfl (by kernel_rfl) (by kernel_rfl) (by kernel_rfl) (by kernel_rfl) (.off rfl rfl rfl hc157 rfl) rfl rfl trivial ?_
                refine JD.skip (i := 4) [] rfl (by kernel_rfl) (by kernel_rfl) (by kernel_rfl) (by kernel_rfl) (.off rfl rfl rfl hc157 rfl) rfl rfl trivial ?_
                refine JD.pure_ (i := 5) [] rfl (by kernel_rfl) (by kernel_rfl) (by kernel_rfl) (by kernel_rfl) (.none rfl) rfl rfl (.pickOff rfl hc157 rfl) trivial ?_
                refine JD.pure_ (i := 6) [] rfl (by kernel_rfl) (by kernel_rfl) (by kernel_rfl) (by kernel_rfl) (.none rfl) rfl rfl (.move rfl) trivial ?_
                rcases andB_cases h with ⟨hc160, h⟩ | ⟨hc160, h⟩
                · refine JD.skip (i := 7) [] rfl (by kernel_rfl) (by kernel_rfl) (by kernel_rfl) (by kernel_rfl) (.off rfl rfl rfl hc160 rfl) rfl rfl trivial ?_
                  refine JD.skip (i := 8) [] rfl (by kernel_rfl) (by kernel_rfl) (by kernel_rfl) (by kernel_rfl) (.off rfl rfl rfl hc160 rfl) rfl rfl trivial ?_
                  refine JD.skip (i := 9) [] rfl (by kernel_rfl) (by kernel_rfl) (by kernel_rfl) (by kernel_rfl) (.off rfl rfl rfl hc160 rfl) rfl rfl trivial ?_
                  refine JD.pure_ (i := 10) [] rfl (by kernel_rfl) (by kernel_rfl) (by kernel_rfl) (by kernel_rfl) (.none rfl) rfl rfl (.pickOff rfl hc160 rfl) trivial ?_
                  refine JD.pure_ (i := 11) [] rfl (by kernel_rfl) (by kernel_rfl) (by kernel_rfl) (by kernel_rfl) (.none rfl) rfl rfl (.move rfl) trivial ?_
                  rcases andB_cases h with ⟨hc163, h⟩ | ⟨hc163, h⟩
                  · refine JD.skip (i := 12) [] rfl (by kernel_rfl) (by kernel_rfl) (by kernel_rfl) (by kernel_rfl) (.off rfl rfl rfl hc163 rfl) rfl rfl trivial ?_
                    refine JD.skip (i := 13) [] rfl (by kernel_rfl) (by kernel_rfl) (by kernel_rfl) (by kernel_rfl) (.off rfl rfl rfl hc163 rfl) rfl rfl trivial ?_
                    refine JD.skip (i := 14) [] rfl (by kernel_rfl) (by kernel_rfl) (by kernel_rfl) (by kernel_rfl) (.off rfl rfl rfl hc163 rfl) rfl rfl trivial ?_
                    refine JD.skip (i := 15) [] rfl (by kernel_rfl) (by kernel_rfl) (by kernel_rfl) (by kernel_rfl) (.off rfl rfl rfl hc163 rfl) rfl rfl trivial ?_
                    refine JD.skip (i := 16) [] rfl (by kernel_rfl) (by kernel_rfl) (by kernel_rfl) (by kernel_rfl) (.off rfl rfl rfl hc163 rfl) rfl rfl trivial ?_
                    refine JD.skip (i := 17) [] rfl (by kernel_rfl) (by kernel_rfl) (by kernel_rfl) (by kernel_rfl) (.off rfl rfl rfl hc163 rfl) rfl rfl trivial ?_
                    refine JD.skip (i := 18) [] rfl (by kernel_rfl) (by kernel_rfl) (by kernel_rfl) (by kernel_rfl) (.off rfl rfl rfl hc163 rfl) rfl rfl trivial ?_
                    refine JD.skip (i := 19) [] rfl (by kernel_rfl) (by kernel_rfl) (by kernel_rfl) (by kernel_rfl) (.off rfl rfl rfl hc163 rfl) rfl rfl trivial ?_
                    refine JD.skip (i := 20) [] rfl (by kernel_rfl) (by kernel_rfl) (by kernel_rfl) (by kernel_rfl) (.off rfl rfl rfl hc163 rfl) rfl rfl trivial ?_
                    refine JD.skip (i := 21) [] rfl (by kernel_rfl) (by kernel_rfl) (by kernel_rfl) (by kernel_rfl) (.off rfl rfl rfl hc163 rfl) rfl rfl trivial ?_
                    refine JD.skip (i := 22) [] rfl (by kernel_rfl) (by kernel_rfl) (by kernel_rfl) (by kernel_rfl) (.off rfl rfl rfl hc163 rfl) rfl rfl trivial ?_
                    refine JD.skip (i := 23) [] rfl (by kernel_rfl) (by kernel_rfl) (by kernel_rfl) (by kernel_rfl) (.off rfl rfl rfl hc163 rfl) rfl rfl trivial ?_
                    refine JD.skip (i := 24) [] rfl (by kernel_rfl) (by kernel_rfl) (by kernel_rfl) (by kernel_rfl) (.off rfl rfl rfl hc163 rfl) rfl rfl trivial ?_
                    refine JD.pure_ (i := 25) [] rfl (by kernel_rfl) (by kernel_rfl) (by kernel_rfl) (by kernel_rfl) (.none rfl) rfl rfl (.pickOff rfl hc163 rfl) trivial ?_
                    refine JD.done (by kernel_rfl) ?_
                    exact JX.joinEnd h ⟨rfl, rfl, rfl, rfl, rfl, rfl, trivial⟩
                  · refine JD.pure_ (i := 12) [] rfl (by kernel_rfl) (by kernel_rfl) (by kernel_rfl) (by kernel_rfl) (.on rfl rfl rfl hc163) rfl rfl (.fieldAddr rfl (fa_46_1 _)) trivial ?_
                    refine JD.read (i := 13) [] rfl (by kernel_rfl) (by kernel_rfl) (by kernel_rfl) (by kernel_rfl) (.on rfl rfl rfl hc163) rfl rfl (.load rfl) h trivial (fun v164 st165 h => ?_)
                    refine JD.pure_ (i := 14) [false] rfl (by kernel_rfl) (by kernel_rfl) (by kernel_rfl) (by kernel_rfl) (.on rfl rfl rfl hc163) rfl rfl (.move rfl) ⟨st165, trivial⟩ ?_
                    refine JD.sPure (i := 15) [true] rfl (by kernel_rfl) (by kernel_rfl) (by kernel_rfl) (by kernel_rfl) (.on rfl rfl rfl hc163) rfl rfl (.indexAddr rfl rfl) h trivial (fun vp166 h => ?_)
                    obtain ⟨p166, rfl, h⟩ := h
                    refine JD.pure_ (i := 16) [true] rfl (by kernel_rfl) (by kernel_rfl) (by kernel_rfl) (by kernel_rfl) (.on rfl rfl rfl hc163) rfl rfl (.fieldAddr rfl (fa_56_1 _)) trivial ?_
                    refine JD.read (i := 17) [true] rfl (by kernel_rfl) (by kernel_rfl) (by kernel_rfl) (by kernel_rfl) (.on rfl rfl rfl hc163) rfl rfl (.load rfl) h trivial (fun vx167 st168 h => ?_)
                    obtain ⟨x167, rfl, h⟩ := h
                    refine JD.pure_ (i := 18) [false, false] rfl (by kernel_rfl) (by kernel_rfl) (by kernel_rfl) (by kernel_rfl) (.on rfl rfl rfl hc163) rfl rfl (.fieldAddr rfl (fa_46_1 _)) ⟨st168, st165, trivial⟩ ?_
                    refine JD.read (i := 19) [false, false] rfl (by kernel_rfl) (by kernel_rfl) (by kernel_rfl) (by kernel_rfl) (.on rfl rfl rfl hc163) rfl rfl (.load rfl) h ⟨st168, st165, trivial⟩ (fun v169 st170 h => ?_)
                    refine JD.pure_ (i := 20) [false, false, false] rfl (by kernel_rfl) (by kernel_rfl) (by kernel_rfl) (by kernel_rfl) (.on rfl rfl rfl hc163) rfl rfl (.move rfl) ⟨st170, st168, st165, trivial⟩ ?_
                    refine JD.sPure (i := 21) [true, false, false] rfl (by kernel_rfl) (by kernel_rfl) (by kernel_rfl) (by kernel_rfl) (.on rfl rfl rfl hc163) rfl rfl (.indexAddr rfl rfl) h ⟨st168, st165, trivial⟩ (fun vp171 h => ?_)
                    obtain ⟨p171, rfl, h⟩ := h
                    refine JD.pure_ (i := 22) [true, false, false] rfl (by kernel_rfl) (by kernel_rfl) (by kernel_rfl) (by kernel_rfl) (.on rfl rfl rfl hc163) rfl rfl (.fieldAddr rfl (fa_56_1 _)) ⟨st168, st165, trivial⟩ ?_
                    refine JD.read (i := 23) [true, false, false] rfl (by kernel_rfl) (by kernel_rfl) (by kernel_rfl) (by kernel_rfl) (.on rfl rfl rfl hc163) rfl rfl (.load rfl) h ⟨st168, st165, trivial⟩ (fun vx172 st173 h => ?_)
                    obtain ⟨x172, rfl, h⟩ := h
                    refine JD.pure_ (i := 24) [true, true, true, true] rfl (by kernel_rfl) (by kernel_rfl) (by kernel_rfl) (by kernel_rfl) (.on rfl rfl rfl hc163) rfl rfl (.gtr rfl rfl) trivial ?_
                    refine JD.pure_ (i := 25) [true, true, true, true] rfl (by kernel_rfl) (by kernel_rfl) (by kernel_rfl) (by kernel_rfl) (.none rfl) rfl rfl (.pickOn rfl hc163 rfl) trivial ?_
                    refine JD.done (by kernel_rfl) ?_
                    exact JX.joinEnd h ⟨rfl, rfl, rfl, rfl, rfl, rfl, trivial⟩
                · refine JD.pure_ (i := 7) [] rfl (by kernel_rfl) (by kernel_rfl) (by kernel_rfl) (by kernel_rfl) (.on rfl rfl rfl hc160) rfl rfl (.move rfl) trivial ?_
                  refine JD.pure_ (i := 8) [] rfl (by kernel_rfl) (by kernel_rfl) (by kernel_rfl) (by kernel_rfl) (.on rfl rfl rfl hc160) rfl rfl (.move rfl) trivial ?_
                  refine JD.pure_ (i := 9) [] rfl (by kernel_rfl) (by kernel_rfl) (by kernel_rfl) (by kernel_rfl) (.on rfl rfl rfl hc160) rfl rfl (.geq rfl rfl) trivial ?_
                  refine JD.pure_ (i := 10) [] rfl (by kernel_rfl) (by kernel_rfl) (by kernel_rfl) (by kernel_rfl) (.none rfl) rfl rfl (.pickOn rfl hc160 rfl) trivial ?_
                  refine JD.pure_ (i := 11) [] rfl (by kernel_rfl) (by kernel_rfl) (by kernel_rfl) (by kernel_rfl) (.none rfl) rfl rfl (.move rfl) trivial ?_
                  rcases andB_cases h with ⟨hc163, h⟩ | ⟨hc163, h⟩
                  · refine JD.skip (i := 12) [] rfl (by kernel_rfl) (by kernel_rfl) (by kernel_rfl) (by kernel_rfl) (.off rfl rfl rfl hc163 rfl) rfl rfl trivial ?_
                    refine JD.skip (i := 13) [] rfl (by kernel_rfl) (by kernel_rfl) (by kernel_rfl) (by kernel_rfl) (.off rfl rfl rfl hc163 rfl) rfl rfl trivial ?_
                    refine JD.skip (i := 14) [] rfl (by kernel_rfl) (by kernel_rfl) (by kernel_rfl) (by kernel_rfl) (.off rfl rfl rfl hc163 rfl) rfl rfl trivial ?_
                    refine JD.skip (i := 15) [] rfl (by kernel_rfl) (by kernel_rfl) (by kernel_rfl) (by kernel_rfl) (.off rfl rfl rfl hc163 rfl) rfl rfl trivial ?_
                    refine JD.skip (i := 16) [] rfl (by kernel_rfl) (by kernel_rfl) (by kernel_rfl) (by kernel_rfl) (.off rfl rfl rfl hc163 rfl) rfl rfl trivial ?_
                    refine JD.skip (i := 17) [] rfl (by kernel_rfl) (by kernel_rfl) (by kernel_rfl) (by kernel_rfl) (.off rfl rfl rfl hc163 rfl) rfl rfl trivial ?_
                    refine JD.skip (i := 18) [] rfl (by kernel_rfl) (by kernel_rfl) (by kernel_rfl) (by kernel_rfl) (.off rfl rfl rfl hc163 rfl) rfl rfl trivial ?_
                    refine JD.skip (i := 19) [] rfl (by kernel_rfl) (by kernel_rfl) (by kernel_rfl) (by kernel_rfl) (.off rfl rfl rfl hc163 rfl) rfl rfl trivial ?_
                    refine JD.skip (i := 20) [] rfl (by kernel_rfl) (by kernel_rfl) (by kernel_rfl) (by kernel_rfl) (.off rfl rfl rfl hc163 rfl) rfl rfl trivial ?_
                    refine JD.skip (i := 21) [] rfl (by kernel_rfl) (by kernel_rfl) (by kernel_rfl) (by kernel_rfl) (.off rfl rfl rfl hc163 rfl) rfl rfl trivial ?_
                    refine JD.skip (i := 22) [] rfl (by kernel_rfl) (by kernel_rfl) (by kernel_rfl) (by kernel_rfl) (.off rfl rfl rfl hc163 rfl) rfl rfl trivial ?_
                    refine JD.skip (i := 23) [] rfl (by kernel_rfl) (by kernel_rfl) (by kernel_rfl) (by kernel_rfl) (.off rfl rfl rfl hc163 rfl) rfl rfl trivial ?_
                    refine JD.skip (i := 24) [] rfl (by kernel_rfl) (by kernel_rfl) (by kernel_rfl) (by kernel_rfl) (.off rfl rfl rfl hc163 rfl) rfl rfl trivial ?_
                    refine JD.pure_ (i := 25) [] rfl (by kernel_rfl) (by kernel_rfl) (by kernel_rfl) (by kernel_rfl) (.none rfl) rfl rfl (.pickOff rfl hc163 rfl) trivial ?_
                    refine JD.done (by kernel_rfl) ?_
                    exact JX.joinEnd h ⟨rfl, rfl, rfl, rfl, rfl, rfl, trivial⟩
                  · refine JD.pure_ (i := 12) [] rfl (by kernel_rfl) (by kernel_rfl) (by kernel_rfl) (by kernel_rfl) (.on rfl rfl rfl hc163) rfl rfl (.fieldAddr rfl (fa_46_1 _)) trivial ?_
                    refine JD.read (i := 13) [] rfl (by kernel_rfl) (by kernel_rfl) (by kernel_rfl) (by kernel_rfl) (.on rfl rfl rfl hc163) rfl rfl (.load rfl) h trivial (fun v164 st165 h => ?_)
                    refine JD.pure_ (i := 14) [false] rfl (by kernel_rfl) (by kernel_rfl) (by kernel_rfl) (by kernel_rfl) (.on rfl rfl rfl hc163) rfl rfl (.move rfl) ⟨st165, trivial⟩ ?_
                    refine JD.sPure (i := 15) [true] rfl (by kernel_rfl) (by kernel_rfl) (by kernel_rfl) (by kernel_rfl) (.on rfl rfl rfl hc163) rfl rfl (.indexAddr rfl rfl) h trivial (fun vp166 h => ?_)
                    obtain ⟨p166, rfl, h⟩ := h
                    refine JD.pure_ (i := 16) [true] rfl (by kernel_rfl) (by kernel_rfl) (by kernel_rfl) (by kernel_rfl) (.on rfl rfl rfl hc163) rfl rfl (.fieldAddr rfl (fa_56_1 _)) trivial ?_
                    refine JD.read (i := 17) [true] rfl (by kernel_rfl) (by kernel_rfl) (by kernel_rfl) (by kernel_rfl) (.on rfl rfl rfl hc163) rfl rfl (.load rfl) h trivial (fun vx167 st168 h => ?_)
                    obtain ⟨x167, rfl, h⟩ := h
                    refine JD.pure_ (i := 18) [false, false] rfl (by kernel_rfl) (by kernel_rfl) (by kernel_rfl) (by kernel_rfl) (.on rfl rfl rfl hc163) rfl rfl (.fieldAddr rfl (fa_46_1 _)) ⟨st168, st165, trivial⟩ ?_
                    refine JD.read (i := 19) [false, false] rfl (by kernel_rfl) (by kernel_rfl) (by kernel_rfl) (by kernel_rfl) (.on rfl rfl rfl hc163) rfl rfl (.load rfl) h ⟨st168, st165, trivial⟩ (fun v169 st170 h => ?_)
                    refine JD.pure_ (i := 20) [false, false, false] rfl (by kernel_rfl) (by kernel_rfl) (by kernel_rfl) (by kernel_rfl) (.on rfl rfl rfl hc163) rfl rfl (.move rfl) ⟨st170, st168, st165, trivial⟩ ?_
                    refine JD.sPure (i := 21) [true, false, false] rfl (by kernel_rfl) (by kernel_rfl) (by kernel_rfl) (by kernel_rfl) (.on rfl rfl rfl hc163) rfl rfl (.indexAddr rfl rfl) h ⟨st168, st165, trivial⟩ (fun vp171 h => ?_)
                    obtain ⟨p171, rfl, h⟩ := h
                    refine JD.pure_ (i := 22) [true, false, false] rfl (by kernel_rfl) (by kernel_rfl) (by kernel_rfl) (by kernel_rfl) (.on rfl rfl rfl hc163) rfl rfl (.fieldAddr rfl (fa_56_1 _)) ⟨st168, st165, trivial⟩ ?_
                    refine JD.read (i := 23) [true, false, false] rfl (by kernel_rfl) (by kernel_rfl) (by kernel_rfl) (by kernel_rfl) (.on rfl rfl rfl hc163) rfl rfl (.load rfl) h ⟨st168, st165, trivial⟩ (fun vx172 st173 h => ?_)
                    obtain ⟨x172, rfl, h⟩ := h
                    refine JD.pure_ (i := 24) [true, true, true, true] rfl (by kernel_rfl) (by kernel_rfl) (by kernel_rfl) (by kernel_rfl) (.on rfl rfl rfl hc163) rfl rfl (.gtr rfl rfl) trivial ?_
                    refine JD.pure_ (i := 25) [true, true, true, true] rfl (by kernel_rfl) (by kernel_rfl) (by kernel_rfl) (by kernel_rfl) (.none rfl) rfl rfl (.pickOn rfl hc163 rfl) trivial ?_
                    refine JD.done (by kernel_rfl) ?_
                    exact JX.joinEnd h ⟨rfl, rfl, rfl, rfl, rfl, rfl, trivial⟩
              · refine JD.pure_ (i := 3) [] rfl (by kernel_rfl) (by kernel_rfl) (by kernel_rfl) (by kernel_rfl) (.on rfl rfl rfl hc157) rfl rfl (.move rfl) trivial ?_
                refine JD.pure_ (i := 4) [] rfl (by kernel_rfl) (by kernel_rfl) (by kernel_rfl) (by kernel_rfl) (.on rfl rfl rfl hc157) rfl rfl (.gtr rfl rfl) trivial ?_
                refine JD.pure_ (i := 5) [] rfl (by kernel_rfl) (by kernel_rfl) (by kernel_rfl) (by kernel_rfl) (.none rfl) rfl rfl (.pickOn rfl hc157 rfl) trivial ?_
                refine JD.pure_ (i := 6) [] rfl (by kernel_rfl) (by kernel_rfl) (by kernel_rfl) (by kernel_rfl) (.none rfl) rfl rfl (.move rfl) trivial ?_
                rcases andB_cases h with ⟨hc160, h⟩ | ⟨hc160, h⟩
                · refine JD.skip (i := 7) [] rfl (by kernel_rfl) (by kernel_rfl) (by kernel_rfl) (by kernel_rfl) (.off rfl rfl rfl hc160 rfl) rfl rfl trivial ?_
                  refine JD.skip (i := 8) [] rfl (by kernel_rfl) (by kernel_rfl) (by kernel_rfl) (by kernel_rfl) (.off rfl rfl rfl hc160 rfl) rfl rfl trivial ?_
                  refine JD.skip (i := 9) [] rfl (by kernel_rfl) (by kernel_rfl) (by kernel_rfl) (by kernel_rfl) (.off rfl rfl rfl hc160 rfl) rfl rfl trivial ?_
                  refine JD.pure_ (i := 10) [] rfl (by kernel_rfl) (by kernel_rfl) (by kernel_rfl) (by kernel_rfl) (.none rfl) rfl rfl (.pickOff rfl hc160 rfl) trivial ?_
                  refine JD.pure_ (i := 11) [] rfl (by kernel_rfl) (by kernel_rfl) (by kernel_rfl) (by kernel_rfl) (.none rfl) rfl rfl (.move rfl) trivial ?_
                  rcases andB_cases h with ⟨hc163, h⟩ | ⟨hc163, h⟩
                  · refine JD.skip (i := 12) [] rfl (by kernel_rfl) (by kernel_rfl) (by kernel_rfl) (by kernel_rfl) (.off rfl rfl rfl hc163 rfl) rfl rfl trivial ?_
                    refine JD.skip (i := 13) [] rfl (by kernel_rfl) (by kernel_rfl) (by kernel_rfl) (by kernel_rfl) (.off rfl rfl rfl hc163 rfl) rfl rfl trivial ?_
                    refine JD.skip (i := 14) [] rfl (by kernel_rfl) (by kernel_rfl) (by kernel_rfl) (by kernel_rfl) (.off rfl rfl rfl hc163 rfl) rfl rfl trivial ?_
                    refine JD.skip (i := 15) [] rfl (by kernel_rfl) (by kernel_rfl) (by kernel_rfl) (by kernel_rfl) (.off rfl rfl rfl hc163 rfl) rfl rfl trivial ?_
                    refine JD.skip (i := 16) [] rfl (by kernel_rfl) (by kernel_rfl) (by kernel_rfl) (by kernel_rfl) (.off rfl rfl rfl hc163 rfl) rfl rfl trivial ?_
                    refine JD.skip (i := 17) [] rfl (by kernel_rfl) (by kernel_rfl) (by kernel_rfl) (by kernel_rfl) (.off rfl rfl rfl hc163 rfl) rfl rfl trivial ?_
                    refine JD.skip (i := 18) [] rfl (by kernel_rfl) (by kernel_rfl) (by kernel_rfl) (by kernel_rfl) (.off rfl rfl rfl hc163 rfl) rfl rfl trivial ?_
                    refine JD.skip (i := 19) [] rfl (by kernel_rfl) (by kernel_rfl) (by kernel_rfl) (by kernel_rfl) (.off rfl rfl rfl hc163 rfl) rfl rfl trivial ?_
                    refine JD.skip (i := 20) [] rfl (by kernel_rfl) (by kernel_rfl) (by kernel_rfl) (by kernel_rfl) (.off rfl rfl rfl hc163 rfl) rfl rfl trivial ?_
                    refine JD.skip (i := 21) [] rfl (by kernel_rfl) (by kernel_rfl) (by kernel_rfl) (by kernel_rfl) (.off rfl rfl rfl hc163 rfl) rfl rfl trivial ?_
                    refine JD.skip (i := 22) [] rfl (by kernel_rfl) (by kernel_rfl) (by kernel_rfl) (by kernel_rfl) (.off rfl rfl rfl hc163 rfl) rfl rfl trivial ?_
                    refine JD.skip (i := 23) [] rfl (by kernel_rfl) (by kernel_rfl) (by kernel_rfl) (by kernel_rfl) (.off rfl rfl rfl hc163 rfl) rfl rfl trivial ?_
                    refine JD.skip (i := 24) [] rfl (by kernel_rfl) (by kernel_rfl) (by kernel_rfl) (by kernel_rfl) (.off rfl rfl rfl hc163 rfl) rfl rfl trivial ?_
                    refine JD.pure_ (i := 25) [] rfl (by kernel_rfl) (by kernel_rfl) (by kernel_rfl) (by kernel_rfl) (.none rfl) rfl rfl (.pickOff rfl hc163 rfl) trivial ?_
                    refine JD.done (by kernel_rfl) ?_
                    exact JX.joinEnd h ⟨rfl, rfl, rfl, rfl, rfl, rfl, trivial⟩
                  · refine JD.pure_ (i := 12) [] rfl (by kernel_rfl) (by kernel_rfl) (by kernel_rfl) (by kernel_rfl) (.on rfl rfl rfl hc163) rfl rfl (.fieldAddr rfl (fa_46_1 _)) trivial ?_
                    refine JD.read (i := 13) [] rfl (by kernel_rfl) (by kernel_rfl) (by kernel_rfl) (by kernel_rfl) (.on rfl rfl rfl hc163) rfl rfl (.load rfl) h trivial (fun v164 st165 h => ?_)
                    refine JD.pure_ (i := 14) [false] rfl (by kernel_rfl) (by kernel_rfl) (by kernel_rfl) (by kernel_rfl) (.on rfl rfl rfl hc163) rfl rfl (.move rfl) ⟨st165, trivial⟩ ?_
                    refine JD.sPure (i := 15) [true] rfl (by kernel_rfl) (by kernel_rfl) (by kernel_rfl) (by kernel_rfl) (.on rfl rfl rfl hc163) rfl rfl (.indexAddr rfl rfl) h trivial (fun vp166 h => ?_)
                    obtain ⟨p166, rfl, h⟩ := h
                    refine JD.pure_ (i := 16) [true] rfl (by kernel_rfl) (by kernel_rfl) (by kernel_rfl) (by kernel_rfl) (.on rfl rfl rfl hc163) rfl rfl (.fieldAddr rfl (fa_56_1 _)) trivial ?_
                    refine JD.read (i := 17) [true] rfl (by kernel_rfl) (by kernel_rfl) (by kernel_rfl) (by kernel_rfl) (.on rfl rfl rfl hc163) rfl rfl (.load rfl) h trivial (fun vx167 st168 h => ?_)
                    obtain ⟨x167, rfl, h⟩ := h
                    refine JD.pure_ (i := 18) [false, false] rfl (by kernel_rfl) (by kernel_rfl) (by kernel_rfl) (by kernel_rfl) (.on rfl rfl rfl hc163) rfl rfl (.fieldAddr rfl (fa_46_1 _)) ⟨st168, st165, trivial⟩ ?_
                    refine JD.read (i := 19) [false, false] rfl (by kernel_rfl) (by kernel_rfl) (by kernel_rfl) (by kernel_rfl) (.on rfl rfl rfl hc163) rfl rfl (.load rfl) h ⟨st168, st165, trivial⟩ (fun v169 st170 h => ?_)
                    refine JD.pure_ (i := 20) [false, false, false] rfl (by kernel_rfl) (by kernel_rfl) (by kernel_rfl) (by kernel_rfl) (.on rfl rfl rfl hc163) rfl rfl (.move rfl) ⟨st170, st168, st165, trivial⟩ ?_
                    refine JD.sPure (i := 21) [true, false, false] rfl (by kernel_rfl) (by kernel_rfl) (by kernel_rfl) (by kernel_rfl) (.on rfl rfl rfl hc163) rfl rfl (.indexAddr rfl rfl) h ⟨st168, st165, trivial⟩ (fun vp171 h => ?_)
                    obtain ⟨p171, rfl, h⟩ := h
                    refine JD.pure_ (i := 22) [true, false, false] rfl (by kernel_rfl) (by kernel_rfl) (by kernel_rfl) (by kernel_rfl) (.on rfl rfl rfl hc163) rfl rfl (.fieldAddr rfl (fa_56_1 _)) ⟨st168, st165, trivial⟩ ?_
                    refine JD.read (i := 23) [true, false, false] rfl (by kernel_rfl) (by kernel_rfl) (by kernel_rfl) (by kernel_rfl) (.on rfl rfl rfl hc163) rfl rfl (.load rfl) h ⟨st168, st165, trivial⟩ (fun vx172 st173 h => ?_)
                    obtain ⟨x172, rfl, h⟩ := h
                    refine JD.pure_ (i := 24) [true, true, true, true] rfl (by kernel_rfl) (by kernel_rfl) (by kernel_rfl) (by kernel_rfl) (.on rfl rfl rfl hc163) rfl rfl (.gtr rfl rfl) trivial ?_
                    refine JD.pure_ (i := 25) [true, true, true, true] rfl (by kernel_rfl) (by kernel_rfl) (by kernel_rfl) (by kernel_rfl) (.none rfl) rfl rfl (.pickOn rfl hc163 rfl) trivial ?_
                    refine JD.done (by kernel_rfl) ?_
                    exact JX.joinEnd h ⟨rfl, rfl, rfl, rfl, rfl, rfl, trivial⟩
                · refine JD.pure_ (i := 7) [] rfl (by kernel_rfl) (by kernel_rfl) (by kernel_rfl) (by kernel_rfl) (.on rfl rfl rfl hc160) rfl rfl (.move rfl) trivial ?_
                  refine JD.pure_ (i := 8) [] rfl (by kernel_rfl) (by kernel_rfl) (by kernel_rfl) (by kernel_rfl) (.on rfl rfl rfl hc160) rfl rfl (.move rfl) trivial ?_
                  refine JD.pure_ (i := 9) [] rfl (by kernel_rfl) (by kernel_rfl) (by kernel_rfl) (by kernel_rfl) (.on rfl rfl rfl hc160) rfl rfl (.geq rfl rfl) trivial ?_
                  refine JD.pure_ (i := 10) [] rfl (by kernel_rfl) (by kernel_rfl) (by kernel_rfl) (by kernel_rfl) (.none rfl) rfl rfl (.pickOn rfl hc160 rfl) trivial ?_
                  refine JD.pure_ (i := 11) [] rfl (by kernel_rfl) (by kernel_rfl) (by kernel_rfl) (by kernel_rfl) (.none rfl) rfl rfl (.move rfl) trivial ?_
                  rcases andB_cases h with ⟨hc163, h⟩ | ⟨hc163, h⟩
                  · refine JD.skip (i := 12) [] rfl (by kernel_rfl) (by kernel_rfl) (by kernel_rfl) (by kernel_rfl) (.off rfl rfl rfl hc163 rfl) rfl rfl trivial ?_
                    refine JD.skip (i := 13) [] rfl (by kernel_rfl) (by kernel_rfl) (by kernel_rfl) (by kernel_rfl) (.off rfl rfl rfl hc163 rfl) rfl rfl trivial ?_
                    refine JD.skip (i := 14) [] rfl (by kernel_rfl) (by kernel_rfl) (by kernel_rfl) (by kernel_rfl) (.off rfl rfl rfl hc163 rfl) rfl rfl trivial ?_
                    refine JD.skip (i := 15) [] rfl (by kernel_rfl) (by kernel_rfl) (by kernel_rfl) (by kernel_rfl) (.off rfl rfl rfl hc163 rfl) rfl rfl trivial ?_
                    refine JD.skip (i := 16) [] rfl (by kernel_rfl) (by kernel_rfl) (by kernel_rfl) (by kernel_rfl) (.off rfl rfl rfl hc163 rfl) rfl rfl trivial ?_
                    refine JD.skip (i := 17) [] rfl (by kernel_rfl) (by kernel_rfl) (by kernel_rfl) (by kernel_rfl) (.off rfl rfl rfl hc163 rfl) rfl rfl trivial ?_
                    refine JD.skip (i := 18) [] rfl (by kernel_rfl) (by kernel_rfl) (by kernel_rfl) (by kernel_rfl) (.off rfl rfl rfl hc163 rfl) rfl rfl trivial ?_
                    refine JD.skip (i := 19) [] rfl (by kernel_rfl) (by kernel_rfl) (by kernel_rfl) (by kernel_rfl) (.off rfl rfl rfl hc163 rfl) rfl rfl trivial ?_
                    refine JD.skip (i := 20) [] rfl (by kernel_rfl) (by kernel_rfl) (by kernel_rfl) (by kernel_rfl) (.off rfl rfl rfl hc163 rfl) rfl rfl trivial ?_
                    refine JD.skip (i := 21) [] rfl (by kernel_rfl) (by kernel_rfl) (by kernel_rfl) (by kernel_rfl) (.off rfl rfl rfl hc163 rfl) rfl rfl trivial ?_
                    refine JD.skip (i := 22) [] rfl (by kernel_rfl) (by kernel_rfl) (by kernel_rfl) (by kernel_rfl) (.off rfl rfl rfl hc163 rfl) rfl rfl trivial ?_
                    refine JD.skip (i := 23) [] rfl (by kernel_rfl) (by kernel_rfl) (by kernel_rfl) (by kernel_rfl) (.off rfl rfl rfl hc163 rfl) rfl rfl trivial ?_
                    refine JD.skip (i := 24) [] rfl (by kernel_rfl) (by kernel_rfl) (by kernel_rfl) (by kernel_rfl) (.off rfl rfl rfl hc163 rfl) rfl rfl trivial ?_
                    refine JD.pure_ (i := 25) [] rfl (by kernel_rfl) (by kernel_rfl) (by kernel_rfl) (by kernel_rfl) (.none rfl) rfl rfl (.pickOff rfl hc163 rfl) trivial ?_
                    refine JD.done (by kernel_rfl) ?_
                    exact JX.joinEnd h ⟨rfl, rfl, rfl, rfl, rfl, rfl, trivial⟩
                  · refine JD.pure_ (i := 12) [] rfl (by kernel_rfl) (by kernel_rfl) (by kernel_rfl) (by kernel_rfl) (.on rfl rfl rfl hc163) rfl rfl (.fieldAddr rfl (fa_46_1 _)) trivial ?_
                    refine JD.read (i := 13) [] rfl (by kernel_rfl) (by kernel_rfl) (by kernel_rfl) (by kernel_rfl) (.on rfl rfl rfl hc163) rfl rfl (.load rfl) h trivial (fun v164 st165 h => ?_)
                    refine JD.pure_ (i := 14) [false] rfl (by kernel_rfl) (by kernel_rfl) (by kernel_rfl) (by kernel_rfl) (.on rfl rfl rfl hc163) rfl rfl (.move rfl) ⟨st165, trivial⟩ ?_
                    refine JD.sPure (i := 15) [true] rfl (by kernel_rfl) (by kernel_rfl) (by kernel_rfl) (by kernel_rfl) (.on rfl rfl rfl hc163) rfl rfl (.indexAddr rfl rfl) h trivial (fun vp166 h => ?_)
                    obtain ⟨p166, rfl, h⟩ := h
                    refine JD.pure_ (i := 16) [true] rfl (by kernel_rfl) (by kernel_rfl) (by kernel_rfl) (by kernel_rfl) (.on rfl rfl rfl hc163) rfl rfl (.fieldAddr rfl (fa_56_1 _)) trivial ?_
                    refine JD.read (i := 17) [true] rfl (by kernel_rfl) (by kernel_rfl) (by kernel_rfl) (by kernel_rfl) (.on rfl rfl rfl hc163) rfl rfl (.load rfl) h trivial (fun vx167 st168 h => ?_)
                    obtain ⟨x167, rfl, h⟩ := h
                    refine JD.pure_ (i := 18) [false, false] rfl (by kernel_rfl) (by kernel_rfl) (by kernel_rfl) (by kernel_rfl) (.on rfl rfl rfl hc163) rfl rfl (.fieldAddr rfl (fa_46_1 _)) ⟨st168, st165, trivial⟩ ?_
                    refine JD.read (i := 19) [false, false] rfl (by kernel_rfl) (by kernel_rfl) (by kernel_rfl) (by kernel_rfl) (.on rfl rfl rfl hc163) rfl rfl (.load rfl) h ⟨st168, st165, trivial⟩ (fun v169 st170 h => ?_)
                    refine JD.pure_ (i := 20) [false, false, false] rfl (by kernel_rfl) (by kernel_rfl) (by kernel_rfl) (by kernel_rfl) (.on rfl rfl rfl hc163) rfl rfl (.move rfl) ⟨st170, st168, st165, trivial⟩ ?_
                    refine JD.sPure (i := 21) [true, false, false] rfl (by kernel_rfl) (by kernel_rfl) (by kernel_rfl) (by kernel_rfl) (.on rfl rfl rfl hc163) rfl rfl (.indexAddr rfl rfl) h ⟨st168, st165, trivial⟩ (fun vp171 h => ?_)
                    obtain ⟨p171, rfl, h⟩ := h
                    refine JD.pure_ (i := 22) [true, false, false] rfl (by kernel_rfl) (by kernel_rfl) (by kernel_rfl) (by kernel_rfl) (.on rfl rfl rfl hc163) rfl rfl (.fieldAddr rfl (fa_56_1 _)) ⟨st168, st165, trivial⟩ ?_
                    refine JD.read (i := 23) [true, false, false] rfl (by kernel_rfl) (by kernel_rfl) (by kernel_rfl) (by kernel_rfl) (.on rfl rfl rfl hc163) rfl rfl (.load rfl) h ⟨st168, st165, trivial⟩ (fun vx172 st173 h => ?_)
                    obtain ⟨x172, rfl, h⟩ := h
                    refine JD.pure_ (i := 24) [true, true, true, true] rfl (by kernel_rfl) (by kernel_rfl) (by kernel_rfl) (by kernel_rfl) (.on rfl rfl rfl hc163) rfl rfl (.gtr rfl rfl) trivial ?_
                    refine JD.pure_ (i := 25) [true, true, true, true] rfl (by kernel_rfl) (by kernel_rfl) (by kernel_rfl) (by kernel_rfl) (.none rfl) rfl rfl (.pickOn rfl hc163 rfl) trivial ?_
                    refine JD.done (by kernel_rfl) ?_
                    exact JX.joinEnd h ⟨rfl, rfl, rfl, rfl, rfl, rfl, trivial⟩
            · refine JX.then ?_
              refine J.cond (b := _) rfl h (fun h => ?_) (fun h => ?_)
              · refine J.seq ?_
                refine J.region ?_
                refine JL.exP (.none rfl) rfl rfl (.assign rfl) ?_
                refine JL.nil ?_
                refine JX.then ?_
                refine J.ret ?_
                refine JX.blockRet ?_
                refine JX.thenRet ?_
                refine JX.thenRet ?_
                refine JX.blockRet ?_
                refine JX.blockRet ?_
                refine JX.thenRet ?_
                refine JX.thenRet ?_
                refine JX.blockRet ?_
                refine JX.thenRet ?_
                exact JX.ret1 rfl rfl h
              · refine J.skip ?_
                refine JX.blockNormal ?_
                refine JX.then ?_
                refine J.region ?_
                refine JL.exP (.none rfl) rfl rfl (.move rfl) ?_
                refine JL.exP (.none rfl) rfl rfl (.add rfl rfl) ?_
                refine JL.exP (.none rfl) rfl rfl (.assign rfl) ?_
                refine JL.nil ?_
                exact JX.loopEnd h ⟨rfl, rfl, rfl, rfl, rfl, trivial⟩
          · refine J.exit ?_
            refine JX.thenExit ?_
            refine JX.thenExit ?_
            refine JX.blockHere ?_
            refine JX.blockNormal ?_
            refine JX.then ?_
            refine J.region ?_
            refine JL.exP (.none rfl) rfl rfl (.move rfl) ?_
            refine JL.exP (.none rfl) rfl rfl (.add rfl rfl) ?_
            refine JL.exP (.none rfl) rfl rfl (.assign rfl) ?_
            refine JL.nil ?_
            exact JX.loopEnd h ⟨rfl, rfl, rfl, trivial⟩
    · refine J.exit ?_
      refine JX.thenExit ?_
      refine JX.thenExit ?_
      refine JX.blockHere ?_
      refine JX.then ?_
      refine J.seq ?_
      refine J.region ?_
      refine JL.exP (.none rfl) rfl rfl (.assign rfl) ?_
      refine JL.nil ?_
      refine JX.then ?_
      refine J.ret ?_
      exact JX.ret1 rfl rfl h

/-- cabstand/cabstandlaw21.follows -/
def law21_follows (a0 : Value) (a1 : Value) (K : Value → WP) : WP :=
  semA Try.prog (Instr.box 46 a0) fun p174 =>
  semA Try.prog (Instr.box 46 a1) fun p175 =>
  loopH (σ := Bool × Int) (fun kc177 s176 =>
    semV Try.prog (loadVar 36 (p175.add 1)) fun v178 =>
    pureI Try.prog .i64 (Builtin.len_ #[36] 3 #[v178]) fun x179 =>
    iteH (decide (s176.2 < x179)) (
      joinH (α := Bool) (fun y180 =>
        kc177 (y180, (IntKind.i64.wrap (s176.2 + 1)))) fun k181 =>
        drawH <|
        readV Try.prog (loadVar 36 (p175.add 1)) fun v182 =>
        pureA Try.prog (Instr.indexAt 36 v182 (.int .i64 s176.2)) fun p184 =>
        readI Try.prog .i64 (loadVar 3 (p184.add 16)) fun x185 =>
        readI Try.prog .i64 (loadVar 3 (p174.add 0)) fun x187 =>
        iteH (decide (x187 ≤ x185)) (
          k181 s176.1) (
          drawH <|
          readV Try.prog (loadVar 46 p174) fun v189 =>
          readV Try.prog (loadVar 36 (p175.add 1)) fun v191 =>
          pureA Try.prog (Instr.indexAt 36 v191 (.int .i64 s176.2)) fun p193 =>
          readV Try.prog (loadVar 28 ((p193.add 0).add 0)) fun v194 =>
          callH Try.prog 19 #[v189, v194] fun v196 =>
          pureB Try.prog (Instr.extract v196 0) fun b197 =>
          pureB Try.prog (Instr.extract v196 1) fun b198 =>
          pureB Try.prog (Instr.extract v196 2) fun b199 =>
          joinH (α := Bool) (fun y200 =>
            iteH y200 (
              K (.bool false)) (
              k181 s176.1)) fun k201 =>
            orB (!b197) (fun k203 =>
              k203 b199) fun b202 =>
            k201 b202)) (
      K (.bool true))) (false, 0)
set_option maxRecDepth 100000 in
set_option maxHeartbeats 1000000 in
theorem law21_follows_ok {a0 : Value} {a1 : Value} {K : Value → WP} {w : World} (h : law21_follows a0 a1 K w) : callH Try.prog 29 #[a0, a1] K w := by
  refine enter (l := [a0, a1]) Try.func29 rfl rfl rfl ?_
  show J Try.prog 43 [(0, a0), (1, a1)] _ _ _
  unfold law21_follows at h
  refine J.seq ?_
  refine J.region ?_
  refine JL.exV (.none rfl) rfl rfl (.box rfl) h (fun vp174 w h => ?_)
  obtain ⟨p174, rfl, h⟩ := h
  refine JL.exV (.none rfl) rfl rfl (.box rfl) h (fun vp175 w h => ?_)
  obtain ⟨p175, rfl, h⟩ := h
  refine JL.exP (.none rfl) rfl rfl (.assign rfl) ?_
  refine JL.nil ?_
  refine JX.then ?_
  refine J.seq ?_
  refine J.seq ?_
  refine J.region ?_
  refine JL.exP (.none rfl) rfl rfl (.assign rfl) ?_
  refine JL.nil ?_
  refine JX.then ?_
  refine J.block ?_
  refine J.loop h (fun s176 => [(2, (.pointer (some p174))), (3, (.pointer (some p175))), (4, (.bool s176.1)), (5, (.int .i64 s176.2))]) ⟨rfl, rfl, rfl, rfl, trivial⟩ (fun I μ s176 w h => ?_)
  refine J.seq ?_
  refine J.seq ?_
  refine J.region ?_
  refine JL.exP (.none rfl) rfl rfl (.move rfl) ?_
  refine JL.exP (.none rfl) rfl rfl (.fieldAddr rfl (fa_46_1 _)) ?_
  refine JL.exV (.none rfl) rfl rfl (.load rfl) h (fun v178 w h => ?_)
  refine JL.sPure (.none rfl) rfl rfl ((.len (vs := [v178]) rfl)) h (fun vx179 w h => ?_)
  obtain ⟨x179, rfl, h⟩ := h
  refine JL.exP (.none rfl) rfl rfl (.lss rfl rfl) ?_
  refine JL.nil ?_
  refine JX.then ?_
  refine J.cond (b := _) rfl h (fun h => ?_) (fun h => ?_)
  · refine J.skip ?_
    refine JX.then ?_
    refine J.seq ?_
    refine J.join h (fun y180 => [(2, (.pointer (some p174))), (3, (.pointer (some p175))), (4, (.bool y180)), (5, (.int .i64 s176.2))]) (fun k181 w h => ?_) (fun y180 w h => ?_)
    · refine J.block ?_
      refine J.seq ?_
      refine J.seq ?_
      refine J.draw [[], [0], [], [0, 1, 2], [0, 1, 2, 3], [0, 1, 2, 3, 4], [], [6], [0, 1, 2, 3, 4, 5, 6, 7]] (by kernel_rfl) mixed h (fun w h => ?_)
      refine JD.pure_ (i := 0) [] rfl (by kernel_rfl) (by kernel_rfl) (by kernel_rfl) (by kernel_rfl) (.none rfl) rfl rfl (.fieldAddr rfl (fa_46_1 _)) trivial ?_
      refine JD.read (i := 1) [] rfl (by kernel_rfl) (by kernel_rfl) (by kernel_rfl) (by kernel_rfl) (.none rfl) rfl rfl (.load rfl) h trivial (fun v182 st183 h => ?_)
      refine JD.pure_ (i := 2) [false] rfl (by kernel_rfl) (by kernel_rfl) (by kernel_rfl) (by kernel_rfl) (.none rfl) rfl rfl (.move rfl) ⟨st183, trivial⟩ ?_
      refine JD.sPure (i := 3) [true] rfl (by kernel_rfl) (by kernel_rfl) (by kernel_rfl) (by kernel_rfl) (.none rfl) rfl rfl (.indexAddr rfl rfl) h trivial (fun vp184 h => ?_)
      obtain ⟨p184, rfl, h⟩ := h
      refine JD.pure_ (i := 4) [true] rfl (by kernel_rfl) (by kernel_rfl) (by kernel_rfl) (by kernel_rfl) (.none rfl) rfl rfl (.fieldAddr rfl (fa_56_1 _)) trivial ?_
      refine JD.read (i := 5) [true] rfl (by kernel_rfl) (by kernel_rfl) (by kernel_rfl) (by kernel_rfl) (.none rfl) rfl rfl (.load rfl) h trivial (fun vx185 st186 h => ?_)
      obtain ⟨x185, rfl, h⟩ := h
      refine JD.pure_ (i := 6) [false, false] rfl (by kernel_rfl) (by kernel_rfl) (by kernel_rfl) (by kernel_rfl) (.none rfl) rfl rfl (.fieldAddr rfl (fa_46_0 _)) ⟨st186, st183, trivial⟩ ?_
      refine JD.read (i := 7) [false, false] rfl (by kernel_rfl) (by kernel_rfl) (by kernel_rfl) (by kernel_rfl) (.none rfl) rfl rfl (.load rfl) h ⟨st186, st183, trivial⟩ (fun vx187 st188 h => ?_)
      obtain ⟨x187, rfl, h⟩ := h
      refine JD.pure_ (i := 8) [true, true, true] rfl (by kernel_rfl) (by kernel_rfl) (by kernel_rfl) (by kernel_rfl) (.none rfl) rfl rfl (.geq rfl rfl) trivial ?_
      refine JD.done (by kernel_rfl) ?_
      refine JX.then ?_
      refine J.cond (b := _) rfl h (fun h => ?_) (fun h => ?_)
      · refine J.exit ?_
        refine JX.thenExit ?_
        refine JX.blockHere ?_
        exact JX.joinEnd h ⟨rfl, rfl, rfl, rfl, trivial⟩
      · refine J.skip ?_
        refine JX.then ?_
        refine J.seq ?_
        refine J.draw [[], [], [1], [], [1, 2, 3], [1, 2, 3, 4], [1, 2, 3, 4, 5], [1, 2, 3, 4, 5, 6], [0, 1, 2, 3, 4, 5, 6, 7], [0, 1, 2, 3, 4, 5, 6, 7, 8], [0, 1, 2, 3, 4, 5, 6, 7, 8, 9], [0, 1, 2, 3, 4, 5, 6, 7, 8, 9], [0, 1, 2, 3, 4, 5, 6, 7, 8, 9], [0, 1, 2, 3, 4, 5, 6, 7, 8, 9, 10], [0, 1, 2, 3, 4, 5, 6, 7, 8, 9, 10, 11, 13], [0, 1, 2, 3, 4, 5, 6, 7, 8, 9, 10, 11, 12, 13, 14]] (by kernel_rfl) mixed h (fun w h => ?_)
        refine JD.read (i := 0) [] rfl (by kernel_rfl) (by kernel_rfl) (by kernel_rfl) (by kernel_rfl) (.none rfl) rfl rfl (.load rfl) h trivial (fun v189 st190 h => ?_)
        refine JD.pure_ (i := 1) [false] rfl (by kernel_rfl) (by kernel_rfl) (by kernel_rfl) (by kernel_rfl) (.none rfl) rfl rfl (.fieldAddr rfl (fa_46_1 _)) ⟨st190, trivial⟩ ?_
        refine JD.read (i := 2) [false] rfl (by kernel_rfl) (by kernel_rfl) (by kernel_rfl) (by kernel_rfl) (.none rfl) rfl rfl (.load rfl) h ⟨st190, trivial⟩ (fun v191 st192 h => ?_)
        refine JD.pure_ (i := 3) [false, false] rfl (by kernel_rfl) (by kernel_rfl) (by kernel_rfl) (by kernel_rfl) (.none rfl) rfl rfl (.move rfl) ⟨st192, st190, trivial⟩ ?_
        refine JD.sPure (i := 4) [true, false] rfl (by kernel_rfl) (by kernel_rfl) (by kernel_rfl) (by kernel_rfl) (.none rfl) rfl rfl (.indexAddr rfl rfl) h ⟨st190, trivial⟩ (fun vp193 h => ?_)
        obtain ⟨p193, rfl, h⟩ := h
        refine JD.pure_ (i := 5) [true, false] rfl (by kernel_rfl) (by kernel_rfl) (by kernel_rfl) (by kernel_rfl) (.none rfl) rfl rfl (.fieldAddr rfl (fa_56_0 _)) ⟨st190, trivial⟩ ?_
        refine JD.pure_ (i := 6) [true, false] rfl (by kernel_rfl) (by kernel_rfl) (by kernel_rfl) (by kernel_rfl) (.none rfl) rfl rfl (.fieldAddr rfl (fa_54_0 _)) ⟨st190, trivial⟩ ?_
        refine JD.read (i := 7) [true, false] rfl (by kernel_rfl) (by kernel_rfl) (by kernel_rfl) (by kernel_rfl) (.none rfl) rfl rfl (.load rfl) h ⟨st190, trivial⟩ (fun v194 st195 h => ?_)
        refine JD.one (j := 8) (by kernel_rfl) ?_
        refine JD1.exC [true, true, true] rfl (by kernel_rfl) (.none rfl) rfl rfl (.func (vs := [v189, v194]) en_19 rfl) h (fun v196 w h => ?_)
        refine ⟨trivial, ?_⟩
        refine JD.pure_ (i := 9) [] rfl (by kernel_rfl) (by kernel_rfl) (by kernel_rfl) (by kernel_rfl) (.none rfl) rfl rfl (.move rfl) trivial ?_
        refine JD.sPure (i := 10) [] rfl (by kernel_rfl) (by kernel_rfl) (by kernel_rfl) (by kernel_rfl) (.none rfl) rfl rfl (.extract rfl) h trivial (fun vb197 h => ?_)
        obtain ⟨b197, rfl, h⟩ := h
        refine JD.sPure (i := 11) [] rfl (by kernel_rfl) (by kernel_rfl) (by kernel_rfl) (by kernel_rfl) (.none rfl) rfl rfl (.extract rfl) h trivial (fun vb198 h => ?_)
        obtain ⟨b198, rfl, h⟩ := h
        refine JD.sPure (i := 12) [] rfl (by kernel_rfl) (by kernel_rfl) (by kernel_rfl) (by kernel_rfl) (.none rfl) rfl rfl (.extract rfl) h trivial (fun vb199 h => ?_)
        obtain ⟨b199, rfl, h⟩ := h
        refine JD.pure_ (i := 13) [] rfl (by kernel_rfl) (by kernel_rfl) (by kernel_rfl) (by kernel_rfl) (.none rfl) rfl rfl (.assign rfl) trivial ?_
        refine JD.pure_ (i := 14) [] rfl (by kernel_rfl) (by kernel_rfl) (by kernel_rfl) (by kernel_rfl) (.none rfl) rfl rfl (.assign rfl) trivial ?_
        refine JD.pure_ (i := 15) [] rfl (by kernel_rfl) (by kernel_rfl) (by kernel_rfl) (by kernel_rfl) (.none rfl) rfl rfl (.assign rfl) trivial ?_
        refine JD.done (by kernel_rfl) ?_
        refine JX.then ?_
        refine J.seq ?_
        refine J.join h (fun y200 => [(2, (.pointer (some p174))), (3, (.pointer (some p175))), (4, (.bool s176.1)), (5, (.int .i64 s176.2)), (42, (.bool y200))]) (fun k201 w h => ?_) (fun y200 w h => ?_)
        · refine J.region ?_
          refine JL.exP (.none rfl) rfl rfl (.move rfl) ?_
          refine JL.exP (.none rfl) rfl rfl (.not rfl) ?_
          refine JL.exP (.none rfl) rfl rfl (.move rfl) ?_
          rcases orB_cases h with ⟨hc204, h⟩ | ⟨hc204, h⟩
          · refine JL.exNo (.off rfl rfl rfl hc204 rfl) rfl rfl ?_
            refine JL.exP (.none rfl) rfl rfl (.pickOn rfl hc204 rfl) ?_
            refine JL.nil ?_
            exact JX.joinEnd h ⟨rfl, rfl, rfl, rfl, rfl, trivial⟩
          · refine JL.exP (.on rfl rfl rfl hc204) rfl rfl (.move rfl) ?_
            refine JL.exP (.none rfl) rfl rfl (.pickOff rfl hc204 rfl) ?_
            refine JL.nil ?_
            exact JX.joinEnd h ⟨rfl, rfl, rfl, rfl, rfl, trivial⟩
        · refine JX.then ?_
          refine J.cond (b := _) rfl h (fun h => ?_) (fun h => ?_)
          · refine J.seq ?_
            refine J.region ?_
            refine JL.exP (.none rfl) rfl rfl (.assign rfl) ?_
            refine JL.nil ?_
            refine JX.then ?_
            refine J.ret ?_
            refine JX.blockRet ?_
            refine JX.joinRet ?_
            refine JX.thenRet ?_
            refine JX.thenRet ?_
            refine JX.blockRet ?_
            refine JX.thenRet ?_
            exact JX.ret1 rfl rfl h
          · refine J.skip ?_
            refine JX.blockNormal ?_
            exact JX.joinEnd h ⟨rfl, rfl, rfl, rfl, trivial⟩
    · refine JX.then ?_
      refine J.region ?_
      refine JL.exP (.none rfl) rfl rfl (.move rfl) ?_
      refine JL.exP (.none rfl) rfl rfl (.add rfl rfl) ?_
      refine JL.exP (.none rfl) rfl rfl (.assign rfl) ?_
      refine JL.nil ?_
      exact JX.loopEnd h ⟨rfl, rfl, rfl, rfl, trivial⟩
  · refine J.exit ?_
    refine JX.thenExit ?_
    refine JX.thenExit ?_
    refine JX.blockHere ?_
    refine JX.then ?_
    refine J.seq ?_
    refine J.region ?_
    refine JL.exP (.none rfl) rfl rfl (.assign rfl) ?_
    refine JL.nil ?_
    refine JX.then ?_
    refine J.ret ?_
    exact JX.ret1 rfl rfl h

/-- cabstand/cabstandref18.Check -/
def ref18_Check (a0 : Value) (a1 : Value) (K : Value → WP) : WP :=
  semA Try.prog (Instr.box 40 a0) fun p205 =>
  semA Try.prog (Instr.box 44 a1) fun p206 =>
  semV Try.prog (loadVar 40 p205) fun v207 =>
  semV Try.prog (loadVar 41 (p206.add 0)) fun v208 =>
  callI Try.prog 72 #[v207, v208] .i64 fun x209 =>
  iteH ((x209 : Int) != 0) (
    K (.int .i64 x209)) (
    semV Try.prog (loadVar 40 p205) fun v210 =>
    semV Try.prog (loadVar 42 (p206.add 1)) fun v211 =>
    semV Try.prog (loadVar 42 (p206.add 2)) fun v212 =>
    callH Try.prog 80 #[v210, v211, v212] fun v213 =>
    pureI Try.prog .i64 (Instr.extract v213 0) fun x214 =>
    pureI Try.prog .i64 (Instr.extract v213 1) fun x215 =>
    joinH (α := Bool) (fun y216 =>
      iteH y216 (
        K (.int .i64 182)) (
        K (.int .i64 x215))) fun k217 =>
      orB ((x215 : Int) == 3) (fun k219 =>
        andB ((x215 : Int) == 0) (fun k222 =>
          semV Try.prog (loadVar 40 p205) fun v224 =>
          semV Try.prog (loadVar 41 (p206.add 0)) fun v225 =>
          callI Try.prog 81 #[v224, v225] .i64 fun x226 =>
          k222 ((x214 : Int) != x226)) fun b221 =>
        k219 b221) fun b218 =>
      k217 b218)
set_option maxRecDepth 100000 in
set_option maxHeartbeats 1000000 in
theorem ref18_Check_ok {a0 : Value} {a1 : Value} {K : Value → WP} {w : World} (h : ref18_Check a0 a1 K w) : callH Try.prog 56 #[a0, a1] K w := by
  refine enter (l := [a0, a1]) Try.func56 rfl rfl rfl ?_
  show J Try.prog 38 [(0, a0), (1, a1)] _ _ _
  unfold ref18_Check at h
  refine J.seq ?_
  refine J.region ?_
  refine JL.exV (.none rfl) rfl rfl (.box rfl) h (fun vp205 w h => ?_)
  obtain ⟨p205, rfl, h⟩ := h
  refine JL.exV (.none rfl) rfl rfl (.box rfl) h (fun vp206 w h => ?_)
  obtain ⟨p206, rfl, h⟩ := h
  refine JL.exP (.none rfl) rfl rfl (.assign rfl) ?_
  refine JL.nil ?_
  refine JX.then ?_
  refine J.seq ?_
  refine J.region ?_
  refine JL.exV (.none rfl) rfl rfl (.load rfl) h (fun v207 w h => ?_)
  refine JL.exP (.none rfl) rfl rfl (.fieldAddr rfl (fa_44_0 _)) ?_
  refine JL.exV (.none rfl) rfl rfl (.load rfl) h (fun v208 w h => ?_)
  refine JL.exC (.none rfl) rfl rfl (.func (vs := [v207, v208]) en_72 rfl) h (fun vx209 w h => ?_)
  obtain ⟨x209, rfl, h⟩ := h
  refine JL.exP (.none rfl) rfl rfl (.assign rfl) ?_
  refine JL.nil ?_
  refine JX.then ?_
  refine J.seq ?_
  refine J.seq ?_
  refine J.region ?_
  refine JL.exP (.none rfl) rfl rfl (.move rfl) ?_
  refine JL.exP (.none rfl) rfl rfl (.neq rfl rfl) ?_
  refine JL.nil ?_
  refine JX.then ?_
  refine J.cond (b := _) rfl h (fun h => ?_) (fun h => ?_)
  · refine J.seq ?_
    refine J.region ?_
    refine JL.exP (.none rfl) rfl rfl (.move rfl) ?_
    refine JL.exP (.none rfl) rfl rfl (.assign rfl) ?_
    refine JL.nil ?_
    refine JX.then ?_
    refine J.ret ?_
    refine JX.thenRet ?_
    exact JX.ret1 rfl rfl h
  · refine J.skip ?_
    refine JX.then ?_
    refine J.seq ?_
    refine J.region ?_
    refine JL.exV (.none rfl) rfl rfl (.load rfl) h (fun v210 w h => ?_)
    refine JL.exP (.none rfl) rfl rfl (.fieldAddr rfl (fa_44_1 _)) ?_
    refine JL.exV (.none rfl) rfl rfl (.load rfl) h (fun v211 w h => ?_)
    refine JL.exP (.none rfl) rfl rfl (.fieldAddr rfl (fa_44_2 _)) ?_
    refine JL.exV (.none rfl) rfl rfl (.load rfl) h (fun v212 w h => ?_)
    refine JL.exC (.none rfl) rfl rfl (.func (vs := [v210, v211, v212]) en_80 rfl) h (fun v213 w h => ?_)
    refine JL.exP (.none rfl) rfl rfl (.move rfl) ?_
    refine JL.sPure (.none rfl) rfl rfl (.extract rfl) h (fun vx214 w h => ?_)
    obtain ⟨x214, rfl, h⟩ := h
    refine JL.sPure (.none rfl) rfl rfl (.extract rfl) h (fun vx215 w h => ?_)
    obtain ⟨x215, rfl, h⟩ := h
    refine JL.exP (.none rfl) rfl rfl (.assign rfl) ?_
    refine JL.exP (.none rfl) rfl rfl (.assign rfl) ?_
    refine JL.nil ?_
    refine JX.then ?_
    refine J.seq ?_
    refine J.seq ?_
    refine J.join h (fun y216 => [(4, (.int .i64 0)), (5, (.int .i64 x215)), (36, (.bool y216))]) (fun k217 w h => ?_) (fun y216 w h => ?_)
    · refine J.region ?_
      refine JL.exP (.none rfl) rfl rfl (.move rfl) ?_
      refine JL.exP (.none rfl) rfl rfl (.eql rfl rfl) ?_
      refine JL.exP (.none rfl) rfl rfl (.move rfl) ?_
      rcases orB_cases h with ⟨hc220, h⟩ | ⟨hc220, h⟩
      · refine JL.exNo (.off rfl rfl rfl hc220 rfl) rfl rfl ?_
        refine JL.exNo (.off rfl rfl rfl hc220 rfl) rfl rfl ?_
        refine JL.exNo (.off rfl rfl rfl hc220 rfl) rfl rfl ?_
        refine JL.exNo (.undef rfl rfl rfl) rfl rfl ?_
        refine JL.exNo (.undef rfl rfl rfl) rfl rfl ?_
        refine JL.exNo (.undef rfl rfl rfl) rfl rfl ?_
        refine JL.exNo (.undef rfl rfl rfl) rfl rfl ?_
        refine JL.exNo (.undef rfl rfl rfl) rfl rfl ?_
        refine JL.exNo (.undef rfl rfl rfl) rfl rfl ?_
        refine JL.exNo (.off rfl rfl rfl hc220 rfl) rfl rfl ?_
        refine JL.exP (.none rfl) rfl rfl (.pickOn rfl hc220 rfl) ?_
        refine JL.nil ?_
        exact JX.joinEnd h ⟨rfl, rfl, rfl, trivial⟩
      · refine JL.exP (.on rfl rfl rfl hc220) rfl rfl (.move rfl) ?_
        refine JL.exP (.on rfl rfl rfl hc220) rfl rfl (.eql rfl rfl) ?_
        refine JL.exP (.on rfl rfl rfl hc220) rfl rfl (.move rfl) ?_
        rcases andB_cases h with ⟨hc223, h⟩ | ⟨hc223, h⟩
        · refine JL.exNo (.off rfl rfl rfl hc223 rfl) rfl rfl ?_
          refine JL.exNo (.off rfl rfl rfl hc223 rfl) rfl rfl ?_
          refine JL.exNo (.off rfl rfl rfl hc223 rfl) rfl rfl ?_
          refine JL.exNo (.off rfl rfl rfl hc223 rfl) rfl rfl ?_
          refine JL.exNo (.off rfl rfl rfl hc223 rfl) rfl rfl ?_
          refine JL.exNo (.off rfl rfl rfl hc223 rfl) rfl rfl ?_
          refine JL.exP (.on rfl rfl rfl hc220) rfl rfl (.pickOff rfl hc223 rfl) ?_
          refine JL.exP (.none rfl) rfl rfl (.pickOff rfl hc220 rfl) ?_
          refine JL.nil ?_
          exact JX.joinEnd h ⟨rfl, rfl, rfl, trivial⟩
        · refine JL.exP (.on rfl rfl rfl hc223) rfl rfl (.move rfl) ?_
          refine JL.exV (.on rfl rfl rfl hc223) rfl rfl (.load rfl) h (fun v224 w h => ?_)
          refine JL.exP (.on rfl rfl rfl hc223) rfl rfl (.fieldAddr rfl (fa_44_0 _)) ?_
          refine JL.exV (.on rfl rfl rfl hc223) rfl rfl (.load rfl) h (fun v225 w h => ?_)
          refine JL.exC (.on rfl rfl rfl hc223) rfl rfl (.func (vs := [v224, v225]) en_81 rfl) h (fun vx226 w h => ?_)
          obtain ⟨x226, rfl, h⟩ := h
          refine JL.exP (.on rfl rfl rfl hc223) rfl rfl (.neq rfl rfl) ?_
          refine JL.exP (.on rfl rfl rfl hc220) rfl rfl (.pickOn rfl hc223 rfl) ?_
          refine JL.exP (.none rfl) rfl rfl (.pickOff rfl hc220 rfl) ?_
          refine JL.nil ?_
          exact JX.joinEnd h ⟨rfl, rfl, rfl, trivial⟩
    · refine JX.then ?_
      refine J.cond (b := _) rfl h (fun h => ?_) (fun h => ?_)
      · refine J.seq ?_
        refine J.region ?_
        refine JL.exP (.none rfl) rfl rfl (.assign rfl) ?_
        refine JL.nil ?_
        refine JX.then ?_
        refine J.ret ?_
        refine JX.thenRet ?_
        exact JX.ret1 rfl rfl h
      · refine J.skip ?_
        refine JX.then ?_
        refine J.seq ?_
        refine J.region ?_
        refine JL.exP (.none rfl) rfl rfl (.move rfl) ?_
        refine JL.exP (.none rfl) rfl rfl (.assign rfl) ?_
        refine JL.nil ?_
        refine JX.then ?_
        refine J.ret ?_
        exact JX.ret1 rfl rfl h

/-- cabstand/cabstandlaw21.weight -/
def law21_weight (a0 : Value) (a1 : Int) (K : Value → WP) : WP :=
  semA Try.prog (Instr.box 40 a0) fun p227 =>
  loopH (σ := Int × Int × Int) (fun kc229 s228 =>
    semV Try.prog (loadVar 38 (p227.add 2)) fun v230 =>
    pureI Try.prog .i64 (Builtin.len_ #[38] 3 #[v230]) fun x231 =>
    iteH (decide (s228.2.2 < x231)) (
      joinH (α := Int × Int) (fun y232 =>
        kc229 (y232.1, y232.2, (IntKind.i64.wrap (s228.2.2 + 1)))) fun k233 =>
        semV Try.prog (loadVar 38 (p227.add 2)) fun v234 =>
        pureA Try.prog (Instr.indexAt 38 v234 (.int .i64 s228.2.2)) fun p235 =>
        semI Try.prog .i64 (loadVar 3 (p235.add 0)) fun x236 =>
        joinH (α := Int × Int) (fun y237 =>
          k233 (y237.1, y237.2)) fun k238 =>
          iteH ((x236 : Int) == a1) (
            joinH (α := Bool) (fun y239 =>
              iteH y239 (
                K (.int .i64 (-1))) (
                semV Try.prog (loadVar 38 (p227.add 2)) fun v247 =>
                pureA Try.prog (Instr.indexAt 38 v247 (.int .i64 s228.2.2)) fun p248 =>
                semI Try.prog .i64 (loadVar 3 (p248.add 2)) fun x249 =>
                k238 (s228.1, x249))) fun k240 =>
              andB ((s228.2.1 : Int) != 0) (fun k242 =>
                semV Try.prog (loadVar 38 (p227.add 2)) fun v244 =>
                pureA Try.prog (Instr.indexAt 38 v244 (.int .i64 s228.2.2)) fun p245 =>
                semI Try.prog .i64 (loadVar 3 (p245.add 2)) fun x246 =>
                k242 ((s228.2.1 : Int) != x246)) fun b241 =>
              k240 b241) (
            k238 (s228.1, s228.2.1))) (
      K (.int .i64 s228.2.1))) (0, 0, 0)
set_option maxRecDepth 100000 in
set_option maxHeartbeats 1000000 in
theorem law21_weight_ok {a0 : Value} {a1 : Int} {K : Value → WP} {w : World} (h : law21_weight a0 a1 K w) : callH Try.prog 57 #[a0, (.int .i64 a1)] K w := by
  refine enter (l := [a0, (.int .i64 a1)]) Try.func57 rfl rfl rfl ?_
  show J Try.prog 41 [(0, a0), (1, (.int .i64 a1))] _ _ _
  unfold law21_weight at h
  refine J.seq ?_
  refine J.region ?_
  refine JL.exV (.none rfl) rfl rfl (.box rfl) h (fun vp227 w h => ?_)
  obtain ⟨p227, rfl, h⟩ := h
  refine JL.exP (.none rfl) rfl rfl (.assign rfl) ?_
  refine JL.nil ?_
  refine JX.then ?_
  refine J.seq ?_
  refine J.region ?_
  refine JL.exP (.none rfl) rfl rfl (.assign rfl) ?_
  refine JL.nil ?_
  refine JX.then ?_
  refine J.seq ?_
  refine J.seq ?_
  refine J.region ?_
  refine JL.exP (.none rfl) rfl rfl (.assign rfl) ?_
  refine JL.nil ?_
  refine JX.then ?_
  refine J.block ?_
  refine J.loop h (fun s228 => [(1, (.int .i64 a1)), (2, (.pointer (some p227))), (4, (.int .i64 s228.1)), (5, (.int .i64 s228.2.1)), (6, (.int .i64 s228.2.2))]) ⟨rfl, rfl, rfl, rfl, rfl, trivial⟩ (fun I μ s228 w h => ?_)
  refine J.seq ?_
  refine J.seq ?_
  refine J.region ?_
  refine JL.exP (.none rfl) rfl rfl (.move rfl) ?_
  refine JL.exP (.none rfl) rfl rfl (.fieldAddr rfl (fa_40_2 _)) ?_
  refine JL.exV (.none rfl) rfl rfl (.load rfl) h (fun v230 w h => ?_)
  refine JL.sPure (.none rfl) rfl rfl ((.len (vs := [v230]) rfl)) h (fun vx231 w h => ?_)
  obtain ⟨x231, rfl, h⟩ := h
  refine JL.exP (.none rfl) rfl rfl (.lss rfl rfl) ?_
  refine JL.nil ?_
  refine JX.then ?_
  refine J.cond (b := _) rfl h (fun h => ?_) (fun h => ?_)
  · refine J.skip ?_
    refine JX.then ?_
    refine J.seq ?_
    refine J.join h (fun y232 => [(1, (.int .i64 a1)), (2, (.pointer (some p227))), (4, (.int .i64 y232.1)), (5, (.int .i64 y232.2)), (6, (.int .i64 s228.2.2))]) (fun k233 w h => ?_) (fun y232 w h => ?_)
    · refine J.block ?_
      refine J.seq ?_
      refine J.region ?_
      refine JL.exP (.none rfl) rfl rfl (.fieldAddr rfl (fa_40_2 _)) ?_
      refine JL.exV (.none rfl) rfl rfl (.load rfl) h (fun v234 w h => ?_)
      refine JL.exP (.none rfl) rfl rfl (.move rfl) ?_
      refine JL.sPure (.none rfl) rfl rfl (.indexAddr rfl rfl) h (fun vp235 w h => ?_)
      obtain ⟨p235, rfl, h⟩ := h
      refine JL.exP (.none rfl) rfl rfl (.fieldAddr rfl (fa_103_0 _)) ?_
      refine JL.exV (.none rfl) rfl rfl (.load rfl) h (fun vx236 w h => ?_)
      obtain ⟨x236, rfl, h⟩ := h
      refine JL.exP (.none rfl) rfl rfl (.move rfl) ?_
      refine JL.exP (.none rfl) rfl rfl (.eql rfl rfl) ?_
      refine JL.nil ?_
      refine JX.then ?_
      refine J.join h (fun y237 => [(1, (.int .i64 a1)), (2, (.pointer (some p227))), (4, (.int .i64 y237.1)), (5, (.int .i64 y237.2)), (6, (.int .i64 s228.2.2))]) (fun k238 w h => ?_) (fun y237 w h => ?_)
      · refine J.cond (b := _) rfl h (fun h => ?_) (fun h => ?_)
        · refine J.seq ?_
          refine J.seq ?_
          refine J.join h (fun y239 => [(1, (.int .i64 a1)), (2, (.pointer (some p227))), (4, (.int .i64 s228.1)), (5, (.int .i64 s228.2.1)), (6, (.int .i64 s228.2.2)), (33, (.bool y239))]) (fun k240 w h => ?_) (fun y239 w h => ?_)
          · refine J.region ?_
            refine JL.exP (.none rfl) rfl rfl (.move rfl) ?_
            refine JL.exP (.none rfl) rfl rfl (.neq rfl rfl) ?_
            refine JL.exP (.none rfl) rfl rfl (.move rfl) ?_
            rcases andB_cases h with ⟨hc243, h⟩ | ⟨hc243, h⟩
            · refine JL.exNo (.off rfl rfl rfl hc243 rfl) rfl rfl ?_
              refine JL.exNo (.off rfl rfl rfl hc243 rfl) rfl rfl ?_
              refine JL.exNo (.off rfl rfl rfl hc243 rfl) rfl rfl ?_
              refine JL.exNo (.off rfl rfl rfl hc243 rfl) rfl rfl ?_
              refine JL.exNo (.off rfl rfl rfl hc243 rfl) rfl rfl ?_
              refine JL.exNo (.off rfl rfl rfl hc243 rfl) rfl rfl ?_
              refine JL.exNo (.off rfl rfl rfl hc243 rfl) rfl rfl ?_
              refine JL.exNo (.off rfl rfl rfl hc243 rfl) rfl rfl ?_
              refine JL.exP (.none rfl) rfl rfl (.pickOff rfl hc243 rfl) ?_
              refine JL.nil ?_
              exact JX.joinEnd h ⟨rfl, rfl, rfl, rfl, rfl, rfl, trivial⟩
            · refine JL.exP (.on rfl rfl rfl hc243) rfl rfl (.move rfl) ?_
              refine JL.exP (.on rfl rfl rfl hc243) rfl rfl (.fieldAddr rfl (fa_40_2 _)) ?_
              refine JL.exV (.on rfl rfl rfl hc243) rfl rfl (.load rfl) h (fun v244 w h => ?_)
              refine JL.exP (.on rfl rfl rfl hc243) rfl rfl (.move rfl) ?_
              refine JL.sPure (.on rfl rfl rfl hc243) rfl rfl (.indexAddr rfl rfl) h (fun vp245 w h => ?_)
              obtain ⟨p245, rfl, h⟩ := h
              refine JL.exP (.on rfl rfl rfl hc243) rfl rfl (.fieldAddr rfl (fa_103_2 _)) ?_
              refine JL.exV (.on rfl rfl rfl hc243) rfl rfl (.load rfl) h (fun vx246 w h => ?_)
              obtain ⟨x246, rfl, h⟩ := h
              refine JL.exP (.on rfl rfl rfl hc243) rfl rfl (.neq rfl rfl) ?_
              refine JL.exP (.none rfl) rfl rfl (.pickOn rfl hc243 rfl) ?_
              refine JL.nil ?_
              exact JX.joinEnd h ⟨rfl, rfl, rfl, rfl, rfl, rfl, trivial⟩
          · refine JX.then ?_
            refine J.cond (b := _) rfl h (fun h => ?_) (fun h => ?_)
            · refine J.seq ?_
              refine J.region ?_
              refine JL.exP (.none rfl) rfl rfl (.assign rfl) ?_
              refine JL.nil ?_
              refine JX.then ?_
              refine J.ret ?_
              refine JX.thenRet ?_
              refine JX.joinRet ?_
              refine JX.blockRet ?_
              refine JX.joinRet ?_
              refine JX.thenRet ?_
              refine JX.thenRet ?_
              refine JX.blockRet ?_
              refine JX.thenRet ?_
              exact JX.ret1 rfl rfl h
            · refine J.skip ?_
              refine JX.then ?_
              refine J.region ?_
              refine JL.exP (.none rfl) rfl rfl (.fieldAddr rfl (fa_40_2 _)) ?_
              refine JL.exV (.none rfl) rfl rfl (.load rfl) h (fun v247 w h => ?_)
              refine JL.exP (.none rfl) rfl rfl (.move rfl) ?_
              refine JL.sPure (.none rfl) rfl rfl (.indexAddr rfl rfl) h (fun vp248 w h => ?_)
              obtain ⟨p248, rfl, h⟩ := h
              refine JL.exP (.none rfl) rfl rfl (.fieldAddr rfl (fa_103_2 _)) ?_
              refine JL.exV (.none rfl) rfl rfl (.load rfl) h (fun vx249 w h => ?_)
              obtain ⟨x249, rfl, h⟩ := h
              refine JL.exP (.none rfl) rfl rfl (.assign rfl) ?_
              refine JL.nil ?_
              exact JX.joinEnd h ⟨rfl, rfl, rfl, rfl, rfl, trivial⟩
        · refine J.skip ?_
          exact JX.joinEnd h ⟨rfl, rfl, rfl, rfl, rfl, trivial⟩
      · refine JX.blockNormal ?_
        exact JX.joinEnd h ⟨rfl, rfl, rfl, rfl, rfl, trivial⟩
    · refine JX.then ?_
      refine J.region ?_
      refine JL.exP (.none rfl) rfl rfl (.move rfl) ?_
      refine JL.exP (.none rfl) rfl rfl (.add rfl rfl) ?_
      refine JL.exP (.none rfl) rfl rfl (.assign rfl) ?_
      refine JL.nil ?_
      exact JX.loopEnd h ⟨rfl, rfl, rfl, rfl, rfl, trivial⟩
  · refine J.exit ?_
    refine JX.thenExit ?_
    refine JX.thenExit ?_
    refine JX.blockHere ?_
    refine JX.then ?_
    refine J.seq ?_
    refine J.region ?_
    refine JL.exP (.none rfl) rfl rfl (.move rfl) ?_
    refine JL.exP (.none rfl) rfl rfl (.assign rfl) ?_
    refine JL.nil ?_
    refine JX.then ?_
    refine J.ret ?_
    exact JX.ret1 rfl rfl h

/-- cabstand/cabstandref18.Bound -/
def ref18_Bound (a0 : Value) (a1 : Value) (a2 : Value) (K : Value → WP) : WP :=
  semA Try.prog (Instr.box 40 a0) fun p250 =>
  semV Try.prog (loadVar 40 p250) fun v251 =>
  callI Try.prog 71 #[v251] .i64 fun x252 =>
  iteH ((x252 : Int) != 0) (
    K (.tuple #[(.int .i64 0), (.int .i64 x252)])) (
    joinH (α := Bool) (fun y253 =>
      iteH y253 (
        K (.tuple #[(.int .i64 0), (.int .i64 1)])) (
        semV Try.prog (loadVar 40 p250) fun v262 =>
        callB Try.prog 106 #[v262, a1, a2] fun b263 =>
        iteH (!b263) (
          K (.tuple #[(.int .i64 0), (.int .i64 181)])) (
          callH Try.prog 107 #[a1, a2] fun v264 =>
          pureI Try.prog .i64 (Instr.extract v264 0) fun x265 =>
          pureB Try.prog (Instr.extract v264 1) fun b266 =>
          iteH (!b266) (
            K (.tuple #[(.int .i64 0), (.int .i64 3)])) (
            K (.tuple #[(.int .i64 x265), (.int .i64 0)]))))) fun k254 =>
      pureI Try.prog .i64 (Builtin.len_ #[42] 3 #[a1]) fun x255 =>
      semI Try.prog .i64 (loadVar 3 (p250.add 0)) fun x256 =>
      orB ((x255 : Int) != x256) (fun k258 =>
        pureI Try.prog .i64 (Builtin.len_ #[42] 3 #[a2]) fun x260 =>
        semI Try.prog .i64 (loadVar 3 (p250.add 1)) fun x261 =>
        k258 ((x260 : Int) != x261)) fun b257 =>
      k254 b257)
set_option maxRecDepth 100000 in
set_option maxHeartbeats 1000000 in
theorem ref18_Bound_ok {a0 : Value} {a1 : Value} {a2 : Value} {K : Value → WP} {w : World} (h : ref18_Bound a0 a1 a2 K w) : callH Try.prog 80 #[a0, a1, a2] K w := by
  refine enter (l := [a0, a1, a2]) Try.func80 rfl rfl rfl ?_
  show J Try.prog 42 [(0, a0), (1, a1), (2, a2)] _ _ _
  unfold ref18_Bound at h
  refine J.seq ?_
  refine J.region ?_
  refine JL.exV (.none rfl) rfl rfl (.box rfl) h (fun vp250 w h => ?_)
  obtain ⟨p250, rfl, h⟩ := h
  refine JL.exP (.none rfl) rfl rfl (.assign rfl) ?_
  refine JL.exP (.none rfl) rfl rfl (.assign rfl) ?_
  refine JL.nil ?_
  refine JX.then ?_
  refine J.seq ?_
  refine J.region ?_
  refine JL.exV (.none rfl) rfl rfl (.load rfl) h (fun v251 w h => ?_)
  refine JL.exC (.none rfl) rfl rfl (.func (vs := [v251]) en_71 rfl) h (fun vx252 w h => ?_)
  obtain ⟨x252, rfl, h⟩ := h
  refine JL.exP (.none rfl) rfl rfl (.assign rfl) ?_
  refine JL.nil ?_
  refine JX.then ?_
  refine J.seq ?_
  refine J.seq ?_
  refine J.region ?_
  refine JL.exP (.none rfl) rfl rfl (.move rfl) ?_
  refine JL.exP (.none rfl) rfl rfl (.neq rfl rfl) ?_
  refine JL.nil ?_
  refine JX.then ?_
  refine J.cond (b := _) rfl h (fun h => ?_) (fun h => ?_)
  · refine J.seq ?_
    refine J.region ?_
    refine JL.exP (.none rfl) rfl rfl (.move rfl) ?_
    refine JL.exP (.none rfl) rfl rfl (.assign rfl) ?_
    refine JL.exP (.none rfl) rfl rfl (.assign rfl) ?_
    refine JL.nil ?_
    refine JX.then ?_
    refine J.ret ?_
    refine JX.thenRet ?_
    exact JX.ret2 rfl rfl rfl h
  · refine J.skip ?_
    refine JX.then ?_
    refine J.seq ?_
    refine J.seq ?_
    refine J.join h (fun y253 => [(1, a1), (2, a2), (3, (.pointer (some p250))), (6, (.int .i64 0)), (7, (.int .i64 0)), (27, (.bool y253))]) (fun k254 w h => ?_) (fun y253 w h => ?_)
    · refine J.region ?_
      refine JL.exP (.none rfl) rfl rfl (.move rfl) ?_
      refine JL.sPure (.none rfl) rfl rfl ((.len (vs := [a1]) rfl)) h (fun vx255 w h => ?_)
      obtain ⟨x255, rfl, h⟩ := h
      refine JL.exP (.none rfl) rfl rfl (.fieldAddr rfl (fa_40_0 _)) ?_
      refine JL.exV (.none rfl) rfl rfl (.load rfl) h (fun vx256 w h => ?_)
      obtain ⟨x256, rfl, h⟩ := h
      refine JL.exP (.none rfl) rfl rfl (.neq rfl rfl) ?_
      refine JL.exP (.none rfl) rfl rfl (.move rfl) ?_
      rcases orB_cases h with ⟨hc259, h⟩ | ⟨hc259, h⟩
      · refine JL.exNo (.off rfl rfl rfl hc259 rfl) rfl rfl ?_
        refine JL.exNo (.off rfl rfl rfl hc259 rfl) rfl rfl ?_
        refine JL.exNo (.off rfl rfl rfl hc259 rfl) rfl rfl ?_
        refine JL.exNo (.off rfl rfl rfl hc259 rfl) rfl rfl ?_
        refine JL.exNo (.off rfl rfl rfl hc259 rfl) rfl rfl ?_
        refine JL.exP (.none rfl) rfl rfl (.pickOn rfl hc259 rfl) ?_
        refine JL.nil ?_
        exact JX.joinEnd h ⟨rfl, rfl, rfl, rfl, rfl, rfl, trivial⟩
      · refine JL.exP (.on rfl rfl rfl hc259) rfl rfl (.move rfl) ?_
        refine JL.sPure (.on rfl rfl rfl hc259) rfl rfl ((.len (vs := [a2]) rfl)) h (fun vx260 w h => ?_)
        obtain ⟨x260, rfl, h⟩ := h
        refine JL.exP (.on rfl rfl rfl hc259) rfl rfl (.fieldAddr rfl (fa_40_1 _)) ?_
        refine JL.exV (.on rfl rfl rfl hc259) rfl rfl (.load rfl) h (fun vx261 w h => ?_)
        obtain ⟨x261, rfl, h⟩ := h
        refine JL.exP (.on rfl rfl rfl hc259) rfl rfl (.neq rfl rfl) ?_
        refine JL.exP (.none rfl) rfl rfl (.pickOff rfl hc259 rfl) ?_
        refine JL.nil ?_
        exact JX.joinEnd h ⟨rfl, rfl, rfl, rfl, rfl, rfl, trivial⟩
    · refine JX.then ?_
      refine J.cond (b := _) rfl h (fun h => ?_) (fun h => ?_)
      · refine J.seq ?_
        refine J.region ?_
        refine JL.exP (.none rfl) rfl rfl (.assign rfl) ?_
        refine JL.exP (.none rfl) rfl rfl (.assign rfl) ?_
        refine JL.nil ?_
        refine JX.then ?_
        refine J.ret ?_
        refine JX.thenRet ?_
        exact JX.ret2 rfl rfl rfl h
      · refine J.skip ?_
        refine JX.then ?_
        refine J.seq ?_
        refine J.seq ?_
        refine J.region ?_
        refine JL.exV (.none rfl) rfl rfl (.load rfl) h (fun v262 w h => ?_)
        refine JL.exP (.none rfl) rfl rfl (.move rfl) ?_
        refine JL.exP (.none rfl) rfl rfl (.move rfl) ?_
        refine JL.exC (.none rfl) rfl rfl (.func (vs := [v262, a1, a2]) en_106 rfl) h (fun vb263 w h => ?_)
        obtain ⟨b263, rfl, h⟩ := h
        refine JL.exP (.none rfl) rfl rfl (.not rfl) ?_
        refine JL.nil ?_
        refine JX.then ?_
        refine J.cond (b := _) rfl h (fun h => ?_) (fun h => ?_)
        · refine J.seq ?_
          refine J.region ?_
          refine JL.exP (.none rfl) rfl rfl (.assign rfl) ?_
          refine JL.exP (.none rfl) rfl rfl (.assign rfl) ?_
          refine JL.nil ?_
          refine JX.then ?_
          refine J.ret ?_
          refine JX.thenRet ?_
          exact JX.ret2 rfl rfl rfl h
        · refine J.skip ?_
          refine JX.then ?_
          refine J.seq ?_
          refine J.region ?_
          refine JL.exP (.none rfl) rfl rfl (.move rfl) ?_
          refine JL.exP (.none rfl) rfl rfl (.move rfl) ?_
          refine JL.exC (.none rfl) rfl rfl (.func (vs := [a1, a2]) en_107 rfl) h (fun v264 w h => ?_)
          refine JL.exP (.none rfl) rfl rfl (.move rfl) ?_
          refine JL.sPure (.none rfl) rfl rfl (.extract rfl) h (fun vx265 w h => ?_)
          obtain ⟨x265, rfl, h⟩ := h
          refine JL.sPure (.none rfl) rfl rfl (.extract rfl) h (fun vb266 w h => ?_)
          obtain ⟨b266, rfl, h⟩ := h
          refine JL.exP (.none rfl) rfl rfl (.assign rfl) ?_
          refine JL.exP (.none rfl) rfl rfl (.assign rfl) ?_
          refine JL.nil ?_
          refine JX.then ?_
          refine J.seq ?_
          refine J.seq ?_
          refine J.region ?_
          refine JL.exP (.none rfl) rfl rfl (.move rfl) ?_
          refine JL.exP (.none rfl) rfl rfl (.not rfl) ?_
          refine JL.nil ?_
          refine JX.then ?_
          refine J.cond (b := _) rfl h (fun h => ?_) (fun h => ?_)
          · refine J.seq ?_
            refine J.region ?_
            refine JL.exP (.none rfl) rfl rfl (.assign rfl) ?_
            refine JL.exP (.none rfl) rfl rfl (.assign rfl) ?_
            refine JL.nil ?_
            refine JX.then ?_
            refine J.ret ?_
            refine JX.thenRet ?_
            exact JX.ret2 rfl rfl rfl h
          · refine J.skip ?_
            refine JX.then ?_
            refine J.seq ?_
            refine J.region ?_
            refine JL.exP (.none rfl) rfl rfl (.move rfl) ?_
            refine JL.exP (.none rfl) rfl rfl (.assign rfl) ?_
            refine JL.exP (.none rfl) rfl rfl (.assign rfl) ?_
            refine JL.nil ?_
            refine JX.then ?_
            refine J.ret ?_
            exact JX.ret2 rfl rfl rfl h

/-- cabstand/cabstandref18.Worth -/
def ref18_Worth (a0 : Value) (a1 : Value) (K : Value → WP) : WP :=
  semA Try.prog (Instr.box 40 a0) fun p267 =>
  loopH (σ := Int × Int) (fun kc269 s268 =>
    pureI Try.prog .i64 (Builtin.len_ #[41] 3 #[a1]) fun x270 =>
    iteH (decide (s268.2 < x270)) (
      drawH <|
      readV Try.prog (loadVar 40 p267) fun v271 =>
      pureA Try.prog (Instr.indexAt 41 a1 (.int .i64 s268.2)) fun p273 =>
      readI Try.prog .i64 (loadVar 3 (p273.add 0)) fun x274 =>
      pureA Try.prog (Instr.indexAt 41 a1 (.int .i64 s268.2)) fun p276 =>
      readI Try.prog .i64 (loadVar 3 (p276.add 1)) fun x277 =>
      callI Try.prog 99 #[v271, (.int .i64 x274), (.int .i64 x277)] .i64 fun x279 =>
      kc269 ((IntKind.i64.wrap (s268.1 + x279)), (IntKind.i64.wrap (s268.2 + 1)))) (
      K (.int .i64 s268.1))) (0, 0)
set_option maxRecDepth 100000 in
set_option maxHeartbeats 1000000 in
theorem ref18_Worth_ok {a0 : Value} {a1 : Value} {K : Value → WP} {w : World} (h : ref18_Worth a0 a1 K w) : callH Try.prog 81 #[a0, a1] K w := by
  refine enter (l := [a0, a1]) Try.func81 rfl rfl rfl ?_
  show J Try.prog 28 [(0, a0), (1, a1)] _ _ _
  unfold ref18_Worth at h
  refine J.seq ?_
  refine J.region ?_
  refine JL.exV (.none rfl) rfl rfl (.box rfl) h (fun vp267 w h => ?_)
  obtain ⟨p267, rfl, h⟩ := h
  refine JL.exP (.none rfl) rfl rfl (.assign rfl) ?_
  refine JL.nil ?_
  refine JX.then ?_
  refine J.seq ?_
  refine J.region ?_
  refine JL.exP (.none rfl) rfl rfl (.assign rfl) ?_
  refine JL.nil ?_
  refine JX.then ?_
  refine J.seq ?_
  refine J.seq ?_
  refine J.region ?_
  refine JL.exP (.none rfl) rfl rfl (.assign rfl) ?_
  refine JL.nil ?_
  refine JX.then ?_
  refine J.block ?_
  refine J.loop h (fun s268 => [(1, a1), (2, (.pointer (some p267))), (4, (.int .i64 0)), (5, (.int .i64 s268.1)), (6, (.int .i64 s268.2))]) ⟨rfl, rfl, rfl, rfl, rfl, trivial⟩ (fun I μ s268 w h => ?_)
  refine J.seq ?_
  refine J.seq ?_
  refine J.region ?_
  refine JL.exP (.none rfl) rfl rfl (.move rfl) ?_
  refine JL.exP (.none rfl) rfl rfl (.move rfl) ?_
  refine JL.sPure (.none rfl) rfl rfl ((.len (vs := [a1]) rfl)) h (fun vx270 w h => ?_)
  obtain ⟨x270, rfl, h⟩ := h
  refine JL.exP (.none rfl) rfl rfl (.lss rfl rfl) ?_
  refine JL.nil ?_
  refine JX.then ?_
  refine J.cond (b := _) rfl h (fun h => ?_) (fun h => ?_)
  · refine J.skip ?_
    refine JX.then ?_
    refine J.seq ?_
    refine J.block ?_
    refine J.draw [[], [], [], [], [2, 3], [2, 3, 4], [2, 3, 4, 5], [], [], [7, 8], [7, 8, 9], [7, 8, 9, 10], [1, 2, 3, 4, 5, 6, 7, 8, 9, 10, 11], [0, 1, 2, 3, 4, 5, 6, 7, 8, 9, 10, 11, 12], [0, 1, 2, 3, 4, 5, 6, 7, 8, 9, 10, 11, 12, 13]] (by kernel_rfl) mixed h (fun w h => ?_)
    refine JD.pure_ (i := 0) [] rfl (by kernel_rfl) (by kernel_rfl) (by kernel_rfl) (by kernel_rfl) (.none rfl) rfl rfl (.move rfl) trivial ?_
    refine JD.read (i := 1) [] rfl (by kernel_rfl) (by kernel_rfl) (by kernel_rfl) (by kernel_rfl) (.none rfl) rfl rfl (.load rfl) h trivial (fun v271 st272 h => ?_)
    refine JD.pure_ (i := 2) [false] rfl (by kernel_rfl) (by kernel_rfl) (by kernel_rfl) (by kernel_rfl) (.none rfl) rfl rfl (.move rfl) ⟨st272, trivial⟩ ?_
    refine JD.pure_ (i := 3) [false] rfl (by kernel_rfl) (by kernel_rfl) (by kernel_rfl) (by kernel_rfl) (.none rfl) rfl rfl (.move rfl) ⟨st272, trivial⟩ ?_
    refine JD.sPure (i := 4) [false] rfl (by kernel_rfl) (by kernel_rfl) (by kernel_rfl) (by kernel_rfl) (.none rfl) rfl rfl (.indexAddr rfl rfl) h ⟨st272, trivial⟩ (fun vp273 h => ?_)
    obtain ⟨p273, rfl, h⟩ := h
    refine JD.pure_ (i := 5) [false] rfl (by kernel_rfl) (by kernel_rfl) (by kernel_rfl) (by kernel_rfl) (.none rfl) rfl rfl (.fieldAddr rfl (fa_105_0 _)) ⟨st272, trivial⟩ ?_
    refine JD.read (i := 6) [false] rfl (by kernel_rfl) (by kernel_rfl) (by kernel_rfl) (by kernel_rfl) (.none rfl) rfl rfl (.load rfl) h ⟨st272, trivial⟩ (fun vx274 st275 h => ?_)
    obtain ⟨x274, rfl, h⟩ := h
    refine JD.pure_ (i := 7) [false, false] rfl (by kernel_rfl) (by kernel_rfl) (by kernel_rfl) (by kernel_rfl) (.none rfl) rfl rfl (.move rfl) ⟨st275, st272, trivial⟩ ?_
    refine JD.pure_ (i := 8) [false, false] rfl (by kernel_rfl) (by kernel_rfl) (by kernel_rfl) (by kernel_rfl) (.none rfl) rfl rfl (.move rfl) ⟨st275, st272, trivial⟩ ?_
    refine JD.sPure (i := 9) [false, false] rfl (by kernel_rfl) (by kernel_rfl) (by kernel_rfl) (by kernel_rfl) (.none rfl) rfl rfl (.indexAddr rfl rfl) h ⟨st275, st272, trivial⟩ (fun vp276 h => ?_)
    obtain ⟨p276, rfl, h⟩ := h
    refine JD.pure_ (i := 10) [false, false] rfl (by kernel_rfl) (by kernel_rfl) (by kernel_rfl) (by kernel_rfl) (.none rfl) rfl rfl (.fieldAddr rfl (fa_105_1 _)) ⟨st275, st272, trivial⟩ ?_
    refine JD.read (i := 11) [false, false] rfl (by kernel_rfl) (by kernel_rfl) (by kernel_rfl) (by kernel_rfl) (.none rfl) rfl rfl (.load rfl) h ⟨st275, st272, trivial⟩ (fun vx277 st278 h => ?_)
    obtain ⟨x277, rfl, h⟩ := h
    refine JD.one (j := 12) (by kernel_rfl) ?_
    refine JD1.exC [true, true, true] rfl (by kernel_rfl) (.none rfl) rfl rfl (.func (vs := [v271, (.int .i64 x274), (.int .i64 x277)]) en_99 rfl) h (fun vx279 w h => ?_)
    obtain ⟨x279, rfl, h⟩ := h
    refine ⟨trivial, ?_⟩
    refine JD.pure_ (i := 13) [] rfl (by kernel_rfl) (by kernel_rfl) (by kernel_rfl) (by kernel_rfl) (.none rfl) rfl rfl (.add rfl rfl) trivial ?_
    refine JD.pure_ (i := 14) [] rfl (by kernel_rfl) (by kernel_rfl) (by kernel_rfl) (by kernel_rfl) (.none rfl) rfl rfl (.assign rfl) trivial ?_
    refine JD.done (by kernel_rfl) ?_
    refine JX.blockNormal ?_
    refine JX.then ?_
    refine J.region ?_
    refine JL.exP (.none rfl) rfl rfl (.move rfl) ?_
    refine JL.exP (.none rfl) rfl rfl (.add rfl rfl) ?_
    refine JL.exP (.none rfl) rfl rfl (.assign rfl) ?_
    refine JL.nil ?_
    exact JX.loopEnd h ⟨rfl, rfl, rfl, rfl, rfl, trivial⟩
  · refine J.exit ?_
    refine JX.thenExit ?_
    refine JX.thenExit ?_
    refine JX.blockHere ?_
    refine JX.then ?_
    refine J.seq ?_
    refine J.region ?_
    refine JL.exP (.none rfl) rfl rfl (.move rfl) ?_
    refine JL.exP (.none rfl) rfl rfl (.assign rfl) ?_
    refine JL.nil ?_
    refine JX.then ?_
    refine J.ret ?_
    exact JX.ret1 rfl rfl h

/-- cabstand/cabstandref18.Hold -/
def ref18_Hold (a0 : Value) (a1 : Value) (a2 : Value) (K : Value → WP) : WP :=
  semA Try.prog (Instr.box 40 a0) fun p280 =>
  loopH (σ := Bool × Int) (fun kc282 s281 =>
    pureI Try.prog .i64 (Builtin.len_ #[42] 3 #[a1]) fun x283 =>
    iteH (decide (s281.2 < x283)) (
      pureA Try.prog (Instr.indexAt 42 a1 (.int .i64 s281.2)) fun p284 =>
      semI Try.prog .i64 (loadVar 3 p284) fun x285 =>
      iteH (decide (x285 < 0)) (
        K (.bool false)) (
        kc282 (s281.1, (IntKind.i64.wrap (s281.2 + 1))))) (
      loopH (σ := Bool × Int) (fun kc287 s286 =>
        pureI Try.prog .i64 (Builtin.len_ #[42] 3 #[a2]) fun x288 =>
        iteH (decide (s286.2 < x288)) (
          pureA Try.prog (Instr.indexAt 42 a2 (.int .i64 s286.2)) fun p289 =>
          semI Try.prog .i64 (loadVar 3 p289) fun x290 =>
          iteH (decide (x290 < 0)) (
            K (.bool false)) (
            kc287 (s286.1, (IntKind.i64.wrap (s286.2 + 1))))) (
          loopH (σ := Bool × Int) (fun kc292 s291 =>
            semV Try.prog (loadVar 38 (p280.add 2)) fun v293 =>
            pureI Try.prog .i64 (Builtin.len_ #[38] 3 #[v293]) fun x294 =>
            iteH (decide (s291.2 < x294)) (
              semV Try.prog (loadVar 38 (p280.add 2)) fun v295 =>
              pureA Try.prog (Instr.indexAt 38 v295 (.int .i64 s291.2)) fun p296 =>
              semV Try.prog (loadVar 103 p296) fun v297 =>
              semA Try.prog (Instr.alloc 103 true (.tuple #[])) fun p298 =>
              semU Try.prog (storeVar 103 p298 v297) <|
              drawH <|
              readI Try.prog .i64 (loadVar 3 (p298.add 2)) fun x299 =>
              readI Try.prog .i64 (loadVar 3 (p298.add 0)) fun x301 =>
              pureA Try.prog (Instr.indexAt 42 a1 (.int .i64 x301)) fun p303 =>
              readI Try.prog .i64 (loadVar 3 p303) fun x304 =>
              readI Try.prog .i64 (loadVar 3 (p298.add 1)) fun x306 =>
              pureA Try.prog (Instr.indexAt 42 a2 (.int .i64 x306)) fun p308 =>
              readI Try.prog .i64 (loadVar 3 p308) fun x309 =>
              iteH (decide (x309 < (IntKind.i64.wrap (x299 - x304)))) (
                K (.bool false)) (
                kc292 (s291.1, (IntKind.i64.wrap (s291.2 + 1))))) (
              K (.bool true))) (s286.1, 0))) (s281.1, 0))) (false, 0)
set_option maxRecDepth 100000 in
set_option maxHeartbeats 1000000 in
theorem ref18_Hold_ok {a0 : Value} {a1 : Value} {a2 : Value} {K : Value → WP} {w : World} (h : ref18_Hold a0 a1 a2 K w) : callH Try.prog 106 #[a0, a1, a2] K w := by
  refine enter (l := [a0, a1, a2]) Try.func106 rfl rfl rfl ?_
  show J Try.prog 59 [(0, a0), (1, a1), (2, a2)] _ _ _
  unfold ref18_Hold at h
  refine J.seq ?_
  refine J.region ?_
  refine JL.exV (.none rfl) rfl rfl (.box rfl) h (fun vp280 w h => ?_)
  obtain ⟨p280, rfl, h⟩ := h
  refine JL.exP (.none rfl) rfl rfl (.assign rfl) ?_
  refine JL.nil ?_
  refine JX.then ?_
  refine J.seq ?_
  refine J.seq ?_
  refine J.region ?_
  refine JL.exP (.none rfl) rfl rfl (.assign rfl) ?_
  refine JL.nil ?_
  refine JX.then ?_
  refine J.block ?_
  refine J.loop h (fun s281 => [(1, a1), (2, a2), (3, (.pointer (some p280))), (6, (.bool s281.1)), (7, (.int .i64 s281.2))]) ⟨rfl, rfl, rfl, rfl, rfl, trivial⟩ (fun I μ s281 w h => ?_)
  refine J.seq ?_
  refine J.seq ?_
  refine J.region ?_
  refine JL.exP (.none rfl) rfl rfl (.move rfl) ?_
  refine JL.exP (.none rfl) rfl rfl (.move rfl) ?_
  refine JL.sPure (.none rfl) rfl rfl ((.len (vs := [a1]) rfl)) h (fun vx283 w h => ?_)
  obtain ⟨x283, rfl, h⟩ := h
  refine JL.exP (.none rfl) rfl rfl (.lss rfl rfl) ?_
  refine JL.nil ?_
  refine JX.then ?_
  refine J.cond (b := _) rfl h (fun h => ?_) (fun h => ?_)
  · refine J.skip ?_
    refine JX.then ?_
    refine J.seq ?_
    refine J.block ?_
    refine J.seq ?_
    refine J.region ?_
    refine JL.exP (.none rfl) rfl rfl (.move rfl) ?_
    refine JL.exP (.none rfl) rfl rfl (.move rfl) ?_
    refine JL.sPure (.none rfl) rfl rfl (.indexAddr rfl rfl) h (fun vp284 w h => ?_)
    obtain ⟨p284, rfl, h⟩ := h
    refine JL.exV (.none rfl) rfl rfl (.load rfl) h (fun vx285 w h => ?_)
    obtain ⟨x285, rfl, h⟩ := h
    refine JL.exP (.none rfl) rfl rfl (.lss rfl rfl) ?_
    refine JL.nil ?_
    refine JX.then ?_
    refine J.cond (b := _) rfl h (fun h => ?_) (fun h => ?_)
    · refine J.seq ?_
      refine J.region ?_
      refine JL.exP (.none rfl) rfl rfl (.assign rfl) ?_
      refine JL.nil ?_
      refine JX.then ?_
      refine J.ret ?_
      refine JX.blockRet ?_
      refine JX.thenRet ?_
      refine JX.thenRet ?_
      refine JX.blockRet ?_
      refine JX.thenRet ?_
      exact JX.ret1 rfl rfl h
    · refine J.skip ?_
      refine JX.blockNormal ?_
      refine JX.then ?_
      refine J.region ?_
      refine JL.exP (.none rfl) rfl rfl (.move rfl) ?_
      refine JL.exP (.none rfl) rfl rfl (.add rfl rfl) ?_
      refine JL.exP (.none rfl) rfl rfl (.assign rfl) ?_
      refine JL.nil ?_
      exact JX.loopEnd h ⟨rfl, rfl, rfl, rfl, rfl, trivial⟩
  · refine J.exit ?_
    refine JX.thenExit ?_
    refine JX.thenExit ?_
    refine JX.blockHere ?_
    refine JX.then ?_
    refine J.seq ?_
    refine J.seq ?_
    refine J.region ?_
    refine JL.exP (.none rfl) rfl rfl (.assign rfl) ?_
    refine JL.nil ?_
    refine JX.then ?_
    refine J.block ?_
    refine J.loop h (fun s286 => [(1, a1), (2, a2), (3, (.pointer (some p280))), (6, (.bool s286.1)), (8, (.int .i64 s286.2))]) ⟨rfl, rfl, rfl, rfl, rfl, trivial⟩ (fun I μ s286 w h => ?_)
    refine J.seq ?_
    refine J.seq ?_
    refine J.region ?_
    refine JL.exP (.none rfl) rfl rfl (.move rfl) ?_
    refine JL.exP (.none rfl) rfl rfl (.move rfl) ?_
    refine JL.sPure (.none rfl) rfl rfl ((.len (vs := [a2]) rfl)) h (fun vx288 w h => ?_)
    obtain ⟨x288, rfl, h⟩ := h
    refine JL.exP (.none rfl) rfl rfl (.lss rfl rfl) ?_
    refine JL.nil ?_
    refine JX.then ?_
    refine J.cond (b := _) rfl h (fun h => ?_) (fun h => ?_)
    · refine J.skip ?_
      refine JX.then ?_
      refine J.seq ?_
      refine J.block ?_
      refine J.seq ?_
      refine J.region ?_
      refine JL.exP (.none rfl) rfl rfl (.move rfl) ?_
      refine JL.exP (.none rfl) rfl rfl (.move rfl) ?_
      refine JL.sPure (.none rfl) rfl rfl (.indexAddr rfl rfl) h (fun vp289 w h => ?_)
      obtain ⟨p289, rfl, h⟩ := h
      refine JL.exV (.none rfl) rfl rfl (.load rfl) h (fun vx290 w h => ?_)
      obtain ⟨x290, rfl, h⟩ := h
      refine JL.exP (.none rfl) rfl rfl (.lss rfl rfl) ?_
      refine JL.nil ?_
      refine JX.then ?_
      refine J.cond (b := _) rfl h (fun h => ?_) (fun h => ?_)
      · refine J.seq ?_
        refine J.region ?_
        refine JL.exP (.none rfl) rfl rfl (.assign rfl) ?_
        refine JL.nil ?_
        refine JX.then ?_
        refine J.ret ?_
        refine JX.blockRet ?_
        refine JX.thenRet ?_
        refine JX.thenRet ?_
        refine JX.blockRet ?_
        refine JX.thenRet ?_
        exact JX.ret1 rfl rfl h
      · refine J.skip ?_
        refine JX.blockNormal ?_
        refine JX.then ?_
        refine J.region ?_
        refine JL.exP (.none rfl) rfl rfl (.move rfl) ?_
        refine JL.exP (.none rfl) rfl rfl (.add rfl rfl) ?_
        refine JL.exP (.none rfl) rfl rfl (.assign rfl) ?_
        refine JL.nil ?_
        exact JX.loopEnd h ⟨rfl, rfl, rfl, rfl, rfl, trivial⟩
    · refine J.exit ?_
      refine JX.thenExit ?_
      refine JX.thenExit ?_
      refine JX.blockHere ?_
      refine JX.then ?_
      refine J.seq ?_
      refine J.seq ?_
      refine J.region ?_
      refine JL.exP (.none rfl) rfl rfl (.assign rfl) ?_
      refine JL.nil ?_
      refine JX.then ?_
      refine J.block ?_
      refine J.loop h (fun s291 => [(1, a1), (2, a2), (3, (.pointer (some p280))), (6, (.bool s291.1)), (9, (.int .i64 s291.2))]) ⟨rfl, rfl, rfl, rfl, rfl, trivial⟩ (fun I μ s291 w h => ?_)
      refine J.seq ?_
      refine J.seq ?_
      refine J.region ?_
      refine JL.exP (.none rfl) rfl rfl (.move rfl) ?_
      refine JL.exP (.none rfl) rfl rfl (.fieldAddr rfl (fa_40_2 _)) ?_
      refine JL.exV (.none rfl) rfl rfl (.load rfl) h (fun v293 w h => ?_)
      refine JL.sPure (.none rfl) rfl rfl ((.len (vs := [v293]) rfl)) h (fun vx294 w h => ?_)
      obtain ⟨x294, rfl, h⟩ := h
      refine JL.exP (.none rfl) rfl rfl (.lss rfl rfl) ?_
      refine JL.nil ?_
      refine JX.then ?_
      refine J.cond (b := _) rfl h (fun h => ?_) (fun h => ?_)
      · refine J.skip ?_
        refine JX.then ?_
        refine J.seq ?_
        refine J.block ?_
        refine J.seq ?_
        refine J.region ?_
        refine JL.exP (.none rfl) rfl rfl (.fieldAddr rfl (fa_40_2 _)) ?_
        refine JL.exV (.none rfl) rfl rfl (.load rfl) h (fun v295 w h => ?_)
        refine JL.exP (.none rfl) rfl rfl (.move rfl) ?_
        refine JL.sPure (.none rfl) rfl rfl (.indexAddr rfl rfl) h (fun vp296 w h => ?_)
        obtain ⟨p296, rfl, h⟩ := h
        refine JL.exV (.none rfl) rfl rfl (.load rfl) h (fun v297 w h => ?_)
        refine JL.exV (.none rfl) rfl rfl (.alloc) h (fun vp298 w h => ?_)
        obtain ⟨p298, rfl, h⟩ := h
        refine JL.exU (.none rfl) rfl (.store rfl rfl) h (fun w h => ?_)
        refine JL.nil ?_
        refine JX.then ?_
        refine J.seq ?_
        refine J.draw [[], [0], [], [], [3], [2, 3, 4], [2, 3, 4, 5], [0, 1, 2, 3, 4, 5, 6], [], [], [9], [8, 9, 10], [8, 9, 10, 11], [0, 1, 2, 3, 4, 5, 6, 7, 8, 9, 10, 11, 12]] (by kernel_rfl) mixed h (fun w h => ?_)
        refine JD.pure_ (i := 0) [] rfl (by kernel_rfl) (by kernel_rfl) (by kernel_rfl) (by kernel_rfl) (.none rfl) rfl rfl (.fieldAddr rfl (fa_103_2 _)) trivial ?_
        refine JD.read (i := 1) [] rfl (by kernel_rfl) (by kernel_rfl) (by kernel_rfl) (by kernel_rfl) (.none rfl) rfl rfl (.load rfl) h trivial (fun vx299 st300 h => ?_)
        obtain ⟨x299, rfl, h⟩ := h
        refine JD.pure_ (i := 2) [false] rfl (by kernel_rfl) (by kernel_rfl) (by kernel_rfl) (by kernel_rfl) (.none rfl) rfl rfl (.move rfl) ⟨st300, trivial⟩ ?_
        refine JD.pure_ (i := 3) [false] rfl (by kernel_rfl) (by kernel_rfl) (by kernel_rfl) (by kernel_rfl) (.none rfl) rfl rfl (.fieldAddr rfl (fa_103_0 _)) ⟨st300, trivial⟩ ?_
        refine JD.read (i := 4) [false] rfl (by kernel_rfl) (by kernel_rfl) (by kernel_rfl) (by kernel_rfl) (.none rfl) rfl rfl (.load rfl) h ⟨st300, trivial⟩ (fun vx301 st302 h => ?_)
        obtain ⟨x301, rfl, h⟩ := h
        refine JD.sPure (i := 5) [true, false] rfl (by kernel_rfl) (by kernel_rfl) (by kernel_rfl) (by kernel_rfl) (.none rfl) rfl rfl (.indexAddr rfl rfl) h ⟨st300, trivial⟩ (fun vp303 h => ?_)
        obtain ⟨p303, rfl, h⟩ := h
        refine JD.read (i := 6) [true, false] rfl (by kernel_rfl) (by kernel_rfl) (by kernel_rfl) (by kernel_rfl) (.none rfl) rfl rfl (.load rfl) h ⟨st300, trivial⟩ (fun vx304 st305 h => ?_)
        obtain ⟨x304, rfl, h⟩ := h
        refine JD.pure_ (i := 7) [true, true, true] rfl (by kernel_rfl) (by kernel_rfl) (by kernel_rfl) (by kernel_rfl) (.none rfl) rfl rfl (.sub rfl rfl) trivial ?_
        refine JD.pure_ (i := 8) [false, false, false] rfl (by kernel_rfl) (by kernel_rfl) (by kernel_rfl) (by kernel_rfl) (.none rfl) rfl rfl (.move rfl) ⟨st305, st302, st300, trivial⟩ ?_
        refine JD.pure_ (i := 9) [false, false, false] rfl (by kernel_rfl) (by kernel_rfl) (by kernel_rfl) (by kernel_rfl) (.none rfl) rfl rfl (.fieldAddr rfl (fa_103_1 _)) ⟨st305, st302, st300, trivial⟩ ?_
        refine JD.read (i := 10) [false, false, false] rfl (by kernel_rfl) (by kernel_rfl) (by kernel_rfl) (by kernel_rfl) (.none rfl) rfl rfl (.load rfl) h ⟨st305, st302, st300, trivial⟩ (fun vx306 st307 h => ?_)
        obtain ⟨x306, rfl, h⟩ := h
        refine JD.sPure (i := 11) [true, false, false, false] rfl (by kernel_rfl) (by kernel_rfl) (by kernel_rfl) (by kernel_rfl) (.none rfl) rfl rfl (.indexAddr rfl rfl) h ⟨st305, st302, st300, trivial⟩ (fun vp308 h => ?_)
        obtain ⟨p308, rfl, h⟩ := h
        refine JD.read (i := 12) [true, false, false, false] rfl (by kernel_rfl) (by kernel_rfl) (by kernel_rfl) (by kernel_rfl) (.none rfl) rfl rfl (.load rfl) h ⟨st305, st302, st300, trivial⟩ (fun vx309 st310 h => ?_)
        obtain ⟨x309, rfl, h⟩ := h
        refine JD.pure_ (i := 13) [true, true, true, true, true] rfl (by kernel_rfl) (by kernel_rfl) (by kernel_rfl) (by kernel_rfl) (.none rfl) rfl rfl (.gtr rfl rfl) trivial ?_
        refine JD.done (by kernel_rfl) ?_
        refine JX.then ?_
        refine J.cond (b := _) rfl h (fun h => ?_) (fun h => ?_)
        · refine J.seq ?_
          refine J.region ?_
          refine JL.exP (.none rfl) rfl rfl (.assign rfl) ?_
          refine JL.nil ?_
          refine JX.then ?_
          refine J.ret ?_
          refine JX.blockRet ?_
          refine JX.thenRet ?_
          refine JX.thenRet ?_
          refine JX.blockRet ?_
          refine JX.thenRet ?_
          exact JX.ret1 rfl rfl h
        · refine J.skip ?_
          refine JX.blockNormal ?_
          refine JX.then ?_
          refine J.region ?_
          refine JL.exP (.none rfl) rfl rfl (.move rfl) ?_
          refine JL.exP (.none rfl) rfl rfl (.add rfl rfl) ?_
          refine JL.exP (.none rfl) rfl rfl (.assign rfl) ?_
          refine JL.nil ?_
          exact JX.loopEnd h ⟨rfl, rfl, rfl, rfl, rfl, trivial⟩
      · refine J.exit ?_
        refine JX.thenExit ?_
        refine JX.thenExit ?_
        refine JX.blockHere ?_
        refine JX.then ?_
        refine J.seq ?_
        refine J.region ?_
        refine JL.exP (.none rfl) rfl rfl (.assign rfl) ?_
        refine JL.nil ?_
        refine JX.then ?_
        refine J.ret ?_
        exact JX.ret1 rfl rfl h

/-- cabstand/cabstandref18.Sum -/
def ref18_Sum (a0 : Value) (a1 : Value) (K : Value → WP) : WP :=
  loopH (σ := Int × Bool × Int × Int) (fun kc312 s311 =>
    pureI Try.prog .i64 (Builtin.len_ #[42] 3 #[a0]) fun x313 =>
    iteH (decide (s311.2.2.2 < x313)) (
      pureA Try.prog (Instr.indexAt 42 a0 (.int .i64 s311.2.2.2)) fun p314 =>
      semI Try.prog .i64 (loadVar 3 p314) fun x315 =>
      iteH (decide ((IntKind.i64.wrap (4611686018427387903 - s311.2.2.1)) < x315)) (
        K (.tuple #[(.int .i64 0), (.bool false)])) (
        pureA Try.prog (Instr.indexAt 42 a0 (.int .i64 s311.2.2.2)) fun p316 =>
        semI Try.prog .i64 (loadVar 3 p316) fun x317 =>
        kc312 (s311.1, s311.2.1, (IntKind.i64.wrap (s311.2.2.1 + x317)), (IntKind.i64.wrap (s311.2.2.2 + 1))))) (
      loopH (σ := Int × Bool × Int × Int) (fun kc319 s318 =>
        pureI Try.prog .i64 (Builtin.len_ #[42] 3 #[a1]) fun x320 =>
        iteH (decide (s318.2.2.2 < x320)) (
          pureA Try.prog (Instr.indexAt 42 a1 (.int .i64 s318.2.2.2)) fun p321 =>
          semI Try.prog .i64 (loadVar 3 p321) fun x322 =>
          iteH (decide ((IntKind.i64.wrap (4611686018427387903 - s318.2.2.1)) < x322)) (
            K (.tuple #[(.int .i64 0), (.bool false)])) (
            pureA Try.prog (Instr.indexAt 42 a1 (.int .i64 s318.2.2.2)) fun p323 =>
            semI Try.prog .i64 (loadVar 3 p323) fun x324 =>
            kc319 (s318.1, s318.2.1, (IntKind.i64.wrap (s318.2.2.1 + x324)), (IntKind.i64.wrap (s318.2.2.2 + 1))))) (
          K (.tuple #[(.int .i64 s318.2.2.1), (.bool true)]))) (s311.1, s311.2.1, s311.2.2.1, 0))) (0, false, 0, 0)
set_option maxRecDepth 100000 in
set_option maxHeartbeats 1000000 in
theorem ref18_Sum_ok {a0 : Value} {a1 : Value} {K : Value → WP} {w : World} (h : ref18_Sum a0 a1 K w) : callH Try.prog 107 #[a0, a1] K w := by
  refine enter (l := [a0, a1]) Try.func107 rfl rfl rfl ?_
  show J Try.prog 48 [(0, a0), (1, a1)] _ _ _
  unfold ref18_Sum at h
  refine J.seq ?_
  refine J.region ?_
  refine JL.exP (.none rfl) rfl rfl (.assign rfl) ?_
  refine JL.exP (.none rfl) rfl rfl (.assign rfl) ?_
  refine JL.nil ?_
  refine JX.then ?_
  refine J.seq ?_
  refine J.region ?_
  refine JL.exP (.none rfl) rfl rfl (.assign rfl) ?_
  refine JL.nil ?_
  refine JX.then ?_
  refine J.seq ?_
  refine J.seq ?_
  refine J.region ?_
  refine JL.exP (.none rfl) rfl rfl (.assign rfl) ?_
  refine JL.nil ?_
  refine JX.then ?_
  refine J.block ?_
  refine J.loop h (fun s311 => [(0, a0), (1, a1), (4, (.int .i64 s311.1)), (5, (.bool s311.2.1)), (6, (.int .i64 s311.2.2.1)), (7, (.int .i64 s311.2.2.2))]) ⟨rfl, rfl, rfl, rfl, rfl, rfl, trivial⟩ (fun I μ s311 w h => ?_)
  refine J.seq ?_
  refine J.seq ?_
  refine J.region ?_
  refine JL.exP (.none rfl) rfl rfl (.move rfl) ?_
  refine JL.exP (.none rfl) rfl rfl (.move rfl) ?_
  refine JL.sPure (.none rfl) rfl rfl ((.len (vs := [a0]) rfl)) h (fun vx313 w h => ?_)
  obtain ⟨x313, rfl, h⟩ := h
  refine JL.exP (.none rfl) rfl rfl (.lss rfl rfl) ?_
  refine JL.nil ?_
  refine JX.then ?_
  refine J.cond (b := _) rfl h (fun h => ?_) (fun h => ?_)
  · refine J.skip ?_
    refine JX.then ?_
    refine J.seq ?_
    refine J.block ?_
    refine J.seq ?_
    refine J.seq ?_
    refine J.region ?_
    refine JL.exP (.none rfl) rfl rfl (.move rfl) ?_
    refine JL.exP (.none rfl) rfl rfl (.move rfl) ?_
    refine JL.sPure (.none rfl) rfl rfl (.indexAddr rfl rfl) h (fun vp314 w h => ?_)
    obtain ⟨p314, rfl, h⟩ := h
    refine JL.exV (.none rfl) rfl rfl (.load rfl) h (fun vx315 w h => ?_)
    obtain ⟨x315, rfl, h⟩ := h
    refine JL.exP (.none rfl) rfl rfl (.move rfl) ?_
    refine JL.exP (.none rfl) rfl rfl (.sub rfl rfl) ?_
    refine JL.exP (.none rfl) rfl rfl (.gtr rfl rfl) ?_
    refine JL.nil ?_
    refine JX.then ?_
    refine J.cond (b := _) rfl h (fun h => ?_) (fun h => ?_)
    · refine J.seq ?_
      refine J.region ?_
      refine JL.exP (.none rfl) rfl rfl (.assign rfl) ?_
      refine JL.exP (.none rfl) rfl rfl (.assign rfl) ?_
      refine JL.nil ?_
      refine JX.then ?_
      refine J.ret ?_
      refine JX.thenRet ?_
      refine JX.blockRet ?_
      refine JX.thenRet ?_
      refine JX.thenRet ?_
      refine JX.blockRet ?_
      refine JX.thenRet ?_
      exact JX.ret2 rfl rfl rfl h
    · refine J.skip ?_
      refine JX.then ?_
      refine J.region ?_
      refine JL.exP (.none rfl) rfl rfl (.move rfl) ?_
      refine JL.exP (.none rfl) rfl rfl (.move rfl) ?_
      refine JL.exP (.none rfl) rfl rfl (.move rfl) ?_
      refine JL.sPure (.none rfl) rfl rfl (.indexAddr rfl rfl) h (fun vp316 w h => ?_)
      obtain ⟨p316, rfl, h⟩ := h
      refine JL.exV (.none rfl) rfl rfl (.load rfl) h (fun vx317 w h => ?_)
      obtain ⟨x317, rfl, h⟩ := h
      refine JL.exP (.none rfl) rfl rfl (.add rfl rfl) ?_
      refine JL.exP (.none rfl) rfl rfl (.assign rfl) ?_
      refine JL.nil ?_
      refine JX.blockNormal ?_
      refine JX.then ?_
      refine J.region ?_
      refine JL.exP (.none rfl) rfl rfl (.move rfl) ?_
      refine JL.exP (.none rfl) rfl rfl (.add rfl rfl) ?_
      refine JL.exP (.none rfl) rfl rfl (.assign rfl) ?_
      refine JL.nil ?_
      exact JX.loopEnd h ⟨rfl, rfl, rfl, rfl, rfl, rfl, trivial⟩
  · refine J.exit ?_
    refine JX.thenExit ?_
    refine JX.thenExit ?_
    refine JX.blockHere ?_
    refine JX.then ?_
    refine J.seq ?_
    refine J.seq ?_
    refine J.region ?_
    refine JL.exP (.none rfl) rfl rfl (.assign rfl) ?_
    refine JL.nil ?_
    refine JX.then ?_
    refine J.block ?_
    refine J.loop h (fun s318 => [(1, a1), (4, (.int .i64 s318.1)), (5, (.bool s318.2.1)), (6, (.int .i64 s318.2.2.1)), (8, (.int .i64 s318.2.2.2))]) ⟨rfl, rfl, rfl, rfl, rfl, trivial⟩ (fun I μ s318 w h => ?_)
    refine J.seq ?_
    refine J.seq ?_
    refine J.region ?_
    refine JL.exP (.none rfl) rfl rfl (.move rfl) ?_
    refine JL.exP (.none rfl) rfl rfl (.move rfl) ?_
    refine JL.sPure (.none rfl) rfl rfl ((.len (vs := [a1]) rfl)) h (fun vx320 w h => ?_)
    obtain ⟨x320, rfl, h⟩ := h
    refine JL.exP (.none rfl) rfl rfl (.lss rfl rfl) ?_
    refine JL.nil ?_
    refine JX.then ?_
    refine J.cond (b := _) rfl h (fun h => ?_) (fun h => ?_)
    · refine J.skip ?_
      refine JX.then ?_
      refine J.seq ?_
      refine J.block ?_
      refine J.seq ?_
      refine J.seq ?_
      refine J.region ?_
      refine JL.exP (.none rfl) rfl rfl (.move rfl) ?_
      refine JL.exP (.none rfl) rfl rfl (.move rfl) ?_
      refine JL.sPure (.none rfl) rfl rfl (.indexAddr rfl rfl) h (fun vp321 w h => ?_)
      obtain ⟨p321, rfl, h⟩ := h
      refine JL.exV (.none rfl) rfl rfl (.load rfl) h (fun vx322 w h => ?_)
      obtain ⟨x322, rfl, h⟩ := h
      refine JL.exP (.none rfl) rfl rfl (.move rfl) ?_
      refine JL.exP (.none rfl) rfl rfl (.sub rfl rfl) ?_
      refine JL.exP (.none rfl) rfl rfl (.gtr rfl rfl) ?_
      refine JL.nil ?_
      refine JX.then ?_
      refine J.cond (b := _) rfl h (fun h => ?_) (fun h => ?_)
      · refine J.seq ?_
        refine J.region ?_
        refine JL.exP (.none rfl) rfl rfl (.assign rfl) ?_
        refine JL.exP (.none rfl) rfl rfl (.assign rfl) ?_
        refine JL.nil ?_
        refine JX.then ?_
        refine J.ret ?_
        refine JX.thenRet ?_
        refine JX.blockRet ?_
        refine JX.thenRet ?_
        refine JX.thenRet ?_
        refine JX.blockRet ?_
        refine JX.thenRet ?_
        exact JX.ret2 rfl rfl rfl h
      · refine J.skip ?_
        refine JX.then ?_
        refine J.region ?_
        refine JL.exP (.none rfl) rfl rfl (.move rfl) ?_
        refine JL.exP (.none rfl) rfl rfl (.move rfl) ?_
        refine JL.exP (.none rfl) rfl rfl (.move rfl) ?_
        refine JL.sPure (.none rfl) rfl rfl (.indexAddr rfl rfl) h (fun vp323 w h => ?_)
        obtain ⟨p323, rfl, h⟩ := h
        refine JL.exV (.none rfl) rfl rfl (.load rfl) h (fun vx324 w h => ?_)
        obtain ⟨x324, rfl, h⟩ := h
        refine JL.exP (.none rfl) rfl rfl (.add rfl rfl) ?_
        refine JL.exP (.none rfl) rfl rfl (.assign rfl) ?_
        refine JL.nil ?_
        refine JX.blockNormal ?_
        refine JX.then ?_
        refine J.region ?_
        refine JL.exP (.none rfl) rfl rfl (.move rfl) ?_
        refine JL.exP (.none rfl) rfl rfl (.add rfl rfl) ?_
        refine JL.exP (.none rfl) rfl rfl (.assign rfl) ?_
        refine JL.nil ?_
        exact JX.loopEnd h ⟨rfl, rfl, rfl, rfl, rfl, trivial⟩
    · refine J.exit ?_
      refine JX.thenExit ?_
      refine JX.thenExit ?_
      refine JX.blockHere ?_
      refine JX.then ?_
      refine J.seq ?_
      refine J.region ?_
      refine JL.exP (.none rfl) rfl rfl (.move rfl) ?_
      refine JL.exP (.none rfl) rfl rfl (.assign rfl) ?_
      refine JL.exP (.none rfl) rfl rfl (.assign rfl) ?_
      refine JL.nil ?_
      refine JX.then ?_
      refine J.ret ?_
      exact JX.ret2 rfl rfl rfl h

end S
end Go.Cab

