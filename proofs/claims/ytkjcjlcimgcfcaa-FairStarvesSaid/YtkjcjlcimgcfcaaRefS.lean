/- A part of the proof: RefS. -/
import Derived.Test.YtkjcjlcimgcfcaaBase
namespace Go.Cab
set_option linter.unusedSimpArgs false
set_option linter.unusedVariables false
set_option linter.unusedSectionVars false
open Go Go.Proofs
theorem mixed : Try.prog.follows .mixedOrders = true := by kernel_rfl
theorem en_48 : Enters Try.prog 48 := .of Try.func48 rfl (by kernel_rfl)
theorem en_49 : Enters Try.prog 49 := .of Try.func49 rfl (by kernel_rfl)
theorem fa_46_3 (a : Addr) (w : World) : (Instr.fieldAt 46 (.pointer (some a)) 3).run Try.prog w = .ok (.pointer (some (a.add 3))) w := by kernel_rfl
theorem fa_40_2 (a : Addr) (w : World) : (Instr.fieldAt 40 (.pointer (some a)) 2).run Try.prog w = .ok (.pointer (some (a.add 2))) w := by kernel_rfl
theorem fa_103_0 (a : Addr) (w : World) : (Instr.fieldAt 103 (.pointer (some a)) 0).run Try.prog w = .ok (.pointer (some (a.add 0))) w := by kernel_rfl
theorem fa_46_4 (a : Addr) (w : World) : (Instr.fieldAt 46 (.pointer (some a)) 4).run Try.prog w = .ok (.pointer (some (a.add 6))) w := by kernel_rfl
theorem fa_44_0 (a : Addr) (w : World) : (Instr.fieldAt 44 (.pointer (some a)) 0).run Try.prog w = .ok (.pointer (some (a.add 0))) w := by kernel_rfl
theorem fa_105_0 (a : Addr) (w : World) : (Instr.fieldAt 105 (.pointer (some a)) 0).run Try.prog w = .ok (.pointer (some (a.add 0))) w := by kernel_rfl
theorem fa_46_1 (a : Addr) (w : World) : (Instr.fieldAt 46 (.pointer (some a)) 1).run Try.prog w = .ok (.pointer (some (a.add 1))) w := by kernel_rfl
theorem fa_56_0 (a : Addr) (w : World) : (Instr.fieldAt 56 (.pointer (some a)) 0).run Try.prog w = .ok (.pointer (some (a.add 0))) w := by kernel_rfl
theorem fa_54_0 (a : Addr) (w : World) : (Instr.fieldAt 54 (.pointer (some a)) 0).run Try.prog w = .ok (.pointer (some (a.add 0))) w := by kernel_rfl
theorem en_70 : Enters Try.prog 70 := .of Try.func70 rfl (by kernel_rfl)
theorem en_71 : Enters Try.prog 71 := .of Try.func71 rfl (by kernel_rfl)
theorem fa_40_0 (a : Addr) (w : World) : (Instr.fieldAt 40 (.pointer (some a)) 0).run Try.prog w = .ok (.pointer (some (a.add 0))) w := by kernel_rfl
theorem fa_40_1 (a : Addr) (w : World) : (Instr.fieldAt 40 (.pointer (some a)) 1).run Try.prog w = .ok (.pointer (some (a.add 1))) w := by kernel_rfl
theorem fa_46_2 (a : Addr) (w : World) : (Instr.fieldAt 46 (.pointer (some a)) 2).run Try.prog w = .ok (.pointer (some (a.add 2))) w := by kernel_rfl
theorem en_72 : Enters Try.prog 72 := .of Try.func72 rfl (by kernel_rfl)
theorem fa_44_1 (a : Addr) (w : World) : (Instr.fieldAt 44 (.pointer (some a)) 1).run Try.prog w = .ok (.pointer (some (a.add 1))) w := by kernel_rfl
theorem fa_44_2 (a : Addr) (w : World) : (Instr.fieldAt 44 (.pointer (some a)) 2).run Try.prog w = .ok (.pointer (some (a.add 2))) w := by kernel_rfl
theorem fa_46_0 (a : Addr) (w : World) : (Instr.fieldAt 46 (.pointer (some a)) 0).run Try.prog w = .ok (.pointer (some (a.add 0))) w := by kernel_rfl
theorem fa_56_2 (a : Addr) (w : World) : (Instr.fieldAt 56 (.pointer (some a)) 2).run Try.prog w = .ok (.pointer (some (a.add 17))) w := by kernel_rfl
theorem fa_56_1 (a : Addr) (w : World) : (Instr.fieldAt 56 (.pointer (some a)) 1).run Try.prog w = .ok (.pointer (some (a.add 16))) w := by kernel_rfl
theorem fa_126_1 (a : Addr) (w : World) : (Instr.fieldAt 126 (.pointer (some a)) 1).run Try.prog w = .ok (.pointer (some (a.add 13))) w := by kernel_rfl
theorem fa_103_1 (a : Addr) (w : World) : (Instr.fieldAt 103 (.pointer (some a)) 1).run Try.prog w = .ok (.pointer (some (a.add 1))) w := by kernel_rfl
theorem fa_103_2 (a : Addr) (w : World) : (Instr.fieldAt 103 (.pointer (some a)) 2).run Try.prog w = .ok (.pointer (some (a.add 2))) w := by kernel_rfl
theorem fa_105_1 (a : Addr) (w : World) : (Instr.fieldAt 105 (.pointer (some a)) 1).run Try.prog w = .ok (.pointer (some (a.add 1))) w := by kernel_rfl
theorem en_99 : Enters Try.prog 99 := .of Try.func99 rfl (by kernel_rfl)
namespace S
/-- cabstand/cabstandref21.Good -/
def ref21_Good (a0 : Value) (a1 : Value) (K : Value → WP) : WP :=
  semA Try.prog (Instr.box 46 a0) fun p1 =>
  semA Try.prog (Instr.box 28 a1) fun p2 =>
  semV Try.prog (loadVar 46 p1) fun v3 =>
  semV Try.prog (loadVar 28 p2) fun v4 =>
  callI Try.prog 48 #[v3, v4] .i64 fun x5 =>
  joinH (α := Bool) (fun y6 =>
    iteH y6 (
      K (.tuple #[(.bool false), (.bool false), (.bool false)])) (
      loopH (σ := Bool × Int) (fun kc14 s13 =>
        semV Try.prog (loadVar 38 ((p1.add 3).add 2)) fun v15 =>
        pureI Try.prog .i64 (Builtin.len_ #[38] 3 #[v15]) fun x16 =>
        iteH (decide (s13.2 < x16)) (
          joinH (α := Bool) (fun y17 =>
            kc14 (y17, (IntKind.i64.wrap (s13.2 + 1)))) fun k18 =>
            orB s13.1 (fun k20 =>
              semV Try.prog (loadVar 38 ((p1.add 3).add 2)) fun v22 =>
              pureA Try.prog (Instr.indexAt 38 v22 (.int .i64 s13.2)) fun p23 =>
              semI Try.prog .i64 (loadVar 3 (p23.add 0)) fun x24 =>
              k20 ((x24 : Int) == x5)) fun b19 =>
            k18 b19) (
          loopH (σ := Bool × Int) (fun kc26 s25 =>
            semV Try.prog (loadVar 41 ((p1.add 6).add 0)) fun v27 =>
            pureI Try.prog .i64 (Builtin.len_ #[41] 3 #[v27]) fun x28 =>
            iteH (decide (s25.2 < x28)) (
              joinH (α := Bool) (fun y29 =>
                kc26 (y29, (IntKind.i64.wrap (s25.2 + 1)))) fun k30 =>
                orB s25.1 (fun k32 =>
                  semV Try.prog (loadVar 41 ((p1.add 6).add 0)) fun v34 =>
                  pureA Try.prog (Instr.indexAt 41 v34 (.int .i64 s25.2)) fun p35 =>
                  semI Try.prog .i64 (loadVar 3 (p35.add 0)) fun x36 =>
                  k32 ((x36 : Int) == x5)) fun b31 =>
                k30 b31) (
              K (.tuple #[(.bool true), (.bool s13.1), (.bool s25.1)]))) (false, 0))) (false, 0))) fun k7 =>
    semV Try.prog (loadVar 46 p1) fun v8 =>
    callI Try.prog 49 #[v8] .i64 fun x9 =>
    orB ((x9 : Int) != 0) (fun k11 =>
      k11 (decide (x5 < 0))) fun b10 =>
    k7 b10
set_option maxRecDepth 100000 in
set_option maxHeartbeats 1000000 in
theorem ref21_Good_ok {a0 : Value} {a1 : Value} {K : Value → WP} {w : World} (h : ref21_Good a0 a1 K w) : callH Try.prog 19 #[a0, a1] K w := by
  refine enter (l := [a0, a1]) Try.func19 rfl rfl rfl ?_
  show J Try.prog 64 [(0, a0), (1, a1)] _ _ _
  unfold ref21_Good at h
  refine J.seq ?_
  refine J.region ?_
  refine JL.exV (.none rfl) rfl rfl (.box rfl) h (fun vp1 w h => ?_)
  obtain ⟨p1, rfl, h⟩ := h
  refine JL.exV (.none rfl) rfl rfl (.box rfl) h (fun vp2 w h => ?_)
  obtain ⟨p2, rfl, h⟩ := h
  refine JL.exP (.none rfl) rfl rfl (.assign rfl) ?_
  refine JL.exP (.none rfl) rfl rfl (.assign rfl) ?_
  refine JL.exP (.none rfl) rfl rfl (.assign rfl) ?_
  refine JL.nil ?_
  refine JX.then ?_
  refine J.seq ?_
  refine J.region ?_
  refine JL.exV (.none rfl) rfl rfl (.load rfl) h (fun v3 w h => ?_)
  refine JL.exV (.none rfl) rfl rfl (.load rfl) h (fun v4 w h => ?_)
  refine JL.exC (.none rfl) rfl rfl (.func (vs := [v3, v4]) en_48 rfl) h (fun vx5 w h => ?_)
  obtain ⟨x5, rfl, h⟩ := h
  refine JL.exP (.none rfl) rfl rfl (.assign rfl) ?_
  refine JL.nil ?_
  refine JX.then ?_
  refine J.seq ?_
  refine J.seq ?_
  refine J.join h (fun y6 => [(2, (.pointer (some p1))), (4, (.bool false)), (5, (.bool false)), (6, (.bool false)), (7, (.int .i64 x5)), (21, (.bool y6))]) (fun k7 w h => ?_) (fun y6 w h => ?_)
  · refine J.region ?_
    refine JL.exV (.none rfl) rfl rfl (.load rfl) h (fun v8 w h => ?_)
    refine JL.exC (.none rfl) rfl rfl (.func (vs := [v8]) en_49 rfl) h (fun vx9 w h => ?_)
    obtain ⟨x9, rfl, h⟩ := h
    refine JL.exP (.none rfl) rfl rfl (.neq rfl rfl) ?_
    refine JL.exP (.none rfl) rfl rfl (.move rfl) ?_
    rcases orB_cases h with ⟨hc12, h⟩ | ⟨hc12, h⟩
    · refine JL.exNo (.off rfl rfl rfl hc12 rfl) rfl rfl ?_
      refine JL.exNo (.off rfl rfl rfl hc12 rfl) rfl rfl ?_
      refine JL.exP (.none rfl) rfl rfl (.pickOn rfl hc12 rfl) ?_
      refine JL.nil ?_
      exact JX.joinEnd h ⟨rfl, rfl, rfl, rfl, rfl, rfl, trivial⟩
    · refine JL.exP (.on rfl rfl rfl hc12) rfl rfl (.move rfl) ?_
      refine JL.exP (.on rfl rfl rfl hc12) rfl rfl (.lss rfl rfl) ?_
      refine JL.exP (.none rfl) rfl rfl (.pickOff rfl hc12 rfl) ?_
      refine JL.nil ?_
      exact JX.joinEnd h ⟨rfl, rfl, rfl, rfl, rfl, rfl, trivial⟩
  · refine JX.then ?_
    refine J.cond (b := _) rfl h (fun h => ?_) (fun h => ?_)
    · refine J.seq ?_
      refine J.region ?_
      refine JL.exP (.none rfl) rfl rfl (.assign rfl) ?_
      refine JL.exP (.none rfl) rfl rfl (.assign rfl) ?_
      refine JL.exP (.none rfl) rfl rfl (.assign rfl) ?_
      refine JL.nil ?_
      refine JX.then ?_
      refine J.ret ?_
      refine JX.thenRet ?_
      exact JX.ret3 rfl rfl rfl rfl h
    · refine J.skip ?_
      refine JX.then ?_
      refine J.seq ?_
      refine J.region ?_
      refine JL.exP (.none rfl) rfl rfl (.assign rfl) ?_
      refine JL.nil ?_
      refine JX.then ?_
      refine J.seq ?_
      refine J.seq ?_
      refine J.region ?_
      refine JL.exP (.none rfl) rfl rfl (.assign rfl) ?_
      refine JL.nil ?_
      refine JX.then ?_
      refine J.block ?_
      refine J.loop h (fun s13 => [(2, (.pointer (some p1))), (4, (.bool false)), (5, (.bool false)), (6, (.bool false)), (7, (.int .i64 x5)), (8, (.bool s13.1)), (9, (.int .i64 s13.2))]) ⟨rfl, rfl, rfl, rfl, rfl, rfl, rfl, trivial⟩ (fun I μ s13 w h => ?_)
      refine J.seq ?_
      refine J.seq ?_
      refine J.region ?_
      refine JL.exP (.none rfl) rfl rfl (.move rfl) ?_
      refine JL.exP (.none rfl) rfl rfl (.fieldAddr rfl (fa_46_3 _)) ?_
      refine JL.exP (.none rfl) rfl rfl (.fieldAddr rfl (fa_40_2 _)) ?_
      refine JL.exV (.none rfl) rfl rfl (.load rfl) h (fun v15 w h => ?_)
      refine JL.sPure (.none rfl) rfl rfl ((.len (vs := [v15]) rfl)) h (fun vx16 w h => ?_)
      obtain ⟨x16, rfl, h⟩ := h
      refine JL.exP (.none rfl) rfl rfl (.lss rfl rfl) ?_
      refine JL.nil ?_
      refine JX.then ?_
      refine J.cond (b := _) rfl h (fun h => ?_) (fun h => ?_)
      · refine J.skip ?_
        refine JX.then ?_
        refine J.seq ?_
        refine J.block ?_
        refine J.join h (fun y17 => [(2, (.pointer (some p1))), (4, (.bool false)), (5, (.bool false)), (6, (.bool false)), (7, (.int .i64 x5)), (8, (.bool y17)), (9, (.int .i64 s13.2))]) (fun k18 w h => ?_) (fun y17 w h => ?_)
        · refine J.region ?_
          refine JL.exP (.none rfl) rfl rfl (.move rfl) ?_
          refine JL.exP (.none rfl) rfl rfl (.move rfl) ?_
          rcases orB_cases h with ⟨hc21, h⟩ | ⟨hc21, h⟩
          · refine JL.exNo (.off rfl rfl rfl hc21 rfl) rfl rfl ?_
            refine JL.exNo (.off rfl rfl rfl hc21 rfl) rfl rfl ?_
            refine JL.exNo (.off rfl rfl rfl hc21 rfl) rfl rfl ?_
            refine JL.exNo (.off rfl rfl rfl hc21 rfl) rfl rfl ?_
            refine JL.exNo (.off rfl rfl rfl hc21 rfl) rfl rfl ?_
            refine JL.exNo (.off rfl rfl rfl hc21 rfl) rfl rfl ?_
            refine JL.exNo (.off rfl rfl rfl hc21 rfl) rfl rfl ?_
            refine JL.exNo (.off rfl rfl rfl hc21 rfl) rfl rfl ?_
            refine JL.exNo (.off rfl rfl rfl hc21 rfl) rfl rfl ?_
            refine JL.exP (.none rfl) rfl rfl (.pickOn rfl hc21 rfl) ?_
            refine JL.exP (.none rfl) rfl rfl (.assign rfl) ?_
            refine JL.nil ?_
            exact JX.joinEnd h ⟨rfl, rfl, rfl, rfl, rfl, rfl, rfl, trivial⟩
          · refine JL.exP (.on rfl rfl rfl hc21) rfl rfl (.fieldAddr rfl (fa_46_3 _)) ?_
            refine JL.exP (.on rfl rfl rfl hc21) rfl rfl (.fieldAddr rfl (fa_40_2 _)) ?_
            refine JL.exV (.on rfl rfl rfl hc21) rfl rfl (.load rfl) h (fun v22 w h => ?_)
            refine JL.exP (.on rfl rfl rfl hc21) rfl rfl (.move rfl) ?_
            refine JL.sPure (.on rfl rfl rfl hc21) rfl rfl (.indexAddr rfl rfl) h (fun vp23 w h => ?_)
            obtain ⟨p23, rfl, h⟩ := h
            refine JL.exP (.on rfl rfl rfl hc21) rfl rfl (.fieldAddr rfl (fa_103_0 _)) ?_
            refine JL.exV (.on rfl rfl rfl hc21) rfl rfl (.load rfl) h (fun vx24 w h => ?_)
            obtain ⟨x24, rfl, h⟩ := h
            refine JL.exP (.on rfl rfl rfl hc21) rfl rfl (.move rfl) ?_
            refine JL.exP (.on rfl rfl rfl hc21) rfl rfl (.eql rfl rfl) ?_
            refine JL.exP (.none rfl) rfl rfl (.pickOff rfl hc21 rfl) ?_
            refine JL.exP (.none rfl) rfl rfl (.assign rfl) ?_
            refine JL.nil ?_
            exact JX.joinEnd h ⟨rfl, rfl, rfl, rfl, rfl, rfl, rfl, trivial⟩
        · refine JX.blockNormal ?_
          refine JX.then ?_
          refine J.region ?_
          refine JL.exP (.none rfl) rfl rfl (.move rfl) ?_
          refine JL.exP (.none rfl) rfl rfl (.add rfl rfl) ?_
          refine JL.exP (.none rfl) rfl rfl (.assign rfl) ?_
          refine JL.nil ?_
          exact JX.loopEnd h ⟨rfl, rfl, rfl, rfl, rfl, rfl, rfl, trivial⟩
      · refine J.exit ?_
        refine JX.thenExit ?_
        refine JX.thenExit ?_
        refine JX.blockHere ?_
        refine JX.then ?_
        refine J.seq ?_
        refine J.region ?_
        refine JL.exP (.none rfl) rfl rfl (.assign rfl) ?_
        refine JL.nil ?_
        refine JX.then ?_
        refine J.seq ?_
        refine J.seq ?_
        refine J.region ?_
        refine JL.exP (.none rfl) rfl rfl (.assign rfl) ?_
        refine JL.nil ?_
        refine JX.then ?_
        refine J.block ?_
        refine J.loop h (fun s25 => [(2, (.pointer (some p1))), (4, (.bool false)), (5, (.bool false)), (6, (.bool false)), (7, (.int .i64 x5)), (8, (.bool s13.1)), (10, (.bool s25.1)), (11, (.int .i64 s25.2))]) ⟨rfl, rfl, rfl, rfl, rfl, rfl, rfl, rfl, trivial⟩ (fun I μ s25 w h => ?_)
        refine J.seq ?_
        refine J.seq ?_
        refine J.region ?_
        refine JL.exP (.none rfl) rfl rfl (.move rfl) ?_
        refine JL.exP (.none rfl) rfl rfl (.fieldAddr rfl (fa_46_4 _)) ?_
        refine JL.exP (.none rfl) rfl rfl (.fieldAddr rfl (fa_44_0 _)) ?_
        refine JL.exV (.none rfl) rfl rfl (.load rfl) h (fun v27 w h => ?_)
        refine JL.sPure (.none rfl) rfl rfl ((.len (vs := [v27]) rfl)) h (fun vx28 w h => ?_)
        obtain ⟨x28, rfl, h⟩ := h
        refine JL.exP (.none rfl) rfl rfl (.lss rfl rfl) ?_
        refine JL.nil ?_
        refine JX.then ?_
        refine J.cond (b := _) rfl h (fun h => ?_) (fun h => ?_)
        · refine J.skip ?_
          refine JX.then ?_
          refine J.seq ?_
          refine J.block ?_
          refine J.join h (fun y29 => [(2, (.pointer (some p1))), (4, (.bool false)), (5, (.bool false)), (6, (.bool false)), (7, (.int .i64 x5)), (8, (.bool s13.1)), (10, (.bool y29)), (11, (.int .i64 s25.2))]) (fun k30 w h => ?_) (fun y29 w h => ?_)
          · refine J.region ?_
            refine JL.exP (.none rfl) rfl rfl (.move rfl) ?_
            refine JL.exP (.none rfl) rfl rfl (.move rfl) ?_
            rcases orB_cases h with ⟨hc33, h⟩ | ⟨hc33, h⟩
            · refine JL.exNo (.off rfl rfl rfl hc33 rfl) rfl rfl ?_
              refine JL.exNo (.off rfl rfl rfl hc33 rfl) rfl rfl ?_
              refine JL.exNo (.off rfl rfl rfl hc33 rfl) rfl rfl ?_
              refine JL.exNo (.off rfl rfl rfl hc33 rfl) rfl rfl ?_
              refine JL.exNo (.off rfl rfl rfl hc33 rfl) rfl rfl ?_
              refine JL.exNo (.off rfl rfl rfl hc33 rfl) rfl rfl ?_
              refine JL.exNo (.off rfl rfl rfl hc33 rfl) rfl rfl ?_
              refine JL.exNo (.off rfl rfl rfl hc33 rfl) rfl rfl ?_
              refine JL.exNo (.off rfl rfl rfl hc33 rfl) rfl rfl ?_
              refine JL.exP (.none rfl) rfl rfl (.pickOn rfl hc33 rfl) ?_
              refine JL.exP (.none rfl) rfl rfl (.assign rfl) ?_
              refine JL.nil ?_
              exact JX.joinEnd h ⟨rfl, rfl, rfl, rfl, rfl, rfl, rfl, rfl, trivial⟩
            · refine JL.exP (.on rfl rfl rfl hc33) rfl rfl (.fieldAddr rfl (fa_46_4 _)) ?_
              refine JL.exP (.on rfl rfl rfl hc33) rfl rfl (.fieldAddr rfl (fa_44_0 _)) ?_
              refine JL.exV (.on rfl rfl rfl hc33) rfl rfl (.load rfl) h (fun v34 w h => ?_)
              refine JL.exP (.on rfl rfl rfl hc33) rfl rfl (.move rfl) ?_
              refine JL.sPure (.on rfl rfl rfl hc33) rfl rfl (.indexAddr rfl rfl) h (fun vp35 w h => ?_)
              obtain ⟨p35, rfl, h⟩ := h
              refine JL.exP (.on rfl rfl rfl hc33) rfl rfl (.fieldAddr rfl (fa_105_0 _)) ?_
              refine JL.exV (.on rfl rfl rfl hc33) rfl rfl (.load rfl) h (fun vx36 w h => ?_)
              obtain ⟨x36, rfl, h⟩ := h
              refine JL.exP (.on rfl rfl rfl hc33) rfl rfl (.move rfl) ?_
              refine JL.exP (.on rfl rfl rfl hc33) rfl rfl (.eql rfl rfl) ?_
              refine JL.exP (.none rfl) rfl rfl (.pickOff rfl hc33 rfl) ?_
              refine JL.exP (.none rfl) rfl rfl (.assign rfl) ?_
              refine JL.nil ?_
              exact JX.joinEnd h ⟨rfl, rfl, rfl, rfl, rfl, rfl, rfl, rfl, trivial⟩
          · refine JX.blockNormal ?_
            refine JX.then ?_
            refine J.region ?_
            refine JL.exP (.none rfl) rfl rfl (.move rfl) ?_
            refine JL.exP (.none rfl) rfl rfl (.add rfl rfl) ?_
            refine JL.exP (.none rfl) rfl rfl (.assign rfl) ?_
            refine JL.nil ?_
            exact JX.loopEnd h ⟨rfl, rfl, rfl, rfl, rfl, rfl, rfl, rfl, trivial⟩
        · refine J.exit ?_
          refine JX.thenExit ?_
          refine JX.thenExit ?_
          refine JX.blockHere ?_
          refine JX.then ?_
          refine J.seq ?_
          refine J.region ?_
          refine JL.exP (.none rfl) rfl rfl (.move rfl) ?_
          refine JL.exP (.none rfl) rfl rfl (.move rfl) ?_
          refine JL.exP (.none rfl) rfl rfl (.assign rfl) ?_
          refine JL.exP (.none rfl) rfl rfl (.assign rfl) ?_
          refine JL.exP (.none rfl) rfl rfl (.assign rfl) ?_
          refine JL.nil ?_
          refine JX.then ?_
          refine J.ret ?_
          exact JX.ret3 rfl rfl rfl rfl h

/-- cabstand/cabstandref21.Row -/
def ref21_Row (a0 : Value) (a1 : Value) (K : Value → WP) : WP :=
  semA Try.prog (Instr.box 46 a0) fun p37 =>
  semA Try.prog (Instr.box 28 a1) fun p38 =>
  loopH (σ := Int × Int) (fun kc40 s39 =>
    semV Try.prog (loadVar 36 (p37.add 1)) fun v41 =>
    pureI Try.prog .i64 (Builtin.len_ #[36] 3 #[v41]) fun x42 =>
    iteH (decide (s39.2 < x42)) (
      drawH <|
      readV Try.prog (loadVar 36 (p37.add 1)) fun v43 =>
      pureA Try.prog (Instr.indexAt 36 v43 (.int .i64 s39.2)) fun p45 =>
      readV Try.prog (loadVar 28 ((p45.add 0).add 0)) fun v46 =>
      readV Try.prog (loadVar 28 p38) fun v48 =>
      pureB Try.prog (eqM .eql 28 (.tmp 19) (.tmp 20) v46 v48) fun b50 =>
      iteH b50 (
        K (.int .i64 s39.2)) (
        kc40 (s39.1, (IntKind.i64.wrap (s39.2 + 1))))) (
      K (.int .i64 (-1)))) (0, 0)
set_option maxRecDepth 100000 in
set_option maxHeartbeats 1000000 in
theorem ref21_Row_ok {a0 : Value} {a1 : Value} {K : Value → WP} {w : World} (h : ref21_Row a0 a1 K w) : callH Try.prog 48 #[a0, a1] K w := by
  refine enter (l := [a0, a1]) Try.func48 rfl rfl rfl ?_
  show J Try.prog 23 [(0, a0), (1, a1)] _ _ _
  unfold ref21_Row at h
  refine J.seq ?_
  refine J.region ?_
  refine JL.exV (.none rfl) rfl rfl (.box rfl) h (fun vp37 w h => ?_)
  obtain ⟨p37, rfl, h⟩ := h
  refine JL.exV (.none rfl) rfl rfl (.box rfl) h (fun vp38 w h => ?_)
  obtain ⟨p38, rfl, h⟩ := h
  refine JL.exP (.none rfl) rfl rfl (.assign rfl) ?_
  refine JL.nil ?_
  refine JX.then ?_
  refine J.seq ?_
  refine J.seq ?_
  refine J.region ?_
  refine JL.exP (.none rfl) rfl rfl (.assign rfl) ?_
  refine JL.nil ?_
  refine JX.then ?_
  refine J.block ?_
  refine J.loop h (fun s39 => [(2, (.pointer (some p37))), (3, (.pointer (some p38))), (4, (.int .i64 s39.1)), (5, (.int .i64 s39.2))]) ⟨rfl, rfl, rfl, rfl, trivial⟩ (fun I μ s39 w h => ?_)
  refine J.seq ?_
  refine J.seq ?_
  refine J.region ?_
  refine JL.exP (.none rfl) rfl rfl (.move rfl) ?_
  refine JL.exP (.none rfl) rfl rfl (.fieldAddr rfl (fa_46_1 _)) ?_
  refine JL.exV (.none rfl) rfl rfl (.load rfl) h (fun v41 w h => ?_)
  refine JL.sPure (.none rfl) rfl rfl ((.len (vs := [v41]) rfl)) h (fun vx42 w h => ?_)
  obtain ⟨x42, rfl, h⟩ := h
  refine JL.exP (.none rfl) rfl rfl (.lss rfl rfl) ?_
  refine JL.nil ?_
  refine JX.then ?_
  refine J.cond (b := _) rfl h (fun h => ?_) (fun h => ?_)
  · refine J.skip ?_
    refine JX.then ?_
    refine J.seq ?_
    refine J.block ?_
    refine J.seq ?_
    refine J.draw [[], [0], [], [0, 1, 2], [0, 1, 2, 3], [0, 1, 2, 3, 4], [0, 1, 2, 3, 4, 5], [], [0, 1, 2, 3, 4, 5, 6, 7]] (by kernel_rfl) mixed h (fun w h => ?_)
    refine JD.pure_ (i := 0) [] rfl (by kernel_rfl) (by kernel_rfl) (by kernel_rfl) (by kernel_rfl) (.none rfl) rfl rfl (.fieldAddr rfl (fa_46_1 _)) trivial ?_
    refine JD.read (i := 1) [] rfl (by kernel_rfl) (by kernel_rfl) (by kernel_rfl) (by kernel_rfl) (.none rfl) rfl rfl (.load rfl) h trivial (fun v43 st44 h => ?_)
    refine JD.pure_ (i := 2) [false] rfl (by kernel_rfl) (by kernel_rfl) (by kernel_rfl) (by kernel_rfl) (.none rfl) rfl rfl (.move rfl) ⟨st44, trivial⟩ ?_
    refine JD.sPure (i := 3) [true] rfl (by kernel_rfl) (by kernel_rfl) (by kernel_rfl) (by kernel_rfl) (.none rfl) rfl rfl (.indexAddr rfl rfl) h trivial (fun vp45 h => ?_)
    obtain ⟨p45, rfl, h⟩ := h
    refine JD.pure_ (i := 4) [true] rfl (by kernel_rfl) (by kernel_rfl) (by kernel_rfl) (by kernel_rfl) (.none rfl) rfl rfl (.fieldAddr rfl (fa_56_0 _)) trivial ?_
    refine JD.pure_ (i := 5) [true] rfl (by kernel_rfl) (by kernel_rfl) (by kernel_rfl) (by kernel_rfl) (.none rfl) rfl rfl (.fieldAddr rfl (fa_54_0 _)) trivial ?_
    refine JD.read (i := 6) [true] rfl (by kernel_rfl) (by kernel_rfl) (by kernel_rfl) (by kernel_rfl) (.none rfl) rfl rfl (.load rfl) h trivial (fun v46 st47 h => ?_)
    refine JD.read (i := 7) [false, false] rfl (by kernel_rfl) (by kernel_rfl) (by kernel_rfl) (by kernel_rfl) (.none rfl) rfl rfl (.load rfl) h ⟨st47, st44, trivial⟩ (fun v48 st49 h => ?_)
    refine JD.sPure (i := 8) [true, true, true] rfl (by kernel_rfl) (by kernel_rfl) (by kernel_rfl) (by kernel_rfl) (.none rfl) rfl rfl (.binOp rfl rfl) h trivial (fun vb50 h => ?_)
    obtain ⟨b50, rfl, h⟩ := h
    refine JD.done (by kernel_rfl) ?_
    refine JX.then ?_
    refine J.cond (b := _) rfl h (fun h => ?_) (fun h => ?_)
    · refine J.seq ?_
      refine J.region ?_
      refine JL.exP (.none rfl) rfl rfl (.move rfl) ?_
      refine JL.exP (.none rfl) rfl rfl (.assign rfl) ?_
      refine JL.nil ?_
      refine JX.then ?_
      refine J.ret ?_
      refine JX.blockRet ?_
      refine JX.thenRet ?_
      refine JX.thenRet ?_
      refine JX.blockRet ?_
      refine JX.thenRet ?_
      exact JX.ret1 rfl rfl h
    · refine J.skip ?_
      refine JX.blockNormal ?_
      refine JX.then ?_
      refine J.region ?_
      refine JL.exP (.none rfl) rfl rfl (.move rfl) ?_
      refine JL.exP (.none rfl) rfl rfl (.add rfl rfl) ?_
      refine JL.exP (.none rfl) rfl rfl (.assign rfl) ?_
      refine JL.nil ?_
      exact JX.loopEnd h ⟨rfl, rfl, rfl, rfl, trivial⟩
  · refine J.exit ?_
    refine JX.thenExit ?_
    refine JX.thenExit ?_
    refine JX.blockHere ?_
    refine JX.then ?_
    refine J.seq ?_
    refine J.region ?_
    refine JL.exP (.none rfl) rfl rfl (.assign rfl) ?_
    refine JL.nil ?_
    refine JX.then ?_
    refine J.ret ?_
    exact JX.ret1 rfl rfl h

/-- cabstand/cabstandref21.Error -/
def ref21_Error (a0 : Value) (K : Value → WP) : WP :=
  semA Try.prog (Instr.box 46 a0) fun p51 =>
  semV Try.prog (loadVar 46 p51) fun v52 =>
  callB Try.prog 70 #[v52] fun b53 =>
  iteH (!b53) (
    K (.int .i64 1)) (
    joinH (α := Bool) (fun y54 =>
      iteH y54 (
        K (.int .i64 170)) (
        semV Try.prog (loadVar 40 (p51.add 3)) fun v70 =>
        semV Try.prog (loadVar 41 ((p51.add 6).add 0)) fun v71 =>
        callI Try.prog 72 #[v70, v71] .i64 fun x72 =>
        iteH ((x72 : Int) != 0) (
          K (.int .i64 x72)) (
          joinH (α := Bool) (fun y73 =>
            iteH y73 (
              K (.int .i64 1)) (
              K (.int .i64 0))) fun k74 =>
            semV Try.prog (loadVar 42 ((p51.add 6).add 1)) fun v75 =>
            pureI Try.prog .i64 (Builtin.len_ #[42] 3 #[v75]) fun x76 =>
            semI Try.prog .i64 (loadVar 3 ((p51.add 3).add 0)) fun x77 =>
            orB ((x76 : Int) != x77) (fun k79 =>
              semV Try.prog (loadVar 42 ((p51.add 6).add 2)) fun v81 =>
              pureI Try.prog .i64 (Builtin.len_ #[42] 3 #[v81]) fun x82 =>
              semI Try.prog .i64 (loadVar 3 ((p51.add 3).add 1)) fun x83 =>
              k79 ((x82 : Int) != x83)) fun b78 =>
            k74 b78))) fun k55 =>
      semV Try.prog (loadVar 40 (p51.add 3)) fun v56 =>
      callI Try.prog 71 #[v56] .i64 fun x57 =>
      orB ((x57 : Int) != 0) (fun k59 =>
        semI Try.prog .i64 (loadVar 3 ((p51.add 3).add 0)) fun x61 =>
        semV Try.prog (loadVar 36 (p51.add 1)) fun v62 =>
        pureI Try.prog .i64 (Builtin.len_ #[36] 3 #[v62]) fun x63 =>
        k59 ((x61 : Int) != x63)) fun b58 =>
      orB b58 (fun k65 =>
        semI Try.prog .i64 (loadVar 3 ((p51.add 3).add 1)) fun x67 =>
        semV Try.prog (loadVar 37 (p51.add 2)) fun v68 =>
        pureI Try.prog .i64 (Builtin.len_ #[37] 3 #[v68]) fun x69 =>
        k65 ((x67 : Int) != x69)) fun b64 =>
      k55 b64)
set_option maxRecDepth 100000 in
set_option maxHeartbeats 1000000 in
theorem ref21_Error_ok {a0 : Value} {K : Value → WP} {w : World} (h : ref21_Error a0 K w) : callH Try.prog 49 #[a0] K w := by
  refine enter (l := [a0]) Try.func49 rfl rfl rfl ?_
  show J Try.prog 56 [(0, a0)] _ _ _
  unfold ref21_Error at h
  refine J.seq ?_
  refine J.region ?_
  refine JL.exV (.none rfl) rfl rfl (.box rfl) h (fun vp51 w h => ?_)
  obtain ⟨p51, rfl, h⟩ := h
  refine JL.exP (.none rfl) rfl rfl (.assign rfl) ?_
  refine JL.nil ?_
  refine JX.then ?_
  refine J.seq ?_
  refine J.seq ?_
  refine J.region ?_
  refine JL.exV (.none rfl) rfl rfl (.load rfl) h (fun v52 w h => ?_)
  refine JL.exC (.none rfl) rfl rfl (.func (vs := [v52]) en_70 rfl) h (fun vb53 w h => ?_)
  obtain ⟨b53, rfl, h⟩ := h
  refine JL.exP (.none rfl) rfl rfl (.not rfl) ?_
  refine JL.nil ?_
  refine JX.then ?_
  refine J.cond (b := _) rfl h (fun h => ?_) (fun h => ?_)
  · refine J.seq ?_
    refine J.region ?_
    refine JL.exP (.none rfl) rfl rfl (.assign rfl) ?_
    refine JL.nil ?_
    refine JX.then ?_
    refine J.ret ?_
    refine JX.thenRet ?_
    exact JX.ret1 rfl rfl h
  · refine J.skip ?_
    refine JX.then ?_
    refine J.seq ?_
    refine J.seq ?_
    refine J.join h (fun y54 => [(1, (.pointer (some p51))), (2, (.int .i64 0)), (28, (.bool y54))]) (fun k55 w h => ?_) (fun y54 w h => ?_)
    · refine J.region ?_
      refine JL.exP (.none rfl) rfl rfl (.fieldAddr rfl (fa_46_3 _)) ?_
      refine JL.exV (.none rfl) rfl rfl (.load rfl) h (fun v56 w h => ?_)
      refine JL.exC (.none rfl) rfl rfl (.func (vs := [v56]) en_71 rfl) h (fun vx57 w h => ?_)
      obtain ⟨x57, rfl, h⟩ := h
      refine JL.exP (.none rfl) rfl rfl (.neq rfl rfl) ?_
      refine JL.exP (.none rfl) rfl rfl (.move rfl) ?_
      rcases orB_cases h with ⟨hc60, h⟩ | ⟨hc60, h⟩
      · refine JL.exNo (.off rfl rfl rfl hc60 rfl) rfl rfl ?_
        refine JL.exNo (.off rfl rfl rfl hc60 rfl) rfl rfl ?_
        refine JL.exNo (.off rfl rfl rfl hc60 rfl) rfl rfl ?_
        refine JL.exNo (.off rfl rfl rfl hc60 rfl) rfl rfl ?_
        refine JL.exNo (.off rfl rfl rfl hc60 rfl) rfl rfl ?_
        refine JL.exNo (.off rfl rfl rfl hc60 rfl) rfl rfl ?_
        refine JL.exNo (.off rfl rfl rfl hc60 rfl) rfl rfl ?_
        refine JL.exP (.none rfl) rfl rfl (.pickOn rfl hc60 rfl) ?_
        refine JL.exP (.none rfl) rfl rfl (.move rfl) ?_
        have h := orB_true' h
        refine JL.exNo (.off rfl rfl rfl rfl rfl) rfl rfl ?_
        refine JL.exNo (.off rfl rfl rfl rfl rfl) rfl rfl ?_
        refine JL.exNo (.off rfl rfl rfl rfl rfl) rfl rfl ?_
        refine JL.exNo (.off rfl rfl rfl rfl rfl) rfl rfl ?_
        refine JL.exNo (.off rfl rfl rfl rfl rfl) rfl rfl ?_
        refine JL.exNo (.off rfl rfl rfl rfl rfl) rfl rfl ?_
        refine JL.exNo (.off rfl rfl rfl rfl rfl) rfl rfl ?_
        refine JL.exP (.none rfl) rfl rfl (.pickOn rfl rfl rfl) ?_
        refine JL.nil ?_
        exact JX.joinEnd h ⟨rfl, rfl, rfl, trivial⟩
      · refine JL.exP (.on rfl rfl rfl hc60) rfl rfl (.fieldAddr rfl (fa_46_3 _)) ?_
        refine JL.exP (.on rfl rfl rfl hc60) rfl rfl (.fieldAddr rfl (fa_40_0 _)) ?_
        refine JL.exV (.on rfl rfl rfl hc60) rfl rfl (.load rfl) h (fun vx61 w h => ?_)
        obtain ⟨x61, rfl, h⟩ := h
        refine JL.exP (.on rfl rfl rfl hc60) rfl rfl (.fieldAddr rfl (fa_46_1 _)) ?_
        refine JL.exV (.on rfl rfl rfl hc60) rfl rfl (.load rfl) h (fun v62 w h => ?_)
        refine JL.sPure (.on rfl rfl rfl hc60) rfl rfl ((.len (vs := [v62]) rfl)) h (fun vx63 w h => ?_)
        obtain ⟨x63, rfl, h⟩ := h
        refine JL.exP (.on rfl rfl rfl hc60) rfl rfl (.neq rfl rfl) ?_
        refine JL.exP (.none rfl) rfl rfl (.pickOff rfl hc60 rfl) ?_
        refine JL.exP (.none rfl) rfl rfl (.move rfl) ?_
        rcases orB_cases h with ⟨hc66, h⟩ | ⟨hc66, h⟩
        · refine JL.exNo (.off rfl rfl rfl hc66 rfl) rfl rfl ?_
          refine JL.exNo (.off rfl rfl rfl hc66 rfl) rfl rfl ?_
          refine JL.exNo (.off rfl rfl rfl hc66 rfl) rfl rfl ?_
          refine JL.exNo (.off rfl rfl rfl hc66 rfl) rfl rfl ?_
          refine JL.exNo (.off rfl rfl rfl hc66 rfl) rfl rfl ?_
          refine JL.exNo (.off rfl rfl rfl hc66 rfl) rfl rfl ?_
          refine JL.exNo (.off rfl rfl rfl hc66 rfl) rfl rfl ?_
          refine JL.exP (.none rfl) rfl rfl (.pickOn rfl hc66 rfl) ?_
          refine JL.nil ?_
          exact JX.joinEnd h ⟨rfl, rfl, rfl, trivial⟩
        · refine JL.exP (.on rfl rfl rfl hc66) rfl rfl (.fieldAddr rfl (fa_46_3 _)) ?_
          refine JL.exP (.on rfl rfl rfl hc66) rfl rfl (.fieldAddr rfl (fa_40_1 _)) ?_
          refine JL.exV (.on rfl rfl rfl hc66) rfl rfl (.load rfl) h (fun vx67 w h => ?_)
          obtain ⟨x67, rfl, h⟩ := h
          refine JL.exP (.on rfl rfl rfl hc66) rfl rfl (.fieldAddr rfl (fa_46_2 _)) ?_
          refine JL.exV (.on rfl rfl rfl hc66) rfl rfl (.load rfl) h (fun v68 w h => ?_)
          refine JL.sPure (.on rfl rfl rfl hc66) rfl rfl ((.len (vs := [v68]) rfl)) h (fun vx69 w h => ?_)
          obtain ⟨x69, rfl, h⟩ := h
          refine JL.exP (.on rfl rfl rfl hc66) rfl rfl (.neq rfl rfl) ?_
          refine JL.exP (.none rfl) rfl rfl (.pickOff rfl hc66 rfl) ?_
          refine JL.nil ?_
          exact JX.joinEnd h ⟨rfl, rfl, rfl, trivial⟩
    · refine JX.then ?_
      refine J.cond (b := _) rfl h (fun h => ?_) (fun h => ?_)
      · refine J.seq ?_
        refine J.region ?_
        refine JL.exP (.none rfl) rfl rfl (.assign rfl) ?_
        refine JL.nil ?_
        refine JX.then ?_
        refine J.ret ?_
        refine JX.thenRet ?_
        exact JX.ret1 rfl rfl h
      · refine J.skip ?_
        refine JX.then ?_
        refine J.seq ?_
        refine J.region ?_
        refine JL.exP (.none rfl) rfl rfl (.fieldAddr rfl (fa_46_3 _)) ?_
        refine JL.exV (.none rfl) rfl rfl (.load rfl) h (fun v70 w h => ?_)
        refine JL.exP (.none rfl) rfl rfl (.fieldAddr rfl (fa_46_4 _)) ?_
        refine JL.exP (.none rfl) rfl rfl (.fieldAddr rfl (fa_44_0 _)) ?_
        refine JL.exV (.none rfl) rfl rfl (.load rfl) h (fun v71 w h => ?_)
        refine JL.exC (.none rfl) rfl rfl (.func (vs := [v70, v71]) en_72 rfl) h (fun vx72 w h => ?_)
        obtain ⟨x72, rfl, h⟩ := h
        refine JL.exP (.none rfl) rfl rfl (.assign rfl) ?_
        refine JL.nil ?_
        refine JX.then ?_
        refine J.seq ?_
        refine J.seq ?_
        refine J.region ?_
        refine JL.exP (.none rfl) rfl rfl (.move rfl) ?_
        refine JL.exP (.none rfl) rfl rfl (.neq rfl rfl) ?_
        refine JL.nil ?_
        refine JX.then ?_
        refine J.cond (b := _) rfl h (fun h => ?_) (fun h => ?_)
        · refine J.seq ?_
          refine J.region ?_
          refine JL.exP (.none rfl) rfl rfl (.move rfl) ?_
          refine JL.exP (.none rfl) rfl rfl (.assign rfl) ?_
          refine JL.nil ?_
          refine JX.then ?_
          refine J.ret ?_
          refine JX.thenRet ?_
          exact JX.ret1 rfl rfl h
        · refine J.skip ?_
          refine JX.then ?_
          refine J.seq ?_
          refine J.seq ?_
          refine J.join h (fun y73 => [(2, (.int .i64 0)), (55, (.bool y73))]) (fun k74 w h => ?_) (fun y73 w h => ?_)
          · refine J.region ?_
            refine JL.exP (.none rfl) rfl rfl (.fieldAddr rfl (fa_46_4 _)) ?_
            refine JL.exP (.none rfl) rfl rfl (.fieldAddr rfl (fa_44_1 _)) ?_
            refine JL.exV (.none rfl) rfl rfl (.load rfl) h (fun v75 w h => ?_)
            refine JL.sPure (.none rfl) rfl rfl ((.len (vs := [v75]) rfl)) h (fun vx76 w h => ?_)
            obtain ⟨x76, rfl, h⟩ := h
            refine JL.exP (.none rfl) rfl rfl (.fieldAddr rfl (fa_46_3 _)) ?_
            refine JL.exP (.none rfl) rfl rfl (.fieldAddr rfl (fa_40_0 _)) ?_
            refine JL.exV (.none rfl) rfl rfl (.load rfl) h (fun vx77 w h => ?_)
            obtain ⟨x77, rfl, h⟩ := h
            refine JL.exP (.none rfl) rfl rfl (.neq rfl rfl) ?_
            refine JL.exP (.none rfl) rfl rfl (.move rfl) ?_
            rcases orB_cases h with ⟨hc80, h⟩ | ⟨hc80, h⟩
            · refine JL.exNo (.off rfl rfl rfl hc80 rfl) rfl rfl ?_
              refine JL.exNo (.off rfl rfl rfl hc80 rfl) rfl rfl ?_
              refine JL.exNo (.off rfl rfl rfl hc80 rfl) rfl rfl ?_
              refine JL.exNo (.off rfl rfl rfl hc80 rfl) rfl rfl ?_
              refine JL.exNo (.off rfl rfl rfl hc80 rfl) rfl rfl ?_
              refine JL.exNo (.off rfl rfl rfl hc80 rfl) rfl rfl ?_
              refine JL.exNo (.off rfl rfl rfl hc80 rfl) rfl rfl ?_
              refine JL.exNo (.off rfl rfl rfl hc80 rfl) rfl rfl ?_
              refine JL.exP (.none rfl) rfl rfl (.pickOn rfl hc80 rfl) ?_
              refine JL.nil ?_
              exact JX.joinEnd h ⟨rfl, rfl, trivial⟩
            · refine JL.exP (.on rfl rfl rfl hc80) rfl rfl (.fieldAddr rfl (fa_46_4 _)) ?_
              refine JL.exP (.on rfl rfl rfl hc80) rfl rfl (.fieldAddr rfl (fa_44_2 _)) ?_
              refine JL.exV (.on rfl rfl rfl hc80) rfl rfl (.load rfl) h (fun v81 w h => ?_)
              refine JL.sPure (.on rfl rfl rfl hc80) rfl rfl ((.len (vs := [v81]) rfl)) h (fun vx82 w h => ?_)
              obtain ⟨x82, rfl, h⟩ := h
              refine JL.exP (.on rfl rfl rfl hc80) rfl rfl (.fieldAddr rfl (fa_46_3 _)) ?_
              refine JL.exP (.on rfl rfl rfl hc80) rfl rfl (.fieldAddr rfl (fa_40_1 _)) ?_
              refine JL.exV (.on rfl rfl rfl hc80) rfl rfl (.load rfl) h (fun vx83 w h => ?_)
              obtain ⟨x83, rfl, h⟩ := h
              refine JL.exP (.on rfl rfl rfl hc80) rfl rfl (.neq rfl rfl) ?_
              refine JL.exP (.none rfl) rfl rfl (.pickOff rfl hc80 rfl) ?_
              refine JL.nil ?_
              exact JX.joinEnd h ⟨rfl, rfl, trivial⟩
          · refine JX.then ?_
            refine J.cond (b := _) rfl h (fun h => ?_) (fun h => ?_)
            · refine J.seq ?_
              refine J.region ?_
              refine JL.exP (.none rfl) rfl rfl (.assign rfl) ?_
              refine JL.nil ?_
              refine JX.then ?_
              refine J.ret ?_
              refine JX.thenRet ?_
              exact JX.ret1 rfl rfl h
            · refine J.skip ?_
              refine JX.then ?_
              refine J.seq ?_
              refine J.region ?_
              refine JL.exP (.none rfl) rfl rfl (.assign rfl) ?_
              refine JL.nil ?_
              refine JX.then ?_
              refine J.ret ?_
              exact JX.ret1 rfl rfl h

/-- cabstand/cabstandref21.lists -/
def ref21_lists (a0 : Value) (K : Value → WP) : WP :=
  semA Try.prog (Instr.box 46 a0) fun p84 =>
  joinH (α := Bool) (fun y85 =>
    iteH y85 (
      K (.bool false)) (
      loopH (σ := Bool × Int) (fun kc103 s102 =>
        semV Try.prog (loadVar 36 (p84.add 1)) fun v104 =>
        pureI Try.prog .i64 (Builtin.len_ #[36] 3 #[v104]) fun x105 =>
        iteH (decide (s102.2 < x105)) (
          semV Try.prog (loadVar 36 (p84.add 1)) fun v106 =>
          pureA Try.prog (Instr.indexAt 36 v106 (.int .i64 s102.2)) fun p107 =>
          semV Try.prog (loadVar 56 p107) fun v108 =>
          semA Try.prog (Instr.alloc 56 true (.tuple #[])) fun p109 =>
          semU Try.prog (storeVar 56 p109 v108) <|
          joinH (α := Bool) (fun y110 =>
            iteH y110 (
              K (.bool false)) (
              kc103 (s102.1, (IntKind.i64.wrap (s102.2 + 1))))) fun k111 =>
            drawH <|
            readI Try.prog .i64 (loadVar 3 (p109.add 17)) fun x112 =>
            orB (decide (x112 < 0)) (fun k115 =>
              andB (decide (0 < s102.2)) (fun k118 =>
                readI Try.prog .i64 (loadVar 3 (p109.add 17)) fun x120 =>
                readV Try.prog (loadVar 36 (p84.add 1)) fun v122 =>
                pureA Try.prog (Instr.indexAt 36 v122 (.int .i64 (IntKind.i64.wrap (s102.2 - 1)))) fun p124 =>
                readI Try.prog .i64 (loadVar 3 (p124.add 17)) fun x125 =>
                k118 (decide (x120 ≤ x125))) fun b117 =>
              k115 b117) fun b114 =>
            orB b114 (fun k128 =>
              readI Try.prog .i64 (loadVar 3 (p109.add 16)) fun x130 =>
              k128 (decide (x130 < 0))) fun b127 =>
            orB b127 (fun k133 =>
              readI Try.prog .i64 (loadVar 3 (p109.add 16)) fun x135 =>
              readI Try.prog .i64 (loadVar 3 (p84.add 0)) fun x137 =>
              k133 (decide (x137 < x135))) fun b132 =>
            k111 b132) (
          loopH (σ := Bool × Int) (fun kc140 s139 =>
            semV Try.prog (loadVar 37 (p84.add 2)) fun v141 =>
            pureI Try.prog .i64 (Builtin.len_ #[37] 3 #[v141]) fun x142 =>
            iteH (decide (s139.2 < x142)) (
              joinH (α := Bool) (fun y143 =>
                iteH y143 (
                  K (.bool false)) (
                  kc140 (s139.1, (IntKind.i64.wrap (s139.2 + 1))))) fun k144 =>
                drawH <|
                readV Try.prog (loadVar 37 (p84.add 2)) fun v145 =>
                pureA Try.prog (Instr.indexAt 37 v145 (.int .i64 s139.2)) fun p147 =>
                readI Try.prog .i64 (loadVar 3 (p147.add 13)) fun x148 =>
                orB (decide (x148 < 0)) (fun k151 =>
                  andB (decide (0 < s139.2)) (fun k154 =>
                    readV Try.prog (loadVar 37 (p84.add 2)) fun v156 =>
                    pureA Try.prog (Instr.indexAt 37 v156 (.int .i64 s139.2)) fun p158 =>
                    readI Try.prog .i64 (loadVar 3 (p158.add 13)) fun x159 =>
                    readV Try.prog (loadVar 37 (p84.add 2)) fun v161 =>
                    pureA Try.prog (Instr.indexAt 37 v161 (.int .i64 (IntKind.i64.wrap (s139.2 - 1)))) fun p163 =>
                    readI Try.prog .i64 (loadVar 3 (p163.add 13)) fun x164 =>
                    k154 (decide (x159 ≤ x164))) fun b153 =>
                  k151 b153) fun b150 =>
                k144 b150) (
              K (.bool true))) (s102.1, 0))) (false, 0))) fun k86 =>
    semI Try.prog .i64 (loadVar 3 (p84.add 0)) fun x87 =>
    orB (decide (x87 < 1)) (fun k89 =>
      semI Try.prog .i64 (loadVar 3 (p84.add 0)) fun x91 =>
      k89 (decide (1099511627776 < x91))) fun b88 =>
    orB b88 (fun k93 =>
      semV Try.prog (loadVar 36 (p84.add 1)) fun v95 =>
      pureI Try.prog .i64 (Builtin.len_ #[36] 3 #[v95]) fun x96 =>
      k93 (decide (64 < x96))) fun b92 =>
    orB b92 (fun k98 =>
      semV Try.prog (loadVar 37 (p84.add 2)) fun v100 =>
      pureI Try.prog .i64 (Builtin.len_ #[37] 3 #[v100]) fun x101 =>
      k98 (decide (64 < x101))) fun b97 =>
    k86 b97
set_option maxRecDepth 100000 in
set_option maxHeartbeats 1000000 in
theorem ref21_lists_ok {a0 : Value} {K : Value → WP} {w : World} (h : ref21_lists a0 K w) : callH Try.prog 70 #[a0] K w := by
  refine enter (l := [a0]) Try.func70 rfl rfl rfl ?_
  show J Try.prog 103 [(0, a0)] _ _ _
  unfold ref21_lists at h
  refine J.seq ?_
  refine J.region ?_
  refine JL.exV (.none rfl) rfl rfl (.box rfl) h (fun vp84 w h => ?_)
  obtain ⟨p84, rfl, h⟩ := h
  refine JL.exP (.none rfl) rfl rfl (.assign rfl) ?_
  refine JL.nil ?_
  refine JX.then ?_
  refine J.seq ?_
  refine J.seq ?_
  refine J.join h (fun y85 => [(1, (.pointer (some p84))), (2, (.bool false)), (25, (.bool y85))]) (fun k86 w h => ?_) (fun y85 w h => ?_)
  · refine J.region ?_
    refine JL.exP (.none rfl) rfl rfl (.fieldAddr rfl (fa_46_0 _)) ?_
    refine JL.exV (.none rfl) rfl rfl (.load rfl) h (fun vx87 w h => ?_)
    obtain ⟨x87, rfl, h⟩ := h
    refine JL.exP (.none rfl) rfl rfl (.lss rfl rfl) ?_
    refine JL.exP (.none rfl) rfl rfl (.move rfl) ?_
    rcases orB_cases h with ⟨hc90, h⟩ | ⟨hc90, h⟩
    · refine JL.exNo (.off rfl rfl rfl hc90 rfl) rfl rfl ?_
      refine JL.exNo (.off rfl rfl rfl hc90 rfl) rfl rfl ?_
      refine JL.exNo (.off rfl rfl rfl hc90 rfl) rfl rfl ?_
      refine JL.exP (.none rfl) rfl rfl (.pickOn rfl hc90 rfl) ?_
      refine JL.exP (.none rfl) rfl rfl (.move rfl) ?_
      have h := orB_true' h
      refine JL.exNo (.off rfl rfl rfl rfl rfl) rfl rfl ?_
      refine JL.exNo (.off rfl rfl rfl rfl rfl) rfl rfl ?_
      refine JL.exNo (.off rfl rfl rfl rfl rfl) rfl rfl ?_
      refine JL.exNo (.off rfl rfl rfl rfl rfl) rfl rfl ?_
      refine JL.exP (.none rfl) rfl rfl (.pickOn rfl rfl rfl) ?_
      refine JL.exP (.none rfl) rfl rfl (.move rfl) ?_
      have h := orB_true' h
      refine JL.exNo (.off rfl rfl rfl rfl rfl) rfl rfl ?_
      refine JL.exNo (.off rfl rfl rfl rfl rfl) rfl rfl ?_
      refine JL.exNo (.off rfl rfl rfl rfl rfl) rfl rfl ?_
      refine JL.exNo (.off rfl rfl rfl rfl rfl) rfl rfl ?_
      refine JL.exP (.none rfl) rfl rfl (.pickOn rfl rfl rfl) ?_
      refine JL.nil ?_
      exact JX.joinEnd h ⟨rfl, rfl, rfl, trivial⟩
    · refine JL.exP (.on rfl rfl rfl hc90) rfl rfl (.fieldAddr rfl (fa_46_0 _)) ?_
      refine JL.exV (.on rfl rfl rfl hc90) rfl rfl (.load rfl) h (fun vx91 w h => ?_)
      obtain ⟨x91, rfl, h⟩ := h
      refine JL.exP (.on rfl rfl rfl hc90) rfl rfl (.gtr rfl rfl) ?_
      refine JL.exP (.none rfl) rfl rfl (.pickOff rfl hc90 rfl) ?_
      refine JL.exP (.none rfl) rfl rfl (.move rfl) ?_
      rcases orB_cases h with ⟨hc94, h⟩ | ⟨hc94, h⟩
      · refine JL.exNo (.off rfl rfl rfl hc94 rfl) rfl rfl ?_
        refine JL.exNo (.off rfl rfl rfl hc94 rfl) rfl rfl ?_
        refine JL.exNo (.off rfl rfl rfl hc94 rfl) rfl rfl ?_
        refine JL.exNo (.off rfl rfl rfl hc94 rfl) rfl rfl ?_
        refine JL.exP (.none rfl) rfl rfl (.pickOn rfl hc94 rfl) ?_
        refine JL.exP (.none rfl) rfl rfl (.move rfl) ?_
        have h := orB_true' h
        refine JL.exNo (.off rfl rfl rfl rfl rfl) rfl rfl ?_
        refine JL.exNo (.off rfl rfl rfl rfl rfl) rfl rfl ?_
        refine JL.exNo (.off rfl rfl rfl rfl rfl) rfl rfl ?_
        refine JL.exNo (.off rfl rfl rfl rfl rfl) rfl rfl ?_
        refine JL.exP (.none rfl) rfl rfl (.pickOn rfl rfl rfl) ?_
        refine JL.nil ?_
        exact JX.joinEnd h ⟨rfl, rfl, rfl, trivial⟩
      · refine JL.exP (.on rfl rfl rfl hc94) rfl rfl (.fieldAddr rfl (fa_46_1 _)) ?_
        refine JL.exV (.on rfl rfl rfl hc94) rfl rfl (.load rfl) h (fun v95 w h => ?_)
        refine JL.sPure (.on rfl rfl rfl hc94) rfl rfl ((.len (vs := [v95]) rfl)) h (fun vx96 w h => ?_)
        obtain ⟨x96, rfl, h⟩ := h
        refine JL.exP (.on rfl rfl rfl hc94) rfl rfl (.gtr rfl rfl) ?_
        refine JL.exP (.none rfl) rfl rfl (.pickOff rfl hc94 rfl) ?_
        refine JL.exP (.none rfl) rfl rfl (.move rfl) ?_
        rcases orB_cases h with ⟨hc99, h⟩ | ⟨hc99, h⟩
        · refine JL.exNo (.off rfl rfl rfl hc99 rfl) rfl rfl ?_
          refine JL.exNo (.off rfl rfl rfl hc99 rfl) rfl rfl ?_
          refine JL.exNo (.off rfl rfl rfl hc99 rfl) rfl rfl ?_
          refine JL.exNo (.off rfl rfl rfl hc99 rfl) rfl rfl ?_
          refine JL.exP (.none rfl) rfl rfl (.pickOn rfl hc99 rfl) ?_
          refine JL.nil ?_
          exact JX.joinEnd h ⟨rfl, rfl, rfl, trivial⟩
        · refine JL.exP (.on rfl rfl rfl hc99) rfl rfl (.fieldAddr rfl (fa_46_2 _)) ?_
          refine JL.exV (.on rfl rfl rfl hc99) rfl rfl (.load rfl) h (fun v100 w h => ?_)
          refine JL.sPure (.on rfl rfl rfl hc99) rfl rfl ((.len (vs := [v100]) rfl)) h (fun vx101 w h => ?_)
          obtain ⟨x101, rfl, h⟩ := h
          refine JL.exP (.on rfl rfl rfl hc99) rfl rfl (.gtr rfl rfl) ?_
          refine JL.exP (.none rfl) rfl rfl (.pickOff rfl hc99 rfl) ?_
          refine JL.nil ?_
          exact JX.joinEnd h ⟨rfl, rfl, rfl, trivial⟩
  · refine JX.then ?_
    refine J.cond (b := _) rfl h (fun h => ?_) (fun h => ?_)
    · refine J.seq ?_
      refine J.region ?_
      refine JL.exP (.none rfl) rfl rfl (.assign rfl) ?_
      refine JL.nil ?_
      refine JX.then ?_
      refine J.ret ?_
      refine JX.thenRet ?_
      exact JX.ret1 rfl rfl h
    · refine J.skip ?_
      refine JX.then ?_
      refine J.seq ?_
      refine J.seq ?_
      refine J.region ?_
      refine JL.exP (.none rfl) rfl rfl (.assign rfl) ?_
      refine JL.nil ?_
      refine JX.then ?_
      refine J.block ?_
      refine J.loop h (fun s102 => [(1, (.pointer (some p84))), (2, (.bool s102.1)), (3, (.int .i64 s102.2))]) ⟨rfl, rfl, rfl, trivial⟩ (fun I μ s102 w h => ?_)
      refine J.seq ?_
      refine J.seq ?_
      refine J.region ?_
      refine JL.exP (.none rfl) rfl rfl (.move rfl) ?_
      refine JL.exP (.none rfl) rfl rfl (.fieldAddr rfl (fa_46_1 _)) ?_
      refine JL.exV (.none rfl) rfl rfl (.load rfl) h (fun v104 w h => ?_)
      refine JL.sPure (.none rfl) rfl rfl ((.len (vs := [v104]) rfl)) h (fun vx105 w h => ?_)
      obtain ⟨x105, rfl, h⟩ := h
      refine JL.exP (.none rfl) rfl rfl (.lss rfl rfl) ?_
      refine JL.nil ?_
      refine JX.then ?_
      refine J.cond (b := _) rfl h (fun h => ?_) (fun h => ?_)
      · refine J.skip ?_
        refine JX.then ?_
        refine J.seq ?_
        refine J.block ?_
        refine J.seq ?_
        refine J.region ?_
        refine JL.exP (.none rfl) rfl rfl (.fieldAddr rfl (fa_46_1 _)) ?_
        refine JL.exV (.none rfl) rfl rfl (.load rfl) h (fun v106 w h => ?_)
        refine JL.exP (.none rfl) rfl rfl (.move rfl) ?_
        refine JL.sPure (.none rfl) rfl rfl (.indexAddr rfl rfl) h (fun vp107 w h => ?_)
        obtain ⟨p107, rfl, h⟩ := h
        refine JL.exV (.none rfl) rfl rfl (.load rfl) h (fun v108 w h => ?_)
        refine JL.exV (.none rfl) rfl rfl (.alloc) h (fun vp109 w h => ?_)
        obtain ⟨p109, rfl, h⟩ := h
        refine JL.exU (.none rfl) rfl (.store rfl rfl) h (fun w h => ?_)
        refine JL.nil ?_
        refine JX.then ?_
        refine J.seq ?_
        refine J.join h (fun y110 => [(1, (.pointer (some p84))), (2, (.bool s102.1)), (3, (.int .i64 s102.2)), (68, (.bool y110))]) (fun k111 w h => ?_) (fun y110 w h => ?_)
        · refine J.draw [[], [0], [0, 1], [0, 1, 2], [0, 1, 2, 3], [0, 1, 2, 3, 4], [0, 1, 2, 3, 4, 5], [0, 1, 2, 3, 4, 5, 6], [0, 1, 2, 3, 4, 5, 6, 7], [0, 1, 2, 3, 4, 5, 6], [0, 1, 2, 3, 4, 5, 6, 9], [0, 1, 2, 3, 4, 5, 6], [0, 1, 2, 3, 4, 5, 6, 11], [0, 1, 2, 3, 4, 5, 6, 9, 10, 11, 12], [0, 1, 2, 3, 4, 5, 6, 9, 10, 11, 12, 13], [0, 1, 2, 3, 4, 5, 6, 9, 10, 11, 12, 13, 14], [0, 1, 2, 3, 4, 5, 6, 7, 8, 9, 10, 11, 12, 13, 14, 15], [0, 1, 2, 3, 4, 5, 6, 7, 8, 9, 10, 11, 12, 13, 14, 15, 16], [0, 1, 2, 3, 4, 5, 6, 7, 8, 9, 10, 11, 12, 13, 14, 15, 16, 17], [0, 1, 2, 3, 4, 5, 6, 7, 8, 9, 10, 11, 12, 13, 14, 15, 16, 17, 18], [0, 1, 2, 3, 4, 5, 6, 7, 8, 9, 10, 11, 12, 13, 14, 15, 16, 17, 18, 19], [0, 1, 2, 3, 4, 5, 6, 7, 8, 9, 10, 11, 12, 13, 14, 15, 16, 17, 18, 19, 20], [0, 1, 2, 3, 4, 5, 6, 7, 8, 9, 10, 11, 12, 13, 14, 15, 16, 17, 18, 19, 20, 21], [0, 1, 2, 3, 4, 5, 6, 7, 8, 9, 10, 11, 12, 13, 14, 15, 16, 17, 18, 19, 20, 21, 22], [0, 1, 2, 3, 4, 5, 6, 7, 8, 9, 10, 11, 12, 13, 14, 15, 16, 17, 18, 19, 20, 21, 22, 23], [0, 1, 2, 3, 4, 5, 6, 7, 8, 9, 10, 11, 12, 13, 14, 15, 16, 17, 18, 19, 20, 21, 22, 23, 24], [0, 1, 2, 3, 4, 5, 6, 7, 8, 9, 10, 11, 12, 13, 14, 15, 16, 17, 18, 19, 20, 21, 22, 23, 24, 25], [0, 1, 2, 3, 4, 5, 6, 7, 8, 9, 10, 11, 12, 13, 14, 15, 16, 17, 18, 19, 20, 21, 22, 23, 24], [0, 1, 2, 3, 4, 5, 6, 7, 8, 9, 10, 11, 12, 13, 14, 15, 16, 17, 18, 19, 20, 21, 22, 23, 24, 27], [0, 1, 2, 3, 4, 5, 6, 7, 8, 9, 10, 11, 12, 13, 14, 15, 16, 17, 18, 19, 20, 21, 22, 23, 24, 25, 26, 27, 28], [0, 1, 2, 3, 4, 5, 6, 7, 8, 9, 10, 11, 12, 13, 14, 15, 16, 17, 18, 19, 20, 21, 22, 23, 24, 25, 26, 27, 28, 29]] (by kernel_rfl) mixed h (fun w h => ?_)
          refine JD.pure_ (i := 0) [] rfl (by kernel_rfl) (by kernel_rfl) (by kernel_rfl) (by kernel_rfl) (.none rfl) rfl rfl (.fieldAddr rfl (fa_56_2 _)) trivial ?_
          refine JD.read (i := 1) [] rfl (by kernel_rfl) (by kernel_rfl) (by kernel_rfl) (by kernel_rfl) (.none rfl) rfl rfl (.load rfl) h trivial (fun vx112 st113 h => ?_)
          obtain ⟨x112, rfl, h⟩ := h
          refine JD.pure_ (i := 2) [true] rfl (by kernel_rfl) (by kernel_rfl) (by kernel_rfl) (by kernel_rfl) (.none rfl) rfl rfl (.lss rfl rfl) trivial ?_
          refine JD.pure_ (i := 3) [true] rfl (by kernel_rfl) (by kernel_rfl) (by kernel_rfl) (by kernel_rfl) (.none rfl) rfl rfl (.move rfl) trivial ?_
          rcases orB_cases h with ⟨hc116, h⟩ | ⟨hc116, h⟩
          · refine JD.skip (i := 4) [true] rfl (by kernel_rfl) (by kernel_rfl) (by kernel_rfl) (by kernel_rfl) (.off rfl rfl rfl hc116 rfl) rfl rfl trivial ?_
            refine JD.skip (i := 5) [true] rfl (by kernel_rfl) (by kernel_rfl) (by kernel_rfl) (by kernel_rfl) (.off rfl rfl rfl hc116 rfl) rfl rfl trivial ?_
            refine JD.skip (i := 6) [true] rfl (by kernel_rfl) (by kernel_rfl) (by kernel_rfl) (by kernel_rfl) (.off rfl rfl rfl hc116 rfl) rfl rfl trivial ?_
            refine JD.skip (i := 7) [true] rfl (by kernel_rfl) (by kernel_rfl) (by kernel_rfl) (by kernel_rfl) (.undef rfl rfl rfl) rfl rfl trivial ?_
            refine JD.skip (i := 8) [true] rfl (by kernel_rfl) (by kernel_rfl) (by kernel_rfl) (by kernel_rfl) (.undef rfl rfl rfl) rfl rfl trivial ?_
            refine JD.skip (i := 9) [true] rfl (by kernel_rfl) (by kernel_rfl) (by kernel_rfl) (by kernel_rfl) (.undef rfl rfl rfl) rfl rfl trivial ?_
            refine JD.skip (i := 10) [true] rfl (by kernel_rfl) (by kernel_rfl) (by kernel_rfl) (by kernel_rfl) (.undef rfl rfl rfl) rfl rfl trivial ?_
            refine JD.skip (i := 11) [true] rfl (by kernel_rfl) (by kernel_rfl) (by kernel_rfl) (by kernel_rfl) (.undef rfl rfl rfl) rfl rfl trivial ?_
            refine JD.skip (i := 12) [true] rfl (by kernel_rfl) (by kernel_rfl) (by kernel_rfl) (by kernel_rfl) (.undef rfl rfl rfl) rfl rfl trivial ?_
            refine JD.skip (i := 13) [true] rfl (by kernel_rfl) (by kernel_rfl) (by kernel_rfl) (by kernel_rfl) (.undef rfl rfl rfl) rfl rfl trivial ?_
            refine JD.skip (i := 14) [true] rfl (by kernel_rfl) (by kernel_rfl) (by kernel_rfl) (by kernel_rfl) (.undef rfl rfl rfl) rfl rfl trivial ?_
            refine JD.skip (i := 15) [true] rfl (by kernel_rfl) (by kernel_rfl) (by kernel_rfl) (by kernel_rfl) (.undef rfl rfl rfl) rfl rfl trivial ?_
            refine JD.skip (i := 16) [true] rfl (by kernel_rfl) (by kernel_rfl) (by kernel_rfl) (by kernel_rfl) (.undef rfl rfl rfl) rfl rfl trivial ?_
            refine JD.skip (i := 17) [true] rfl (by kernel_rfl) (by kernel_rfl) (by kernel_rfl) (by kernel_rfl) (.off rfl rfl rfl hc116 rfl) rfl rfl trivial ?_
            refine JD.pure_ (i := 18) [true] rfl (by kernel_rfl) (by kernel_rfl) (by kernel_rfl) (by kernel_rfl) (.none rfl) rfl rfl (.pickOn rfl hc116 rfl) trivial ?_
            refine JD.pure_ (i := 19) [true] rfl (by kernel_rfl) (by kernel_rfl) (by kernel_rfl) (by kernel_rfl) (.none rfl) rfl rfl (.move rfl) trivial ?_
            rcases orB_cases h with ⟨hc129, h⟩ | ⟨hc129, h⟩
            · refine JD.skip (i := 20) [true] rfl (by kernel_rfl) (by kernel_rfl) (by kernel_rfl) (by kernel_rfl) (.off rfl rfl rfl hc129 rfl) rfl rfl trivial ?_
              refine JD.skip (i := 21) [true] rfl (by kernel_rfl) (by kernel_rfl) (by kernel_rfl) (by kernel_rfl) (.off rfl rfl rfl hc129 rfl) rfl rfl trivial ?_
              refine JD.skip (i := 22) [true] rfl (by kernel_rfl) (by kernel_rfl) (by kernel_rfl) (by kernel_rfl) (.off rfl rfl rfl hc129 rfl) rfl rfl trivial ?_
              refine JD.pure_ (i := 23) [true] rfl (by kernel_rfl) (by kernel_rfl) (by kernel_rfl) (by kernel_rfl) (.none rfl) rfl rfl (.pickOn rfl hc129 rfl) trivial ?_
              refine JD.pure_ (i := 24) [true] rfl (by kernel_rfl) (by kernel_rfl) (by kernel_rfl) (by kernel_rfl) (.none rfl) rfl rfl (.move rfl) trivial ?_
              rcases orB_cases h with ⟨hc134, h⟩ | ⟨hc134, h⟩
              · refine JD.skip (i := 25) [true] rfl (by kernel_rfl) (by kernel_rfl) (by kernel_rfl) (by kernel_rfl) (.off rfl rfl rfl hc134 rfl) rfl rfl trivial ?_
                refine JD.skip (i := 26) [true] rfl (by kernel_rfl) (by kernel_rfl) (by kernel_rfl) (by kernel_rfl) (.off rfl rfl rfl hc134 rfl) rfl rfl trivial ?_
                refine JD.skip (i := 27) [true] rfl (by kernel_rfl) (by kernel_rfl) (by kernel_rfl) (by kernel_rfl) (.off rfl rfl rfl hc134 rfl) rfl rfl trivial ?_
                refine JD.skip (i := 28) [true] rfl (by kernel_rfl) (by kernel_rfl) (by kernel_rfl) (by kernel_rfl) (.off rfl rfl rfl hc134 rfl) rfl rfl trivial ?_
                refine JD.skip (i := 29) [true] rfl (by kernel_rfl) (by kernel_rfl) (by kernel_rfl) (by kernel_rfl) (.off rfl rfl rfl hc134 rfl) rfl rfl trivial ?_
                refine JD.pure_ (i := 30) [true] rfl (by kernel_rfl) (by kernel_rfl) (by kernel_rfl) (by kernel_rfl) (.none rfl) rfl rfl (.pickOn rfl hc134 rfl) trivial ?_
                refine JD.done (by kernel_rfl) ?_
                exact JX.joinEnd h ⟨rfl, rfl, rfl, rfl, trivial⟩
              · refine JD.pure_ (i := 25) [true] rfl (by kernel_rfl) (by kernel_rfl) (by kernel_rfl) (by kernel_rfl) (.on rfl rfl rfl hc134) rfl rfl (.fieldAddr rfl (fa_56_1 _)) trivial ?_
                refine JD.read (i := 26) [true] rfl (by kernel_rfl) (by kernel_rfl) (by kernel_rfl) (by kernel_rfl) (.on rfl rfl rfl hc134) rfl rfl (.load rfl) h trivial (fun vx135 st136 h => ?_)
                obtain ⟨x135, rfl, h⟩ := h
                refine JD.pure_ (i := 27) [false, true] rfl (by kernel_rfl) (by kernel_rfl) (by kernel_rfl) (by kernel_rfl) (.on rfl rfl rfl hc134) rfl rfl (.fieldAddr rfl (fa_46_0 _)) ⟨st136, trivial⟩ ?_
                refine JD.read (i := 28) [false, true] rfl (by kernel_rfl) (by kernel_rfl) (by kernel_rfl) (by kernel_rfl) (.on rfl rfl rfl hc134) rfl rfl (.load rfl) h ⟨st136, trivial⟩ (fun vx137 st138 h => ?_)
                obtain ⟨x137, rfl, h⟩ := h
                refine JD.pure_ (i := 29) [true, true, true] rfl (by kernel_rfl) (by kernel_rfl) (by kernel_rfl) (by kernel_rfl) (.on rfl rfl rfl hc134) rfl rfl (.gtr rfl rfl) trivial ?_
                refine JD.pure_ (i := 30) [true, true, true] rfl (by kernel_rfl) (by kernel_rfl) (by kernel_rfl) (by kernel_rfl) (.none rfl) rfl rfl (.pickOff rfl hc134 rfl) trivial ?_
                refine JD.done (by kernel_rfl) ?_
                exact JX.joinEnd h ⟨rfl, rfl, rfl, rfl, trivial⟩
            · refine JD.pure_ (i := 20) [true] rfl (by kernel_rfl) (by kernel_rfl) (by kernel_rfl) (by kernel_rfl) (.on rfl rfl rfl hc129) rfl rfl (.fieldAddr rfl (fa_56_1 _)) trivial ?_
              refine JD.read (i := 21) [true] rfl (by kernel_rfl) (by kernel_rfl) (by kernel_rfl) (by kernel_rfl) (.on rfl rfl rfl hc129) rfl rfl (.load rfl) h trivial (fun vx130 st131 h => ?_)
              obtain ⟨x130, rfl, h⟩ := h
              refine JD.pure_ (i := 22) [true, true] rfl (by kernel_rfl) (by kernel_rfl) (by kernel_rfl) (by kernel_rfl) (.on rfl rfl rfl hc129) rfl rfl (.lss rfl rfl) trivial ?_
              refine JD.pure_ (i := 23) [true, true] rfl (by kernel_rfl) (by kernel_rfl) (by kernel_rfl) (by kernel_rfl) (.none rfl) rfl rfl (.pickOff rfl hc129 rfl) trivial ?_
              refine JD.pure_ (i := 24) [true, true] rfl (by kernel_rfl) (by kernel_rfl) (by kernel_rfl) (by kernel_rfl) (.none rfl) rfl rfl (.move rfl) trivial ?_
              rcases orB_cases h with ⟨hc134, h⟩ | ⟨hc134, h⟩
              · refine JD.skip (i := 25) [true, true] rfl (by kernel_rfl) (by kernel_rfl) (by kernel_rfl) (by kernel_rfl) (.off rfl rfl rfl hc134 rfl) rfl rfl trivial ?_
                refine JD.skip (i := 26) [true, true] rfl (by kernel_rfl) (by kernel_rfl) (by kernel_rfl) (by kernel_rfl) (.off rfl rfl rfl hc134 rfl) rfl rfl trivial ?_
                refine JD.skip (i := 27) [true, true] rfl (by kernel_rfl) (by kernel_rfl) (by kernel_rfl) (by kernel_rfl) (.off rfl rfl rfl hc134 rfl) rfl rfl trivial ?_
                refine JD.skip (i := 28) [true, true] rfl (by kernel_rfl) (by kernel_rfl) (by kernel_rfl) (by kernel_rfl) (.off rfl rfl rfl hc134 rfl) rfl rfl trivial ?_
                refine JD.skip (i := 29) [true, true] rfl (by kernel_rfl) (by kernel_rfl) (by kernel_rfl) (by kernel_rfl) (.off rfl rfl rfl hc134 rfl) rfl rfl trivial ?_
                refine JD.pure_ (i := 30) [true, true] rfl (by kernel_rfl) (by kernel_rfl) (by kernel_rfl) (by kernel_rfl) (.none rfl) rfl rfl (.pickOn rfl hc134 rfl) trivial ?_
                refine JD.done (by kernel_rfl) ?_
                exact JX.joinEnd h ⟨rfl, rfl, rfl, rfl, trivial⟩
              · refine JD.pure_ (i := 25) [true, true] rfl (by kernel_rfl) (by kernel_rfl) (by kernel_rfl) (by kernel_rfl) (.on rfl rfl rfl hc134) rfl rfl (.fieldAddr rfl (fa_56_1 _)) trivial ?_
                refine JD.read (i := 26) [true, true] rfl (by kernel_rfl) (by kernel_rfl) (by kernel_rfl) (by kernel_rfl) (.on rfl rfl rfl hc134) rfl rfl (.load rfl) h trivial (fun vx135 st136 h => ?_)
                obtain ⟨x135, rfl, h⟩ := h
                refine JD.pure_ (i := 27) [false, true, true] rfl (by kernel_rfl) (by kernel_rfl) (by kernel_rfl) (by kernel_rfl) (.on rfl rfl rfl hc134) rfl rfl (.fieldAddr rfl (fa_46_0 _)) ⟨st136, trivial⟩ ?_
                refine JD.read (i := 28) [false, true, true] rfl (by kernel_rfl) (by kernel_rfl) (by kernel_rfl) (by kernel_rfl) (.on rfl rfl rfl hc134) rfl rfl (.load rfl) h ⟨st136, trivial⟩ (fun vx137 st138 h => ?_)
                obtain ⟨x137, rfl, h⟩ := h
                refine JD.pure_ (i := 29) [true, true, true, true] rfl (by kernel_rfl) (by kernel_rfl) (by kernel_rfl) (by kernel_rfl) (.on rfl rfl rfl hc134) rfl rfl (.gtr rfl rfl) trivial ?_
                refine JD.pure_ (i := 30) [true, true, true, true] rfl (by kernel_rfl) (by kernel_rfl) (by kernel_rfl) (by kernel_rfl) (.none rfl) rfl rfl (.pickOff rfl hc134 rfl) trivial ?_
                refine JD.done (by kernel_rfl) ?_
                exact JX.joinEnd h ⟨rfl, rfl, rfl, rfl, trivial⟩
          · refine JD.pure_ (i := 4) [true] rfl (by kernel_rfl) (by kernel_rfl) (by kernel_rfl) (by kernel_rfl) (.on rfl rfl rfl hc116) rfl rfl (.move rfl) trivial ?_
            refine JD.pure_ (i := 5) [true] rfl (by kernel_rfl) (by kernel_rfl) (by kernel_rfl) (by kernel_rfl) (.on rfl rfl rfl hc116) rfl rfl (.gtr rfl rfl) trivial ?_
            refine JD.pure_ (i := 6) [true] rfl (by kernel_rfl) (by kernel_rfl) (by kernel_rfl) (by kernel_rfl) (.on rfl rfl rfl hc116) rfl rfl (.move rfl) trivial ?_
            rcases andB_cases h with ⟨hc119, h⟩ | ⟨hc119, h⟩
            · refine JD.skip (i := 7) [true] rfl (by kernel_rfl) (by kernel_rfl) (by kernel_rfl) (by kernel_rfl) (.off rfl rfl rfl hc119 rfl) rfl rfl trivial ?_
              refine JD.skip (i := 8) [true] rfl (by kernel_rfl) (by kernel_rfl) (by kernel_rfl) (by kernel_rfl) (.off rfl rfl rfl hc119 rfl) rfl rfl trivial ?_
              refine JD.skip (i := 9) [true] rfl (by kernel_rfl) (by kernel_rfl) (by kernel_rfl) (by kernel_rfl) (.off rfl rfl rfl hc119 rfl) rfl rfl trivial ?_
              refine JD.skip (i := 10) [true] rfl (by kernel_rfl) (by kernel_rfl) (by kernel_rfl) (by kernel_rfl) (.off rfl rfl rfl hc119 rfl) rfl rfl trivial ?_
              refine JD.skip (i := 11) [true] rfl (by kernel_rfl) (by kernel_rfl) (by kernel_rfl) (by kernel_rfl) (.off rfl rfl rfl hc119 rfl) rfl rfl trivial ?_
              refine JD.skip (i := 12) [true] rfl (by kernel_rfl) (by kernel_rfl) (by kernel_rfl) (by kernel_rfl) (.off rfl rfl rfl hc119 rfl) rfl rfl trivial ?_
              refine JD.skip (i := 13) [true] rfl (by kernel_rfl) (by kernel_rfl) (by kernel_rfl) (by kernel_rfl) (.off rfl rfl rfl hc119 rfl) rfl rfl trivial ?_
              refine JD.skip (i := 14) [true] rfl (by kernel_rfl) (by kernel_rfl) (by kernel_rfl) (by kernel_rfl) (.off rfl rfl rfl hc119 rfl) rfl rfl trivial ?_
              refine JD.skip (i := 15) [true] rfl (by kernel_rfl) (by kernel_rfl) (by kernel_rfl) (by kernel_rfl) (.off rfl rfl rfl hc119 rfl) rfl rfl trivial ?_
              refine JD.skip (i := 16) [true] rfl (by kernel_rfl) (by kernel_rfl) (by kernel_rfl) (by kernel_rfl) (.off rfl rfl rfl hc119 rfl) rfl rfl trivial ?_
              refine JD.pure_ (i := 17) [true] rfl (by kernel_rfl) (by kernel_rfl) (by kernel_rfl) (by kernel_rfl) (.on rfl rfl rfl hc116) rfl rfl (.pickOff rfl hc119 rfl) trivial ?_
              refine JD.pure_ (i := 18) [true] rfl (by kernel_rfl) (by kernel_rfl) (by kernel_rfl) (by kernel_rfl) (.none rfl) rfl rfl (.pickOff rfl hc116 rfl) trivial ?_
              refine JD.pure_ (i := 19) [true] rfl (by kernel_rfl) (by kernel_rfl) (by kernel_rfl) (by kernel_rfl) (.none rfl) rfl rfl (.move rfl) trivial ?_
              rcases orB_cases h with ⟨hc129, h⟩ | ⟨hc129, h⟩
              · refine JD.skip (i := 20) [true] rfl (by kernel_rfl) (by kernel_rfl) (by kernel_rfl) (by kernel_rfl) (.off rfl rfl rfl hc129 rfl) rfl rfl trivial ?_
                refine JD.skip (i := 21) [true] rfl (by kernel_rfl) (by kernel_rfl) (by kernel_rfl) (by kernel_rfl) (.off rfl rfl rfl hc129 rfl) rfl rfl trivial ?_
                refine JD.skip (i := 22) [true] rfl (by kernel_rfl) (by kernel_rfl) (by kernel_rfl) (by kernel_rfl) (.off rfl rfl rfl hc129 rfl) rfl rfl trivial ?_
                refine JD.pure_ (i := 23) [true] rfl (by kernel_rfl) (by kernel_rfl) (by kernel_rfl) (by kernel_rfl) (.none rfl) rfl rfl (.pickOn rfl hc129 rfl) trivial ?_
                refine JD.pure_ (i := 24) [true] rfl (by kernel_rfl) (by kernel_rfl) (by kernel_rfl) (by kernel_rfl) (.none rfl) rfl rfl (.move rfl) trivial ?_
                rcases orB_cases h with ⟨hc134, h⟩ | ⟨hc134, h⟩
                · refine JD.skip (i := 25) [true] rfl (by kernel_rfl) (by kernel_rfl) (by kernel_rfl) (by kernel_rfl) (.off rfl rfl rfl hc134 rfl) rfl rfl trivial ?_
                  refine JD.skip (i := 26) [true] rfl (by kernel_rfl) (by kernel_rfl) (by kernel_rfl) (by kernel_rfl) (.off rfl rfl rfl hc134 rfl) rfl rfl trivial ?_
                  refine JD.skip (i := 27) [true] rfl (by kernel_rfl) (by kernel_rfl) (by kernel_rfl) (by kernel_rfl) (.off rfl rfl rfl hc134 rfl) rfl rfl trivial ?_
                  refine JD.skip (i := 28) [true] rfl (by kernel_rfl) (by kernel_rfl) (by kernel_rfl) (by kernel_rfl) (.off rfl rfl rfl hc134 rfl) rfl rfl trivial ?_
                  refine JD.skip (i := 29) [true] rfl (by kernel_rfl) (by kernel_rfl) (by kernel_rfl) (by kernel_rfl) (.off rfl rfl rfl hc134 rfl) rfl rfl trivial ?_
                  refine JD.pure_ (i := 30) [true] rfl (by kernel_rfl) (by kernel_rfl) (by kernel_rfl) (by kernel_rfl) (.none rfl) rfl rfl (.pickOn rfl hc134 rfl) trivial ?_
                  refine JD.done (by kernel_rfl) ?_
                  exact JX.joinEnd h ⟨rfl, rfl, rfl, rfl, trivial⟩
                · refine JD.pure_ (i := 25) [true] rfl (by kernel_rfl) (by kernel_rfl) (by kernel_rfl) (by kernel_rfl) (.on rfl rfl rfl hc134) rfl rfl (.fieldAddr rfl (fa_56_1 _)) trivial ?_
                  refine JD.read (i := 26) [true] rfl (by kernel_rfl) (by kernel_rfl) (by kernel_rfl) (by kernel_rfl) (.on rfl rfl rfl hc134) rfl rfl (.load rfl) h trivial (fun vx135 st136 h => ?_)
                  obtain ⟨x135, rfl, h⟩ := h
                  refine JD.pure_ (i := 27) [false, true] rfl (by kernel_rfl) (by kernel_rfl) (by kernel_rfl) (by kernel_rfl) (.on rfl rfl rfl hc134) rfl rfl (.fieldAddr rfl (fa_46_0 _)) ⟨st136, trivial⟩ ?_
                  refine JD.read (i := 28) [false, true] rfl (by kernel_rfl) (by kernel_rfl) (by kernel_rfl) (by kernel_rfl) (.on rfl rfl rfl hc134) rfl rfl (.load rfl) h ⟨st136, trivial⟩ (fun vx137 st138 h => ?_)
                  obtain ⟨x137, rfl, h⟩ := h
                  refine JD.pure_ (i := 29) [true, true, true] rfl (by kernel_rfl) (by kernel_rfl) (by kernel_rfl) (by kernel_rfl) (.on rfl rfl rfl hc134) rfl rfl (.gtr rfl rfl) trivial ?_
                  refine JD.pure_ (i := 30) [true, true, true] rfl (by kernel_rfl) (by kernel_rfl) (by kernel_rfl) (by kernel_rfl) (.none rfl) rfl rfl (.pickOff rfl hc134 rfl) trivial ?_
                  refine JD.done (by kernel_rfl) ?_
                  exact JX.joinEnd h ⟨rfl, rfl, rfl, rfl, trivial⟩
              · refine JD.pure_ (i := 20) [true] rfl (by kernel_rfl) (by kernel_rfl) (by kernel_rfl) (by kernel_rfl) (.on rfl rfl rfl hc129) rfl rfl (.fieldAddr rfl (fa_56_1 _)) trivial ?_
                refine JD.read (i := 21) [true] rfl (by kernel_rfl) (by kernel_rfl) (by kernel_rfl) (by kernel_rfl) (.on rfl rfl rfl hc129) rfl rfl (.load rfl) h trivial (fun vx130 st131 h => ?_)
                obtain ⟨x130, rfl, h⟩ := h
                refine JD.pure_ (i := 22) [true, true] rfl (by kernel_rfl) (by kernel_rfl) (by kernel_rfl) (by kernel_rfl) (.on rfl rfl rfl hc129) rfl rfl (.lss rfl rfl) trivial ?_
                refine JD.pure_ (i := 23) [true, true] rfl (by kernel_rfl) (by kernel_rfl) (by kernel_rfl) (by kernel_rfl) (.none rfl) rfl rfl (.pickOff rfl hc129 rfl) trivial ?_
                refine JD.pure_ (i := 24) [true, true] rfl (by kernel_rfl) (by kernel_rfl) (by kernel_rfl) (by kernel_rfl) (.none rfl) rfl rfl (.move rfl) trivial ?_
                rcases orB_cases h with ⟨hc134, h⟩ | ⟨hc134, h⟩
                · refine JD.skip (i := 25) [true, true] rfl (by kernel_rfl) (by kernel_rfl) (by kernel_rfl) (by kernel_rfl) (.off rfl rfl rfl hc134 rfl) rfl rfl trivial ?_
                  refine JD.skip (i := 26) [true, true] rfl (by kernel_rfl) (by kernel_rfl) (by kernel_rfl) (by kernel_rfl) (.off rfl rfl rfl hc134 rfl) rfl rfl trivial ?_
                  refine JD.skip (i := 27) [true, true] rfl (by kernel_rfl) (by kernel_rfl) (by kernel_rfl) (by kernel_rfl) (.off rfl rfl rfl hc134 rfl) rfl rfl trivial ?_
                  refine JD.skip (i := 28) [true, true] rfl (by kernel_rfl) (by kernel_rfl) (by kernel_rfl) (by kernel_rfl) (.off rfl rfl rfl hc134 rfl) rfl rfl trivial ?_
                  refine JD.skip (i := 29) [true, true] rfl (by kernel_rfl) (by kernel_rfl) (by kernel_rfl) (by kernel_rfl) (.off rfl rfl rfl hc134 rfl) rfl rfl trivial ?_
                  refine JD.pure_ (i := 30) [true, true] rfl (by kernel_rfl) (by kernel_rfl) (by kernel_rfl) (by kernel_rfl) (.none rfl) rfl rfl (.pickOn rfl hc134 rfl) trivial ?_
                  refine JD.done (by kernel_rfl) ?_
                  exact JX.joinEnd h ⟨rfl, rfl, rfl, rfl, trivial⟩
                · refine JD.pure_ (i := 25) [true, true] rfl (by kernel_rfl) (by kernel_rfl) (by kernel_rfl) (by kernel_rfl) (.on rfl rfl rfl hc134) rfl rfl (.fieldAddr rfl (fa_56_1 _)) trivial ?_
                  refine JD.read (i := 26) [true, true] rfl (by kernel_rfl) (by kernel_rfl) (by kernel_rfl) (by kernel_rfl) (.on rfl rfl rfl hc134) rfl rfl (.load rfl) h trivial (fun vx135 st136 h => ?_)
                  obtain ⟨x135, rfl, h⟩ := h
                  refine JD.pure_ (i := 27) [false, true, true] rfl (by kernel_rfl) (by kernel_rfl) (by kernel_rfl) (by kernel_rfl) (.on rfl rfl rfl hc134) rfl rfl (.fieldAddr rfl (fa_46_0 _)) ⟨st136, trivial⟩ ?_
                  refine JD.read (i := 28) [false, true, true] rfl (by kernel_rfl) (by kernel_rfl) (by kernel_rfl) (by kernel_rfl) (.on rfl rfl rfl hc134) rfl rfl (.load rfl) h ⟨st136, trivial⟩ (fun vx137 st138 h => ?_)
                  obtain ⟨x137, rfl, h⟩ := h
                  refine JD.pure_ (i := 29) [true, true, true, true] rfl (by kernel_rfl) (by kernel_rfl) (by kernel_rfl) (by kernel_rfl) (.on rfl rfl rfl hc134) rfl rfl (.gtr rfl rfl) trivial ?_
                  refine JD.pure_ (i := 30) [true, true, true, true] rfl (by kernel_rfl) (by kernel_rfl) (by kernel_rfl) (by kernel_rfl) (.none rfl) rfl rfl (.pickOff rfl hc134 rfl) trivial ?_
                  refine JD.done (by kernel_rfl) ?_
                  exact JX.joinEnd h ⟨rfl, rfl, rfl, rfl, trivial⟩
            · refine JD.pure_ (i := 7) [true] rfl (by kernel_rfl) (by kernel_rfl) (by kernel_rfl) (by kernel_rfl) (.on rfl rfl rfl hc119) rfl rfl (.fieldAddr rfl (fa_56_2 _)) trivial ?_
              refine JD.read (i := 8) [true] rfl (by kernel_rfl) (by kernel_rfl) (by kernel_rfl) (by kernel_rfl) (.on rfl rfl rfl hc119) rfl rfl (.load rfl) h trivial (fun vx120 st121 h => ?_)
              obtain ⟨x120, rfl, h⟩ := h
              refine JD.pure_ (i := 9) [false, true] rfl (by kernel_rfl) (by kernel_rfl) (by kernel_rfl) (by kernel_rfl) (.on rfl rfl rfl hc119) rfl rfl (.fieldAddr rfl (fa_46_1 _)) ⟨st121, trivial⟩ ?_
              refine JD.read (i := 10) [false, true] rfl (by kernel_rfl) (by kernel_rfl) (by kernel_rfl) (by kernel_rfl) (.on rfl rfl rfl hc119) rfl rfl (.load rfl) h ⟨st121, trivial⟩ (fun v122 st123 h => ?_)
              refine JD.pure_ (i := 11) [false, false, true] rfl (by kernel_rfl) (by kernel_rfl) (by kernel_rfl) (by kernel_rfl) (.on rfl rfl rfl hc119) rfl rfl (.move rfl) ⟨st123, st121, trivial⟩ ?_
              refine JD.pure_ (i := 12) [false, false, true] rfl (by kernel_rfl) (by kernel_rfl) (by kernel_rfl) (by kernel_rfl) (.on rfl rfl rfl hc119) rfl rfl (.sub rfl rfl) ⟨st123, st121, trivial⟩ ?_
              refine JD.sPure (i := 13) [true, false, true] rfl (by kernel_rfl) (by kernel_rfl) (by kernel_rfl) (by kernel_rfl) (.on rfl rfl rfl hc119) rfl rfl (.indexAddr rfl rfl) h ⟨st121, trivial⟩ (fun vp124 h => ?_)
              obtain ⟨p124, rfl, h⟩ := h
              refine JD.pure_ (i := 14) [true, false, true] rfl (by kernel_rfl) (by kernel_rfl) (by kernel_rfl) (by kernel_rfl) (.on rfl rfl rfl hc119) rfl rfl (.fieldAddr rfl (fa_56_2 _)) ⟨st121, trivial⟩ ?_
              refine JD.read (i := 15) [true, false, true] rfl (by kernel_rfl) (by kernel_rfl) (by kernel_rfl) (by kernel_rfl) (.on rfl rfl rfl hc119) rfl rfl (.load rfl) h ⟨st121, trivial⟩ (fun vx125 st126 h => ?_)
              obtain ⟨x125, rfl, h⟩ := h
              refine JD.pure_ (i := 16) [true, true, true, true] rfl (by kernel_rfl) (by kernel_rfl) (by kernel_rfl) (by kernel_rfl) (.on rfl rfl rfl hc119) rfl rfl (.leq rfl rfl) trivial ?_
              refine JD.pure_ (i := 17) [true, true, true, true] rfl (by kernel_rfl) (by kernel_rfl) (by kernel_rfl) (by kernel_rfl) (.on rfl rfl rfl hc116) rfl rfl (.pickOn rfl hc119 rfl) trivial ?_
              refine JD.pure_ (i := 18) [true, true, true, true] rfl (by kernel_rfl) (by kernel_rfl) (by kernel_rfl) (by kernel_rfl) (.none rfl) rfl rfl (.pickOff rfl hc116 rfl) trivial ?_
              refine JD.pure_ (i := 19) [true, true, true, true] rfl (by kernel_rfl) (by kernel_rfl) (by kernel_rfl) (by kernel_rfl) (.none rfl) rfl rfl (.move rfl) trivial ?_
              rcases orB_cases h with ⟨hc129, h⟩ | ⟨hc129, h⟩
              · refine JD.skip (i := 20) [true, true, true, true] rfl (by kernel_rfl) (by kernel_rfl) (by kernel_rfl) (by kernel_rfl) (.off rfl rfl rfl hc129 rfl) rfl rfl trivial ?_
                refine JD.skip (i := 21) [true, true, true, true] rfl (by kernel_rfl) (by kernel_rfl) (by kernel_rfl) (by kernel_rfl) (.off rfl rfl rfl hc129 rfl) rfl rfl trivial ?_
                refine JD.skip (i := 22) [true, true, true, true] rfl (by kernel_rfl) (by kernel_rfl) (by kernel_rfl) (by kernel_rfl) (.off rfl rfl rfl hc129 rfl) rfl rfl trivial ?_
                refine JD.pure_ (i := 23) [true, true, true, true] rfl (by kernel_rfl) (by kernel_rfl) (by kernel_rfl) (by kernel_rfl) (.none rfl) rfl rfl (.pickOn rfl hc129 rfl) trivial ?_
                refine JD.pure_ (i := 24) [true, true, true, true] rfl (by kernel_rfl) (by kernel_rfl) (by kernel_rfl) (by kernel_rfl) (.none rfl) rfl rfl (.move rfl) trivial ?_
                rcases orB_cases h with ⟨hc134, h⟩ | ⟨hc134, h⟩
                · refine JD.skip (i := 25) [true, true, true, true] rfl (by kernel_rfl) (by kernel_rfl) (by kernel_rfl) (by kernel_rfl) (.off rfl rfl rfl hc134 rfl) rfl rfl trivial ?_
                  refine JD.skip (i := 26) [true, true, true, true] rfl (by kernel_rfl) (by kernel_rfl) (by kernel_rfl) (by kernel_rfl) (.off rfl rfl rfl hc134 rfl) rfl rfl trivial ?_
                  refine JD.skip (i := 27) [true, true, true, true] rfl (by kernel_rfl) (by kernel_rfl) (by kernel_rfl) (by kernel_rfl) (.off rfl rfl rfl hc134 rfl) rfl rfl trivial ?_
                  refine JD.skip (i := 28) [true, true, true, true] rfl (by kernel_rfl) (by kernel_rfl) (by kernel_rfl) (by kernel_rfl) (.off rfl rfl rfl hc134 rfl) rfl rfl trivial ?_
                  refine JD.skip (i := 29) [true, true, true, true] rfl (by kernel_rfl) (by kernel_rfl) (by kernel_rfl) (by kernel_rfl) (.off rfl rfl rfl hc134 rfl) rfl rfl trivial ?_
                  refine JD.pure_ (i := 30) [true, true, true, true] rfl (by kernel_rfl) (by kernel_rfl) (by kernel_rfl) (by kernel_rfl) (.none rfl) rfl rfl (.pickOn rfl hc134 rfl) trivial ?_
                  refine JD.done (by kernel_rfl) ?_
                  exact JX.joinEnd h ⟨rfl, rfl, rfl, rfl, trivial⟩
                · refine JD.pure_ (i := 25) [true, true, true, true] rfl (by kernel_rfl) (by kernel_rfl) (by kernel_rfl) (by kernel_rfl) (.on rfl rfl rfl hc134) rfl rfl (.fieldAddr rfl (fa_56_1 _)) trivial ?_
                  refine JD.read (i := 26) [true, true, true, true] rfl (by kernel_rfl) (by kernel_rfl) (by kernel_rfl) (by kernel_rfl) (.on rfl rfl rfl hc134) rfl rfl (.load rfl) h trivial (fun vx135 st136 h => ?_)
                  obtain ⟨x135, rfl, h⟩ := h
                  refine JD.pure_ (i := 27) [false, true, true, true, true] rfl (by kernel_rfl) (by kernel_rfl) (by kernel_rfl) (by kernel_rfl) (.on rfl rfl rfl hc134) rfl rfl (.fieldAddr rfl (fa_46_0 _)) ⟨st136, trivial⟩ ?_
                  refine JD.read (i := 28) [false, true, true, true, true] rfl (by kernel_rfl) (by kernel_rfl) (by kernel_rfl) (by kernel_rfl) (.on rfl rfl rfl hc134) rfl rfl (.load rfl) h ⟨st136, trivial⟩ (fun vx137 st138 h => ?_)
                  obtain ⟨x137, rfl, h⟩ := h
                  refine JD.pure_ (i := 29) [true, true, true, true, true, true] rfl (by kernel_rfl) (by kernel_rfl) (by kernel_rfl) (by kernel_rfl) (.on rfl rfl rfl hc134) rfl rfl (.gtr rfl rfl) trivial ?_
                  refine JD.pure_ (i := 30) [true, true, true, true, true, true] rfl (by kernel_rfl) (by kernel_rfl) (by kernel_rfl) (by kernel_rfl) (.none rfl) rfl rfl (.pickOff rfl hc134 rfl) trivial ?_
                  refine JD.done (by kernel_rfl) ?_
                  exact JX.joinEnd h ⟨rfl, rfl, rfl, rfl, trivial⟩
              · refine JD.pure_ (i := 20) [true, true, true, true] rfl (by kernel_rfl) (by kernel_rfl) (by kernel_rfl) (by kernel_rfl) (.on rfl rfl rfl hc129) rfl rfl (.fieldAddr rfl (fa_56_1 _)) trivial ?_
                refine JD.read (i := 21) [true, true, true, true] rfl (by kernel_rfl) (by kernel_rfl) (by kernel_rfl) (by kernel_rfl) (.on rfl rfl rfl hc129) rfl rfl (.load rfl) h trivial (fun vx130 st131 h => ?_)
                obtain ⟨x130, rfl, h⟩ := h
                refine JD.pure_ (i := 22) [true, true, true, true, true] rfl (by kernel_rfl) (by kernel_rfl) (by kernel_rfl) (by kernel_rfl) (.on rfl rfl rfl hc129) rfl rfl (.lss rfl rfl) trivial ?_
                refine JD.pure_ (i := 23) [true, true, true, true, true] rfl (by kernel_rfl) (by kernel_rfl) (by kernel_rfl) (by kernel_rfl) (.none rfl) rfl rfl (.pickOff rfl hc129 rfl) trivial ?_
                refine JD.pure_ (i := 24) [true, true, true, true, true] rfl (by kernel_rfl) (by kernel_rfl) (by kernel_rfl) (by kernel_rfl) (.none rfl) rfl rfl (.move rfl) trivial ?_
                rcases orB_cases h with ⟨hc134, h⟩ | ⟨hc134, h⟩
                · refine JD.skip (i := 25) [true, true, true, true, true] rfl (by kernel_rfl) (by kernel_rfl) (by kernel_rfl) (by kernel_rfl) (.off rfl rfl rfl hc134 rfl) rfl rfl trivial ?_
                  refine JD.skip (i := 26) [true, true, true, true, true] rfl (by kernel_rfl) (by kernel_rfl) (by kernel_rfl) (by kernel_rfl) (.off rfl rfl rfl hc134 rfl) rfl rfl trivial ?_
                  refine JD.skip (i := 27) [true, true, true, true, true] rfl (by kernel_rfl) (by kernel_rfl) (by kernel_rfl) (by kernel_rfl) (.off rfl rfl rfl hc134 rfl) rfl rfl trivial ?_
                  refine JD.skip (i := 28) [true, true, true, true, true] rfl (by kernel_rfl) (by kernel_rfl) (by kernel_rfl) (by kernel_rfl) (.off rfl rfl rfl hc134 rfl) rfl rfl trivial ?_
                  refine JD.skip (i := 29) [true, true, true, true, true] rfl (by kernel_rfl) (by kernel_rfl) (by kernel_rfl) (by kernel_rfl) (.off rfl rfl rfl hc134 rfl) rfl rfl trivial ?_
                  refine JD.pure_ (i := 30) [true, true, true, true, true] rfl (by kernel_rfl) (by kernel_rfl) (by kernel_rfl) (by kernel_rfl) (.none rfl) rfl rfl (.pickOn rfl hc134 rfl) trivial ?_
                  refine JD.done (by kernel_rfl) ?_
                  exact JX.joinEnd h ⟨rfl, rfl, rfl, rfl, trivial⟩
                · refine JD.pure_ (i := 25) [true, true, true, true, true] rfl (by kernel_rfl) (by kernel_rfl) (by kernel_rfl) (by kernel_rfl) (.on rfl rfl rfl hc134) rfl rfl (.fieldAddr rfl (fa_56_1 _)) trivial ?_
                  refine JD.read (i := 26) [true, true, true, true, true] rfl (by kernel_rfl) (by kernel_rfl) (by kernel_rfl) (by kernel_rfl) (.on rfl rfl rfl hc134) rfl rfl (.load rfl) h trivial (fun vx135 st136 h => ?_)
                  obtain ⟨x135, rfl, h⟩ := h
                  refine JD.pure_ (i := 27) [false, true, true, true, true, true] rfl (by kernel_rfl) (by kernel_rfl) (by kernel_rfl) (by kernel_rfl) (.on rfl rfl rfl hc134) rfl rfl (.fieldAddr rfl (fa_46_0 _)) ⟨st136, trivial⟩ ?_
                  refine JD.read (i := 28) [false, true, true, true, true, true] rfl (by kernel_rfl) (by kernel_rfl) (by kernel_rfl) (by kernel_rfl) (.on rfl rfl rfl hc134) rfl rfl (.load rfl) h ⟨st136, trivial⟩ (fun vx137 st138 h => ?_)
                  obtain ⟨x137, rfl, h⟩ := h
                  refine JD.pure_ (i := 29) [true, true, true, true, true, true, true] rfl (by kernel_rfl) (by kernel_rfl) (by kernel_rfl) (by kernel_rfl) (.on rfl rfl rfl hc134) rfl rfl (.gtr rfl rfl) trivial ?_
                  refine JD.pure_ (i := 30) [true, true, true, true, true, true, true] rfl (by kernel_rfl) (by kernel_rfl) (by kernel_rfl) (by kernel_rfl) (.none rfl) rfl rfl (.pickOff rfl hc134 rfl) trivial ?_
                  refine JD.done (by kernel_rfl) ?_
                  exact JX.joinEnd h ⟨rfl, rfl, rfl, rfl, trivial⟩
        · refine JX.then ?_
          refine J.cond (b := _) rfl h (fun h => ?_) (fun h => ?_)
          · refine J.seq ?_
            refine J.region ?_
            refine JL.exP (.none rfl) rfl rfl (.assign rfl) ?_
            refine JL.nil ?_
            refine JX.then ?_
            refine J.ret ?_
            refine JX.blockRet ?_
            refine JX.thenRet ?_
            refine JX.thenRet ?_
            refine JX.blockRet ?_
            refine JX.thenRet ?_
            exact JX.ret1 rfl rfl h
          · refine J.skip ?_
            refine JX.blockNormal ?_
            refine JX.then ?_
            refine J.region ?_
            refine JL.exP (.none rfl) rfl rfl (.move rfl) ?_
            refine JL.exP (.none rfl) rfl rfl (.add rfl rfl) ?_
            refine JL.exP (.none rfl) rfl rfl (.assign rfl) ?_
            refine JL.nil ?_
            exact JX.loopEnd h ⟨rfl, rfl, rfl, trivial⟩
      · refine J.exit ?_
        refine JX.thenExit ?_
        refine JX.thenExit ?_
        refine JX.blockHere ?_
        refine JX.then ?_
        refine J.seq ?_
        refine J.seq ?_
        refine J.region ?_
        refine JL.exP (.none rfl) rfl rfl (.assign rfl) ?_
        refine JL.nil ?_
        refine JX.then ?_
        refine J.block ?_
        refine J.loop h (fun s139 => [(1, (.pointer (some p84))), (2, (.bool s139.1)), (5, (.int .i64 s139.2))]) ⟨rfl, rfl, rfl, trivial⟩ (fun I μ s139 w h => ?_)
        refine J.seq ?_
        refine J.seq ?_
        refine J.region ?_
        refine JL.exP (.none rfl) rfl rfl (.move rfl) ?_
        refine JL.exP (.none rfl) rfl rfl (.fieldAddr rfl (fa_46_2 _)) ?_
        refine JL.exV (.none rfl) rfl rfl (.load rfl) h (fun v141 w h => ?_)
        refine JL.sPure (.none rfl) rfl rfl ((.len (vs := [v141]) rfl)) h (fun vx142 w h => ?_)
        obtain ⟨x142, rfl, h⟩ := h
        refine JL.exP (.none rfl) rfl rfl (.lss rfl rfl) ?_
        refine JL.nil ?_
        refine JX.then ?_
        refine J.cond (b := _) rfl h (fun h => ?_) (fun h => ?_)
        · refine J.skip ?_
          refine JX.then ?_
          refine J.seq ?_
          refine J.block ?_
          refine J.seq ?_
          refine J.join h (fun y143 => [(1, (.pointer (some p84))), (2, (.bool s139.1)), (5, (.int .i64 s139.2)), (102, (.bool y143))]) (fun k144 w h => ?_) (fun y143 w h => ?_)
          · refine J.draw [[], [0], [], [0, 1, 2], [0, 1, 2, 3], [0, 1, 2, 3, 4], [0, 1, 2, 3, 4, 5], [0, 1, 2, 3, 4, 5, 6], [0, 1, 2, 3, 4, 5, 6, 7], [0, 1, 2, 3, 4, 5, 6, 7, 8], [0, 1, 2, 3, 4, 5, 6, 7, 8, 9], [0, 1, 2, 3, 4, 5, 6, 7, 8, 9, 10], [0, 1, 2, 3, 4, 5, 6, 7, 8, 9, 10, 11], [0, 1, 2, 3, 4, 5, 6, 7, 8, 9, 10], [0, 1, 2, 3, 4, 5, 6, 7, 8, 9, 10, 11, 12, 13], [0, 1, 2, 3, 4, 5, 6, 7, 8, 9, 10, 11, 12, 13, 14], [0, 1, 2, 3, 4, 5, 6, 7, 8, 9, 10, 11, 12, 13, 14, 15], [0, 1, 2, 3, 4, 5, 6, 7, 8, 9, 10], [0, 1, 2, 3, 4, 5, 6, 7, 8, 9, 10, 17], [0, 1, 2, 3, 4, 5, 6, 7, 8, 9, 10], [0, 1, 2, 3, 4, 5, 6, 7, 8, 9, 10, 19], [0, 1, 2, 3, 4, 5, 6, 7, 8, 9, 10, 17, 18, 19, 20], [0, 1, 2, 3, 4, 5, 6, 7, 8, 9, 10, 17, 18, 19, 20, 21], [0, 1, 2, 3, 4, 5, 6, 7, 8, 9, 10, 17, 18, 19, 20, 21, 22], [0, 1, 2, 3, 4, 5, 6, 7, 8, 9, 10, 11, 12, 13, 14, 15, 16, 17, 18, 19, 20, 21, 22, 23], [0, 1, 2, 3, 4, 5, 6, 7, 8, 9, 10, 11, 12, 13, 14, 15, 16, 17, 18, 19, 20, 21, 22, 23, 24], [0, 1, 2, 3, 4, 5, 6, 7, 8, 9, 10, 11, 12, 13, 14, 15, 16, 17, 18, 19, 20, 21, 22, 23, 24, 25]] (by kernel_rfl) mixed h (fun w h => ?_)
            refine JD.pure_ (i := 0) [] rfl (by kernel_rfl) (by kernel_rfl) (by kernel_rfl) (by kernel_rfl) (.none rfl) rfl rfl (.fieldAddr rfl (fa_46_2 _)) trivial ?_
            refine JD.read (i := 1) [] rfl (by kernel_rfl) (by kernel_rfl) (by kernel_rfl) (by kernel_rfl) (.none rfl) rfl rfl (.load rfl) h trivial (fun v145 st146 h => ?_)
            refine JD.pure_ (i := 2) [false] rfl (by kernel_rfl) (by kernel_rfl) (by kernel_rfl) (by kernel_rfl) (.none rfl) rfl rfl (.move rfl) ⟨st146, trivial⟩ ?_
            refine JD.sPure (i := 3) [true] rfl (by kernel_rfl) (by kernel_rfl) (by kernel_rfl) (by kernel_rfl) (.none rfl) rfl rfl (.indexAddr rfl rfl) h trivial (fun vp147 h => ?_)
            obtain ⟨p147, rfl, h⟩ := h
            refine JD.pure_ (i := 4) [true] rfl (by kernel_rfl) (by kernel_rfl) (by kernel_rfl) (by kernel_rfl) (.none rfl) rfl rfl (.fieldAddr rfl (fa_126_1 _)) trivial ?_
            refine JD.read (i := 5) [true] rfl (by kernel_rfl) (by kernel_rfl) (by kernel_rfl) (by kernel_rfl) (.none rfl) rfl rfl (.load rfl) h trivial (fun vx148 st149 h => ?_)
            obtain ⟨x148, rfl, h⟩ := h
            refine JD.pure_ (i := 6) [true, true] rfl (by kernel_rfl) (by kernel_rfl) (by kernel_rfl) (by kernel_rfl) (.none rfl) rfl rfl (.lss rfl rfl) trivial ?_
            refine JD.pure_ (i := 7) [true, true] rfl (by kernel_rfl) (by kernel_rfl) (by kernel_rfl) (by kernel_rfl) (.none rfl) rfl rfl (.move rfl) trivial ?_
            rcases orB_cases h with ⟨hc152, h⟩ | ⟨hc152, h⟩
            · refine JD.skip (i := 8) [true, true] rfl (by kernel_rfl) (by kernel_rfl) (by kernel_rfl) (by kernel_rfl) (.off rfl rfl rfl hc152 rfl) rfl rfl trivial ?_
              refine JD.skip (i := 9) [true, true] rfl (by kernel_rfl) (by kernel_rfl) (by kernel_rfl) (by kernel_rfl) (.off rfl rfl rfl hc152 rfl) rfl rfl trivial ?_
              refine JD.skip (i := 10) [true, true] rfl (by kernel_rfl) (by kernel_rfl) (by kernel_rfl) (by kernel_rfl) (.off rfl rfl rfl hc152 rfl) rfl rfl trivial ?_
              refine JD.skip (i := 11) [true, true] rfl (by kernel_rfl) (by kernel_rfl) (by kernel_rfl) (by kernel_rfl) (.undef rfl rfl rfl) rfl rfl trivial ?_
              refine JD.skip (i := 12) [true, true] rfl (by kernel_rfl) (by kernel_rfl) (by kernel_rfl) (by kernel_rfl) (.undef rfl rfl rfl) rfl rfl trivial ?_
              refine JD.skip (i := 13) [true, true] rfl (by kernel_rfl) (by kernel_rfl) (by kernel_rfl) (by kernel_rfl) (.undef rfl rfl rfl) rfl rfl trivial ?_
              refine JD.skip (i := 14) [true, true] rfl (by kernel_rfl) (by kernel_rfl) (by kernel_rfl) (by kernel_rfl) (.undef rfl rfl rfl) rfl rfl trivial ?_
              refine JD.skip (i := 15) [true, true] rfl (by kernel_rfl) (by kernel_rfl) (by kernel_rfl) (by kernel_rfl) (.undef rfl rfl rfl) rfl rfl trivial ?_
              refine JD.skip (i := 16) [true, true] rfl (by kernel_rfl) (by kernel_rfl) (by kernel_rfl) (by kernel_rfl) (.undef rfl rfl rfl) rfl rfl trivial ?_
              refine JD.skip (i := 17) [true, true] rfl (by kernel_rfl) (by kernel_rfl) (by kernel_rfl) (by kernel_rfl) (.undef rfl rfl rfl) rfl rfl trivial ?_
              refine JD.skip (i := 18) [true, true] rfl (by kernel_rfl) (by kernel_rfl) (by kernel_rfl) (by kernel_rfl) (.undef rfl rfl rfl) rfl rfl trivial ?_
              refine JD.skip (i := 19) [true, true] rfl (by kernel_rfl) (by kernel_rfl) (by kernel_rfl) (by kernel_rfl) (.undef rfl rfl rfl) rfl rfl trivial ?_
              refine JD.skip (i := 20) [true, true] rfl (by kernel_rfl) (by kernel_rfl) (by kernel_rfl) (by kernel_rfl) (.undef rfl rfl rfl) rfl rfl trivial ?_
              refine JD.skip (i := 21) [true, true] rfl (by kernel_rfl) (by kernel_rfl) (by kernel_rfl) (by kernel_rfl) (.undef rfl rfl rfl) rfl rfl trivial ?_
              refine JD.skip (i := 22) [true, true] rfl (by kernel_rfl) (by kernel_rfl) (by kernel_rfl) (by kernel_rfl) (.undef rfl rfl rfl) rfl rfl trivial ?_
              refine JD.skip (i := 23) [true, true] rfl (by kernel_rfl) (by kernel_rfl) (by kernel_rfl) (by kernel_rfl) (.undef rfl rfl rfl) rfl rfl trivial ?_
              refine JD.skip (i := 24) [true, true] rfl (by kernel_rfl) (by kernel_rfl) (by kernel_rfl) (by kernel_rfl) (.undef rfl rfl rfl) rfl rfl trivial ?_
              refine JD.skip (i := 25) [true, true] rfl (by kernel_rfl) (by kernel_rfl) (by kernel_rfl) (by kernel_rfl) (.off rfl rfl rfl hc152 rfl) rfl rfl trivial ?_
              refine JD.pure_ (i := 26) [true, true] rfl (by kernel_rfl) (by kernel_rfl) (by kernel_rfl) (by kernel_rfl) (.none rfl) rfl rfl (.pickOn rfl hc152 rfl) trivial ?_
              refine JD.done (by kernel_rfl) ?_
              exact JX.joinEnd h ⟨rfl, rfl, rfl, rfl, trivial⟩
            · refine JD.pure_ (i := 8) [true, true] rfl (by kernel_rfl) (by kernel_rfl) (by kernel_rfl) (by kernel_rfl) (.on rfl rfl rfl hc152) rfl rfl (.move rfl) trivial ?_
              refine JD.pure_ (i := 9) [true, true] rfl (by kernel_rfl) (by kernel_rfl) (by kernel_rfl) (by kernel_rfl) (.on rfl rfl rfl hc152) rfl rfl (.gtr rfl rfl) trivial ?_
              refine JD.pure_ (i := 10) [true, true] rfl (by kernel_rfl) (by kernel_rfl) (by kernel_rfl) (by kernel_rfl) (.on rfl rfl rfl hc152) rfl rfl (.move rfl) trivial ?_
              rcases andB_cases h with ⟨hc155, h⟩ | ⟨hc155, h⟩
              · refine JD.skip (i := 11) [true, true] rfl (by kernel_rfl) (by kernel_rfl) (by kernel_rfl) (by kernel_rfl) (.off rfl rfl rfl hc155 rfl) rfl rfl trivial ?_
                refine JD.skip (i := 12) [true, true] rfl (by kernel_rfl) (by kernel_rfl) (by kernel_rfl) (by kernel_rfl) (.off rfl rfl rfl hc155 rfl) rfl rfl trivial ?_
                refine JD.skip (i := 13) [true, true] rfl (by kernel_rfl) (by kernel_rfl) (by kernel_rfl) (by kernel_rfl) (.off rfl rfl rfl hc155 rfl) rfl rfl trivial ?_
                refine JD.skip (i := 14) [true, true] rfl (by kernel_rfl) (by kernel_rfl) (by kernel_rfl) (by kernel_rfl) (.off rfl rfl rfl hc155 rfl) rfl rfl trivial ?_
                refine JD.skip (i := 15) [true, true] rfl (by kernel_rfl) (by kernel_rfl) (by kernel_rfl) (by kernel_rfl) (.off rfl rfl rfl hc155 rfl) rfl rfl trivial ?_
                refine JD.skip (i := 16) [true, true] rfl (by kernel_rfl) (by kernel_rfl) (by kernel_rfl) (by kernel_rfl) (.off rfl rfl rfl hc155 rfl) rfl rfl trivial ?_
                refine JD.skip (i := 17) [true, true] rfl (by kernel_rfl) (by kernel_rfl) (by kernel_rfl) (by kernel_rfl) (.off rfl rfl rfl hc155 rfl) rfl rfl trivial ?_
                refine JD.skip (i := 18) [true, true] rfl (by kernel_rfl) (by kernel_rfl) (by kernel_rfl) (by kernel_rfl) (.off rfl rfl rfl hc155 rfl) rfl rfl trivial ?_
                refine JD.skip (i := 19) [true, true] rfl (by kernel_rfl) (by kernel_rfl) (by kernel_rfl) (by kernel_rfl) (.off rfl rfl rfl hc155 rfl) rfl rfl trivial ?_
                refine JD.skip (i := 20) [true, true] rfl (by kernel_rfl) (by kernel_rfl) (by kernel_rfl) (by kernel_rfl) (.off rfl rfl rfl hc155 rfl) rfl rfl trivial ?_
                refine JD.skip (i := 21) [true, true] rfl (by kernel_rfl) (by kernel_rfl) (by kernel_rfl) (by kernel_rfl) (.off rfl rfl rfl hc155 rfl) rfl rfl trivial ?_
                refine JD.skip (i := 22) [true, true] rfl (by kernel_rfl) (by kernel_rfl) (by kernel_rfl) (by kernel_rfl) (.off rfl rfl rfl hc155 rfl) rfl rfl trivial ?_
                refine JD.skip (i := 23) [true, true] rfl (by kernel_rfl) (by kernel_rfl) (by kernel_rfl) (by kernel_rfl) (.off rfl rfl rfl hc155 rfl) rfl rfl trivial ?_
                refine JD.skip (i := 24) [true, true] rfl (by kernel_rfl) (by kernel_rfl) (by kernel_rfl) (by kernel_rfl) (.off rfl rfl rfl hc155 rfl) rfl rfl trivial ?_
                refine JD.pure_ (i := 25) [true, true] rfl (by kernel_rfl) (by kernel_rfl) (by kernel_rfl) (by kernel_rfl) (.on rfl rfl rfl hc152) rfl rfl (.pickOff rfl hc155 rfl) trivial ?_
                refine JD.pure_ (i := 26) [true, true] rfl (by kernel_rfl) (by kernel_rfl) (by kernel_rfl) (by kernel_rfl) (.none rfl) rfl rfl (.pickOff rfl hc152 rfl) trivial ?_
                refine JD.done (by kernel_rfl) ?_
                exact JX.joinEnd h ⟨rfl, rfl, rfl, rfl, trivial⟩
              · refine JD.pure_ (i := 11) [true, true] rfl (by kernel_rfl) (by kernel_rfl) (by kernel_rfl) (by kernel_rfl) (.on rfl rfl rfl hc155) rfl rfl (.fieldAddr rfl (fa_46_2 _)) trivial ?_
                refine JD.read (i := 12) [true, true] rfl (by kernel_rfl) (by kernel_rfl) (by kernel_rfl) (by kernel_rfl) (.on rfl rfl rfl hc155) rfl rfl (.load rfl) h trivial (fun v156 st157 h => ?_)
                refine JD.pure_ (i := 13) [false, true, true] rfl (by kernel_rfl) (by kernel_rfl) (by kernel_rfl) (by kernel_rfl) (.on rfl rfl rfl hc155) rfl rfl (.move rfl) ⟨st157, trivial⟩ ?_
                refine JD.sPure (i := 14) [true, true, true] rfl (by kernel_rfl) (by kernel_rfl) (by kernel_rfl) (by kernel_rfl) (.on rfl rfl rfl hc155) rfl rfl (.indexAddr rfl rfl) h trivial (fun vp158 h => ?_)
                obtain ⟨p158, rfl, h⟩ := h
                refine JD.pure_ (i := 15) [true, true, true] rfl (by kernel_rfl) (by kernel_rfl) (by kernel_rfl) (by kernel_rfl) (.on rfl rfl rfl hc155) rfl rfl (.fieldAddr rfl (fa_126_1 _)) trivial ?_
                refine JD.read (i := 16) [true, true, true] rfl (by kernel_rfl) (by kernel_rfl) (by kernel_rfl) (by kernel_rfl) (.on rfl rfl rfl hc155) rfl rfl (.load rfl) h trivial (fun vx159 st160 h => ?_)
                obtain ⟨x159, rfl, h⟩ := h
                refine JD.pure_ (i := 17) [false, false, true, true] rfl (by kernel_rfl) (by kernel_rfl) (by kernel_rfl) (by kernel_rfl) (.on rfl rfl rfl hc155) rfl rfl (.fieldAddr rfl (fa_46_2 _)) ⟨st160, st157, trivial⟩ ?_
                refine JD.read (i := 18) [false, false, true, true] rfl (by kernel_rfl) (by kernel_rfl) (by kernel_rfl) (by kernel_rfl) (.on rfl rfl rfl hc155) rfl rfl (.load rfl) h ⟨st160, st157, trivial⟩ (fun v161 st162 h => ?_)
                refine JD.pure_ (i := 19) [false, false, false, true, true] rfl (by kernel_rfl) (by kernel_rfl) (by kernel_rfl) (by kernel_rfl) (.on rfl rfl rfl hc155) rfl rfl (.move rfl) ⟨st162, st160, st157, trivial⟩ ?_
                refine JD.pure_ (i := 20) [false, false, false, true, true] rfl (by kernel_rfl) (by kernel_rfl) (by kernel_rfl) (by kernel_rfl) (.on rfl rfl rfl hc155) rfl rfl (.sub rfl rfl) ⟨st162, st160, st157, trivial⟩ ?_
                refine JD.sPure (i := 21) [true, false, false, true, true] rfl (by kernel_rfl) (by kernel_rfl) (by kernel_rfl) (by kernel_rfl) (.on rfl rfl rfl hc155) rfl rfl (.indexAddr rfl rfl) h ⟨st160, st157, trivial⟩ (fun vp163 h => ?_)
                obtain ⟨p163, rfl, h⟩ := h
                refine JD.pure_ (i := 22) [true, false, false, true, true] rfl (by kernel_rfl) (by kernel_rfl) (by kernel_rfl) (by kernel_rfl) (.on rfl rfl rfl hc155) rfl rfl (.fieldAddr rfl (fa_126_1 _)) ⟨st160, st157, trivial⟩ ?_
                refine JD.read (i := 23) [true, false, false, true, true] rfl (by kernel_rfl) (by kernel_rfl) (by kernel_rfl) (by kernel_rfl) (.on rfl rfl rfl hc155) rfl rfl (.load rfl) h ⟨st160, st157, trivial⟩ (fun vx164 st165 h => ?_)
                obtain ⟨x164, rfl, h⟩ := h
                refine JD.pure_ (i := 24) [true, true, true, true, true, true] rfl (by kernel_rfl) (by kernel_rfl) (by kernel_rfl) (by kernel_rfl) (.on rfl rfl rfl hc155) rfl rfl (.leq rfl rfl) trivial ?_
                refine JD.pure_ (i := 25) [true, true, true, true, true, true] rfl (by kernel_rfl) (by kernel_rfl) (by kernel_rfl) (by kernel_rfl) (.on rfl rfl rfl hc152) rfl rfl (.pickOn rfl hc155 rfl) trivial ?_
                refine JD.pure_ (i := 26) [true, true, true, true, true, true] rfl (by kernel_rfl) (by kernel_rfl) (by kernel_rfl) (by kernel_rfl) (.none rfl) rfl rfl (.pickOff rfl hc152 rfl) trivial ?_
                refine JD.done (by kernel_rfl) ?_
                exact JX.joinEnd h ⟨rfl, rfl, rfl, rfl, trivial⟩
          · refine JX.then ?_
            refine J.cond (b := _) rfl h (fun h => ?_) (fun h => ?_)
            · refine J.seq ?_
              refine J.region ?_
              refine JL.exP (.none rfl) rfl rfl (.assign rfl) ?_
              refine JL.nil ?_
              refine JX.then ?_
              refine J.ret ?_
              refine JX.blockRet ?_
              refine JX.thenRet ?_
              refine JX.thenRet ?_
              refine JX.blockRet ?_
              refine JX.thenRet ?_
              exact JX.ret1 rfl rfl h
            · refine J.skip ?_
              refine JX.blockNormal ?_
              refine JX.then ?_
              refine J.region ?_
              refine JL.exP (.none rfl) rfl rfl (.move rfl) ?_
              refine JL.exP (.none rfl) rfl rfl (.add rfl rfl) ?_
              refine JL.exP (.none rfl) rfl rfl (.assign rfl) ?_
              refine JL.nil ?_
              exact JX.loopEnd h ⟨rfl, rfl, rfl, trivial⟩
        · refine J.exit ?_
          refine JX.thenExit ?_
          refine JX.thenExit ?_
          refine JX.blockHere ?_
          refine JX.then ?_
          refine J.seq ?_
          refine J.region ?_
          refine JL.exP (.none rfl) rfl rfl (.assign rfl) ?_
          refine JL.nil ?_
          refine JX.then ?_
          refine J.ret ?_
          exact JX.ret1 rfl rfl h

/-- cabstand/cabstandref16.Check -/
def ref16_Check (a0 : Value) (K : Value → WP) : WP :=
  semA Try.prog (Instr.box 40 a0) fun p166 =>
  joinH (α := Bool) (fun y167 =>
    iteH y167 (
      K (.int .i64 170)) (
      loopH (σ := Int × Int) (fun kc183 s182 =>
        semV Try.prog (loadVar 38 (p166.add 2)) fun v184 =>
        pureI Try.prog .i64 (Builtin.len_ #[38] 3 #[v184]) fun x185 =>
        iteH (decide (s182.2 < x185)) (
          joinH (α := Int) (fun y186 =>
            kc183 (y186, (IntKind.i64.wrap (s182.2 + 1)))) fun k187 =>
            semV Try.prog (loadVar 38 (p166.add 2)) fun v188 =>
            pureA Try.prog (Instr.indexAt 38 v188 (.int .i64 s182.2)) fun p189 =>
            semV Try.prog (loadVar 103 p189) fun v190 =>
            semA Try.prog (Instr.alloc 103 true (.tuple #[])) fun p191 =>
            semU Try.prog (storeVar 103 p191 v190) <|
            joinH (α := Bool) (fun y192 =>
              iteH y192 (
                K (.int .i64 170)) (
                joinH (α := Int) (fun y217 =>
                  k187 y217) fun k218 =>
                  iteH (decide (0 < s182.2)) (
                    semV Try.prog (loadVar 38 (p166.add 2)) fun v219 =>
                    pureA Try.prog (Instr.indexAt 38 v219 (.int .i64 (IntKind.i64.wrap (s182.2 - 1)))) fun p220 =>
                    semV Try.prog (loadVar 103 p220) fun v221 =>
                    semA Try.prog (Instr.alloc 103 true (.tuple #[])) fun p222 =>
                    semU Try.prog (storeVar 103 p222 v221) <|
                    joinH (α := Bool) (fun y223 =>
                      iteH y223 (
                        K (.int .i64 170)) (
                        k218 s182.1)) fun k224 =>
                      semI Try.prog .i64 (loadVar 3 (p191.add 0)) fun x225 =>
                      semI Try.prog .i64 (loadVar 3 (p222.add 0)) fun x226 =>
                      orB (decide (x225 < x226)) (fun k228 =>
                        semI Try.prog .i64 (loadVar 3 (p191.add 0)) fun x230 =>
                        semI Try.prog .i64 (loadVar 3 (p222.add 0)) fun x231 =>
                        andB ((x230 : Int) == x231) (fun k233 =>
                          semI Try.prog .i64 (loadVar 3 (p191.add 1)) fun x235 =>
                          semI Try.prog .i64 (loadVar 3 (p222.add 1)) fun x236 =>
                          k233 (decide (x235 ≤ x236))) fun b232 =>
                        k228 b232) fun b227 =>
                      k224 b227) (
                    k218 s182.1))) fun k193 =>
              semI Try.prog .i64 (loadVar 3 (p191.add 0)) fun x194 =>
              orB (decide (x194 < 0)) (fun k196 =>
                semI Try.prog .i64 (loadVar 3 (p191.add 0)) fun x198 =>
                semI Try.prog .i64 (loadVar 3 (p166.add 0)) fun x199 =>
                k196 (decide (x199 ≤ x198))) fun b195 =>
              orB b195 (fun k201 =>
                semI Try.prog .i64 (loadVar 3 (p191.add 1)) fun x203 =>
                k201 (decide (x203 < 0))) fun b200 =>
              orB b200 (fun k205 =>
                semI Try.prog .i64 (loadVar 3 (p191.add 1)) fun x207 =>
                semI Try.prog .i64 (loadVar 3 (p166.add 1)) fun x208 =>
                k205 (decide (x208 ≤ x207))) fun b204 =>
              orB b204 (fun k210 =>
                semI Try.prog .i64 (loadVar 3 (p191.add 2)) fun x212 =>
                k210 (decide (x212 < 1))) fun b209 =>
              orB b209 (fun k214 =>
                semI Try.prog .i64 (loadVar 3 (p191.add 2)) fun x216 =>
                k214 (decide (1099513724929 < x216))) fun b213 =>
              k193 b213) (
          K (.int .i64 0))) (0, 0))) fun k168 =>
    semI Try.prog .i64 (loadVar 3 (p166.add 0)) fun x169 =>
    orB (decide (x169 < 0)) (fun k171 =>
      semI Try.prog .i64 (loadVar 3 (p166.add 0)) fun x173 =>
      k171 (decide (64 < x173))) fun b170 =>
    orB b170 (fun k175 =>
      semI Try.prog .i64 (loadVar 3 (p166.add 1)) fun x177 =>
      k175 (decide (x177 < 0))) fun b174 =>
    orB b174 (fun k179 =>
      semI Try.prog .i64 (loadVar 3 (p166.add 1)) fun x181 =>
      k179 (decide (64 < x181))) fun b178 =>
    k168 b178
set_option maxRecDepth 100000 in
set_option maxHeartbeats 1000000 in
theorem ref16_Check_ok {a0 : Value} {K : Value → WP} {w : World} (h : ref16_Check a0 K w) : callH Try.prog 71 #[a0] K w := by
  refine enter (l := [a0]) Try.func71 rfl rfl rfl ?_
  show J Try.prog 95 [(0, a0)] _ _ _
  unfold ref16_Check at h
  refine J.seq ?_
  refine J.region ?_
  refine JL.exV (.none rfl) rfl rfl (.box rfl) h (fun vp166 w h => ?_)
  obtain ⟨p166, rfl, h⟩ := h
  refine JL.exP (.none rfl) rfl rfl (.assign rfl) ?_
  refine JL.nil ?_
  refine JX.then ?_
  refine J.seq ?_
  refine J.seq ?_
  refine J.join h (fun y167 => [(1, (.pointer (some p166))), (2, (.int .i64 0)), (23, (.bool y167))]) (fun k168 w h => ?_) (fun y167 w h => ?_)
  · refine J.region ?_
    refine JL.exP (.none rfl) rfl rfl (.fieldAddr rfl (fa_40_0 _)) ?_
    refine JL.exV (.none rfl) rfl rfl (.load rfl) h (fun vx169 w h => ?_)
    obtain ⟨x169, rfl, h⟩ := h
    refine JL.exP (.none rfl) rfl rfl (.lss rfl rfl) ?_
    refine JL.exP (.none rfl) rfl rfl (.move rfl) ?_
    rcases orB_cases h with ⟨hc172, h⟩ | ⟨hc172, h⟩
    · refine JL.exNo (.off rfl rfl rfl hc172 rfl) rfl rfl ?_
      refine JL.exNo (.off rfl rfl rfl hc172 rfl) rfl rfl ?_
      refine JL.exNo (.off rfl rfl rfl hc172 rfl) rfl rfl ?_
      refine JL.exP (.none rfl) rfl rfl (.pickOn rfl hc172 rfl) ?_
      refine JL.exP (.none rfl) rfl rfl (.move rfl) ?_
      have h := orB_true' h
      refine JL.exNo (.off rfl rfl rfl rfl rfl) rfl rfl ?_
      refine JL.exNo (.off rfl rfl rfl rfl rfl) rfl rfl ?_
      refine JL.exNo (.off rfl rfl rfl rfl rfl) rfl rfl ?_
      refine JL.exP (.none rfl) rfl rfl (.pickOn rfl rfl rfl) ?_
      refine JL.exP (.none rfl) rfl rfl (.move rfl) ?_
      have h := orB_true' h
      refine JL.exNo (.off rfl rfl rfl rfl rfl) rfl rfl ?_
      refine JL.exNo (.off rfl rfl rfl rfl rfl) rfl rfl ?_
      refine JL.exNo (.off rfl rfl rfl rfl rfl) rfl rfl ?_
      refine JL.exP (.none rfl) rfl rfl (.pickOn rfl rfl rfl) ?_
      refine JL.nil ?_
      exact JX.joinEnd h ⟨rfl, rfl, rfl, trivial⟩
    · refine JL.exP (.on rfl rfl rfl hc172) rfl rfl (.fieldAddr rfl (fa_40_0 _)) ?_
      refine JL.exV (.on rfl rfl rfl hc172) rfl rfl (.load rfl) h (fun vx173 w h => ?_)
      obtain ⟨x173, rfl, h⟩ := h
      refine JL.exP (.on rfl rfl rfl hc172) rfl rfl (.gtr rfl rfl) ?_
      refine JL.exP (.none rfl) rfl rfl (.pickOff rfl hc172 rfl) ?_
      refine JL.exP (.none rfl) rfl rfl (.move rfl) ?_
      rcases orB_cases h with ⟨hc176, h⟩ | ⟨hc176, h⟩
      · refine JL.exNo (.off rfl rfl rfl hc176 rfl) rfl rfl ?_
        refine JL.exNo (.off rfl rfl rfl hc176 rfl) rfl rfl ?_
        refine JL.exNo (.off rfl rfl rfl hc176 rfl) rfl rfl ?_
        refine JL.exP (.none rfl) rfl rfl (.pickOn rfl hc176 rfl) ?_
        refine JL.exP (.none rfl) rfl rfl (.move rfl) ?_
        have h := orB_true' h
        refine JL.exNo (.off rfl rfl rfl rfl rfl) rfl rfl ?_
        refine JL.exNo (.off rfl rfl rfl rfl rfl) rfl rfl ?_
        refine JL.exNo (.off rfl rfl rfl rfl rfl) rfl rfl ?_
        refine JL.exP (.none rfl) rfl rfl (.pickOn rfl rfl rfl) ?_
        refine JL.nil ?_
        exact JX.joinEnd h ⟨rfl, rfl, rfl, trivial⟩
      · refine JL.exP (.on rfl rfl rfl hc176) rfl rfl (.fieldAddr rfl (fa_40_1 _)) ?_
        refine JL.exV (.on rfl rfl rfl hc176) rfl rfl (.load rfl) h (fun vx177 w h => ?_)
        obtain ⟨x177, rfl, h⟩ := h
        refine JL.exP (.on rfl rfl rfl hc176) rfl rfl (.lss rfl rfl) ?_
        refine JL.exP (.none rfl) rfl rfl (.pickOff rfl hc176 rfl) ?_
        refine JL.exP (.none rfl) rfl rfl (.move rfl) ?_
        rcases orB_cases h with ⟨hc180, h⟩ | ⟨hc180, h⟩
        · refine JL.exNo (.off rfl rfl rfl hc180 rfl) rfl rfl ?_
          refine JL.exNo (.off rfl rfl rfl hc180 rfl) rfl rfl ?_
          refine JL.exNo (.off rfl rfl rfl hc180 rfl) rfl rfl ?_
          refine JL.exP (.none rfl) rfl rfl (.pickOn rfl hc180 rfl) ?_
          refine JL.nil ?_
          exact JX.joinEnd h ⟨rfl, rfl, rfl, trivial⟩
        · refine JL.exP (.on rfl rfl rfl hc180) rfl rfl (.fieldAddr rfl (fa_40_1 _)) ?_
          refine JL.exV (.on rfl rfl rfl hc180) rfl rfl (.load rfl) h (fun vx181 w h => ?_)
          obtain ⟨x181, rfl, h⟩ := h
          refine JL.exP (.on rfl rfl rfl hc180) rfl rfl (.gtr rfl rfl) ?_
          refine JL.exP (.none rfl) rfl rfl (.pickOff rfl hc180 rfl) ?_
          refine JL.nil ?_
          exact JX.joinEnd h ⟨rfl, rfl, rfl, trivial⟩
  · refine JX.then ?_
    refine J.cond (b := _) rfl h (fun h => ?_) (fun h => ?_)
    · refine J.seq ?_
      refine J.region ?_
      refine JL.exP (.none rfl) rfl rfl (.assign rfl) ?_
      refine JL.nil ?_
      refine JX.then ?_
      refine J.ret ?_
      refine JX.thenRet ?_
      exact JX.ret1 rfl rfl h
    · refine J.skip ?_
      refine JX.then ?_
      refine J.seq ?_
      refine J.seq ?_
      refine J.region ?_
      refine JL.exP (.none rfl) rfl rfl (.assign rfl) ?_
      refine JL.nil ?_
      refine JX.then ?_
      refine J.block ?_
      refine J.loop h (fun s182 => [(1, (.pointer (some p166))), (2, (.int .i64 s182.1)), (3, (.int .i64 s182.2))]) ⟨rfl, rfl, rfl, trivial⟩ (fun I μ s182 w h => ?_)
      refine J.seq ?_
      refine J.seq ?_
      refine J.region ?_
      refine JL.exP (.none rfl) rfl rfl (.move rfl) ?_
      refine JL.exP (.none rfl) rfl rfl (.fieldAddr rfl (fa_40_2 _)) ?_
      refine JL.exV (.none rfl) rfl rfl (.load rfl) h (fun v184 w h => ?_)
      refine JL.sPure (.none rfl) rfl rfl ((.len (vs := [v184]) rfl)) h (fun vx185 w h => ?_)
      obtain ⟨x185, rfl, h⟩ := h
      refine JL.exP (.none rfl) rfl rfl (.lss rfl rfl) ?_
      refine JL.nil ?_
      refine JX.then ?_
      refine J.cond (b := _) rfl h (fun h => ?_) (fun h => ?_)
      · refine J.skip ?_
        refine JX.then ?_
        refine J.seq ?_
        refine J.join h (fun y186 => [(1, (.pointer (some p166))), (2, (.int .i64 y186)), (3, (.int .i64 s182.2))]) (fun k187 w h => ?_) (fun y186 w h => ?_)
        · refine J.block ?_
          refine J.seq ?_
          refine J.region ?_
          refine JL.exP (.none rfl) rfl rfl (.fieldAddr rfl (fa_40_2 _)) ?_
          refine JL.exV (.none rfl) rfl rfl (.load rfl) h (fun v188 w h => ?_)
          refine JL.exP (.none rfl) rfl rfl (.move rfl) ?_
          refine JL.sPure (.none rfl) rfl rfl (.indexAddr rfl rfl) h (fun vp189 w h => ?_)
          obtain ⟨p189, rfl, h⟩ := h
          refine JL.exV (.none rfl) rfl rfl (.load rfl) h (fun v190 w h => ?_)
          refine JL.exV (.none rfl) rfl rfl (.alloc) h (fun vp191 w h => ?_)
          obtain ⟨p191, rfl, h⟩ := h
          refine JL.exU (.none rfl) rfl (.store rfl rfl) h (fun w h => ?_)
          refine JL.nil ?_
          refine JX.then ?_
          refine J.seq ?_
          refine J.seq ?_
          refine J.join h (fun y192 => [(1, (.pointer (some p166))), (2, (.int .i64 s182.1)), (3, (.int .i64 s182.2)), (4, (.pointer (some p191))), (67, (.bool y192))]) (fun k193 w h => ?_) (fun y192 w h => ?_)
          · refine J.region ?_
            refine JL.exP (.none rfl) rfl rfl (.fieldAddr rfl (fa_103_0 _)) ?_
            refine JL.exV (.none rfl) rfl rfl (.load rfl) h (fun vx194 w h => ?_)
            obtain ⟨x194, rfl, h⟩ := h
            refine JL.exP (.none rfl) rfl rfl (.lss rfl rfl) ?_
            refine JL.exP (.none rfl) rfl rfl (.move rfl) ?_
            rcases orB_cases h with ⟨hc197, h⟩ | ⟨hc197, h⟩
            · refine JL.exNo (.off rfl rfl rfl hc197 rfl) rfl rfl ?_
              refine JL.exNo (.off rfl rfl rfl hc197 rfl) rfl rfl ?_
              refine JL.exNo (.off rfl rfl rfl hc197 rfl) rfl rfl ?_
              refine JL.exNo (.off rfl rfl rfl hc197 rfl) rfl rfl ?_
              refine JL.exNo (.off rfl rfl rfl hc197 rfl) rfl rfl ?_
              refine JL.exP (.none rfl) rfl rfl (.pickOn rfl hc197 rfl) ?_
              refine JL.exP (.none rfl) rfl rfl (.move rfl) ?_
              have h := orB_true' h
              refine JL.exNo (.off rfl rfl rfl rfl rfl) rfl rfl ?_
              refine JL.exNo (.off rfl rfl rfl rfl rfl) rfl rfl ?_
              refine JL.exNo (.off rfl rfl rfl rfl rfl) rfl rfl ?_
              refine JL.exP (.none rfl) rfl rfl (.pickOn rfl rfl rfl) ?_
              refine JL.exP (.none rfl) rfl rfl (.move rfl) ?_
              have h := orB_true' h
              refine JL.exNo (.off rfl rfl rfl rfl rfl) rfl rfl ?_
              refine JL.exNo (.off rfl rfl rfl rfl rfl) rfl rfl ?_
              refine JL.exNo (.off rfl rfl rfl rfl rfl) rfl rfl ?_
              refine JL.exNo (.off rfl rfl rfl rfl rfl) rfl rfl ?_
              refine JL.exNo (.off rfl rfl rfl rfl rfl) rfl rfl ?_
              refine JL.exP (.none rfl) rfl rfl (.pickOn rfl rfl rfl) ?_
              refine JL.exP (.none rfl) rfl rfl (.move rfl) ?_
              have h := orB_true' h
              refine JL.exNo (.off rfl rfl rfl rfl rfl) rfl rfl ?_
              refine JL.exNo (.off rfl rfl rfl rfl rfl) rfl rfl ?_
              refine JL.exNo (.off rfl rfl rfl rfl rfl) rfl rfl ?_
              refine JL.exP (.none rfl) rfl rfl (.pickOn rfl rfl rfl) ?_
              refine JL.exP (.none rfl) rfl rfl (.move rfl) ?_
              have h := orB_true' h
              refine JL.exNo (.off rfl rfl rfl rfl rfl) rfl rfl ?_
              refine JL.exNo (.off rfl rfl rfl rfl rfl) rfl rfl ?_
              refine JL.exNo (.off rfl rfl rfl rfl rfl) rfl rfl ?_
              refine JL.exP (.none rfl) rfl rfl (.pickOn rfl rfl rfl) ?_
              refine JL.nil ?_
              exact JX.joinEnd h ⟨rfl, rfl, rfl, rfl, rfl, trivial⟩
            · refine JL.exP (.on rfl rfl rfl hc197) rfl rfl (.fieldAddr rfl (fa_103_0 _)) ?_
              refine JL.exV (.on rfl rfl rfl hc197) rfl rfl (.load rfl) h (fun vx198 w h => ?_)
              obtain ⟨x198, rfl, h⟩ := h
              refine JL.exP (.on rfl rfl rfl hc197) rfl rfl (.fieldAddr rfl (fa_40_0 _)) ?_
              refine JL.exV (.on rfl rfl rfl hc197) rfl rfl (.load rfl) h (fun vx199 w h => ?_)
              obtain ⟨x199, rfl, h⟩ := h
              refine JL.exP (.on rfl rfl rfl hc197) rfl rfl (.geq rfl rfl) ?_
              refine JL.exP (.none rfl) rfl rfl (.pickOff rfl hc197 rfl) ?_
              refine JL.exP (.none rfl) rfl rfl (.move rfl) ?_
              rcases orB_cases h with ⟨hc202, h⟩ | ⟨hc202, h⟩
              · refine JL.exNo (.off rfl rfl rfl hc202 rfl) rfl rfl ?_
                refine JL.exNo (.off rfl rfl rfl hc202 rfl) rfl rfl ?_
                refine JL.exNo (.off rfl rfl rfl hc202 rfl) rfl rfl ?_
                refine JL.exP (.none rfl) rfl rfl (.pickOn rfl hc202 rfl) ?_
                refine JL.exP (.none rfl) rfl rfl (.move rfl) ?_
                have h := orB_true' h
                refine JL.exNo (.off rfl rfl rfl rfl rfl) rfl rfl ?_
                refine JL.exNo (.off rfl rfl rfl rfl rfl) rfl rfl ?_
                refine JL.exNo (.off rfl rfl rfl rfl rfl) rfl rfl ?_
                refine JL.exNo (.off rfl rfl rfl rfl rfl) rfl rfl ?_
                refine JL.exNo (.off rfl rfl rfl rfl rfl) rfl rfl ?_
                refine JL.exP (.none rfl) rfl rfl (.pickOn rfl rfl rfl) ?_
                refine JL.exP (.none rfl) rfl rfl (.move rfl) ?_
                have h := orB_true' h
                refine JL.exNo (.off rfl rfl rfl rfl rfl) rfl rfl ?_
                refine JL.exNo (.off rfl rfl rfl rfl rfl) rfl rfl ?_
                refine JL.exNo (.off rfl rfl rfl rfl rfl) rfl rfl ?_
                refine JL.exP (.none rfl) rfl rfl (.pickOn rfl rfl rfl) ?_
                refine JL.exP (.none rfl) rfl rfl (.move rfl) ?_
                have h := orB_true' h
                refine JL.exNo (.off rfl rfl rfl rfl rfl) rfl rfl ?_
                refine JL.exNo (.off rfl rfl rfl rfl rfl) rfl rfl ?_
                refine JL.exNo (.off rfl rfl rfl rfl rfl) rfl rfl ?_
                refine JL.exP (.none rfl) rfl rfl (.pickOn rfl rfl rfl) ?_
                refine JL.nil ?_
                exact JX.joinEnd h ⟨rfl, rfl, rfl, rfl, rfl, trivial⟩
              · refine JL.exP (.on rfl rfl rfl hc202) rfl rfl (.fieldAddr rfl (fa_103_1 _)) ?_
                refine JL.exV (.on rfl rfl rfl hc202) rfl rfl (.load rfl) h (fun vx203 w h => ?_)
                obtain ⟨x203, rfl, h⟩ := h
                refine JL.exP (.on rfl rfl rfl hc202) rfl rfl (.lss rfl rfl) ?_
                refine JL.exP (.none rfl) rfl rfl (.pickOff rfl hc202 rfl) ?_
                refine JL.exP (.none rfl) rfl rfl (.move rfl) ?_
                rcases orB_cases h with ⟨hc206, h⟩ | ⟨hc206, h⟩
                · refine JL.exNo (.off rfl rfl rfl hc206 rfl) rfl rfl ?_
                  refine JL.exNo (.off rfl rfl rfl hc206 rfl) rfl rfl ?_
                  refine JL.exNo (.off rfl rfl rfl hc206 rfl) rfl rfl ?_
                  refine JL.exNo (.off rfl rfl rfl hc206 rfl) rfl rfl ?_
                  refine JL.exNo (.off rfl rfl rfl hc206 rfl) rfl rfl ?_
                  refine JL.exP (.none rfl) rfl rfl (.pickOn rfl hc206 rfl) ?_
                  refine JL.exP (.none rfl) rfl rfl (.move rfl) ?_
                  have h := orB_true' h
                  refine JL.exNo (.off rfl rfl rfl rfl rfl) rfl rfl ?_
                  refine JL.exNo (.off rfl rfl rfl rfl rfl) rfl rfl ?_
                  refine JL.exNo (.off rfl rfl rfl rfl rfl) rfl rfl ?_
                  refine JL.exP (.none rfl) rfl rfl (.pickOn rfl rfl rfl) ?_
                  refine JL.exP (.none rfl) rfl rfl (.move rfl) ?_
                  have h := orB_true' h
                  refine JL.exNo (.off rfl rfl rfl rfl rfl) rfl rfl ?_
                  refine JL.exNo (.off rfl rfl rfl rfl rfl) rfl rfl ?_
                  refine JL.exNo (.off rfl rfl rfl rfl rfl) rfl rfl ?_
                  refine JL.exP (.none rfl) rfl rfl (.pickOn rfl rfl rfl) ?_
                  refine JL.nil ?_
                  exact JX.joinEnd h ⟨rfl, rfl, rfl, rfl, rfl, trivial⟩
                · refine JL.exP (.on rfl rfl rfl hc206) rfl rfl (.fieldAddr rfl (fa_103_1 _)) ?_
                  refine JL.exV (.on rfl rfl rfl hc206) rfl rfl (.load rfl) h (fun vx207 w h => ?_)
                  obtain ⟨x207, rfl, h⟩ := h
                  refine JL.exP (.on rfl rfl rfl hc206) rfl rfl (.fieldAddr rfl (fa_40_1 _)) ?_
                  refine JL.exV (.on rfl rfl rfl hc206) rfl rfl (.load rfl) h (fun vx208 w h => ?_)
                  obtain ⟨x208, rfl, h⟩ := h
                  refine JL.exP (.on rfl rfl rfl hc206) rfl rfl (.geq rfl rfl) ?_
                  refine JL.exP (.none rfl) rfl rfl (.pickOff rfl hc206 rfl) ?_
                  refine JL.exP (.none rfl) rfl rfl (.move rfl) ?_
                  rcases orB_cases h with ⟨hc211, h⟩ | ⟨hc211, h⟩
                  · refine JL.exNo (.off rfl rfl rfl hc211 rfl) rfl rfl ?_
                    refine JL.exNo (.off rfl rfl rfl hc211 rfl) rfl rfl ?_
                    refine JL.exNo (.off rfl rfl rfl hc211 rfl) rfl rfl ?_
                    refine JL.exP (.none rfl) rfl rfl (.pickOn rfl hc211 rfl) ?_
                    refine JL.exP (.none rfl) rfl rfl (.move rfl) ?_
                    have h := orB_true' h
                    refine JL.exNo (.off rfl rfl rfl rfl rfl) rfl rfl ?_
                    refine JL.exNo (.off rfl rfl rfl rfl rfl) rfl rfl ?_
                    refine JL.exNo (.off rfl rfl rfl rfl rfl) rfl rfl ?_
                    refine JL.exP (.none rfl) rfl rfl (.pickOn rfl rfl rfl) ?_
                    refine JL.nil ?_
                    exact JX.joinEnd h ⟨rfl, rfl, rfl, rfl, rfl, trivial⟩
                  · refine JL.exP (.on rfl rfl rfl hc211) rfl rfl (.fieldAddr rfl (fa_103_2 _)) ?_
                    refine JL.exV (.on rfl rfl rfl hc211) rfl rfl (.load rfl) h (fun vx212 w h => ?_)
                    obtain ⟨x212, rfl, h⟩ := h
                    refine JL.exP (.on rfl rfl rfl hc211) rfl rfl (.lss rfl rfl) ?_
                    refine JL.exP (.none rfl) rfl rfl (.pickOff rfl hc211 rfl) ?_
                    refine JL.exP (.none rfl) rfl rfl (.move rfl) ?_
                    rcases orB_cases h with ⟨hc215, h⟩ | ⟨hc215, h⟩
                    · refine JL.exNo (.off rfl rfl rfl hc215 rfl) rfl rfl ?_
                      refine JL.exNo (.off rfl rfl rfl hc215 rfl) rfl rfl ?_
                      refine JL.exNo (.off rfl rfl rfl hc215 rfl) rfl rfl ?_
                      refine JL.exP (.none rfl) rfl rfl (.pickOn rfl hc215 rfl) ?_
                      refine JL.nil ?_
                      exact JX.joinEnd h ⟨rfl, rfl, rfl, rfl, rfl, trivial⟩
                    · refine JL.exP (.on rfl rfl rfl hc215) rfl rfl (.fieldAddr rfl (fa_103_2 _)) ?_
                      refine JL.exV (.on rfl rfl rfl hc215) rfl rfl (.load rfl) h (fun vx216 w h => ?_)
                      obtain ⟨x216, rfl, h⟩ := h
                      refine JL.exP (.on rfl rfl rfl hc215) rfl rfl (.gtr rfl rfl) ?_
                      refine JL.exP (.none rfl) rfl rfl (.pickOff rfl hc215 rfl) ?_
                      refine JL.nil ?_
                      exact JX.joinEnd h ⟨rfl, rfl, rfl, rfl, rfl, trivial⟩
          · refine JX.then ?_
            refine J.cond (b := _) rfl h (fun h => ?_) (fun h => ?_)
            · refine J.seq ?_
              refine J.region ?_
              refine JL.exP (.none rfl) rfl rfl (.assign rfl) ?_
              refine JL.nil ?_
              refine JX.then ?_
              refine J.ret ?_
              refine JX.thenRet ?_
              refine JX.blockRet ?_
              refine JX.joinRet ?_
              refine JX.thenRet ?_
              refine JX.thenRet ?_
              refine JX.blockRet ?_
              refine JX.thenRet ?_
              exact JX.ret1 rfl rfl h
            · refine J.skip ?_
              refine JX.then ?_
              refine J.seq ?_
              refine J.region ?_
              refine JL.exP (.none rfl) rfl rfl (.move rfl) ?_
              refine JL.exP (.none rfl) rfl rfl (.gtr rfl rfl) ?_
              refine JL.nil ?_
              refine JX.then ?_
              refine J.join h (fun y217 => [(1, (.pointer (some p166))), (2, (.int .i64 y217)), (3, (.int .i64 s182.2))]) (fun k218 w h => ?_) (fun y217 w h => ?_)
              · refine J.cond (b := _) rfl h (fun h => ?_) (fun h => ?_)
                · refine J.seq ?_
                  refine J.region ?_
                  refine JL.exP (.none rfl) rfl rfl (.fieldAddr rfl (fa_40_2 _)) ?_
                  refine JL.exV (.none rfl) rfl rfl (.load rfl) h (fun v219 w h => ?_)
                  refine JL.exP (.none rfl) rfl rfl (.move rfl) ?_
                  refine JL.exP (.none rfl) rfl rfl (.sub rfl rfl) ?_
                  refine JL.sPure (.none rfl) rfl rfl (.indexAddr rfl rfl) h (fun vp220 w h => ?_)
                  obtain ⟨p220, rfl, h⟩ := h
                  refine JL.exV (.none rfl) rfl rfl (.load rfl) h (fun v221 w h => ?_)
                  refine JL.exV (.none rfl) rfl rfl (.alloc) h (fun vp222 w h => ?_)
                  obtain ⟨p222, rfl, h⟩ := h
                  refine JL.exU (.none rfl) rfl (.store rfl rfl) h (fun w h => ?_)
                  refine JL.nil ?_
                  refine JX.then ?_
                  refine J.seq ?_
                  refine J.join h (fun y223 => [(1, (.pointer (some p166))), (2, (.int .i64 s182.1)), (3, (.int .i64 s182.2)), (94, (.bool y223))]) (fun k224 w h => ?_) (fun y223 w h => ?_)
                  · refine J.region ?_
                    refine JL.exP (.none rfl) rfl rfl (.fieldAddr rfl (fa_103_0 _)) ?_
                    refine JL.exV (.none rfl) rfl rfl (.load rfl) h (fun vx225 w h => ?_)
                    obtain ⟨x225, rfl, h⟩ := h
                    refine JL.exP (.none rfl) rfl rfl (.fieldAddr rfl (fa_103_0 _)) ?_
                    refine JL.exV (.none rfl) rfl rfl (.load rfl) h (fun vx226 w h => ?_)
                    obtain ⟨x226, rfl, h⟩ := h
                    refine JL.exP (.none rfl) rfl rfl (.lss rfl rfl) ?_
                    refine JL.exP (.none rfl) rfl rfl (.move rfl) ?_
                    rcases orB_cases h with ⟨hc229, h⟩ | ⟨hc229, h⟩
                    · refine JL.exNo (.off rfl rfl rfl hc229 rfl) rfl rfl ?_
                      refine JL.exNo (.off rfl rfl rfl hc229 rfl) rfl rfl ?_
                      refine JL.exNo (.off rfl rfl rfl hc229 rfl) rfl rfl ?_
                      refine JL.exNo (.off rfl rfl rfl hc229 rfl) rfl rfl ?_
                      refine JL.exNo (.off rfl rfl rfl hc229 rfl) rfl rfl ?_
                      refine JL.exNo (.off rfl rfl rfl hc229 rfl) rfl rfl ?_
                      refine JL.exNo (.undef rfl rfl rfl) rfl rfl ?_
                      refine JL.exNo (.undef rfl rfl rfl) rfl rfl ?_
                      refine JL.exNo (.undef rfl rfl rfl) rfl rfl ?_
                      refine JL.exNo (.undef rfl rfl rfl) rfl rfl ?_
                      refine JL.exNo (.undef rfl rfl rfl) rfl rfl ?_
                      refine JL.exNo (.off rfl rfl rfl hc229 rfl) rfl rfl ?_
                      refine JL.exP (.none rfl) rfl rfl (.pickOn rfl hc229 rfl) ?_
                      refine JL.nil ?_
                      exact JX.joinEnd h ⟨rfl, rfl, rfl, rfl, trivial⟩
                    · refine JL.exP (.on rfl rfl rfl hc229) rfl rfl (.fieldAddr rfl (fa_103_0 _)) ?_
                      refine JL.exV (.on rfl rfl rfl hc229) rfl rfl (.load rfl) h (fun vx230 w h => ?_)
                      obtain ⟨x230, rfl, h⟩ := h
                      refine JL.exP (.on rfl rfl rfl hc229) rfl rfl (.fieldAddr rfl (fa_103_0 _)) ?_
                      refine JL.exV (.on rfl rfl rfl hc229) rfl rfl (.load rfl) h (fun vx231 w h => ?_)
                      obtain ⟨x231, rfl, h⟩ := h
                      refine JL.exP (.on rfl rfl rfl hc229) rfl rfl (.eql rfl rfl) ?_
                      refine JL.exP (.on rfl rfl rfl hc229) rfl rfl (.move rfl) ?_
                      rcases andB_cases h with ⟨hc234, h⟩ | ⟨hc234, h⟩
                      · refine JL.exNo (.off rfl rfl rfl hc234 rfl) rfl rfl ?_
                        refine JL.exNo (.off rfl rfl rfl hc234 rfl) rfl rfl ?_
                        refine JL.exNo (.off rfl rfl rfl hc234 rfl) rfl rfl ?_
                        refine JL.exNo (.off rfl rfl rfl hc234 rfl) rfl rfl ?_
                        refine JL.exNo (.off rfl rfl rfl hc234 rfl) rfl rfl ?_
                        refine JL.exP (.on rfl rfl rfl hc229) rfl rfl (.pickOff rfl hc234 rfl) ?_
                        refine JL.exP (.none rfl) rfl rfl (.pickOff rfl hc229 rfl) ?_
                        refine JL.nil ?_
                        exact JX.joinEnd h ⟨rfl, rfl, rfl, rfl, trivial⟩
                      · refine JL.exP (.on rfl rfl rfl hc234) rfl rfl (.fieldAddr rfl (fa_103_1 _)) ?_
                        refine JL.exV (.on rfl rfl rfl hc234) rfl rfl (.load rfl) h (fun vx235 w h => ?_)
                        obtain ⟨x235, rfl, h⟩ := h
                        refine JL.exP (.on rfl rfl rfl hc234) rfl rfl (.fieldAddr rfl (fa_103_1 _)) ?_
                        refine JL.exV (.on rfl rfl rfl hc234) rfl rfl (.load rfl) h (fun vx236 w h => ?_)
                        obtain ⟨x236, rfl, h⟩ := h
                        refine JL.exP (.on rfl rfl rfl hc234) rfl rfl (.leq rfl rfl) ?_
                        refine JL.exP (.on rfl rfl rfl hc229) rfl rfl (.pickOn rfl hc234 rfl) ?_
                        refine JL.exP (.none rfl) rfl rfl (.pickOff rfl hc229 rfl) ?_
                        refine JL.nil ?_
                        exact JX.joinEnd h ⟨rfl, rfl, rfl, rfl, trivial⟩
                  · refine JX.then ?_
                    refine J.cond (b := _) rfl h (fun h => ?_) (fun h => ?_)
                    · refine J.seq ?_
                      refine J.region ?_
                      refine JL.exP (.none rfl) rfl rfl (.assign rfl) ?_
                      refine JL.nil ?_
                      refine JX.then ?_
                      refine J.ret ?_
                      refine JX.joinRet ?_
                      refine JX.blockRet ?_
                      refine JX.joinRet ?_
                      refine JX.thenRet ?_
                      refine JX.thenRet ?_
                      refine JX.blockRet ?_
                      refine JX.thenRet ?_
                      exact JX.ret1 rfl rfl h
                    · refine J.skip ?_
                      exact JX.joinEnd h ⟨rfl, rfl, rfl, trivial⟩
                · refine J.skip ?_
                  exact JX.joinEnd h ⟨rfl, rfl, rfl, trivial⟩
              · refine JX.blockNormal ?_
                exact JX.joinEnd h ⟨rfl, rfl, rfl, trivial⟩
        · refine JX.then ?_
          refine J.region ?_
          refine JL.exP (.none rfl) rfl rfl (.move rfl) ?_
          refine JL.exP (.none rfl) rfl rfl (.add rfl rfl) ?_
          refine JL.exP (.none rfl) rfl rfl (.assign rfl) ?_
          refine JL.nil ?_
          exact JX.loopEnd h ⟨rfl, rfl, rfl, trivial⟩
      · refine J.exit ?_
        refine JX.thenExit ?_
        refine JX.thenExit ?_
        refine JX.blockHere ?_
        refine JX.then ?_
        refine J.seq ?_
        refine J.region ?_
        refine JL.exP (.none rfl) rfl rfl (.assign rfl) ?_
        refine JL.nil ?_
        refine JX.then ?_
        refine J.ret ?_
        exact JX.ret1 rfl rfl h

/-- cabstand/cabstandref18.Pairs -/
def ref18_Pairs (a0 : Value) (a1 : Value) (K : Value → WP) : WP :=
  semA Try.prog (Instr.box 40 a0) fun p237 =>
  semV Try.prog (loadVar 40 p237) fun v238 =>
  callI Try.prog 71 #[v238] .i64 fun x239 =>
  iteH ((x239 : Int) != 0) (
    K (.int .i64 x239)) (
    loopH (σ := Int × Int) (fun kc241 s240 =>
      pureI Try.prog .i64 (Builtin.len_ #[41] 3 #[a1]) fun x242 =>
      iteH (decide (s240.2 < x242)) (
        joinH (α := Bool) (fun y243 =>
          iteH y243 (
            K (.int .i64 180)) (
            loopH (σ := Int × Int) (fun kc267 s266 =>
              iteH (decide (s266.2 < s240.2)) (
                drawH <|
                pureA Try.prog (Instr.indexAt 41 a1 (.int .i64 s266.2)) fun p268 =>
                readI Try.prog .i64 (loadVar 3 (p268.add 1)) fun x269 =>
                pureA Try.prog (Instr.indexAt 41 a1 (.int .i64 s240.2)) fun p271 =>
                readI Try.prog .i64 (loadVar 3 (p271.add 1)) fun x272 =>
                iteH ((x269 : Int) == x272) (
                  K (.int .i64 180)) (
                  kc267 (s266.1, (IntKind.i64.wrap (s266.2 + 1))))) (
                kc241 (s266.1, (IntKind.i64.wrap (s240.2 + 1))))) (s240.1, 0))) fun k244 =>
          drawH <|
          readV Try.prog (loadVar 40 p237) fun v245 =>
          pureA Try.prog (Instr.indexAt 41 a1 (.int .i64 s240.2)) fun p247 =>
          readI Try.prog .i64 (loadVar 3 (p247.add 0)) fun x248 =>
          pureA Try.prog (Instr.indexAt 41 a1 (.int .i64 s240.2)) fun p250 =>
          readI Try.prog .i64 (loadVar 3 (p250.add 1)) fun x251 =>
          callI Try.prog 99 #[v245, (.int .i64 x248), (.int .i64 x251)] .i64 fun x253 =>
          orB ((x253 : Int) == 0) (fun k255 =>
            andB (decide (0 < s240.2)) (fun k258 =>
              pureA Try.prog (Instr.indexAt 41 a1 (.int .i64 s240.2)) fun p260 =>
              readI Try.prog .i64 (loadVar 3 (p260.add 0)) fun x261 =>
              pureA Try.prog (Instr.indexAt 41 a1 (.int .i64 (IntKind.i64.wrap (s240.2 - 1)))) fun p263 =>
              readI Try.prog .i64 (loadVar 3 (p263.add 0)) fun x264 =>
              k258 (decide (x261 ≤ x264))) fun b257 =>
            k255 b257) fun b254 =>
          k244 b254) (
        K (.int .i64 0))) (0, 0))
set_option maxRecDepth 100000 in
set_option maxHeartbeats 1000000 in
theorem ref18_Pairs_ok {a0 : Value} {a1 : Value} {K : Value → WP} {w : World} (h : ref18_Pairs a0 a1 K w) : callH Try.prog 72 #[a0, a1] K w := by
  refine enter (l := [a0, a1]) Try.func72 rfl rfl rfl ?_
  show J Try.prog 66 [(0, a0), (1, a1)] _ _ _
  unfold ref18_Pairs at h
  refine J.seq ?_
  refine J.region ?_
  refine JL.exV (.none rfl) rfl rfl (.box rfl) h (fun vp237 w h => ?_)
  obtain ⟨p237, rfl, h⟩ := h
  refine JL.exP (.none rfl) rfl rfl (.assign rfl) ?_
  refine JL.nil ?_
  refine JX.then ?_
  refine J.seq ?_
  refine J.region ?_
  refine JL.exV (.none rfl) rfl rfl (.load rfl) h (fun v238 w h => ?_)
  refine JL.exC (.none rfl) rfl rfl (.func (vs := [v238]) en_71 rfl) h (fun vx239 w h => ?_)
  obtain ⟨x239, rfl, h⟩ := h
  refine JL.exP (.none rfl) rfl rfl (.assign rfl) ?_
  refine JL.nil ?_
  refine JX.then ?_
  refine J.seq ?_
  refine J.seq ?_
  refine J.region ?_
  refine JL.exP (.none rfl) rfl rfl (.move rfl) ?_
  refine JL.exP (.none rfl) rfl rfl (.neq rfl rfl) ?_
  refine JL.nil ?_
  refine JX.then ?_
  refine J.cond (b := _) rfl h (fun h => ?_) (fun h => ?_)
  · refine J.seq ?_
    refine J.region ?_
    refine JL.exP (.none rfl) rfl rfl (.move rfl) ?_
    refine JL.exP (.none rfl) rfl rfl (.assign rfl) ?_
    refine JL.nil ?_
    refine JX.then ?_
    refine J.ret ?_
    refine JX.thenRet ?_
    exact JX.ret1 rfl rfl h
  · refine J.skip ?_
    refine JX.then ?_
    refine J.seq ?_
    refine J.seq ?_
    refine J.region ?_
    refine JL.exP (.none rfl) rfl rfl (.assign rfl) ?_
    refine JL.nil ?_
    refine JX.then ?_
    refine J.block ?_
    refine J.loop h (fun s240 => [(1, a1), (2, (.pointer (some p237))), (4, (.int .i64 s240.1)), (6, (.int .i64 s240.2))]) ⟨rfl, rfl, rfl, rfl, trivial⟩ (fun I μ s240 w h => ?_)
    refine J.seq ?_
    refine J.seq ?_
    refine J.region ?_
    refine JL.exP (.none rfl) rfl rfl (.move rfl) ?_
    refine JL.exP (.none rfl) rfl rfl (.move rfl) ?_
    refine JL.sPure (.none rfl) rfl rfl ((.len (vs := [a1]) rfl)) h (fun vx242 w h => ?_)
    obtain ⟨x242, rfl, h⟩ := h
    refine JL.exP (.none rfl) rfl rfl (.lss rfl rfl) ?_
    refine JL.nil ?_
    refine JX.then ?_
    refine J.cond (b := _) rfl h (fun h => ?_) (fun h => ?_)
    · refine J.skip ?_
      refine JX.then ?_
      refine J.seq ?_
      refine J.block ?_
      refine J.seq ?_
      refine J.seq ?_
      refine J.join h (fun y243 => [(1, a1), (2, (.pointer (some p237))), (4, (.int .i64 s240.1)), (6, (.int .i64 s240.2)), (49, (.bool y243))]) (fun k244 w h => ?_) (fun y243 w h => ?_)
      · refine J.draw [[], [], [], [1, 2], [1, 2, 3], [1, 2, 3, 4], [], [], [6, 7], [6, 7, 8], [6, 7, 8, 9], [0, 1, 2, 3, 4, 5, 6, 7, 8, 9, 10], [0, 1, 2, 3, 4, 5, 6, 7, 8, 9, 10, 11], [0, 1, 2, 3, 4, 5, 6, 7, 8, 9, 10, 11, 12], [0, 1, 2, 3, 4, 5, 6, 7, 8, 9, 10, 11, 12, 13], [0, 1, 2, 3, 4, 5, 6, 7, 8, 9, 10, 11, 12, 13, 14], [0, 1, 2, 3, 4, 5, 6, 7, 8, 9, 10, 11, 12, 13, 14, 15], [0, 1, 2, 3, 4, 5, 6, 7, 8, 9, 10, 11, 12, 13, 14, 15, 16], [0, 1, 2, 3, 4, 5, 6, 7, 8, 9, 10, 11, 12, 13, 14, 15, 16], [0, 1, 2, 3, 4, 5, 6, 7, 8, 9, 10, 11, 12, 13, 14, 15, 16, 17, 18], [0, 1, 2, 3, 4, 5, 6, 7, 8, 9, 10, 11, 12, 13, 14, 15, 16, 17, 18, 19], [0, 1, 2, 3, 4, 5, 6, 7, 8, 9, 10, 11, 12, 13, 14, 15, 16, 17, 18, 19, 20], [0, 1, 2, 3, 4, 5, 6, 7, 8, 9, 10, 11, 12, 13, 14, 15, 16], [0, 1, 2, 3, 4, 5, 6, 7, 8, 9, 10, 11, 12, 13, 14, 15, 16], [0, 1, 2, 3, 4, 5, 6, 7, 8, 9, 10, 11, 12, 13, 14, 15, 16, 23], [0, 1, 2, 3, 4, 5, 6, 7, 8, 9, 10, 11, 12, 13, 14, 15, 16, 22, 23, 24], [0, 1, 2, 3, 4, 5, 6, 7, 8, 9, 10, 11, 12, 13, 14, 15, 16, 22, 23, 24, 25], [0, 1, 2, 3, 4, 5, 6, 7, 8, 9, 10, 11, 12, 13, 14, 15, 16, 22, 23, 24, 25, 26], [0, 1, 2, 3, 4, 5, 6, 7, 8, 9, 10, 11, 12, 13, 14, 15, 16, 17, 18, 19, 20, 21, 22, 23, 24, 25, 26, 27], [0, 1, 2, 3, 4, 5, 6, 7, 8, 9, 10, 11, 12, 13, 14, 15, 16, 17, 18, 19, 20, 21, 22, 23, 24, 25, 26, 27, 28], [0, 1, 2, 3, 4, 5, 6, 7, 8, 9, 10, 11, 12, 13, 14, 15, 16, 17, 18, 19, 20, 21, 22, 23, 24, 25, 26, 27, 28, 29]] (by kernel_rfl) mixed h (fun w h => ?_)
        refine JD.read (i := 0) [] rfl (by kernel_rfl) (by kernel_rfl) (by kernel_rfl) (by kernel_rfl) (.none rfl) rfl rfl (.load rfl) h trivial (fun v245 st246 h => ?_)
        refine JD.pure_ (i := 1) [false] rfl (by kernel_rfl) (by kernel_rfl) (by kernel_rfl) (by kernel_rfl) (.none rfl) rfl rfl (.move rfl) ⟨st246, trivial⟩ ?_
        refine JD.pure_ (i := 2) [false] rfl (by kernel_rfl) (by kernel_rfl) (by kernel_rfl) (by kernel_rfl) (.none rfl) rfl rfl (.move rfl) ⟨st246, trivial⟩ ?_
        refine JD.sPure (i := 3) [false] rfl (by kernel_rfl) (by kernel_rfl) (by kernel_rfl) (by kernel_rfl) (.none rfl) rfl rfl (.indexAddr rfl rfl) h ⟨st246, trivial⟩ (fun vp247 h => ?_)
        obtain ⟨p247, rfl, h⟩ := h
        refine JD.pure_ (i := 4) [false] rfl (by kernel_rfl) (by kernel_rfl) (by kernel_rfl) (by kernel_rfl) (.none rfl) rfl rfl (.fieldAddr rfl (fa_105_0 _)) ⟨st246, trivial⟩ ?_
        refine JD.read (i := 5) [false] rfl (by kernel_rfl) (by kernel_rfl) (by kernel_rfl) (by kernel_rfl) (.none rfl) rfl rfl (.load rfl) h ⟨st246, trivial⟩ (fun vx248 st249 h => ?_)
        obtain ⟨x248, rfl, h⟩ := h
        refine JD.pure_ (i := 6) [false, false] rfl (by kernel_rfl) (by kernel_rfl) (by kernel_rfl) (by kernel_rfl) (.none rfl) rfl rfl (.move rfl) ⟨st249, st246, trivial⟩ ?_
        refine JD.pure_ (i := 7) [false, false] rfl (by kernel_rfl) (by kernel_rfl) (by kernel_rfl) (by kernel_rfl) (.none rfl) rfl rfl (.move rfl) ⟨st249, st246, trivial⟩ ?_
        refine JD.sPure (i := 8) [false, false] rfl (by kernel_rfl) (by kernel_rfl) (by kernel_rfl) (by kernel_rfl) (.none rfl) rfl rfl (.indexAddr rfl rfl) h ⟨st249, st246, trivial⟩ (fun vp250 h => ?_)
        obtain ⟨p250, rfl, h⟩ := h
        refine JD.pure_ (i := 9) [false, false] rfl (by kernel_rfl) (by kernel_rfl) (by kernel_rfl) (by kernel_rfl) (.none rfl) rfl rfl (.fieldAddr rfl (fa_105_1 _)) ⟨st249, st246, trivial⟩ ?_
        refine JD.read (i := 10) [false, false] rfl (by kernel_rfl) (by kernel_rfl) (by kernel_rfl) (by kernel_rfl) (.none rfl) rfl rfl (.load rfl) h ⟨st249, st246, trivial⟩ (fun vx251 st252 h => ?_)
        obtain ⟨x251, rfl, h⟩ := h
        refine JD.one (j := 11) (by kernel_rfl) ?_
        refine JD1.exC [true, true, true] rfl (by kernel_rfl) (.none rfl) rfl rfl (.func (vs := [v245, (.int .i64 x248), (.int .i64 x251)]) en_99 rfl) h (fun vx253 w h => ?_)
        obtain ⟨x253, rfl, h⟩ := h
        refine ⟨trivial, ?_⟩
        refine JD.pure_ (i := 12) [] rfl (by kernel_rfl) (by kernel_rfl) (by kernel_rfl) (by kernel_rfl) (.none rfl) rfl rfl (.eql rfl rfl) trivial ?_
        refine JD.pure_ (i := 13) [] rfl (by kernel_rfl) (by kernel_rfl) (by kernel_rfl) (by kernel_rfl) (.none rfl) rfl rfl (.move rfl) trivial ?_
        rcases orB_cases h with ⟨hc256, h⟩ | ⟨hc256, h⟩
        · refine JD.skip (i := 14) [] rfl (by kernel_rfl) (by kernel_rfl) (by kernel_rfl) (by kernel_rfl) (.off rfl rfl rfl hc256 rfl) rfl rfl trivial ?_
          refine JD.skip (i := 15) [] rfl (by kernel_rfl) (by kernel_rfl) (by kernel_rfl) (by kernel_rfl) (.off rfl rfl rfl hc256 rfl) rfl rfl trivial ?_
          refine JD.skip (i := 16) [] rfl (by kernel_rfl) (by kernel_rfl) (by kernel_rfl) (by kernel_rfl) (.off rfl rfl rfl hc256 rfl) rfl rfl trivial ?_
          refine JD.skip (i := 17) [] rfl (by kernel_rfl) (by kernel_rfl) (by kernel_rfl) (by kernel_rfl) (.undef rfl rfl rfl) rfl rfl trivial ?_
          refine JD.skip (i := 18) [] rfl (by kernel_rfl) (by kernel_rfl) (by kernel_rfl) (by kernel_rfl) (.undef rfl rfl rfl) rfl rfl trivial ?_
          refine JD.skip (i := 19) [] rfl (by kernel_rfl) (by kernel_rfl) (by kernel_rfl) (by kernel_rfl) (.undef rfl rfl rfl) rfl rfl trivial ?_
          refine JD.skip (i := 20) [] rfl (by kernel_rfl) (by kernel_rfl) (by kernel_rfl) (by kernel_rfl) (.undef rfl rfl rfl) rfl rfl trivial ?_
          refine JD.skip (i := 21) [] rfl (by kernel_rfl) (by kernel_rfl) (by kernel_rfl) (by kernel_rfl) (.undef rfl rfl rfl) rfl rfl trivial ?_
          refine JD.skip (i := 22) [] rfl (by kernel_rfl) (by kernel_rfl) (by kernel_rfl) (by kernel_rfl) (.undef rfl rfl rfl) rfl rfl trivial ?_
          refine JD.skip (i := 23) [] rfl (by kernel_rfl) (by kernel_rfl) (by kernel_rfl) (by kernel_rfl) (.undef rfl rfl rfl) rfl rfl trivial ?_
          refine JD.skip (i := 24) [] rfl (by kernel_rfl) (by kernel_rfl) (by kernel_rfl) (by kernel_rfl) (.undef rfl rfl rfl) rfl rfl trivial ?_
          refine JD.skip (i := 25) [] rfl (by kernel_rfl) (by kernel_rfl) (by kernel_rfl) (by kernel_rfl) (.undef rfl rfl rfl) rfl rfl trivial ?_
          refine JD.skip (i := 26) [] rfl (by kernel_rfl) (by kernel_rfl) (by kernel_rfl) (by kernel_rfl) (.undef rfl rfl rfl) rfl rfl trivial ?_
          refine JD.skip (i := 27) [] rfl (by kernel_rfl) (by kernel_rfl) (by kernel_rfl) (by kernel_rfl) (.undef rfl rfl rfl) rfl rfl trivial ?_
          refine JD.skip (i := 28) [] rfl (by kernel_rfl) (by kernel_rfl) (by kernel_rfl) (by kernel_rfl) (.undef rfl rfl rfl) rfl rfl trivial ?_
          refine JD.skip (i := 29) [] rfl (by kernel_rfl) (by kernel_rfl) (by kernel_rfl) (by kernel_rfl) (.off rfl rfl rfl hc256 rfl) rfl rfl trivial ?_
          refine JD.pure_ (i := 30) [] rfl (by kernel_rfl) (by kernel_rfl) (by kernel_rfl) (by kernel_rfl) (.none rfl) rfl rfl (.pickOn rfl hc256 rfl) trivial ?_
          refine JD.done (by kernel_rfl) ?_
          exact JX.joinEnd h ⟨rfl, rfl, rfl, rfl, rfl, trivial⟩
        · refine JD.pure_ (i := 14) [] rfl (by kernel_rfl) (by kernel_rfl) (by kernel_rfl) (by kernel_rfl) (.on rfl rfl rfl hc256) rfl rfl (.move rfl) trivial ?_
          refine JD.pure_ (i := 15) [] rfl (by kernel_rfl) (by kernel_rfl) (by kernel_rfl) (by kernel_rfl) (.on rfl rfl rfl hc256) rfl rfl (.gtr rfl rfl) trivial ?_
          refine JD.pure_ (i := 16) [] rfl (by kernel_rfl) (by kernel_rfl) (by kernel_rfl) (by kernel_rfl) (.on rfl rfl rfl hc256) rfl rfl (.move rfl) trivial ?_
          rcases andB_cases h with ⟨hc259, h⟩ | ⟨hc259, h⟩
          · refine JD.skip (i := 17) [] rfl (by kernel_rfl) (by kernel_rfl) (by kernel_rfl) (by kernel_rfl) (.off rfl rfl rfl hc259 rfl) rfl rfl trivial ?_
            refine JD.skip (i := 18) [] rfl (by kernel_rfl) (by kernel_rfl) (by kernel_rfl) (by kernel_rfl) (.off rfl rfl rfl hc259 rfl) rfl rfl trivial ?_
            refine JD.skip (i := 19) [] rfl (by kernel_rfl) (by kernel_rfl) (by kernel_rfl) (by kernel_rfl) (.off rfl rfl rfl hc259 rfl) rfl rfl trivial ?_
            refine JD.skip (i := 20) [] rfl (by kernel_rfl) (by kernel_rfl) (by kernel_rfl) (by kernel_rfl) (.off rfl rfl rfl hc259 rfl) rfl rfl trivial ?_
            refine JD.skip (i := 21) [] rfl (by kernel_rfl) (by kernel_rfl) (by kernel_rfl) (by kernel_rfl) (.off rfl rfl rfl hc259 rfl) rfl rfl trivial ?_
            refine JD.skip (i := 22) [] rfl (by kernel_rfl) (by kernel_rfl) (by kernel_rfl) (by kernel_rfl) (.off rfl rfl rfl hc259 rfl) rfl rfl trivial ?_
            refine JD.skip (i := 23) [] rfl (by kernel_rfl) (by kernel_rfl) (by kernel_rfl) (by kernel_rfl) (.off rfl rfl rfl hc259 rfl) rfl rfl trivial ?_
            refine JD.skip (i := 24) [] rfl (by kernel_rfl) (by kernel_rfl) (by kernel_rfl) (by kernel_rfl) (.off rfl rfl rfl hc259 rfl) rfl rfl trivial ?_
            refine JD.skip (i := 25) [] rfl (by kernel_rfl) (by kernel_rfl) (by kernel_rfl) (by kernel_rfl) (.off rfl rfl rfl hc259 rfl) rfl rfl trivial ?_
            refine JD.skip (i := 26) [] rfl (by kernel_rfl) (by kernel_rfl) (by kernel_rfl) (by kernel_rfl) (.off rfl rfl rfl hc259 rfl) rfl rfl trivial ?_
            refine JD.skip (i := 27) [] rfl (by kernel_rfl) (by kernel_rfl) (by kernel_rfl) (by kernel_rfl) (.off rfl rfl rfl hc259 rfl) rfl rfl trivial ?_
            refine JD.skip (i := 28) [] rfl (by kernel_rfl) (by kernel_rfl) (by kernel_rfl) (by kernel_rfl) (.off rfl rfl rfl hc259 rfl) rfl rfl trivial ?_
            refine JD.pure_ (i := 29) [] rfl (by kernel_rfl) (by kernel_rfl) (by kernel_rfl) (by kernel_rfl) (.on rfl rfl rfl hc256) rfl rfl (.pickOff rfl hc259 rfl) trivial ?_
            refine JD.pure_ (i := 30) [] rfl (by kernel_rfl) (by kernel_rfl) (by kernel_rfl) (by kernel_rfl) (.none rfl) rfl rfl (.pickOff rfl hc256 rfl) trivial ?_
            refine JD.done (by kernel_rfl) ?_
            exact JX.joinEnd h ⟨rfl, rfl, rfl, rfl, rfl, trivial⟩
          · refine JD.pure_ (i := 17) [] rfl (by kernel_rfl) (by kernel_rfl) (by kernel_rfl) (by kernel_rfl) (.on rfl rfl rfl hc259) rfl rfl (.move rfl) trivial ?_
            refine JD.pure_ (i := 18) [] rfl (by kernel_rfl) (by kernel_rfl) (by kernel_rfl) (by kernel_rfl) (.on rfl rfl rfl hc259) rfl rfl (.move rfl) trivial ?_
            refine JD.sPure (i := 19) [] rfl (by kernel_rfl) (by kernel_rfl) (by kernel_rfl) (by kernel_rfl) (.on rfl rfl rfl hc259) rfl rfl (.indexAddr rfl rfl) h trivial (fun vp260 h => ?_)
            obtain ⟨p260, rfl, h⟩ := h
            refine JD.pure_ (i := 20) [] rfl (by kernel_rfl) (by kernel_rfl) (by kernel_rfl) (by kernel_rfl) (.on rfl rfl rfl hc259) rfl rfl (.fieldAddr rfl (fa_105_0 _)) trivial ?_
            refine JD.read (i := 21) [] rfl (by kernel_rfl) (by kernel_rfl) (by kernel_rfl) (by kernel_rfl) (.on rfl rfl rfl hc259) rfl rfl (.load rfl) h trivial (fun vx261 st262 h => ?_)
            obtain ⟨x261, rfl, h⟩ := h
            refine JD.pure_ (i := 22) [false] rfl (by kernel_rfl) (by kernel_rfl) (by kernel_rfl) (by kernel_rfl) (.on rfl rfl rfl hc259) rfl rfl (.move rfl) ⟨st262, trivial⟩ ?_
            refine JD.pure_ (i := 23) [false] rfl (by kernel_rfl) (by kernel_rfl) (by kernel_rfl) (by kernel_rfl) (.on rfl rfl rfl hc259) rfl rfl (.move rfl) ⟨st262, trivial⟩ ?_
            refine JD.pure_ (i := 24) [false] rfl (by kernel_rfl) (by kernel_rfl) (by kernel_rfl) (by kernel_rfl) (.on rfl rfl rfl hc259) rfl rfl (.sub rfl rfl) ⟨st262, trivial⟩ ?_
            refine JD.sPure (i := 25) [false] rfl (by kernel_rfl) (by kernel_rfl) (by kernel_rfl) (by kernel_rfl) (.on rfl rfl rfl hc259) rfl rfl (.indexAddr rfl rfl) h ⟨st262, trivial⟩ (fun vp263 h => ?_)
            obtain ⟨p263, rfl, h⟩ := h
            refine JD.pure_ (i := 26) [false] rfl (by kernel_rfl) (by kernel_rfl) (by kernel_rfl) (by kernel_rfl) (.on rfl rfl rfl hc259) rfl rfl (.fieldAddr rfl (fa_105_0 _)) ⟨st262, trivial⟩ ?_
            refine JD.read (i := 27) [false] rfl (by kernel_rfl) (by kernel_rfl) (by kernel_rfl) (by kernel_rfl) (.on rfl rfl rfl hc259) rfl rfl (.load rfl) h ⟨st262, trivial⟩ (fun vx264 st265 h => ?_)
            obtain ⟨x264, rfl, h⟩ := h
            refine JD.pure_ (i := 28) [true, true] rfl (by kernel_rfl) (by kernel_rfl) (by kernel_rfl) (by kernel_rfl) (.on rfl rfl rfl hc259) rfl rfl (.leq rfl rfl) trivial ?_
            refine JD.pure_ (i := 29) [true, true] rfl (by kernel_rfl) (by kernel_rfl) (by kernel_rfl) (by kernel_rfl) (.on rfl rfl rfl hc256) rfl rfl (.pickOn rfl hc259 rfl) trivial ?_
            refine JD.pure_ (i := 30) [true, true] rfl (by kernel_rfl) (by kernel_rfl) (by kernel_rfl) (by kernel_rfl) (.none rfl) rfl rfl (.pickOff rfl hc256 rfl) trivial ?_
            refine JD.done (by kernel_rfl) ?_
            exact JX.joinEnd h ⟨rfl, rfl, rfl, rfl, rfl, trivial⟩
      · refine JX.then ?_
        refine J.cond (b := _) rfl h (fun h => ?_) (fun h => ?_)
        · refine J.seq ?_
          refine J.region ?_
          refine JL.exP (.none rfl) rfl rfl (.assign rfl) ?_
          refine JL.nil ?_
          refine JX.then ?_
          refine J.ret ?_
          refine JX.thenRet ?_
          refine JX.blockRet ?_
          refine JX.thenRet ?_
          refine JX.thenRet ?_
          refine JX.blockRet ?_
          refine JX.thenRet ?_
          exact JX.ret1 rfl rfl h
        · refine J.skip ?_
          refine JX.then ?_
          refine J.seq ?_
          refine J.region ?_
          refine JL.exP (.none rfl) rfl rfl (.assign rfl) ?_
          refine JL.nil ?_
          refine JX.then ?_
          refine J.block ?_
          refine J.loop h (fun s266 => [(1, a1), (2, (.pointer (some p237))), (4, (.int .i64 s266.1)), (6, (.int .i64 s240.2)), (7, (.int .i64 s266.2))]) ⟨rfl, rfl, rfl, rfl, rfl, trivial⟩ (fun I μ s266 w h => ?_)
          refine J.seq ?_
          refine J.seq ?_
          refine J.region ?_
          refine JL.exP (.none rfl) rfl rfl (.move rfl) ?_
          refine JL.exP (.none rfl) rfl rfl (.move rfl) ?_
          refine JL.exP (.none rfl) rfl rfl (.lss rfl rfl) ?_
          refine JL.nil ?_
          refine JX.then ?_
          refine J.cond (b := _) rfl h (fun h => ?_) (fun h => ?_)
          · refine J.skip ?_
            refine JX.then ?_
            refine J.seq ?_
            refine J.block ?_
            refine J.seq ?_
            refine J.draw [[], [], [0, 1], [0, 1, 2], [0, 1, 2, 3], [], [], [5, 6], [5, 6, 7], [5, 6, 7, 8], [0, 1, 2, 3, 4, 5, 6, 7, 8, 9]] (by kernel_rfl) mixed h (fun w h => ?_)
            refine JD.pure_ (i := 0) [] rfl (by kernel_rfl) (by kernel_rfl) (by kernel_rfl) (by kernel_rfl) (.none rfl) rfl rfl (.move rfl) trivial ?_
            refine JD.pure_ (i := 1) [] rfl (by kernel_rfl) (by kernel_rfl) (by kernel_rfl) (by kernel_rfl) (.none rfl) rfl rfl (.move rfl) trivial ?_
            refine JD.sPure (i := 2) [] rfl (by kernel_rfl) (by kernel_rfl) (by kernel_rfl) (by kernel_rfl) (.none rfl) rfl rfl (.indexAddr rfl rfl) h trivial (fun vp268 h => ?_)
            obtain ⟨p268, rfl, h⟩ := h
            refine JD.pure_ (i := 3) [] rfl (by kernel_rfl) (by kernel_rfl) (by kernel_rfl) (by kernel_rfl) (.none rfl) rfl rfl (.fieldAddr rfl (fa_105_1 _)) trivial ?_
            refine JD.read (i := 4) [] rfl (by kernel_rfl) (by kernel_rfl) (by kernel_rfl) (by kernel_rfl) (.none rfl) rfl rfl (.load rfl) h trivial (fun vx269 st270 h => ?_)
            obtain ⟨x269, rfl, h⟩ := h
            refine JD.pure_ (i := 5) [false] rfl (by kernel_rfl) (by kernel_rfl) (by kernel_rfl) (by kernel_rfl) (.none rfl) rfl rfl (.move rfl) ⟨st270, trivial⟩ ?_
            refine JD.pure_ (i := 6) [false] rfl (by kernel_rfl) (by kernel_rfl) (by kernel_rfl) (by kernel_rfl) (.none rfl) rfl rfl (.move rfl) ⟨st270, trivial⟩ ?_
            refine JD.sPure (i := 7) [false] rfl (by kernel_rfl) (by kernel_rfl) (by kernel_rfl) (by kernel_rfl) (.none rfl) rfl rfl (.indexAddr rfl rfl) h ⟨st270, trivial⟩ (fun vp271 h => ?_)
            obtain ⟨p271, rfl, h⟩ := h
            refine JD.pure_ (i := 8) [false] rfl (by kernel_rfl) (by kernel_rfl) (by kernel_rfl) (by kernel_rfl) (.none rfl) rfl rfl (.fieldAddr rfl (fa_105_1 _)) ⟨st270, trivial⟩ ?_
            refine JD.read (i := 9) [false] rfl (by kernel_rfl) (by kernel_rfl) (by kernel_rfl) (by kernel_rfl) (.none rfl) rfl rfl (.load rfl) h ⟨st270, trivial⟩ (fun vx272 st273 h => ?_)
            obtain ⟨x272, rfl, h⟩ := h
            refine JD.pure_ (i := 10) [true, true] rfl (by kernel_rfl) (by kernel_rfl) (by kernel_rfl) (by kernel_rfl) (.none rfl) rfl rfl (.eql rfl rfl) trivial ?_
            refine JD.done (by kernel_rfl) ?_
            refine JX.then ?_
            refine J.cond (b := _) rfl h (fun h => ?_) (fun h => ?_)
            · refine J.seq ?_
              refine J.region ?_
              refine JL.exP (.none rfl) rfl rfl (.assign rfl) ?_
              refine JL.nil ?_
              refine JX.then ?_
              refine J.ret ?_
              refine JX.blockRet ?_
              refine JX.thenRet ?_
              refine JX.thenRet ?_
              refine JX.blockRet ?_
              refine JX.blockRet ?_
              refine JX.thenRet ?_
              refine JX.thenRet ?_
              refine JX.blockRet ?_
              refine JX.thenRet ?_
              exact JX.ret1 rfl rfl h
            · refine J.skip ?_
              refine JX.blockNormal ?_
              refine JX.then ?_
              refine J.region ?_
              refine JL.exP (.none rfl) rfl rfl (.move rfl) ?_
              refine JL.exP (.none rfl) rfl rfl (.add rfl rfl) ?_
              refine JL.exP (.none rfl) rfl rfl (.assign rfl) ?_
              refine JL.nil ?_
              exact JX.loopEnd h ⟨rfl, rfl, rfl, rfl, rfl, trivial⟩
          · refine J.exit ?_
            refine JX.thenExit ?_
            refine JX.thenExit ?_
            refine JX.blockHere ?_
            refine JX.blockNormal ?_
            refine JX.then ?_
            refine J.region ?_
            refine JL.exP (.none rfl) rfl rfl (.move rfl) ?_
            refine JL.exP (.none rfl) rfl rfl (.add rfl rfl) ?_
            refine JL.exP (.none rfl) rfl rfl (.assign rfl) ?_
            refine JL.nil ?_
            exact JX.loopEnd h ⟨rfl, rfl, rfl, rfl, trivial⟩
    · refine J.exit ?_
      refine JX.thenExit ?_
      refine JX.thenExit ?_
      refine JX.blockHere ?_
      refine JX.then ?_
      refine J.seq ?_
      refine J.region ?_
      refine JL.exP (.none rfl) rfl rfl (.assign rfl) ?_
      refine JL.nil ?_
      refine JX.then ?_
      refine J.ret ?_
      exact JX.ret1 rfl rfl h

/-- cabstand/cabstandref18.Weight -/
def ref18_Weight (a0 : Value) (a1 : Int) (a2 : Int) (K : Value → WP) : WP :=
  semA Try.prog (Instr.box 40 a0) fun p274 =>
  loopH (σ := Int × Int) (fun kc276 s275 =>
    semV Try.prog (loadVar 38 (p274.add 2)) fun v277 =>
    pureI Try.prog .i64 (Builtin.len_ #[38] 3 #[v277]) fun x278 =>
    iteH (decide (s275.2 < x278)) (
      joinH (α := Bool) (fun y279 =>
        iteH y279 (
          semV Try.prog (loadVar 38 (p274.add 2)) fun v290 =>
          pureA Try.prog (Instr.indexAt 38 v290 (.int .i64 s275.2)) fun p291 =>
          semI Try.prog .i64 (loadVar 3 (p291.add 2)) fun x292 =>
          K (.int .i64 x292)) (
          kc276 (s275.1, (IntKind.i64.wrap (s275.2 + 1))))) fun k280 =>
        semV Try.prog (loadVar 38 (p274.add 2)) fun v281 =>
        pureA Try.prog (Instr.indexAt 38 v281 (.int .i64 s275.2)) fun p282 =>
        semI Try.prog .i64 (loadVar 3 (p282.add 0)) fun x283 =>
        andB ((x283 : Int) == a1) (fun k285 =>
          semV Try.prog (loadVar 38 (p274.add 2)) fun v287 =>
          pureA Try.prog (Instr.indexAt 38 v287 (.int .i64 s275.2)) fun p288 =>
          semI Try.prog .i64 (loadVar 3 (p288.add 1)) fun x289 =>
          k285 ((x289 : Int) == a2)) fun b284 =>
        k280 b284) (
      K (.int .i64 0))) (0, 0)
set_option maxRecDepth 100000 in
set_option maxHeartbeats 1000000 in
theorem ref18_Weight_ok {a0 : Value} {a1 : Int} {a2 : Int} {K : Value → WP} {w : World} (h : ref18_Weight a0 a1 a2 K w) : callH Try.prog 99 #[a0, (.int .i64 a1), (.int .i64 a2)] K w := by
  refine enter (l := [a0, (.int .i64 a1), (.int .i64 a2)]) Try.func99 rfl rfl rfl ?_
  show J Try.prog 39 [(0, a0), (1, (.int .i64 a1)), (2, (.int .i64 a2))] _ _ _
  unfold ref18_Weight at h
  refine J.seq ?_
  refine J.region ?_
  refine JL.exV (.none rfl) rfl rfl (.box rfl) h (fun vp274 w h => ?_)
  obtain ⟨p274, rfl, h⟩ := h
  refine JL.exP (.none rfl) rfl rfl (.assign rfl) ?_
  refine JL.nil ?_
  refine JX.then ?_
  refine J.seq ?_
  refine J.seq ?_
  refine J.region ?_
  refine JL.exP (.none rfl) rfl rfl (.assign rfl) ?_
  refine JL.nil ?_
  refine JX.then ?_
  refine J.block ?_
  refine J.loop h (fun s275 => [(1, (.int .i64 a1)), (2, (.int .i64 a2)), (3, (.pointer (some p274))), (6, (.int .i64 s275.1)), (7, (.int .i64 s275.2))]) ⟨rfl, rfl, rfl, rfl, rfl, trivial⟩ (fun I μ s275 w h => ?_)
  refine J.seq ?_
  refine J.seq ?_
  refine J.region ?_
  refine JL.exP (.none rfl) rfl rfl (.move rfl) ?_
  refine JL.exP (.none rfl) rfl rfl (.fieldAddr rfl (fa_40_2 _)) ?_
  refine JL.exV (.none rfl) rfl rfl (.load rfl) h (fun v277 w h => ?_)
  refine JL.sPure (.none rfl) rfl rfl ((.len (vs := [v277]) rfl)) h (fun vx278 w h => ?_)
  obtain ⟨x278, rfl, h⟩ := h
  refine JL.exP (.none rfl) rfl rfl (.lss rfl rfl) ?_
  refine JL.nil ?_
  refine JX.then ?_
  refine J.cond (b := _) rfl h (fun h => ?_) (fun h => ?_)
  · refine J.skip ?_
    refine JX.then ?_
    refine J.seq ?_
    refine J.block ?_
    refine J.seq ?_
    refine J.join h (fun y279 => [(1, (.int .i64 a1)), (2, (.int .i64 a2)), (3, (.pointer (some p274))), (6, (.int .i64 s275.1)), (7, (.int .i64 s275.2)), (32, (.bool y279))]) (fun k280 w h => ?_) (fun y279 w h => ?_)
    · refine J.region ?_
      refine JL.exP (.none rfl) rfl rfl (.fieldAddr rfl (fa_40_2 _)) ?_
      refine JL.exV (.none rfl) rfl rfl (.load rfl) h (fun v281 w h => ?_)
      refine JL.exP (.none rfl) rfl rfl (.move rfl) ?_
      refine JL.sPure (.none rfl) rfl rfl (.indexAddr rfl rfl) h (fun vp282 w h => ?_)
      obtain ⟨p282, rfl, h⟩ := h
      refine JL.exP (.none rfl) rfl rfl (.fieldAddr rfl (fa_103_0 _)) ?_
      refine JL.exV (.none rfl) rfl rfl (.load rfl) h (fun vx283 w h => ?_)
      obtain ⟨x283, rfl, h⟩ := h
      refine JL.exP (.none rfl) rfl rfl (.move rfl) ?_
      refine JL.exP (.none rfl) rfl rfl (.eql rfl rfl) ?_
      refine JL.exP (.none rfl) rfl rfl (.move rfl) ?_
      rcases andB_cases h with ⟨hc286, h⟩ | ⟨hc286, h⟩
      · refine JL.exNo (.off rfl rfl rfl hc286 rfl) rfl rfl ?_
        refine JL.exNo (.off rfl rfl rfl hc286 rfl) rfl rfl ?_
        refine JL.exNo (.off rfl rfl rfl hc286 rfl) rfl rfl ?_
        refine JL.exNo (.off rfl rfl rfl hc286 rfl) rfl rfl ?_
        refine JL.exNo (.off rfl rfl rfl hc286 rfl) rfl rfl ?_
        refine JL.exNo (.off rfl rfl rfl hc286 rfl) rfl rfl ?_
        refine JL.exNo (.off rfl rfl rfl hc286 rfl) rfl rfl ?_
        refine JL.exNo (.off rfl rfl rfl hc286 rfl) rfl rfl ?_
        refine JL.exP (.none rfl) rfl rfl (.pickOff rfl hc286 rfl) ?_
        refine JL.nil ?_
        exact JX.joinEnd h ⟨rfl, rfl, rfl, rfl, rfl, rfl, trivial⟩
      · refine JL.exP (.on rfl rfl rfl hc286) rfl rfl (.fieldAddr rfl (fa_40_2 _)) ?_
        refine JL.exV (.on rfl rfl rfl hc286) rfl rfl (.load rfl) h (fun v287 w h => ?_)
        refine JL.exP (.on rfl rfl rfl hc286) rfl rfl (.move rfl) ?_
        refine JL.sPure (.on rfl rfl rfl hc286) rfl rfl (.indexAddr rfl rfl) h (fun vp288 w h => ?_)
        obtain ⟨p288, rfl, h⟩ := h
        refine JL.exP (.on rfl rfl rfl hc286) rfl rfl (.fieldAddr rfl (fa_103_1 _)) ?_
        refine JL.exV (.on rfl rfl rfl hc286) rfl rfl (.load rfl) h (fun vx289 w h => ?_)
        obtain ⟨x289, rfl, h⟩ := h
        refine JL.exP (.on rfl rfl rfl hc286) rfl rfl (.move rfl) ?_
        refine JL.exP (.on rfl rfl rfl hc286) rfl rfl (.eql rfl rfl) ?_
        refine JL.exP (.none rfl) rfl rfl (.pickOn rfl hc286 rfl) ?_
        refine JL.nil ?_
        exact JX.joinEnd h ⟨rfl, rfl, rfl, rfl, rfl, rfl, trivial⟩
    · refine JX.then ?_
      refine J.cond (b := _) rfl h (fun h => ?_) (fun h => ?_)
      · refine J.seq ?_
        refine J.region ?_
        refine JL.exP (.none rfl) rfl rfl (.fieldAddr rfl (fa_40_2 _)) ?_
        refine JL.exV (.none rfl) rfl rfl (.load rfl) h (fun v290 w h => ?_)
        refine JL.exP (.none rfl) rfl rfl (.move rfl) ?_
        refine JL.sPure (.none rfl) rfl rfl (.indexAddr rfl rfl) h (fun vp291 w h => ?_)
        obtain ⟨p291, rfl, h⟩ := h
        refine JL.exP (.none rfl) rfl rfl (.fieldAddr rfl (fa_103_2 _)) ?_
        refine JL.exV (.none rfl) rfl rfl (.load rfl) h (fun vx292 w h => ?_)
        obtain ⟨x292, rfl, h⟩ := h
        refine JL.exP (.none rfl) rfl rfl (.assign rfl) ?_
        refine JL.nil ?_
        refine JX.then ?_
        refine J.ret ?_
        refine JX.blockRet ?_
        refine JX.thenRet ?_
        refine JX.thenRet ?_
        refine JX.blockRet ?_
        refine JX.thenRet ?_
        exact JX.ret1 rfl rfl h
      · refine J.skip ?_
        refine JX.blockNormal ?_
        refine JX.then ?_
        refine J.region ?_
        refine JL.exP (.none rfl) rfl rfl (.move rfl) ?_
        refine JL.exP (.none rfl) rfl rfl (.add rfl rfl) ?_
        refine JL.exP (.none rfl) rfl rfl (.assign rfl) ?_
        refine JL.nil ?_
        exact JX.loopEnd h ⟨rfl, rfl, rfl, rfl, rfl, trivial⟩
  · refine J.exit ?_
    refine JX.thenExit ?_
    refine JX.thenExit ?_
    refine JX.blockHere ?_
    refine JX.then ?_
    refine J.seq ?_
    refine J.region ?_
    refine JL.exP (.none rfl) rfl rfl (.assign rfl) ?_
    refine JL.nil ?_
    refine JX.then ?_
    refine J.ret ?_
    exact JX.ret1 rfl rfl h

end S
end Go.Cab

