/- A part of the proof: FairS. -/
import Derived.Test.YtkjcjlcimgcfcaaBase
namespace Go.Cab
set_option linter.unusedSimpArgs false
set_option linter.unusedVariables false
set_option linter.unusedSectionVars false
open Go Go.Proofs
theorem mixed : Try.prog.follows .mixedOrders = true := by kernel_rfl
theorem en_22 : Enters Try.prog 22 := .of Try.func22 rfl (by kernel_rfl)
theorem en_23 : Enters Try.prog 23 := .of Try.func23 rfl (by kernel_rfl)
theorem en_24 : Enters Try.prog 24 := .of Try.func24 rfl (by kernel_rfl)
theorem en_21 : Enters Try.prog 21 := .of Try.func21 rfl (by kernel_rfl)
theorem fa_46_1 (a : Addr) (w : World) : (Instr.fieldAt 46 (.pointer (some a)) 1).run Try.prog w = .ok (.pointer (some (a.add 1))) w := by kernel_rfl
theorem en_44 : Enters Try.prog 44 := .of Try.func44 rfl (by kernel_rfl)
theorem en_46 : Enters Try.prog 46 := .of Try.func46 rfl (by kernel_rfl)
theorem en_47 : Enters Try.prog 47 := .of Try.func47 rfl (by kernel_rfl)
theorem en_54 : Enters Try.prog 54 := .of Try.func54 rfl (by kernel_rfl)
theorem en_18 : Enters Try.prog 18 := .of Try.func18 rfl (by kernel_rfl)
theorem en_25 : Enters Try.prog 25 := .of Try.func25 rfl (by kernel_rfl)
theorem en_55 : Enters Try.prog 55 := .of Try.func55 rfl (by kernel_rfl)
theorem fa_56_0 (a : Addr) (w : World) : (Instr.fieldAt 56 (.pointer (some a)) 0).run Try.prog w = .ok (.pointer (some (a.add 0))) w := by kernel_rfl
theorem fa_54_0 (a : Addr) (w : World) : (Instr.fieldAt 54 (.pointer (some a)) 0).run Try.prog w = .ok (.pointer (some (a.add 0))) w := by kernel_rfl
theorem fa_46_0 (a : Addr) (w : World) : (Instr.fieldAt 46 (.pointer (some a)) 0).run Try.prog w = .ok (.pointer (some (a.add 0))) w := by kernel_rfl
theorem fa_64_2 (a : Addr) (w : World) : (Instr.fieldAt 64 (.pointer (some a)) 2).run Try.prog w = .ok (.pointer (some (a.add 2))) w := by kernel_rfl
theorem fa_64_3 (a : Addr) (w : World) : (Instr.fieldAt 64 (.pointer (some a)) 3).run Try.prog w = .ok (.pointer (some (a.add 3))) w := by kernel_rfl
theorem fa_64_0 (a : Addr) (w : World) : (Instr.fieldAt 64 (.pointer (some a)) 0).run Try.prog w = .ok (.pointer (some (a.add 0))) w := by kernel_rfl
theorem fa_64_1 (a : Addr) (w : World) : (Instr.fieldAt 64 (.pointer (some a)) 1).run Try.prog w = .ok (.pointer (some (a.add 1))) w := by kernel_rfl
theorem en_37 : Enters Try.prog 37 := .of Try.func37 rfl (by kernel_rfl)
theorem fa_46_2 (a : Addr) (w : World) : (Instr.fieldAt 46 (.pointer (some a)) 2).run Try.prog w = .ok (.pointer (some (a.add 2))) w := by kernel_rfl
theorem fa_56_2 (a : Addr) (w : World) : (Instr.fieldAt 56 (.pointer (some a)) 2).run Try.prog w = .ok (.pointer (some (a.add 17))) w := by kernel_rfl
theorem fa_56_1 (a : Addr) (w : World) : (Instr.fieldAt 56 (.pointer (some a)) 1).run Try.prog w = .ok (.pointer (some (a.add 16))) w := by kernel_rfl
theorem fa_126_1 (a : Addr) (w : World) : (Instr.fieldAt 126 (.pointer (some a)) 1).run Try.prog w = .ok (.pointer (some (a.add 13))) w := by kernel_rfl
theorem fa_46_3 (a : Addr) (w : World) : (Instr.fieldAt 46 (.pointer (some a)) 3).run Try.prog w = .ok (.pointer (some (a.add 3))) w := by kernel_rfl
theorem en_68 : Enters Try.prog 68 := .of Try.func68 rfl (by kernel_rfl)
theorem fa_40_0 (a : Addr) (w : World) : (Instr.fieldAt 40 (.pointer (some a)) 0).run Try.prog w = .ok (.pointer (some (a.add 0))) w := by kernel_rfl
theorem fa_40_1 (a : Addr) (w : World) : (Instr.fieldAt 40 (.pointer (some a)) 1).run Try.prog w = .ok (.pointer (some (a.add 1))) w := by kernel_rfl
theorem fa_46_4 (a : Addr) (w : World) : (Instr.fieldAt 46 (.pointer (some a)) 4).run Try.prog w = .ok (.pointer (some (a.add 6))) w := by kernel_rfl
theorem fa_44_0 (a : Addr) (w : World) : (Instr.fieldAt 44 (.pointer (some a)) 0).run Try.prog w = .ok (.pointer (some (a.add 0))) w := by kernel_rfl
theorem en_69 : Enters Try.prog 69 := .of Try.func69 rfl (by kernel_rfl)
theorem fa_44_1 (a : Addr) (w : World) : (Instr.fieldAt 44 (.pointer (some a)) 1).run Try.prog w = .ok (.pointer (some (a.add 1))) w := by kernel_rfl
theorem fa_44_2 (a : Addr) (w : World) : (Instr.fieldAt 44 (.pointer (some a)) 2).run Try.prog w = .ok (.pointer (some (a.add 2))) w := by kernel_rfl
theorem fa_40_2 (a : Addr) (w : World) : (Instr.fieldAt 40 (.pointer (some a)) 2).run Try.prog w = .ok (.pointer (some (a.add 2))) w := by kernel_rfl
theorem fa_103_0 (a : Addr) (w : World) : (Instr.fieldAt 103 (.pointer (some a)) 0).run Try.prog w = .ok (.pointer (some (a.add 0))) w := by kernel_rfl
theorem fa_105_0 (a : Addr) (w : World) : (Instr.fieldAt 105 (.pointer (some a)) 0).run Try.prog w = .ok (.pointer (some (a.add 0))) w := by kernel_rfl
theorem fa_103_1 (a : Addr) (w : World) : (Instr.fieldAt 103 (.pointer (some a)) 1).run Try.prog w = .ok (.pointer (some (a.add 1))) w := by kernel_rfl
theorem fa_103_2 (a : Addr) (w : World) : (Instr.fieldAt 103 (.pointer (some a)) 2).run Try.prog w = .ok (.pointer (some (a.add 2))) w := by kernel_rfl
theorem en_96 : Enters Try.prog 96 := .of Try.func96 rfl (by kernel_rfl)
theorem fa_155_0 (a : Addr) (w : World) : (Instr.fieldAt 155 (.pointer (some a)) 0).run Try.prog w = .ok (.pointer (some (a.add 0))) w := by kernel_rfl
theorem fa_155_1 (a : Addr) (w : World) : (Instr.fieldAt 155 (.pointer (some a)) 1).run Try.prog w = .ok (.pointer (some (a.add 3))) w := by kernel_rfl
theorem en_113 : Enters Try.prog 113 := .of Try.func113 rfl (by kernel_rfl)
theorem fa_105_1 (a : Addr) (w : World) : (Instr.fieldAt 105 (.pointer (some a)) 1).run Try.prog w = .ok (.pointer (some (a.add 1))) w := by kernel_rfl
theorem en_62 : Enters Try.prog 62 := .of Try.func62 rfl (by kernel_rfl)
namespace S
/-- cabstand/cabstandlaw21.FairNone -/
def law21_FairNone (a0 : Value) (K : Value → WP) : WP :=
  semA Try.prog (Instr.box 46 a0) fun p1 =>
  pureV Try.prog (Instr.build 64 #[]) fun v2 =>
  semA Try.prog (Instr.box 64 v2) fun p3 =>
  joinH (α := Bool) (fun y4 =>
    K (.bool y4)) fun k5 =>
    semV Try.prog (loadVar 46 p1) fun v6 =>
    callI Try.prog 22 #[(.pointer none), v6] .i64 fun x7 =>
    andB ((x7 : Int) == 2) (fun k9 =>
      semV Try.prog (loadVar 46 p1) fun v11 =>
      callI Try.prog 22 #[(.pointer (some p3)), v11] .i64 fun x12 =>
      k9 ((x12 : Int) == 2)) fun b8 =>
    andB b8 (fun k14 =>
      callI Try.prog 23 #[(.pointer none)] .i64 fun x16 =>
      callI Try.prog 23 #[(.pointer (some p3))] .i64 fun x17 =>
      k14 (((IntKind.i64.wrap (x16 + x17)) : Int) == 0)) fun b13 =>
    andB b13 (fun k19 =>
      callH Try.prog 24 #[(.pointer none)] fun v21 =>
      pureI Try.prog .i64 (Builtin.len_ #[67] 3 #[v21]) fun x22 =>
      callH Try.prog 24 #[(.pointer (some p3))] fun v23 =>
      pureI Try.prog .i64 (Builtin.len_ #[67] 3 #[v23]) fun x24 =>
      k19 (((IntKind.i64.wrap (x22 + x24)) : Int) == 0)) fun b18 =>
    andB b18 (fun k26 =>
      callB Try.prog 21 #[] fun b28 =>
      k26 b28) fun b25 =>
    k5 b25
set_option maxRecDepth 100000 in
set_option maxHeartbeats 1000000 in
theorem law21_FairNone_ok {a0 : Value} {K : Value → WP} {w : World} (h : law21_FairNone a0 K w) : callH Try.prog 5 #[a0] K w := by
  refine enter (l := [a0]) Try.func5 rfl rfl rfl ?_
  show J Try.prog 38 [(0, a0)] _ _ _
  unfold law21_FairNone at h
  refine J.seq ?_
  refine J.region ?_
  refine JL.exV (.none rfl) rfl rfl (.box rfl) h (fun vp1 w h => ?_)
  obtain ⟨p1, rfl, h⟩ := h
  refine JL.exP (.none rfl) rfl rfl (.assign rfl) ?_
  refine JL.nil ?_
  refine JX.then ?_
  refine J.seq ?_
  refine J.region ?_
  refine JL.exP (.none rfl) rfl rfl (.assign rfl) ?_
  refine JL.nil ?_
  refine JX.then ?_
  refine J.seq ?_
  refine J.region ?_
  refine JL.sPure (.none rfl) rfl rfl ((.build (l' := []) rfl)) h (fun v2 w h => ?_)
  refine JL.exV (.none rfl) rfl rfl (.box rfl) h (fun vp3 w h => ?_)
  obtain ⟨p3, rfl, h⟩ := h
  refine JL.exP (.none rfl) rfl rfl (.assign rfl) ?_
  refine JL.nil ?_
  refine JX.then ?_
  refine J.seq ?_
  refine J.join h (fun y4 => [(2, (.bool y4))]) (fun k5 w h => ?_) (fun y4 w h => ?_)
  · refine J.region ?_
    refine JL.exP (.none rfl) rfl rfl (.move rfl) ?_
    refine JL.exV (.none rfl) rfl rfl (.load rfl) h (fun v6 w h => ?_)
    refine JL.exC (.none rfl) rfl rfl (.func (vs := [(.pointer none), v6]) en_22 rfl) h (fun vx7 w h => ?_)
    obtain ⟨x7, rfl, h⟩ := h
    refine JL.exP (.none rfl) rfl rfl (.eql rfl rfl) ?_
    refine JL.exP (.none rfl) rfl rfl (.move rfl) ?_
    rcases andB_cases h with ⟨hc10, h⟩ | ⟨hc10, h⟩
    · refine JL.exNo (.off rfl rfl rfl hc10 rfl) rfl rfl ?_
      refine JL.exNo (.off rfl rfl rfl hc10 rfl) rfl rfl ?_
      refine JL.exNo (.off rfl rfl rfl hc10 rfl) rfl rfl ?_
      refine JL.exNo (.off rfl rfl rfl hc10 rfl) rfl rfl ?_
      refine JL.exP (.none rfl) rfl rfl (.pickOff rfl hc10 rfl) ?_
      refine JL.exP (.none rfl) rfl rfl (.move rfl) ?_
      have h := andB_false' h
      refine JL.exNo (.off rfl rfl rfl rfl rfl) rfl rfl ?_
      refine JL.exNo (.off rfl rfl rfl rfl rfl) rfl rfl ?_
      refine JL.exNo (.off rfl rfl rfl rfl rfl) rfl rfl ?_
      refine JL.exNo (.off rfl rfl rfl rfl rfl) rfl rfl ?_
      refine JL.exNo (.off rfl rfl rfl rfl rfl) rfl rfl ?_
      refine JL.exNo (.off rfl rfl rfl rfl rfl) rfl rfl ?_
      refine JL.exP (.none rfl) rfl rfl (.pickOff rfl rfl rfl) ?_
      refine JL.exP (.none rfl) rfl rfl (.move rfl) ?_
      have h := andB_false' h
      refine JL.exNo (.off rfl rfl rfl rfl rfl) rfl rfl ?_
      refine JL.exNo (.off rfl rfl rfl rfl rfl) rfl rfl ?_
      refine JL.exNo (.off rfl rfl rfl rfl rfl) rfl rfl ?_
      refine JL.exNo (.off rfl rfl rfl rfl rfl) rfl rfl ?_
      refine JL.exNo (.off rfl rfl rfl rfl rfl) rfl rfl ?_
      refine JL.exNo (.off rfl rfl rfl rfl rfl) rfl rfl ?_
      refine JL.exNo (.off rfl rfl rfl rfl rfl) rfl rfl ?_
      refine JL.exNo (.off rfl rfl rfl rfl rfl) rfl rfl ?_
      refine JL.exP (.none rfl) rfl rfl (.pickOff rfl rfl rfl) ?_
      refine JL.exP (.none rfl) rfl rfl (.move rfl) ?_
      have h := andB_false' h
      refine JL.exNo (.off rfl rfl rfl rfl rfl) rfl rfl ?_
      refine JL.exP (.none rfl) rfl rfl (.pickOff rfl rfl rfl) ?_
      refine JL.exP (.none rfl) rfl rfl (.assign rfl) ?_
      refine JL.nil ?_
      exact JX.joinEnd h ⟨rfl, trivial⟩
    · refine JL.exP (.on rfl rfl rfl hc10) rfl rfl (.move rfl) ?_
      refine JL.exV (.on rfl rfl rfl hc10) rfl rfl (.load rfl) h (fun v11 w h => ?_)
      refine JL.exC (.on rfl rfl rfl hc10) rfl rfl (.func (vs := [(.pointer (some p3)), v11]) en_22 rfl) h (fun vx12 w h => ?_)
      obtain ⟨x12, rfl, h⟩ := h
      refine JL.exP (.on rfl rfl rfl hc10) rfl rfl (.eql rfl rfl) ?_
      refine JL.exP (.none rfl) rfl rfl (.pickOn rfl hc10 rfl) ?_
      refine JL.exP (.none rfl) rfl rfl (.move rfl) ?_
      rcases andB_cases h with ⟨hc15, h⟩ | ⟨hc15, h⟩
      · refine JL.exNo (.off rfl rfl rfl hc15 rfl) rfl rfl ?_
        refine JL.exNo (.off rfl rfl rfl hc15 rfl) rfl rfl ?_
        refine JL.exNo (.off rfl rfl rfl hc15 rfl) rfl rfl ?_
        refine JL.exNo (.off rfl rfl rfl hc15 rfl) rfl rfl ?_
        refine JL.exNo (.off rfl rfl rfl hc15 rfl) rfl rfl ?_
        refine JL.exNo (.off rfl rfl rfl hc15 rfl) rfl rfl ?_
        refine JL.exP (.none rfl) rfl rfl (.pickOff rfl hc15 rfl) ?_
        refine JL.exP (.none rfl) rfl rfl (.move rfl) ?_
        have h := andB_false' h
        refine JL.exNo (.off rfl rfl rfl rfl rfl) rfl rfl ?_
        refine JL.exNo (.off rfl rfl rfl rfl rfl) rfl rfl ?_
        refine JL.exNo (.off rfl rfl rfl rfl rfl) rfl rfl ?_
        refine JL.exNo (.off rfl rfl rfl rfl rfl) rfl rfl ?_
        refine JL.exNo (.off rfl rfl rfl rfl rfl) rfl rfl ?_
        refine JL.exNo (.off rfl rfl rfl rfl rfl) rfl rfl ?_
        refine JL.exNo (.off rfl rfl rfl rfl rfl) rfl rfl ?_
        refine JL.exNo (.off rfl rfl rfl rfl rfl) rfl rfl ?_
        refine JL.exP (.none rfl) rfl rfl (.pickOff rfl rfl rfl) ?_
        refine JL.exP (.none rfl) rfl rfl (.move rfl) ?_
        have h := andB_false' h
        refine JL.exNo (.off rfl rfl rfl rfl rfl) rfl rfl ?_
        refine JL.exP (.none rfl) rfl rfl (.pickOff rfl rfl rfl) ?_
        refine JL.exP (.none rfl) rfl rfl (.assign rfl) ?_
        refine JL.nil ?_
        exact JX.joinEnd h ⟨rfl, trivial⟩
      · refine JL.exP (.on rfl rfl rfl hc15) rfl rfl (.move rfl) ?_
        refine JL.exC (.on rfl rfl rfl hc15) rfl rfl (.func (vs := [(.pointer none)]) en_23 rfl) h (fun vx16 w h => ?_)
        obtain ⟨x16, rfl, h⟩ := h
        refine JL.exP (.on rfl rfl rfl hc15) rfl rfl (.move rfl) ?_
        refine JL.exC (.on rfl rfl rfl hc15) rfl rfl (.func (vs := [(.pointer (some p3))]) en_23 rfl) h (fun vx17 w h => ?_)
        obtain ⟨x17, rfl, h⟩ := h
        refine JL.exP (.on rfl rfl rfl hc15) rfl rfl (.add rfl rfl) ?_
        refine JL.exP (.on rfl rfl rfl hc15) rfl rfl (.eql rfl rfl) ?_
        refine JL.exP (.none rfl) rfl rfl (.pickOn rfl hc15 rfl) ?_
        refine JL.exP (.none rfl) rfl rfl (.move rfl) ?_
        rcases andB_cases h with ⟨hc20, h⟩ | ⟨hc20, h⟩
        · refine JL.exNo (.off rfl rfl rfl hc20 rfl) rfl rfl ?_
          refine JL.exNo (.off rfl rfl rfl hc20 rfl) rfl rfl ?_
          refine JL.exNo (.off rfl rfl rfl hc20 rfl) rfl rfl ?_
          refine JL.exNo (.off rfl rfl rfl hc20 rfl) rfl rfl ?_
          refine JL.exNo (.off rfl rfl rfl hc20 rfl) rfl rfl ?_
          refine JL.exNo (.off rfl rfl rfl hc20 rfl) rfl rfl ?_
          refine JL.exNo (.off rfl rfl rfl hc20 rfl) rfl rfl ?_
          refine JL.exNo (.off rfl rfl rfl hc20 rfl) rfl rfl ?_
          refine JL.exP (.none rfl) rfl rfl (.pickOff rfl hc20 rfl) ?_
          refine JL.exP (.none rfl) rfl rfl (.move rfl) ?_
          have h := andB_false' h
          refine JL.exNo (.off rfl rfl rfl rfl rfl) rfl rfl ?_
          refine JL.exP (.none rfl) rfl rfl (.pickOff rfl rfl rfl) ?_
          refine JL.exP (.none rfl) rfl rfl (.assign rfl) ?_
          refine JL.nil ?_
          exact JX.joinEnd h ⟨rfl, trivial⟩
        · refine JL.exP (.on rfl rfl rfl hc20) rfl rfl (.move rfl) ?_
          refine JL.exC (.on rfl rfl rfl hc20) rfl rfl (.func (vs := [(.pointer none)]) en_24 rfl) h (fun v21 w h => ?_)
          refine JL.sPure (.on rfl rfl rfl hc20) rfl rfl ((.len (vs := [v21]) rfl)) h (fun vx22 w h => ?_)
          obtain ⟨x22, rfl, h⟩ := h
          refine JL.exP (.on rfl rfl rfl hc20) rfl rfl (.move rfl) ?_
          refine JL.exC (.on rfl rfl rfl hc20) rfl rfl (.func (vs := [(.pointer (some p3))]) en_24 rfl) h (fun v23 w h => ?_)
          refine JL.sPure (.on rfl rfl rfl hc20) rfl rfl ((.len (vs := [v23]) rfl)) h (fun vx24 w h => ?_)
          obtain ⟨x24, rfl, h⟩ := h
          refine JL.exP (.on rfl rfl rfl hc20) rfl rfl (.add rfl rfl) ?_
          refine JL.exP (.on rfl rfl rfl hc20) rfl rfl (.eql rfl rfl) ?_
          refine JL.exP (.none rfl) rfl rfl (.pickOn rfl hc20 rfl) ?_
          refine JL.exP (.none rfl) rfl rfl (.move rfl) ?_
          rcases andB_cases h with ⟨hc27, h⟩ | ⟨hc27, h⟩
          · refine JL.exNo (.off rfl rfl rfl hc27 rfl) rfl rfl ?_
            refine JL.exP (.none rfl) rfl rfl (.pickOff rfl hc27 rfl) ?_
            refine JL.exP (.none rfl) rfl rfl (.assign rfl) ?_
            refine JL.nil ?_
            exact JX.joinEnd h ⟨rfl, trivial⟩
          · refine JL.exC (.on rfl rfl rfl hc27) rfl rfl (.func (vs := []) en_21 rfl) h (fun vb28 w h => ?_)
            obtain ⟨b28, rfl, h⟩ := h
            refine JL.exP (.none rfl) rfl rfl (.pickOn rfl hc27 rfl) ?_
            refine JL.exP (.none rfl) rfl rfl (.assign rfl) ?_
            refine JL.nil ?_
            exact JX.joinEnd h ⟨rfl, trivial⟩
  · refine JX.then ?_
    refine J.ret ?_
    exact JX.ret1 rfl rfl h

/-- cabstand/fair.Good -/
def fair_Good (a0 : Value) (a1 : Value) (K : Value → WP) : WP :=
  semA Try.prog (Instr.box 46 a0) fun p29 =>
  semA Try.prog (Instr.box 28 a1) fun p30 =>
  semV Try.prog (loadVar 36 (p29.add 1)) fun v31 =>
  callI Try.prog 44 #[v31, (.func (.func 45) #[] #[(.pointer (some p30))])] .i64 fun x32 =>
  joinH (α := Bool) (fun y33 =>
    iteH y33 (
      K (.tuple #[(.bool false), (.bool false), (.bool false)])) (
      semV Try.prog (loadVar 46 p29) fun v40 =>
      callH Try.prog 47 #[v40] fun v41 =>
      pureV Try.prog (Instr.extract v41 0) fun v42 =>
      pureV Try.prog (Instr.extract v41 1) fun v43 =>
      drawH <|
      pureA Try.prog (Instr.indexAt 98 v42 (.int .i64 x32)) fun p44 =>
      readB Try.prog (loadVar 4 p44) fun b45 =>
      pureA Try.prog (Instr.indexAt 98 v43 (.int .i64 x32)) fun p47 =>
      readB Try.prog (loadVar 4 p47) fun b48 =>
      K (.tuple #[(.bool true), (.bool b45), (.bool b48)]))) fun k34 =>
    orB (decide (x32 < 0)) (fun k36 =>
      semV Try.prog (loadVar 46 p29) fun v38 =>
      callI Try.prog 46 #[v38] .i64 fun x39 =>
      k36 ((x39 : Int) != 0)) fun b35 =>
    k34 b35
set_option maxRecDepth 100000 in
set_option maxHeartbeats 1000000 in
theorem fair_Good_ok {a0 : Value} {a1 : Value} {K : Value → WP} {w : World} (h : fair_Good a0 a1 K w) : callH Try.prog 18 #[a0, a1] K w := by
  refine enter (l := [a0, a1]) Try.func18 rfl rfl rfl ?_
  show J Try.prog 34 [(0, a0), (1, a1)] _ _ _
  unfold fair_Good at h
  refine J.seq ?_
  refine J.region ?_
  refine JL.exV (.none rfl) rfl rfl (.box rfl) h (fun vp29 w h => ?_)
  obtain ⟨p29, rfl, h⟩ := h
  refine JL.exV (.none rfl) rfl rfl (.box rfl) h (fun vp30 w h => ?_)
  obtain ⟨p30, rfl, h⟩ := h
  refine JL.exP (.none rfl) rfl rfl (.assign rfl) ?_
  refine JL.exP (.none rfl) rfl rfl (.assign rfl) ?_
  refine JL.exP (.none rfl) rfl rfl (.assign rfl) ?_
  refine JL.nil ?_
  refine JX.then ?_
  refine J.seq ?_
  refine J.region ?_
  refine JL.exP (.none rfl) rfl rfl (.fieldAddr rfl (fa_46_1 _)) ?_
  refine JL.exV (.none rfl) rfl rfl (.load rfl) h (fun v31 w h => ?_)
  refine JL.exP (.none rfl) rfl rfl ((.makeFunc (vl := []) (vc := [(.pointer (some p30))]) rfl rfl)) ?_
  refine JL.exC (.none rfl) rfl rfl (.func (vs := [v31, (.func (.func 45) #[] #[(.pointer (some p30))])]) en_44 rfl) h (fun vx32 w h => ?_)
  obtain ⟨x32, rfl, h⟩ := h
  refine JL.exP (.none rfl) rfl rfl (.assign rfl) ?_
  refine JL.nil ?_
  refine JX.then ?_
  refine J.seq ?_
  refine J.seq ?_
  refine J.join h (fun y33 => [(2, (.pointer (some p29))), (4, (.bool false)), (5, (.bool false)), (6, (.bool false)), (7, (.int .i64 x32)), (20, (.bool y33))]) (fun k34 w h => ?_) (fun y33 w h => ?_)
  · refine J.region ?_
    refine JL.exP (.none rfl) rfl rfl (.move rfl) ?_
    refine JL.exP (.none rfl) rfl rfl (.lss rfl rfl) ?_
    refine JL.exP (.none rfl) rfl rfl (.move rfl) ?_
    rcases orB_cases h with ⟨hc37, h⟩ | ⟨hc37, h⟩
    · refine JL.exNo (.off rfl rfl rfl hc37 rfl) rfl rfl ?_
      refine JL.exNo (.off rfl rfl rfl hc37 rfl) rfl rfl ?_
      refine JL.exNo (.off rfl rfl rfl hc37 rfl) rfl rfl ?_
      refine JL.exP (.none rfl) rfl rfl (.pickOn rfl hc37 rfl) ?_
      refine JL.nil ?_
      exact JX.joinEnd h ⟨rfl, rfl, rfl, rfl, rfl, rfl, trivial⟩
    · refine JL.exV (.on rfl rfl rfl hc37) rfl rfl (.load rfl) h (fun v38 w h => ?_)
      refine JL.exC (.on rfl rfl rfl hc37) rfl rfl (.func (vs := [v38]) en_46 rfl) h (fun vx39 w h => ?_)
      obtain ⟨x39, rfl, h⟩ := h
      refine JL.exP (.on rfl rfl rfl hc37) rfl rfl (.neq rfl rfl) ?_
      refine JL.exP (.none rfl) rfl rfl (.pickOff rfl hc37 rfl) ?_
      refine JL.nil ?_
      exact JX.joinEnd h ⟨rfl, rfl, rfl, rfl, rfl, rfl, trivial⟩
  · refine JX.then ?_
    refine J.cond (b := _) rfl h (fun h => ?_) (fun h => ?_)
    · refine J.seq ?_
      refine J.region ?_
      refine JL.exP (.none rfl) rfl rfl (.assign rfl) ?_
      refine JL.exP (.none rfl) rfl rfl (.assign rfl) ?_
      refine JL.exP (.none rfl) rfl rfl (.assign rfl) ?_
      refine JL.nil ?_
      refine JX.then ?_
      refine J.ret ?_
      refine JX.thenRet ?_
      exact JX.ret3 rfl rfl rfl rfl h
    · refine J.skip ?_
      refine JX.then ?_
      refine J.seq ?_
      refine J.region ?_
      refine JL.exV (.none rfl) rfl rfl (.load rfl) h (fun v40 w h => ?_)
      refine JL.exC (.none rfl) rfl rfl (.func (vs := [v40]) en_47 rfl) h (fun v41 w h => ?_)
      refine JL.exP (.none rfl) rfl rfl (.move rfl) ?_
      refine JL.sPure (.none rfl) rfl rfl (.extract rfl) h (fun v42 w h => ?_)
      refine JL.sPure (.none rfl) rfl rfl (.extract rfl) h (fun v43 w h => ?_)
      refine JL.exP (.none rfl) rfl rfl (.assign rfl) ?_
      refine JL.exP (.none rfl) rfl rfl (.assign rfl) ?_
      refine JL.nil ?_
      refine JX.then ?_
      refine J.seq ?_
      refine J.draw [[], [], [0, 1], [0, 1, 2], [], [], [4, 5], [4, 5, 6], [], [0, 1, 2, 3, 8], [0, 1, 2, 3, 4, 5, 6, 7, 8, 9]] (by kernel_rfl) mixed h (fun w h => ?_)
      refine JD.pure_ (i := 0) [] rfl (by kernel_rfl) (by kernel_rfl) (by kernel_rfl) (by kernel_rfl) (.none rfl) rfl rfl (.move rfl) trivial ?_
      refine JD.pure_ (i := 1) [] rfl (by kernel_rfl) (by kernel_rfl) (by kernel_rfl) (by kernel_rfl) (.none rfl) rfl rfl (.move rfl) trivial ?_
      refine JD.sPure (i := 2) [] rfl (by kernel_rfl) (by kernel_rfl) (by kernel_rfl) (by kernel_rfl) (.none rfl) rfl rfl (.indexAddr rfl rfl) h trivial (fun vp44 h => ?_)
      obtain ⟨p44, rfl, h⟩ := h
      refine JD.read (i := 3) [] rfl (by kernel_rfl) (by kernel_rfl) (by kernel_rfl) (by kernel_rfl) (.none rfl) rfl rfl (.load rfl) h trivial (fun vb45 st46 h => ?_)
      obtain ⟨b45, rfl, h⟩ := h
      refine JD.pure_ (i := 4) [false] rfl (by kernel_rfl) (by kernel_rfl) (by kernel_rfl) (by kernel_rfl) (.none rfl) rfl rfl (.move rfl) ⟨st46, trivial⟩ ?_
      refine JD.pure_ (i := 5) [false] rfl (by kernel_rfl) (by kernel_rfl) (by kernel_rfl) (by kernel_rfl) (.none rfl) rfl rfl (.move rfl) ⟨st46, trivial⟩ ?_
      refine JD.sPure (i := 6) [false] rfl (by kernel_rfl) (by kernel_rfl) (by kernel_rfl) (by kernel_rfl) (.none rfl) rfl rfl (.indexAddr rfl rfl) h ⟨st46, trivial⟩ (fun vp47 h => ?_)
      obtain ⟨p47, rfl, h⟩ := h
      refine JD.read (i := 7) [false] rfl (by kernel_rfl) (by kernel_rfl) (by kernel_rfl) (by kernel_rfl) (.none rfl) rfl rfl (.load rfl) h ⟨st46, trivial⟩ (fun vb48 st49 h => ?_)
      obtain ⟨b48, rfl, h⟩ := h
      refine JD.pure_ (i := 8) [false, false] rfl (by kernel_rfl) (by kernel_rfl) (by kernel_rfl) (by kernel_rfl) (.none rfl) rfl rfl (.assign rfl) ⟨st49, st46, trivial⟩ ?_
      refine JD.pure_ (i := 9) [false, true] rfl (by kernel_rfl) (by kernel_rfl) (by kernel_rfl) (by kernel_rfl) (.none rfl) rfl rfl (.assign rfl) ⟨st49, trivial⟩ ?_
      refine JD.pure_ (i := 10) [true, true] rfl (by kernel_rfl) (by kernel_rfl) (by kernel_rfl) (by kernel_rfl) (.none rfl) rfl rfl (.assign rfl) trivial ?_
      refine JD.done (by kernel_rfl) ?_
      refine JX.then ?_
      refine J.ret ?_
      exact JX.ret3 rfl rfl rfl rfl h

/-- cabstand/cabstandlaw21.alive -/
def law21_alive  (K : Value → WP) : WP :=
  callH Try.prog 54 #[] fun v50 =>
  semA Try.prog (Instr.alloc 46 true (.tuple #[])) fun p51 =>
  semU Try.prog (storeVar 46 p51 v50) <|
  semV Try.prog (loadVar 46 p51) fun v52 =>
  pureV Try.prog (Instr.build 28 #[(7, (.int .u8 1))]) fun v53 =>
  callH Try.prog 18 #[v52, v53] fun v54 =>
  pureB Try.prog (Instr.extract v54 0) fun b55 =>
  pureB Try.prog (Instr.extract v54 1) fun b56 =>
  pureB Try.prog (Instr.extract v54 2) fun b57 =>
  semV Try.prog (loadVar 46 p51) fun v58 =>
  pureV Try.prog (Instr.build 28 #[(7, (.int .u8 2))]) fun v59 =>
  callH Try.prog 18 #[v58, v59] fun v60 =>
  pureB Try.prog (Instr.extract v60 0) fun b61 =>
  pureB Try.prog (Instr.extract v60 1) fun b62 =>
  pureB Try.prog (Instr.extract v60 2) fun b63 =>
  callH Try.prog 25 #[] fun v64 =>
  joinH (α := Bool) (fun y65 =>
    iteH y65 (
      K (.bool false)) (
      callH Try.prog 24 #[v64] fun v100 =>
      joinH (α := Bool) (fun y101 =>
        K (.bool y101)) fun k102 =>
        callI Try.prog 23 #[v64] .i64 fun x103 =>
        andB ((x103 : Int) == 1) (fun k105 =>
          pureI Try.prog .i64 (Builtin.len_ #[67] 3 #[v100]) fun x107 =>
          k105 ((x107 : Int) == 1)) fun b104 =>
        andB b104 (fun k109 =>
          pureA Try.prog (Instr.indexAt 67 v100 (.int .i64 0)) fun p111 =>
          semV Try.prog (loadVar 112 p111) fun v112 =>
          pureV Try.prog (Instr.build 28 #[(7, (.int .u8 1))]) fun v113 =>
          pureV Try.prog (Instr.build 112 #[(0, v113), (1, (.int .i64 1))]) fun v114 =>
          pureB Try.prog (eqM .eql 112 (.tmp 81) (.tmp 83) v112 v114) fun b115 =>
          k109 b115) fun b108 =>
        k102 b108)) fun k66 =>
    pureB Try.prog (eqM .eql 61 (.tmp 26) (.const (.pointer none)) v64 (.pointer none)) fun b67 =>
    orB b67 (fun k69 =>
      k69 (!b55)) fun b68 =>
    orB b68 (fun k72 =>
      k72 (!b56)) fun b71 =>
    orB b71 (fun k75 =>
      k75 b57) fun b74 =>
    orB b74 (fun k78 =>
      k78 (!b61)) fun b77 =>
    orB b77 (fun k81 =>
      k81 (!b62)) fun b80 =>
    orB b80 (fun k84 =>
      k84 (!b63)) fun b83 =>
    orB b83 (fun k87 =>
      callI Try.prog 23 #[v64] .i64 fun x89 =>
      k87 ((x89 : Int) != 0)) fun b86 =>
    orB b86 (fun k91 =>
      semV Try.prog (loadVar 46 p51) fun v93 =>
      callI Try.prog 22 #[v64, v93] .i64 fun x94 =>
      k91 ((x94 : Int) != 0)) fun b90 =>
    orB b90 (fun k96 =>
      semV Try.prog (loadVar 46 p51) fun v98 =>
      callI Try.prog 22 #[v64, v98] .i64 fun x99 =>
      k96 ((x99 : Int) != 4)) fun b95 =>
    k66 b95
set_option maxRecDepth 100000 in
set_option maxHeartbeats 1000000 in
theorem law21_alive_ok  {K : Value → WP} {w : World} (h : law21_alive  K w) : callH Try.prog 21 #[] K w := by
  refine enter (l := []) Try.func21 rfl rfl rfl ?_
  show J Try.prog 86 [] _ _ _
  unfold law21_alive at h
  refine J.seq ?_
  refine J.region ?_
  refine JL.exP (.none rfl) rfl rfl (.assign rfl) ?_
  refine JL.nil ?_
  refine JX.then ?_
  refine J.seq ?_
  refine J.region ?_
  refine JL.exC (.none rfl) rfl rfl (.func (vs := []) en_54 rfl) h (fun v50 w h => ?_)
  refine JL.exV (.none rfl) rfl rfl (.alloc) h (fun vp51 w h => ?_)
  obtain ⟨p51, rfl, h⟩ := h
  refine JL.exU (.none rfl) rfl (.store rfl rfl) h (fun w h => ?_)
  refine JL.nil ?_
  refine JX.then ?_
  refine J.seq ?_
  refine J.region ?_
  refine JL.exV (.none rfl) rfl rfl (.load rfl) h (fun v52 w h => ?_)
  refine JL.sPure (.none rfl) rfl rfl ((.build (l' := [(7, (.int .u8 1))]) rfl)) h (fun v53 w h => ?_)
  refine JL.exC (.none rfl) rfl rfl (.func (vs := [v52, v53]) en_18 rfl) h (fun v54 w h => ?_)
  refine JL.exP (.none rfl) rfl rfl (.move rfl) ?_
  refine JL.sPure (.none rfl) rfl rfl (.extract rfl) h (fun vb55 w h => ?_)
  obtain ⟨b55, rfl, h⟩ := h
  refine JL.sPure (.none rfl) rfl rfl (.extract rfl) h (fun vb56 w h => ?_)
  obtain ⟨b56, rfl, h⟩ := h
  refine JL.sPure (.none rfl) rfl rfl (.extract rfl) h (fun vb57 w h => ?_)
  obtain ⟨b57, rfl, h⟩ := h
  refine JL.exP (.none rfl) rfl rfl (.assign rfl) ?_
  refine JL.exP (.none rfl) rfl rfl (.assign rfl) ?_
  refine JL.exP (.none rfl) rfl rfl (.assign rfl) ?_
  refine JL.nil ?_
  refine JX.then ?_
  refine J.seq ?_
  refine J.region ?_
  refine JL.exV (.none rfl) rfl rfl (.load rfl) h (fun v58 w h => ?_)
  refine JL.sPure (.none rfl) rfl rfl ((.build (l' := [(7, (.int .u8 2))]) rfl)) h (fun v59 w h => ?_)
  refine JL.exC (.none rfl) rfl rfl (.func (vs := [v58, v59]) en_18 rfl) h (fun v60 w h => ?_)
  refine JL.exP (.none rfl) rfl rfl (.move rfl) ?_
  refine JL.sPure (.none rfl) rfl rfl (.extract rfl) h (fun vb61 w h => ?_)
  obtain ⟨b61, rfl, h⟩ := h
  refine JL.sPure (.none rfl) rfl rfl (.extract rfl) h (fun vb62 w h => ?_)
  obtain ⟨b62, rfl, h⟩ := h
  refine JL.sPure (.none rfl) rfl rfl (.extract rfl) h (fun vb63 w h => ?_)
  obtain ⟨b63, rfl, h⟩ := h
  refine JL.exP (.none rfl) rfl rfl (.assign rfl) ?_
  refine JL.exP (.none rfl) rfl rfl (.assign rfl) ?_
  refine JL.exP (.none rfl) rfl rfl (.assign rfl) ?_
  refine JL.nil ?_
  refine JX.then ?_
  refine J.seq ?_
  refine J.region ?_
  refine JL.exC (.none rfl) rfl rfl (.func (vs := []) en_25 rfl) h (fun v64 w h => ?_)
  refine JL.exP (.none rfl) rfl rfl (.assign rfl) ?_
  refine JL.nil ?_
  refine JX.then ?_
  refine J.seq ?_
  refine J.seq ?_
  refine J.join h (fun y65 => [(0, (.bool false)), (8, v64), (67, (.bool y65))]) (fun k66 w h => ?_) (fun y65 w h => ?_)
  · refine J.region ?_
    refine JL.exP (.none rfl) rfl rfl (.move rfl) ?_
    refine JL.sPure (.none rfl) rfl rfl (.binOp rfl rfl) h (fun vb67 w h => ?_)
    obtain ⟨b67, rfl, h⟩ := h
    refine JL.exP (.none rfl) rfl rfl (.move rfl) ?_
    rcases orB_cases h with ⟨hc70, h⟩ | ⟨hc70, h⟩
    · refine JL.exNo (.off rfl rfl rfl hc70 rfl) rfl rfl ?_
      refine JL.exNo (.off rfl rfl rfl hc70 rfl) rfl rfl ?_
      refine JL.exP (.none rfl) rfl rfl (.pickOn rfl hc70 rfl) ?_
      refine JL.exP (.none rfl) rfl rfl (.move rfl) ?_
      have h := orB_true' h
      refine JL.exNo (.off rfl rfl rfl rfl rfl) rfl rfl ?_
      refine JL.exNo (.off rfl rfl rfl rfl rfl) rfl rfl ?_
      refine JL.exP (.none rfl) rfl rfl (.pickOn rfl rfl rfl) ?_
      refine JL.exP (.none rfl) rfl rfl (.move rfl) ?_
      have h := orB_true' h
      refine JL.exNo (.off rfl rfl rfl rfl rfl) rfl rfl ?_
      refine JL.exP (.none rfl) rfl rfl (.pickOn rfl rfl rfl) ?_
      refine JL.exP (.none rfl) rfl rfl (.move rfl) ?_
      have h := orB_true' h
      refine JL.exNo (.off rfl rfl rfl rfl rfl) rfl rfl ?_
      refine JL.exNo (.off rfl rfl rfl rfl rfl) rfl rfl ?_
      refine JL.exP (.none rfl) rfl rfl (.pickOn rfl rfl rfl) ?_
      refine JL.exP (.none rfl) rfl rfl (.move rfl) ?_
      have h := orB_true' h
      refine JL.exNo (.off rfl rfl rfl rfl rfl) rfl rfl ?_
      refine JL.exNo (.off rfl rfl rfl rfl rfl) rfl rfl ?_
      refine JL.exP (.none rfl) rfl rfl (.pickOn rfl rfl rfl) ?_
      refine JL.exP (.none rfl) rfl rfl (.move rfl) ?_
      have h := orB_true' h
      refine JL.exNo (.off rfl rfl rfl rfl rfl) rfl rfl ?_
      refine JL.exNo (.off rfl rfl rfl rfl rfl) rfl rfl ?_
      refine JL.exP (.none rfl) rfl rfl (.pickOn rfl rfl rfl) ?_
      refine JL.exP (.none rfl) rfl rfl (.move rfl) ?_
      have h := orB_true' h
      refine JL.exNo (.off rfl rfl rfl rfl rfl) rfl rfl ?_
      refine JL.exNo (.off rfl rfl rfl rfl rfl) rfl rfl ?_
      refine JL.exNo (.off rfl rfl rfl rfl rfl) rfl rfl ?_
      refine JL.exP (.none rfl) rfl rfl (.pickOn rfl rfl rfl) ?_
      refine JL.exP (.none rfl) rfl rfl (.move rfl) ?_
      have h := orB_true' h
      refine JL.exNo (.off rfl rfl rfl rfl rfl) rfl rfl ?_
      refine JL.exNo (.off rfl rfl rfl rfl rfl) rfl rfl ?_
      refine JL.exNo (.off rfl rfl rfl rfl rfl) rfl rfl ?_
      refine JL.exNo (.off rfl rfl rfl rfl rfl) rfl rfl ?_
      refine JL.exP (.none rfl) rfl rfl (.pickOn rfl rfl rfl) ?_
      refine JL.exP (.none rfl) rfl rfl (.move rfl) ?_
      have h := orB_true' h
      refine JL.exNo (.off rfl rfl rfl rfl rfl) rfl rfl ?_
      refine JL.exNo (.off rfl rfl rfl rfl rfl) rfl rfl ?_
      refine JL.exNo (.off rfl rfl rfl rfl rfl) rfl rfl ?_
      refine JL.exNo (.off rfl rfl rfl rfl rfl) rfl rfl ?_
      refine JL.exP (.none rfl) rfl rfl (.pickOn rfl rfl rfl) ?_
      refine JL.nil ?_
      exact JX.joinEnd h ⟨rfl, rfl, rfl, trivial⟩
    · refine JL.exP (.on rfl rfl rfl hc70) rfl rfl (.move rfl) ?_
      refine JL.exP (.on rfl rfl rfl hc70) rfl rfl (.not rfl) ?_
      refine JL.exP (.none rfl) rfl rfl (.pickOff rfl hc70 rfl) ?_
      refine JL.exP (.none rfl) rfl rfl (.move rfl) ?_
      rcases orB_cases h with ⟨hc73, h⟩ | ⟨hc73, h⟩
      · refine JL.exNo (.off rfl rfl rfl hc73 rfl) rfl rfl ?_
        refine JL.exNo (.off rfl rfl rfl hc73 rfl) rfl rfl ?_
        refine JL.exP (.none rfl) rfl rfl (.pickOn rfl hc73 rfl) ?_
        refine JL.exP (.none rfl) rfl rfl (.move rfl) ?_
        have h := orB_true' h
        refine JL.exNo (.off rfl rfl rfl rfl rfl) rfl rfl ?_
        refine JL.exP (.none rfl) rfl rfl (.pickOn rfl rfl rfl) ?_
        refine JL.exP (.none rfl) rfl rfl (.move rfl) ?_
        have h := orB_true' h
        refine JL.exNo (.off rfl rfl rfl rfl rfl) rfl rfl ?_
        refine JL.exNo (.off rfl rfl rfl rfl rfl) rfl rfl ?_
        refine JL.exP (.none rfl) rfl rfl (.pickOn rfl rfl rfl) ?_
        refine JL.exP (.none rfl) rfl rfl (.move rfl) ?_
        have h := orB_true' h
        refine JL.exNo (.off rfl rfl rfl rfl rfl) rfl rfl ?_
        refine JL.exNo (.off rfl rfl rfl rfl rfl) rfl rfl ?_
        refine JL.exP (.none rfl) rfl rfl (.pickOn rfl rfl rfl) ?_
        refine JL.exP (.none rfl) rfl rfl (.move rfl) ?_
        have h := orB_true' h
        refine JL.exNo (.off rfl rfl rfl rfl rfl) rfl rfl ?_
        refine JL.exNo (.off rfl rfl rfl rfl rfl) rfl rfl ?_
        refine JL.exP (.none rfl) rfl rfl (.pickOn rfl rfl rfl) ?_
        refine JL.exP (.none rfl) rfl rfl (.move rfl) ?_
        have h := orB_true' h
        refine JL.exNo (.off rfl rfl rfl rfl rfl) rfl rfl ?_
        refine JL.exNo (.off rfl rfl rfl rfl rfl) rfl rfl ?_
        refine JL.exNo (.off rfl rfl rfl rfl rfl) rfl rfl ?_
        refine JL.exP (.none rfl) rfl rfl (.pickOn rfl rfl rfl) ?_
        refine JL.exP (.none rfl) rfl rfl (.move rfl) ?_
        have h := orB_true' h
        refine JL.exNo (.off rfl rfl rfl rfl rfl) rfl rfl ?_
        refine JL.exNo (.off rfl rfl rfl rfl rfl) rfl rfl ?_
        refine JL.exNo (.off rfl rfl rfl rfl rfl) rfl rfl ?_
        refine JL.exNo (.off rfl rfl rfl rfl rfl) rfl rfl ?_
        refine JL.exP (.none rfl) rfl rfl (.pickOn rfl rfl rfl) ?_
        refine JL.exP (.none rfl) rfl rfl (.move rfl) ?_
        have h := orB_true' h
        refine JL.exNo (.off rfl rfl rfl rfl rfl) rfl rfl ?_
        refine JL.exNo (.off rfl rfl rfl rfl rfl) rfl rfl ?_
        refine JL.exNo (.off rfl rfl rfl rfl rfl) rfl rfl ?_
        refine JL.exNo (.off rfl rfl rfl rfl rfl) rfl rfl ?_
        refine JL.exP (.none rfl) rfl rfl (.pickOn rfl rfl rfl) ?_
        refine JL.nil ?_
        exact JX.joinEnd h ⟨rfl, rfl, rfl, trivial⟩
      · refine JL.exP (.on rfl rfl rfl hc73) rfl rfl (.move rfl) ?_
        refine JL.exP (.on rfl rfl rfl hc73) rfl rfl (.not rfl) ?_
        refine JL.exP (.none rfl) rfl rfl (.pickOff rfl hc73 rfl) ?_
        refine JL.exP (.none rfl) rfl rfl (.move rfl) ?_
        rcases orB_cases h with ⟨hc76, h⟩ | ⟨hc76, h⟩
        · refine JL.exNo (.off rfl rfl rfl hc76 rfl) rfl rfl ?_
          refine JL.exP (.none rfl) rfl rfl (.pickOn rfl hc76 rfl) ?_
          refine JL.exP (.none rfl) rfl rfl (.move rfl) ?_
          have h := orB_true' h
          refine JL.exNo (.off rfl rfl rfl rfl rfl) rfl rfl ?_
          refine JL.exNo (.off rfl rfl rfl rfl rfl) rfl rfl ?_
          refine JL.exP (.none rfl) rfl rfl (.pickOn rfl rfl rfl) ?_
          refine JL.exP (.none rfl) rfl rfl (.move rfl) ?_
          have h := orB_true' h
          refine JL.exNo (.off rfl rfl rfl rfl rfl) rfl rfl ?_
          refine JL.exNo (.off rfl rfl rfl rfl rfl) rfl rfl ?_
          refine JL.exP (.none rfl) rfl rfl (.pickOn rfl rfl rfl) ?_
          refine JL.exP (.none rfl) rfl rfl (.move rfl) ?_
          have h := orB_true' h
          refine JL.exNo (.off rfl rfl rfl rfl rfl) rfl rfl ?_
          refine JL.exNo (.off rfl rfl rfl rfl rfl) rfl rfl ?_
          refine JL.exP (.none rfl) rfl rfl (.pickOn rfl rfl rfl) ?_
          refine JL.exP (.none rfl) rfl rfl (.move rfl) ?_
          have h := orB_true' h
          refine JL.exNo (.off rfl rfl rfl rfl rfl) rfl rfl ?_
          refine JL.exNo (.off rfl rfl rfl rfl rfl) rfl rfl ?_
          refine JL.exNo (.off rfl rfl rfl rfl rfl) rfl rfl ?_
          refine JL.exP (.none rfl) rfl rfl (.pickOn rfl rfl rfl) ?_
          refine JL.exP (.none rfl) rfl rfl (.move rfl) ?_
          have h := orB_true' h
          refine JL.exNo (.off rfl rfl rfl rfl rfl) rfl rfl ?_
          refine JL.exNo (.off rfl rfl rfl rfl rfl) rfl rfl ?_
          refine JL.exNo (.off rfl rfl rfl rfl rfl) rfl rfl ?_
          refine JL.exNo (.off rfl rfl rfl rfl rfl) rfl rfl ?_
          refine JL.exP (.none rfl) rfl rfl (.pickOn rfl rfl rfl) ?_
          refine JL.exP (.none rfl) rfl rfl (.move rfl) ?_
          have h := orB_true' h
          refine JL.exNo (.off rfl rfl rfl rfl rfl) rfl rfl ?_
          refine JL.exNo (.off rfl rfl rfl rfl rfl) rfl rfl ?_
          refine JL.exNo (.off rfl rfl rfl rfl rfl) rfl rfl ?_
          refine JL.exNo (.off rfl rfl rfl rfl rfl) rfl rfl ?_
          refine JL.exP (.none rfl) rfl rfl (.pickOn rfl rfl rfl) ?_
          refine JL.nil ?_
          exact JX.joinEnd h ⟨rfl, rfl, rfl, trivial⟩
        · refine JL.exP (.on rfl rfl rfl hc76) rfl rfl (.move rfl) ?_
          refine JL.exP (.none rfl) rfl rfl (.pickOff rfl hc76 rfl) ?_
          refine JL.exP (.none rfl) rfl rfl (.move rfl) ?_
          rcases orB_cases h with ⟨hc79, h⟩ | ⟨hc79, h⟩
          · refine JL.exNo (.off rfl rfl rfl hc79 rfl) rfl rfl ?_
            refine JL.exNo (.off rfl rfl rfl hc79 rfl) rfl rfl ?_
            refine JL.exP (.none rfl) rfl rfl (.pickOn rfl hc79 rfl) ?_
            refine JL.exP (.none rfl) rfl rfl (.move rfl) ?_
            have h := orB_true' h
            refine JL.exNo (.off rfl rfl rfl rfl rfl) rfl rfl ?_
            refine JL.exNo (.off rfl rfl rfl rfl rfl) rfl rfl ?_
            refine JL.exP (.none rfl) rfl rfl (.pickOn rfl rfl rfl) ?_
            refine JL.exP (.none rfl) rfl rfl (.move rfl) ?_
            have h := orB_true' h
            refine JL.exNo (.off rfl rfl rfl rfl rfl) rfl rfl ?_
            refine JL.exNo (.off rfl rfl rfl rfl rfl) rfl rfl ?_
            refine JL.exP (.none rfl) rfl rfl (.pickOn rfl rfl rfl) ?_
            refine JL.exP (.none rfl) rfl rfl (.move rfl) ?_
            have h := orB_true' h
            refine JL.exNo (.off rfl rfl rfl rfl rfl) rfl rfl ?_
            refine JL.exNo (.off rfl rfl rfl rfl rfl) rfl rfl ?_
            refine JL.exNo (.off rfl rfl rfl rfl rfl) rfl rfl ?_
            refine JL.exP (.none rfl) rfl rfl (.pickOn rfl rfl rfl) ?_
            refine JL.exP (.none rfl) rfl rfl (.move rfl) ?_
            have h := orB_true' h
            refine JL.exNo (.off rfl rfl rfl rfl rfl) rfl rfl ?_
            refine JL.exNo (.off rfl rfl rfl rfl rfl) rfl rfl ?_
            refine JL.exNo (.off rfl rfl rfl rfl rfl) rfl rfl ?_
            refine JL.exNo (.off rfl rfl rfl rfl rfl) rfl rfl ?_
            refine JL.exP (.none rfl) rfl rfl (.pickOn rfl rfl rfl) ?_
            refine JL.exP (.none rfl) rfl rfl (.move rfl) ?_
            have h := orB_true' h
            refine JL.exNo (.off rfl rfl rfl rfl rfl) rfl rfl ?_
            refine JL.exNo (.off rfl rfl rfl rfl rfl) rfl rfl ?_
            refine JL.exNo (.off rfl rfl rfl rfl rfl) rfl rfl ?_
            refine JL.exNo (.off rfl rfl rfl rfl rfl) rfl rfl ?_
            refine JL.exP (.none rfl) rfl rfl (.pickOn rfl rfl rfl) ?_
            refine JL.nil ?_
            exact JX.joinEnd h ⟨rfl, rfl, rfl, trivial⟩
          · refine JL.exP (.on rfl rfl rfl hc79) rfl rfl (.move rfl) ?_
            refine JL.exP (.on rfl rfl rfl hc79) rfl rfl (.not rfl) ?_
            refine JL.exP (.none rfl) rfl rfl (.pickOff rfl hc79 rfl) ?_
            refine JL.exP (.none rfl) rfl rfl (.move rfl) ?_
            rcases orB_cases h with ⟨hc82, h⟩ | ⟨hc82, h⟩
            · refine JL.exNo (.off rfl rfl rfl hc82 rfl) rfl rfl ?_
              refine JL.exNo (.off rfl rfl rfl hc82 rfl) rfl rfl ?_
              refine JL.exP (.none rfl) rfl rfl (.pickOn rfl hc82 rfl) ?_
              refine JL.exP (.none rfl) rfl rfl (.move rfl) ?_
              have h := orB_true' h
              refine JL.exNo (.off rfl rfl rfl rfl rfl) rfl rfl ?_
              refine JL.exNo (.off rfl rfl rfl rfl rfl) rfl rfl ?_
              refine JL.exP (.none rfl) rfl rfl (.pickOn rfl rfl rfl) ?_
              refine JL.exP (.none rfl) rfl rfl (.move rfl) ?_
              have h := orB_true' h
              refine JL.exNo (.off rfl rfl rfl rfl rfl) rfl rfl ?_
              refine JL.exNo (.off rfl rfl rfl rfl rfl) rfl rfl ?_
              refine JL.exNo (.off rfl rfl rfl rfl rfl) rfl rfl ?_
              refine JL.exP (.none rfl) rfl rfl (.pickOn rfl rfl rfl) ?_
              refine JL.exP (.none rfl) rfl rfl (.move rfl) ?_
              have h := orB_true' h
              refine JL.exNo (.off rfl rfl rfl rfl rfl) rfl rfl ?_
              refine JL.exNo (.off rfl rfl rfl rfl rfl) rfl rfl ?_
              refine JL.exNo (.off rfl rfl rfl rfl rfl) rfl rfl ?_
              refine JL.exNo (.off rfl rfl rfl rfl rfl) rfl rfl ?_
              refine JL.exP (.none rfl) rfl rfl (.pickOn rfl rfl rfl) ?_
              refine JL.exP (.none rfl) rfl rfl (.move rfl) ?_
              have h := orB_true' h
              refine JL.exNo (.off rfl rfl rfl rfl rfl) rfl rfl ?_
              refine JL.exNo (.off rfl rfl rfl rfl rfl) rfl rfl ?_
              refine JL.exNo (.off rfl rfl rfl rfl rfl) rfl rfl ?_
              refine JL.exNo (.off rfl rfl rfl rfl rfl) rfl rfl ?_
              refine JL.exP (.none rfl) rfl rfl (.pickOn rfl rfl rfl) ?_
              refine JL.nil ?_
              exact JX.joinEnd h ⟨rfl, rfl, rfl, trivial⟩
            · refine JL.exP (.on rfl rfl rfl hc82) rfl rfl (.move rfl) ?_
              refine JL.exP (.on rfl rfl rfl hc82) rfl rfl (.not rfl) ?_
              refine JL.exP (.none rfl) rfl rfl (.pickOff rfl hc82 rfl) ?_
              refine JL.exP (.none rfl) rfl rfl (.move rfl) ?_
              rcases orB_cases h with ⟨hc85, h⟩ | ⟨hc85, h⟩
              · refine JL.exNo (.off rfl rfl rfl hc85 rfl) rfl rfl ?_
                refine JL.exNo (.off rfl rfl rfl hc85 rfl) rfl rfl ?_
                refine JL.exP (.none rfl) rfl rfl (.pickOn rfl hc85 rfl) ?_
                refine JL.exP (.none rfl) rfl rfl (.move rfl) ?_
                have h := orB_true' h
                refine JL.exNo (.off rfl rfl rfl rfl rfl) rfl rfl ?_
                refine JL.exNo (.off rfl rfl rfl rfl rfl) rfl rfl ?_
                refine JL.exNo (.off rfl rfl rfl rfl rfl) rfl rfl ?_
                refine JL.exP (.none rfl) rfl rfl (.pickOn rfl rfl rfl) ?_
                refine JL.exP (.none rfl) rfl rfl (.move rfl) ?_
                have h := orB_true' h
                refine JL.exNo (.off rfl rfl rfl rfl rfl) rfl rfl ?_
                refine JL.exNo (.off rfl rfl rfl rfl rfl) rfl rfl ?_
                refine JL.exNo (.off rfl rfl rfl rfl rfl) rfl rfl ?_
                refine JL.exNo (.off rfl rfl rfl rfl rfl) rfl rfl ?_
                refine JL.exP (.none rfl) rfl rfl (.pickOn rfl rfl rfl) ?_
                refine JL.exP (.none rfl) rfl rfl (.move rfl) ?_
                have h := orB_true' h
                refine JL.exNo (.off rfl rfl rfl rfl rfl) rfl rfl ?_
                refine JL.exNo (.off rfl rfl rfl rfl rfl) rfl rfl ?_
                refine JL.exNo (.off rfl rfl rfl rfl rfl) rfl rfl ?_
                refine JL.exNo (.off rfl rfl rfl rfl rfl) rfl rfl ?_
                refine JL.exP (.none rfl) rfl rfl (.pickOn rfl rfl rfl) ?_
                refine JL.nil ?_
                exact JX.joinEnd h ⟨rfl, rfl, rfl, trivial⟩
              · refine JL.exP (.on rfl rfl rfl hc85) rfl rfl (.move rfl) ?_
                refine JL.exP (.on rfl rfl rfl hc85) rfl rfl (.not rfl) ?_
                refine JL.exP (.none rfl) rfl rfl (.pickOff rfl hc85 rfl) ?_
                refine JL.exP (.none rfl) rfl rfl (.move rfl) ?_
                rcases orB_cases h with ⟨hc88, h⟩ | ⟨hc88, h⟩
                · refine JL.exNo (.off rfl rfl rfl hc88 rfl) rfl rfl ?_
                  refine JL.exNo (.off rfl rfl rfl hc88 rfl) rfl rfl ?_
                  refine JL.exNo (.off rfl rfl rfl hc88 rfl) rfl rfl ?_
                  refine JL.exP (.none rfl) rfl rfl (.pickOn rfl hc88 rfl) ?_
                  refine JL.exP (.none rfl) rfl rfl (.move rfl) ?_
                  have h := orB_true' h
                  refine JL.exNo (.off rfl rfl rfl rfl rfl) rfl rfl ?_
                  refine JL.exNo (.off rfl rfl rfl rfl rfl) rfl rfl ?_
                  refine JL.exNo (.off rfl rfl rfl rfl rfl) rfl rfl ?_
                  refine JL.exNo (.off rfl rfl rfl rfl rfl) rfl rfl ?_
                  refine JL.exP (.none rfl) rfl rfl (.pickOn rfl rfl rfl) ?_
                  refine JL.exP (.none rfl) rfl rfl (.move rfl) ?_
                  have h := orB_true' h
                  refine JL.exNo (.off rfl rfl rfl rfl rfl) rfl rfl ?_
                  refine JL.exNo (.off rfl rfl rfl rfl rfl) rfl rfl ?_
                  refine JL.exNo (.off rfl rfl rfl rfl rfl) rfl rfl ?_
                  refine JL.exNo (.off rfl rfl rfl rfl rfl) rfl rfl ?_
                  refine JL.exP (.none rfl) rfl rfl (.pickOn rfl rfl rfl) ?_
                  refine JL.nil ?_
                  exact JX.joinEnd h ⟨rfl, rfl, rfl, trivial⟩
                · refine JL.exP (.on rfl rfl rfl hc88) rfl rfl (.move rfl) ?_
                  refine JL.exC (.on rfl rfl rfl hc88) rfl rfl (.func (vs := [v64]) en_23 rfl) h (fun vx89 w h => ?_)
                  obtain ⟨x89, rfl, h⟩ := h
                  refine JL.exP (.on rfl rfl rfl hc88) rfl rfl (.neq rfl rfl) ?_
                  refine JL.exP (.none rfl) rfl rfl (.pickOff rfl hc88 rfl) ?_
                  refine JL.exP (.none rfl) rfl rfl (.move rfl) ?_
                  rcases orB_cases h with ⟨hc92, h⟩ | ⟨hc92, h⟩
                  · refine JL.exNo (.off rfl rfl rfl hc92 rfl) rfl rfl ?_
                    refine JL.exNo (.off rfl rfl rfl hc92 rfl) rfl rfl ?_
                    refine JL.exNo (.off rfl rfl rfl hc92 rfl) rfl rfl ?_
                    refine JL.exNo (.off rfl rfl rfl hc92 rfl) rfl rfl ?_
                    refine JL.exP (.none rfl) rfl rfl (.pickOn rfl hc92 rfl) ?_
                    refine JL.exP (.none rfl) rfl rfl (.move rfl) ?_
                    have h := orB_true' h
                    refine JL.exNo (.off rfl rfl rfl rfl rfl) rfl rfl ?_
                    refine JL.exNo (.off rfl rfl rfl rfl rfl) rfl rfl ?_
                    refine JL.exNo (.off rfl rfl rfl rfl rfl) rfl rfl ?_
                    refine JL.exNo (.off rfl rfl rfl rfl rfl) rfl rfl ?_
                    refine JL.exP (.none rfl) rfl rfl (.pickOn rfl rfl rfl) ?_
                    refine JL.nil ?_
                    exact JX.joinEnd h ⟨rfl, rfl, rfl, trivial⟩
                  · refine JL.exP (.on rfl rfl rfl hc92) rfl rfl (.move rfl) ?_
                    refine JL.exV (.on rfl rfl rfl hc92) rfl rfl (.load rfl) h (fun v93 w h => ?_)
                    refine JL.exC (.on rfl rfl rfl hc92) rfl rfl (.func (vs := [v64, v93]) en_22 rfl) h (fun vx94 w h => ?_)
                    obtain ⟨x94, rfl, h⟩ := h
                    refine JL.exP (.on rfl rfl rfl hc92) rfl rfl (.neq rfl rfl) ?_
                    refine JL.exP (.none rfl) rfl rfl (.pickOff rfl hc92 rfl) ?_
                    refine JL.exP (.none rfl) rfl rfl (.move rfl) ?_
                    rcases orB_cases h with ⟨hc97, h⟩ | ⟨hc97, h⟩
                    · refine JL.exNo (.off rfl rfl rfl hc97 rfl) rfl rfl ?_
                      refine JL.exNo (.off rfl rfl rfl hc97 rfl) rfl rfl ?_
                      refine JL.exNo (.off rfl rfl rfl hc97 rfl) rfl rfl ?_
                      refine JL.exNo (.off rfl rfl rfl hc97 rfl) rfl rfl ?_
                      refine JL.exP (.none rfl) rfl rfl (.pickOn rfl hc97 rfl) ?_
                      refine JL.nil ?_
                      exact JX.joinEnd h ⟨rfl, rfl, rfl, trivial⟩
                    · refine JL.exP (.on rfl rfl rfl hc97) rfl rfl (.move rfl) ?_
                      refine JL.exV (.on rfl rfl rfl hc97) rfl rfl (.load rfl) h (fun v98 w h => ?_)
                      refine JL.exC (.on rfl rfl rfl hc97) rfl rfl (.func (vs := [v64, v98]) en_22 rfl) h (fun vx99 w h => ?_)
                      obtain ⟨x99, rfl, h⟩ := h
                      refine JL.exP (.on rfl rfl rfl hc97) rfl rfl (.neq rfl rfl) ?_
                      refine JL.exP (.none rfl) rfl rfl (.pickOff rfl hc97 rfl) ?_
                      refine JL.nil ?_
                      exact JX.joinEnd h ⟨rfl, rfl, rfl, trivial⟩
  · refine JX.then ?_
    refine J.cond (b := _) rfl h (fun h => ?_) (fun h => ?_)
    · refine J.seq ?_
      refine J.region ?_
      refine JL.exP (.none rfl) rfl rfl (.assign rfl) ?_
      refine JL.nil ?_
      refine JX.then ?_
      refine J.ret ?_
      refine JX.thenRet ?_
      exact JX.ret1 rfl rfl h
    · refine J.skip ?_
      refine JX.then ?_
      refine J.seq ?_
      refine J.region ?_
      refine JL.exP (.none rfl) rfl rfl (.move rfl) ?_
      refine JL.exC (.none rfl) rfl rfl (.func (vs := [v64]) en_24 rfl) h (fun v100 w h => ?_)
      refine JL.exP (.none rfl) rfl rfl (.assign rfl) ?_
      refine JL.nil ?_
      refine JX.then ?_
      refine J.seq ?_
      refine J.join h (fun y101 => [(0, (.bool y101))]) (fun k102 w h => ?_) (fun y101 w h => ?_)
      · refine J.region ?_
        refine JL.exP (.none rfl) rfl rfl (.move rfl) ?_
        refine JL.exC (.none rfl) rfl rfl (.func (vs := [v64]) en_23 rfl) h (fun vx103 w h => ?_)
        obtain ⟨x103, rfl, h⟩ := h
        refine JL.exP (.none rfl) rfl rfl (.eql rfl rfl) ?_
        refine JL.exP (.none rfl) rfl rfl (.move rfl) ?_
        rcases andB_cases h with ⟨hc106, h⟩ | ⟨hc106, h⟩
        · refine JL.exNo (.off rfl rfl rfl hc106 rfl) rfl rfl ?_
          refine JL.exNo (.off rfl rfl rfl hc106 rfl) rfl rfl ?_
          refine JL.exNo (.off rfl rfl rfl hc106 rfl) rfl rfl ?_
          refine JL.exP (.none rfl) rfl rfl (.pickOff rfl hc106 rfl) ?_
          refine JL.exP (.none rfl) rfl rfl (.move rfl) ?_
          have h := andB_false' h
          refine JL.exNo (.off rfl rfl rfl rfl rfl) rfl rfl ?_
          refine JL.exNo (.off rfl rfl rfl rfl rfl) rfl rfl ?_
          refine JL.exNo (.off rfl rfl rfl rfl rfl) rfl rfl ?_
          refine JL.exNo (.off rfl rfl rfl rfl rfl) rfl rfl ?_
          refine JL.exNo (.off rfl rfl rfl rfl rfl) rfl rfl ?_
          refine JL.exNo (.off rfl rfl rfl rfl rfl) rfl rfl ?_
          refine JL.exP (.none rfl) rfl rfl (.pickOff rfl rfl rfl) ?_
          refine JL.exP (.none rfl) rfl rfl (.assign rfl) ?_
          refine JL.nil ?_
          exact JX.joinEnd h ⟨rfl, trivial⟩
        · refine JL.exP (.on rfl rfl rfl hc106) rfl rfl (.move rfl) ?_
          refine JL.sPure (.on rfl rfl rfl hc106) rfl rfl ((.len (vs := [v100]) rfl)) h (fun vx107 w h => ?_)
          obtain ⟨x107, rfl, h⟩ := h
          refine JL.exP (.on rfl rfl rfl hc106) rfl rfl (.eql rfl rfl) ?_
          refine JL.exP (.none rfl) rfl rfl (.pickOn rfl hc106 rfl) ?_
          refine JL.exP (.none rfl) rfl rfl (.move rfl) ?_
          rcases andB_cases h with ⟨hc110, h⟩ | ⟨hc110, h⟩
          · refine JL.exNo (.off rfl rfl rfl hc110 rfl) rfl rfl ?_
            refine JL.exNo (.off rfl rfl rfl hc110 rfl) rfl rfl ?_
            refine JL.exNo (.off rfl rfl rfl hc110 rfl) rfl rfl ?_
            refine JL.exNo (.off rfl rfl rfl hc110 rfl) rfl rfl ?_
            refine JL.exNo (.off rfl rfl rfl hc110 rfl) rfl rfl ?_
            refine JL.exNo (.off rfl rfl rfl hc110 rfl) rfl rfl ?_
            refine JL.exP (.none rfl) rfl rfl (.pickOff rfl hc110 rfl) ?_
            refine JL.exP (.none rfl) rfl rfl (.assign rfl) ?_
            refine JL.nil ?_
            exact JX.joinEnd h ⟨rfl, trivial⟩
          · refine JL.exP (.on rfl rfl rfl hc110) rfl rfl (.move rfl) ?_
            refine JL.sPure (.on rfl rfl rfl hc110) rfl rfl (.indexAddr rfl rfl) h (fun vp111 w h => ?_)
            obtain ⟨p111, rfl, h⟩ := h
            refine JL.exV (.on rfl rfl rfl hc110) rfl rfl (.load rfl) h (fun v112 w h => ?_)
            refine JL.sPure (.on rfl rfl rfl hc110) rfl rfl ((.build (l' := [(7, (.int .u8 1))]) rfl)) h (fun v113 w h => ?_)
            refine JL.sPure (.on rfl rfl rfl hc110) rfl rfl ((.build (l' := [(0, v113), (1, (.int .i64 1))]) rfl)) h (fun v114 w h => ?_)
            refine JL.sPure (.on rfl rfl rfl hc110) rfl rfl (.binOp rfl rfl) h (fun vb115 w h => ?_)
            obtain ⟨b115, rfl, h⟩ := h
            refine JL.exP (.none rfl) rfl rfl (.pickOn rfl hc110 rfl) ?_
            refine JL.exP (.none rfl) rfl rfl (.assign rfl) ?_
            refine JL.nil ?_
            exact JX.joinEnd h ⟨rfl, trivial⟩
      · refine JX.then ?_
        refine J.ret ?_
        exact JX.ret1 rfl rfl h

/-- (*cabstand/fair.Watch).See -/
def fair_Watch_See (a0 : Value) (a1 : Value) (K : Value → WP) : WP :=
  semA Try.prog (Instr.box 46 a1) fun p116 =>
  callB Try.prog 55 #[a0] fun b117 =>
  iteH (!b117) (
    K (.int .i64 2)) (
    semV Try.prog (loadVar 46 p116) fun v118 =>
    callI Try.prog 46 #[v118] .i64 fun x119 =>
    iteH ((x119 : Int) != 0) (
      K (.int .i64 x119)) (
      semV Try.prog (Instr.makeMap 62 none) fun v120 =>
      semV Try.prog (loadVar 36 (p116.add 1)) fun v121 =>
      pureI Try.prog .i64 (Builtin.len_ #[36] 3 #[v121]) fun x122 =>
      loopH (σ := Int × Int) (fun kc124 s123 =>
        iteH (decide (s123.2 < x122)) (
          pureA Try.prog (Instr.indexAt 36 v121 (.int .i64 s123.2)) fun p125 =>
          semV Try.prog (loadVar 56 p125) fun v126 =>
          semA Try.prog (Instr.alloc 56 true (.tuple #[])) fun p127 =>
          semU Try.prog (storeVar 56 p127 v126) <|
          semV Try.prog (loadVar 28 ((p127.add 0).add 0)) fun v128 =>
          semI Try.prog .i64 (Instr.lookup 62 v120 v128 false) fun x129 =>
          iteH (decide (0 < x129)) (
            K (.int .i64 130)) (
            drawH <|
            readV Try.prog (loadVar 28 ((p127.add 0).add 0)) fun v130 =>
            readI Try.prog .i64 (Instr.lookup 62 v120 v130 false) fun x132 =>
            semV Try.prog (Instr.mapEntry 62 v120 v130) fun v135 =>
            keepR Try.prog (Instr.lookup 62 v120 v130 false) (.int .i64 x132) <|
            pureI Try.prog .i64 (Instr.extract v135 1) fun x136 =>
            semU Try.prog (Instr.entryStore 62 v120 (.int .i64 x136) (.int .i64 (IntKind.i64.wrap (x132 + 1)))) <|
            kc124 (s123.1, (IntKind.i64.wrap (s123.2 + 1))))) (
          drawH <|
          readI Try.prog .i64 (loadVar 3 (p116.add 0)) fun x137 =>
          asP a0 fun p139 =>
          readI Try.prog .i64 (loadVar 3 (p139.add 2)) fun x140 =>
          iteH (decide (x137 ≤ x140)) (
            K (.int .i64 4)) (
            semI Try.prog .i64 (loadVar 3 (p116.add 0)) fun x142 =>
            asP a0 fun p143 =>
            semU Try.prog (storeVar 3 (p143.add 2) (.int .i64 x142)) <|
            asP a0 fun p144 =>
            semU Try.prog (storeVar 34 (p144.add 3) (.slice none 0 0)) <|
            semV Try.prog (loadVar 46 p116) fun v145 =>
            callH Try.prog 47 #[v145] fun v146 =>
            pureV Try.prog (Instr.extract v146 0) fun v147 =>
            pureV Try.prog (Instr.extract v146 1) fun v148 =>
            semV Try.prog (loadVar 36 (p116.add 1)) fun v149 =>
            pureI Try.prog .i64 (Builtin.len_ #[36] 3 #[v149]) fun x150 =>
            loopH (σ := Int) (fun kc152 s151 =>
              iteH (decide (s151 < x150)) (
                joinH (α := Unit) (fun y153 =>
                  kc152 (IntKind.i64.wrap (s151 + 1))) fun k154 =>
                  pureA Try.prog (Instr.indexAt 36 v149 (.int .i64 s151)) fun p155 =>
                  semV Try.prog (loadVar 56 p155) fun v156 =>
                  semA Try.prog (Instr.alloc 56 true (.tuple #[])) fun p157 =>
                  semU Try.prog (storeVar 56 p157 v156) <|
                  pureA Try.prog (Instr.indexAt 98 v148 (.int .i64 s151)) fun p158 =>
                  semB Try.prog (loadVar 4 p158) fun b159 =>
                  iteH b159 (
                    k154 ()) (
                    semV Try.prog (loadVar 28 ((p157.add 0).add 0)) fun v160 =>
                    semA Try.prog (Instr.alloc 28 true (.tuple #[])) fun p161 =>
                    semU Try.prog (storeVar 28 p161 v160) <|
                    drawH <|
                    asP a0 fun p162 =>
                    readV Try.prog (loadVar 34 (p162.add 3)) fun v163 =>
                    readV Try.prog (loadVar 28 p161) fun v165 =>
                    semV Try.prog (Instr.buildSlice 34 1 #[(0, v165)]) fun v168 =>
                    keepR Try.prog (loadVar 34 (p162.add 3)) v163 <|
                    semV Try.prog (Builtin.append_ #[34, 34] 34 #[v163, v168]) fun v169 =>
                    asP a0 fun p170 =>
                    semU Try.prog (storeVar 34 (p170.add 3) v169) <|
                    pureA Try.prog (Instr.indexAt 98 v147 (.int .i64 s151)) fun p171 =>
                    semB Try.prog (loadVar 4 p171) fun b172 =>
                    joinH (α := Unit) (fun y173 =>
                      k154 ()) fun k174 =>
                      iteH b172 (
                        drawH <|
                        asP a0 fun p175 =>
                        readV Try.prog (loadVar 62 (p175.add 0)) fun v176 =>
                        readV Try.prog (loadVar 28 p161) fun v178 =>
                        readI Try.prog .i64 (Instr.lookup 62 v176 v178 false) fun x180 =>
                        semV Try.prog (Instr.mapEntry 62 v176 v178) fun v183 =>
                        keepR Try.prog (Instr.lookup 62 v176 v178 false) (.int .i64 x180) <|
                        pureI Try.prog .i64 (Instr.extract v183 1) fun x184 =>
                        semU Try.prog (Instr.entryStore 62 v176 (.int .i64 x184) (.int .i64 (IntKind.i64.wrap (x180 + 1)))) <|
                        drawH <|
                        asP a0 fun p185 =>
                        readI Try.prog .i64 (loadVar 3 (p185.add 1)) fun x186 =>
                        asP a0 fun p188 =>
                        readV Try.prog (loadVar 62 (p188.add 0)) fun v189 =>
                        readV Try.prog (loadVar 28 p161) fun v191 =>
                        readI Try.prog .i64 (Instr.lookup 62 v189 v191 false) fun x193 =>
                        pureI Try.prog .i64 (Builtin.max_ #[3, 3] 3 #[(.int .i64 x186), (.int .i64 x193)]) fun x195 =>
                        asP a0 fun p196 =>
                        semU Try.prog (storeVar 3 (p196.add 1) (.int .i64 x195)) <|
                        k174 ()) (
                        k174 ()))) (
                asP a0 fun p197 =>
                semV Try.prog (loadVar 34 (p197.add 3)) fun v198 =>
                callH Try.prog 37 #[v198, (.func (.func 38) #[] #[])] fun v199 =>
                K (.int .i64 0))) 0))) (0, 0)))
set_option maxRecDepth 100000 in
set_option maxHeartbeats 1000000 in
theorem fair_Watch_See_ok {a0 : Value} {a1 : Value} {K : Value → WP} {w : World} (h : fair_Watch_See a0 a1 K w) : callH Try.prog 22 #[a0, a1] K w := by
  refine enter (l := [a0, a1]) Try.func22 rfl rfl rfl ?_
  show J Try.prog 123 [(0, a0), (1, a1)] _ _ _
  unfold fair_Watch_See at h
  refine J.seq ?_
  refine J.region ?_
  refine JL.exV (.none rfl) rfl rfl (.box rfl) h (fun vp116 w h => ?_)
  obtain ⟨p116, rfl, h⟩ := h
  refine JL.exP (.none rfl) rfl rfl (.assign rfl) ?_
  refine JL.nil ?_
  refine JX.then ?_
  refine J.seq ?_
  refine J.seq ?_
  refine J.region ?_
  refine JL.exP (.none rfl) rfl rfl (.move rfl) ?_
  refine JL.exC (.none rfl) rfl rfl (.func (vs := [a0]) en_55 rfl) h (fun vb117 w h => ?_)
  obtain ⟨b117, rfl, h⟩ := h
  refine JL.exP (.none rfl) rfl rfl (.not rfl) ?_
  refine JL.nil ?_
  refine JX.then ?_
  refine J.cond (b := _) rfl h (fun h => ?_) (fun h => ?_)
  · refine J.seq ?_
    refine J.region ?_
    refine JL.exP (.none rfl) rfl rfl (.assign rfl) ?_
    refine JL.nil ?_
    refine JX.then ?_
    refine J.ret ?_
    refine JX.thenRet ?_
    exact JX.ret1 rfl rfl h
  · refine J.skip ?_
    refine JX.then ?_
    refine J.seq ?_
    refine J.seq ?_
    refine J.region ?_
    refine JL.exV (.none rfl) rfl rfl (.load rfl) h (fun v118 w h => ?_)
    refine JL.exC (.none rfl) rfl rfl (.func (vs := [v118]) en_46 rfl) h (fun vx119 w h => ?_)
    obtain ⟨x119, rfl, h⟩ := h
    refine JL.exP (.none rfl) rfl rfl (.assign rfl) ?_
    refine JL.nil ?_
    refine JX.then ?_
    refine J.seq ?_
    refine J.region ?_
    refine JL.exP (.none rfl) rfl rfl (.move rfl) ?_
    refine JL.exP (.none rfl) rfl rfl (.neq rfl rfl) ?_
    refine JL.nil ?_
    refine JX.then ?_
    refine J.cond (b := _) rfl h (fun h => ?_) (fun h => ?_)
    · refine J.seq ?_
      refine J.region ?_
      refine JL.exP (.none rfl) rfl rfl (.move rfl) ?_
      refine JL.exP (.none rfl) rfl rfl (.assign rfl) ?_
      refine JL.nil ?_
      refine JX.then ?_
      refine J.ret ?_
      refine JX.thenRet ?_
      exact JX.ret1 rfl rfl h
    · refine J.skip ?_
      refine JX.then ?_
      refine J.seq ?_
      refine J.region ?_
      refine JL.exV (.none rfl) rfl rfl (.makeMap) h (fun v120 w h => ?_)
      refine JL.exP (.none rfl) rfl rfl (.assign rfl) ?_
      refine JL.nil ?_
      refine JX.then ?_
      refine J.seq ?_
      refine J.seq ?_
      refine J.region ?_
      refine JL.exP (.none rfl) rfl rfl (.fieldAddr rfl (fa_46_1 _)) ?_
      refine JL.exV (.none rfl) rfl rfl (.load rfl) h (fun v121 w h => ?_)
      refine JL.sPure (.none rfl) rfl rfl ((.len (vs := [v121]) rfl)) h (fun vx122 w h => ?_)
      obtain ⟨x122, rfl, h⟩ := h
      refine JL.exP (.none rfl) rfl rfl (.move rfl) ?_
      refine JL.nil ?_
      refine JX.then ?_
      refine J.block ?_
      refine J.loop h (fun s123 => [(0, a0), (3, (.pointer (some p116))), (4, (.int .i64 s123.1)), (6, v120), (24, v121), (25, (.int .i64 x122)), (26, (.int .i64 s123.2))]) ⟨rfl, rfl, rfl, rfl, rfl, rfl, rfl, trivial⟩ (fun I μ s123 w h => ?_)
      refine J.seq ?_
      refine J.region ?_
      refine JL.exP (.none rfl) rfl rfl (.lss rfl rfl) ?_
      refine JL.nil ?_
      refine JX.then ?_
      refine J.seq ?_
      refine J.cond (b := _) rfl h (fun h => ?_) (fun h => ?_)
      · refine J.skip ?_
        refine JX.then ?_
        refine J.seq ?_
        refine J.block ?_
        refine J.seq ?_
        refine J.region ?_
        refine JL.sPure (.none rfl) rfl rfl (.indexAddr rfl rfl) h (fun vp125 w h => ?_)
        obtain ⟨p125, rfl, h⟩ := h
        refine JL.exV (.none rfl) rfl rfl (.load rfl) h (fun v126 w h => ?_)
        refine JL.exV (.none rfl) rfl rfl (.alloc) h (fun vp127 w h => ?_)
        obtain ⟨p127, rfl, h⟩ := h
        refine JL.exU (.none rfl) rfl (.store rfl rfl) h (fun w h => ?_)
        refine JL.nil ?_
        refine JX.then ?_
        refine J.seq ?_
        refine J.seq ?_
        refine J.region ?_
        refine JL.exP (.none rfl) rfl rfl (.move rfl) ?_
        refine JL.exP (.none rfl) rfl rfl (.fieldAddr rfl (fa_56_0 _)) ?_
        refine JL.exP (.none rfl) rfl rfl (.fieldAddr rfl (fa_54_0 _)) ?_
        refine JL.exV (.none rfl) rfl rfl (.load rfl) h (fun v128 w h => ?_)
        refine JL.exV (.none rfl) rfl rfl (.lookup rfl rfl) h (fun vx129 w h => ?_)
        obtain ⟨x129, rfl, h⟩ := h
        refine JL.exP (.none rfl) rfl rfl (.gtr rfl rfl) ?_
        refine JL.nil ?_
        refine JX.then ?_
        refine J.cond (b := _) rfl h (fun h => ?_) (fun h => ?_)
        · refine J.seq ?_
          refine J.region ?_
          refine JL.exP (.none rfl) rfl rfl (.assign rfl) ?_
          refine JL.nil ?_
          refine JX.then ?_
          refine J.ret ?_
          refine JX.thenRet ?_
          refine JX.blockRet ?_
          refine JX.thenRet ?_
          refine JX.thenRet ?_
          refine JX.blockRet ?_
          refine JX.thenRet ?_
          exact JX.ret1 rfl rfl h
        · refine J.skip ?_
          refine JX.then ?_
          refine J.draw [[], [], [1], [1, 2], [0, 1, 2, 3], [0, 1, 2, 3, 4], [0, 1, 2, 3], [0, 1, 2, 3, 6], [0, 1, 2, 3, 4, 5, 6, 7]] (by kernel_rfl) mixed h (fun w h => ?_)
          refine JD.pure_ (i := 0) [] rfl (by kernel_rfl) (by kernel_rfl) (by kernel_rfl) (by kernel_rfl) (.none rfl) rfl rfl (.move rfl) trivial ?_
          refine JD.pure_ (i := 1) [] rfl (by kernel_rfl) (by kernel_rfl) (by kernel_rfl) (by kernel_rfl) (.none rfl) rfl rfl (.fieldAddr rfl (fa_56_0 _)) trivial ?_
          refine JD.pure_ (i := 2) [] rfl (by kernel_rfl) (by kernel_rfl) (by kernel_rfl) (by kernel_rfl) (.none rfl) rfl rfl (.fieldAddr rfl (fa_54_0 _)) trivial ?_
          refine JD.read (i := 3) [] rfl (by kernel_rfl) (by kernel_rfl) (by kernel_rfl) (by kernel_rfl) (.none rfl) rfl rfl (.load rfl) h trivial (fun v130 st131 h => ?_)
          refine JD.read (i := 4) [true] rfl (by kernel_rfl) (by kernel_rfl) (by kernel_rfl) (by kernel_rfl) (.none rfl) rfl rfl (.lookup rfl rfl) h trivial (fun vx132 st133 h => ?_)
          obtain ⟨x132, rfl, h⟩ := h
          refine JD.pure_ (i := 5) [true, true] rfl (by kernel_rfl) (by kernel_rfl) (by kernel_rfl) (by kernel_rfl) (.none rfl) rfl rfl (.add rfl rfl) trivial ?_
          refine JD.one (j := 6) (by kernel_rfl) ?_
          refine JD1.exV [false, true] rfl (by kernel_rfl) (.none rfl) rfl rfl (.mapEntry rfl rfl) h (fun v135 w h => ?_)
          obtain ⟨st134, h⟩ := h
          refine ⟨⟨st134, trivial⟩, ?_⟩
          refine JD.sPure (i := 7) [false] rfl (by kernel_rfl) (by kernel_rfl) (by kernel_rfl) (by kernel_rfl) (.none rfl) rfl rfl (.extract rfl) h ⟨st134, trivial⟩ (fun vx136 h => ?_)
          obtain ⟨x136, rfl, h⟩ := h
          refine JD.one (j := 8) (by kernel_rfl) ?_
          refine JD1.exU [true] rfl (by kernel_rfl) (.none rfl) rfl (.entryStore rfl rfl rfl) h (fun w h => ?_)
          refine ⟨trivial, ?_⟩
          refine JD.done (by kernel_rfl) ?_
          refine JX.blockNormal ?_
          refine JX.then ?_
          refine J.region ?_
          refine JL.exP (.none rfl) rfl rfl (.add rfl rfl) ?_
          refine JL.exP (.none rfl) rfl rfl (.move rfl) ?_
          refine JL.nil ?_
          exact JX.loopEnd h ⟨rfl, rfl, rfl, rfl, rfl, rfl, rfl, trivial⟩
      · refine J.exit ?_
        refine JX.thenExit ?_
        refine JX.thenExit ?_
        refine JX.blockHere ?_
        refine JX.then ?_
        refine J.seq ?_
        refine J.seq ?_
        refine J.draw [[], [0], [], [2], [2, 3], [2, 3, 4], [0, 1, 2, 3, 4, 5]] (by kernel_rfl) mixed h (fun w h => ?_)
        refine JD.pure_ (i := 0) [] rfl (by kernel_rfl) (by kernel_rfl) (by kernel_rfl) (by kernel_rfl) (.none rfl) rfl rfl (.fieldAddr rfl (fa_46_0 _)) trivial ?_
        refine JD.read (i := 1) [] rfl (by kernel_rfl) (by kernel_rfl) (by kernel_rfl) (by kernel_rfl) (.none rfl) rfl rfl (.load rfl) h trivial (fun vx137 st138 h => ?_)
        obtain ⟨x137, rfl, h⟩ := h
        refine JD.pure_ (i := 2) [false] rfl (by kernel_rfl) (by kernel_rfl) (by kernel_rfl) (by kernel_rfl) (.none rfl) rfl rfl (.move rfl) ⟨st138, trivial⟩ ?_
        obtain ⟨p139, hp139, h⟩ := h
        refine JD.pure_ (i := 3) [false] rfl (by kernel_rfl) (by kernel_rfl) (by kernel_rfl) (by kernel_rfl) (.none rfl) rfl rfl (.nilCheck rfl hp139) ⟨st138, trivial⟩ ?_
        refine JD.pure_ (i := 4) [false] rfl (by kernel_rfl) (by kernel_rfl) (by kernel_rfl) (by kernel_rfl) (.none rfl) rfl rfl (.fieldAddr rfl (fa_64_2 _)) ⟨st138, trivial⟩ ?_
        refine JD.read (i := 5) [false] rfl (by kernel_rfl) (by kernel_rfl) (by kernel_rfl) (by kernel_rfl) (.none rfl) rfl rfl (.load rfl) h ⟨st138, trivial⟩ (fun vx140 st141 h => ?_)
        obtain ⟨x140, rfl, h⟩ := h
        refine JD.pure_ (i := 6) [true, true] rfl (by kernel_rfl) (by kernel_rfl) (by kernel_rfl) (by kernel_rfl) (.none rfl) rfl rfl (.leq rfl rfl) trivial ?_
        refine JD.done (by kernel_rfl) ?_
        refine JX.then ?_
        refine J.cond (b := _) rfl h (fun h => ?_) (fun h => ?_)
        · refine J.seq ?_
          refine J.region ?_
          refine JL.exP (.none rfl) rfl rfl (.assign rfl) ?_
          refine JL.nil ?_
          refine JX.then ?_
          refine J.ret ?_
          refine JX.thenRet ?_
          exact JX.ret1 rfl rfl h
        · refine J.skip ?_
          refine JX.then ?_
          refine J.seq ?_
          refine J.region ?_
          refine JL.exP (.none rfl) rfl rfl (.move rfl) ?_
          refine JL.exP (.none rfl) rfl rfl (.fieldAddr rfl (fa_46_0 _)) ?_
          refine JL.exV (.none rfl) rfl rfl (.load rfl) h (fun vx142 w h => ?_)
          obtain ⟨x142, rfl, h⟩ := h
          obtain ⟨p143, hp143, h⟩ := h
          refine JL.exP (.none rfl) rfl rfl (.nilCheck rfl hp143) ?_
          refine JL.exP (.none rfl) rfl rfl (.fieldAddr rfl (fa_64_2 _)) ?_
          refine JL.exU (.none rfl) rfl (.store rfl rfl) h (fun w h => ?_)
          refine JL.nil ?_
          refine JX.then ?_
          refine J.seq ?_
          refine J.region ?_
          refine JL.exP (.none rfl) rfl rfl (.move rfl) ?_
          obtain ⟨p144, hp144, h⟩ := h
          refine JL.exP (.none rfl) rfl rfl (.nilCheck rfl hp144) ?_
          refine JL.exP (.none rfl) rfl rfl (.fieldAddr rfl (fa_64_3 _)) ?_
          refine JL.exU (.none rfl) rfl (.store rfl rfl) h (fun w h => ?_)
          refine JL.nil ?_
          refine JX.then ?_
          refine J.seq ?_
          refine J.region ?_
          refine JL.exV (.none rfl) rfl rfl (.load rfl) h (fun v145 w h => ?_)
          refine JL.exC (.none rfl) rfl rfl (.func (vs := [v145]) en_47 rfl) h (fun v146 w h => ?_)
          refine JL.exP (.none rfl) rfl rfl (.move rfl) ?_
          refine JL.sPure (.none rfl) rfl rfl (.extract rfl) h (fun v147 w h => ?_)
          refine JL.sPure (.none rfl) rfl rfl (.extract rfl) h (fun v148 w h => ?_)
          refine JL.exP (.none rfl) rfl rfl (.assign rfl) ?_
          refine JL.exP (.none rfl) rfl rfl (.assign rfl) ?_
          refine JL.nil ?_
          refine JX.then ?_
          refine J.seq ?_
          refine J.seq ?_
          refine J.region ?_
          refine JL.exP (.none rfl) rfl rfl (.fieldAddr rfl (fa_46_1 _)) ?_
          refine JL.exV (.none rfl) rfl rfl (.load rfl) h (fun v149 w h => ?_)
          refine JL.sPure (.none rfl) rfl rfl ((.len (vs := [v149]) rfl)) h (fun vx150 w h => ?_)
          obtain ⟨x150, rfl, h⟩ := h
          refine JL.exP (.none rfl) rfl rfl (.move rfl) ?_
          refine JL.nil ?_
          refine JX.then ?_
          refine J.block ?_
          refine J.loop h (fun s151 => [(0, a0), (4, (.int .i64 s123.1)), (9, v147), (10, v148), (66, v149), (67, (.int .i64 x150)), (68, (.int .i64 s151))]) ⟨rfl, rfl, rfl, rfl, rfl, rfl, rfl, trivial⟩ (fun I μ s151 w h => ?_)
          refine J.seq ?_
          refine J.region ?_
          refine JL.exP (.none rfl) rfl rfl (.lss rfl rfl) ?_
          refine JL.nil ?_
          refine JX.then ?_
          refine J.seq ?_
          refine J.cond (b := _) rfl h (fun h => ?_) (fun h => ?_)
          · refine J.skip ?_
            refine JX.then ?_
            refine J.seq ?_
            refine J.join h (fun y153 => [(0, a0), (4, (.int .i64 s123.1)), (9, v147), (10, v148), (66, v149), (67, (.int .i64 x150)), (68, (.int .i64 s151))]) (fun k154 w h => ?_) (fun y153 w h => ?_)
            · refine J.block ?_
              refine J.seq ?_
              refine J.region ?_
              refine JL.exP (.none rfl) rfl rfl (.move rfl) ?_
              refine JL.sPure (.none rfl) rfl rfl (.indexAddr rfl rfl) h (fun vp155 w h => ?_)
              obtain ⟨p155, rfl, h⟩ := h
              refine JL.exV (.none rfl) rfl rfl (.load rfl) h (fun v156 w h => ?_)
              refine JL.exV (.none rfl) rfl rfl (.alloc) h (fun vp157 w h => ?_)
              obtain ⟨p157, rfl, h⟩ := h
              refine JL.exP (.none rfl) rfl rfl (.assign rfl) ?_
              refine JL.exU (.none rfl) rfl (.store rfl rfl) h (fun w h => ?_)
              refine JL.nil ?_
              refine JX.then ?_
              refine J.seq ?_
              refine J.seq ?_
              refine J.region ?_
              refine JL.exP (.none rfl) rfl rfl (.move rfl) ?_
              refine JL.exP (.none rfl) rfl rfl (.move rfl) ?_
              refine JL.sPure (.none rfl) rfl rfl (.indexAddr rfl rfl) h (fun vp158 w h => ?_)
              obtain ⟨p158, rfl, h⟩ := h
              refine JL.exV (.none rfl) rfl rfl (.load rfl) h (fun vb159 w h => ?_)
              obtain ⟨b159, rfl, h⟩ := h
              refine JL.nil ?_
              refine JX.then ?_
              refine J.cond (b := _) rfl h (fun h => ?_) (fun h => ?_)
              · refine J.exit ?_
                refine JX.thenExit ?_
                refine JX.blockHere ?_
                exact JX.joinEnd h ⟨rfl, rfl, rfl, rfl, rfl, rfl, rfl, trivial⟩
              · refine J.skip ?_
                refine JX.then ?_
                refine J.seq ?_
                refine J.region ?_
                refine JL.exP (.none rfl) rfl rfl (.fieldAddr rfl (fa_56_0 _)) ?_
                refine JL.exP (.none rfl) rfl rfl (.fieldAddr rfl (fa_54_0 _)) ?_
                refine JL.exV (.none rfl) rfl rfl (.load rfl) h (fun v160 w h => ?_)
                refine JL.exV (.none rfl) rfl rfl (.alloc) h (fun vp161 w h => ?_)
                obtain ⟨p161, rfl, h⟩ := h
                refine JL.exU (.none rfl) rfl (.store rfl rfl) h (fun w h => ?_)
                refine JL.nil ?_
                refine JX.then ?_
                refine J.seq ?_
                refine J.draw [[], [], [1], [1, 2], [1, 2, 3], [], [5], [1, 2, 3, 4, 5, 6], [0, 1, 2, 3, 4, 5, 6, 7], [0, 1, 2, 3, 4, 5, 6, 7, 8], [0, 1, 2, 3, 4, 5, 6, 7, 8, 9]] (by kernel_rfl) mixed h (fun w h => ?_)
                refine JD.pure_ (i := 0) [] rfl (by kernel_rfl) (by kernel_rfl) (by kernel_rfl) (by kernel_rfl) (.none rfl) rfl rfl (.move rfl) trivial ?_
                refine JD.pure_ (i := 1) [] rfl (by kernel_rfl) (by kernel_rfl) (by kernel_rfl) (by kernel_rfl) (.none rfl) rfl rfl (.move rfl) trivial ?_
                obtain ⟨p162, hp162, h⟩ := h
                refine JD.pure_ (i := 2) [] rfl (by kernel_rfl) (by kernel_rfl) (by kernel_rfl) (by kernel_rfl) (.none rfl) rfl rfl (.nilCheck rfl hp162) trivial ?_
                refine JD.pure_ (i := 3) [] rfl (by kernel_rfl) (by kernel_rfl) (by kernel_rfl) (by kernel_rfl) (.none rfl) rfl rfl (.fieldAddr rfl (fa_64_3 _)) trivial ?_
                refine JD.read (i := 4) [] rfl (by kernel_rfl) (by kernel_rfl) (by kernel_rfl) (by kernel_rfl) (.none rfl) rfl rfl (.load rfl) h trivial (fun v163 st164 h => ?_)
                refine JD.read (i := 5) [false] rfl (by kernel_rfl) (by kernel_rfl) (by kernel_rfl) (by kernel_rfl) (.none rfl) rfl rfl (.load rfl) h ⟨st164, trivial⟩ (fun v165 st166 h => ?_)
                refine JD.one (j := 6) (by kernel_rfl) ?_
                refine JD1.exV [true, false] rfl (by kernel_rfl) (.none rfl) rfl rfl ((.buildSlice (l' := [(0, v165)]) rfl)) h (fun v168 w h => ?_)
                obtain ⟨st167, h⟩ := h
                refine ⟨⟨st167, trivial⟩, ?_⟩
                refine JD.one (j := 7) (by kernel_rfl) ?_
                refine JD1.exV [true] rfl (by kernel_rfl) (.none rfl) rfl rfl ((.append (vs := [v163, v168]) rfl)) h (fun v169 w h => ?_)
                refine ⟨trivial, ?_⟩
                obtain ⟨p170, hp170, h⟩ := h
                refine JD.pure_ (i := 8) [] rfl (by kernel_rfl) (by kernel_rfl) (by kernel_rfl) (by kernel_rfl) (.none rfl) rfl rfl (.nilCheck rfl hp170) trivial ?_
                refine JD.pure_ (i := 9) [] rfl (by kernel_rfl) (by kernel_rfl) (by kernel_rfl) (by kernel_rfl) (.none rfl) rfl rfl (.fieldAddr rfl (fa_64_3 _)) trivial ?_
                refine JD.one (j := 10) (by kernel_rfl) ?_
                refine JD1.exU [] rfl (by kernel_rfl) (.none rfl) rfl (.store rfl rfl) h (fun w h => ?_)
                refine ⟨trivial, ?_⟩
                refine JD.done (by kernel_rfl) ?_
                refine JX.then ?_
                refine J.seq ?_
                refine J.region ?_
                refine JL.exP (.none rfl) rfl rfl (.move rfl) ?_
                refine JL.exP (.none rfl) rfl rfl (.move rfl) ?_
                refine JL.sPure (.none rfl) rfl rfl (.indexAddr rfl rfl) h (fun vp171 w h => ?_)
                obtain ⟨p171, rfl, h⟩ := h
                refine JL.exV (.none rfl) rfl rfl (.load rfl) h (fun vb172 w h => ?_)
                obtain ⟨b172, rfl, h⟩ := h
                refine JL.nil ?_
                refine JX.then ?_
                refine J.join h (fun y173 => [(0, a0), (4, (.int .i64 s123.1)), (9, v147), (10, v148), (66, v149), (67, (.int .i64 x150)), (68, (.int .i64 s151))]) (fun k174 w h => ?_) (fun y173 w h => ?_)
                · refine J.cond (b := _) rfl h (fun h => ?_) (fun h => ?_)
                  · refine J.seq ?_
                    refine J.draw [[], [0], [0, 1], [0, 1, 2], [], [0, 1, 2, 3, 4], [0, 1, 2, 3, 4, 5], [0, 1, 2, 3, 4], [0, 1, 2, 3, 4, 7], [0, 1, 2, 3, 4, 5, 6, 7, 8]] (by kernel_rfl) mixed h (fun w h => ?_)
                    refine JD.pure_ (i := 0) [] rfl (by kernel_rfl) (by kernel_rfl) (by kernel_rfl) (by kernel_rfl) (.none rfl) rfl rfl (.move rfl) trivial ?_
                    obtain ⟨p175, hp175, h⟩ := h
                    refine JD.pure_ (i := 1) [] rfl (by kernel_rfl) (by kernel_rfl) (by kernel_rfl) (by kernel_rfl) (.none rfl) rfl rfl (.nilCheck rfl hp175) trivial ?_
                    refine JD.pure_ (i := 2) [] rfl (by kernel_rfl) (by kernel_rfl) (by kernel_rfl) (by kernel_rfl) (.none rfl) rfl rfl (.fieldAddr rfl (fa_64_0 _)) trivial ?_
                    refine JD.read (i := 3) [] rfl (by kernel_rfl) (by kernel_rfl) (by kernel_rfl) (by kernel_rfl) (.none rfl) rfl rfl (.load rfl) h trivial (fun v176 st177 h => ?_)
                    refine JD.read (i := 4) [false] rfl (by kernel_rfl) (by kernel_rfl) (by kernel_rfl) (by kernel_rfl) (.none rfl) rfl rfl (.load rfl) h ⟨st177, trivial⟩ (fun v178 st179 h => ?_)
                    refine JD.read (i := 5) [true, true] rfl (by kernel_rfl) (by kernel_rfl) (by kernel_rfl) (by kernel_rfl) (.none rfl) rfl rfl (.lookup rfl rfl) h trivial (fun vx180 st181 h => ?_)
                    obtain ⟨x180, rfl, h⟩ := h
                    refine JD.pure_ (i := 6) [true, true, true] rfl (by kernel_rfl) (by kernel_rfl) (by kernel_rfl) (by kernel_rfl) (.none rfl) rfl rfl (.add rfl rfl) trivial ?_
                    refine JD.one (j := 7) (by kernel_rfl) ?_
                    refine JD1.exV [false, true, true] rfl (by kernel_rfl) (.none rfl) rfl rfl (.mapEntry rfl rfl) h (fun v183 w h => ?_)
                    obtain ⟨st182, h⟩ := h
                    refine ⟨⟨st182, trivial⟩, ?_⟩
                    refine JD.sPure (i := 8) [false] rfl (by kernel_rfl) (by kernel_rfl) (by kernel_rfl) (by kernel_rfl) (.none rfl) rfl rfl (.extract rfl) h ⟨st182, trivial⟩ (fun vx184 h => ?_)
                    obtain ⟨x184, rfl, h⟩ := h
                    refine JD.one (j := 9) (by kernel_rfl) ?_
                    refine JD1.exU [true] rfl (by kernel_rfl) (.none rfl) rfl (.entryStore rfl rfl rfl) h (fun w h => ?_)
                    refine ⟨trivial, ?_⟩
                    refine JD.done (by kernel_rfl) ?_
                    refine JX.then ?_
                    refine J.draw [[], [], [1], [1, 2], [1, 2, 3], [], [5], [5, 6], [5, 6, 7], [], [5, 6, 7, 8, 9], [1, 2, 3, 4, 5, 6, 7, 8, 9, 10], [0, 1, 2, 3, 4, 5, 6, 7, 8, 9, 10, 11], [0, 1, 2, 3, 4, 5, 6, 7, 8, 9, 10, 11, 12], [0, 1, 2, 3, 4, 5, 6, 7, 8, 9, 10, 11, 12, 13]] (by kernel_rfl) mixed h (fun w h => ?_)
                    refine JD.pure_ (i := 0) [] rfl (by kernel_rfl) (by kernel_rfl) (by kernel_rfl) (by kernel_rfl) (.none rfl) rfl rfl (.move rfl) trivial ?_
                    refine JD.pure_ (i := 1) [] rfl (by kernel_rfl) (by kernel_rfl) (by kernel_rfl) (by kernel_rfl) (.none rfl) rfl rfl (.move rfl) trivial ?_
                    obtain ⟨p185, hp185, h⟩ := h
                    refine JD.pure_ (i := 2) [] rfl (by kernel_rfl) (by kernel_rfl) (by kernel_rfl) (by kernel_rfl) (.none rfl) rfl rfl (.nilCheck rfl hp185) trivial ?_
                    refine JD.pure_ (i := 3) [] rfl (by kernel_rfl) (by kernel_rfl) (by kernel_rfl) (by kernel_rfl) (.none rfl) rfl rfl (.fieldAddr rfl (fa_64_1 _)) trivial ?_
                    refine JD.read (i := 4) [] rfl (by kernel_rfl) (by kernel_rfl) (by kernel_rfl) (by kernel_rfl) (.none rfl) rfl rfl (.load rfl) h trivial (fun vx186 st187 h => ?_)
                    obtain ⟨x186, rfl, h⟩ := h
                    refine JD.pure_ (i := 5) [false] rfl (by kernel_rfl) (by kernel_rfl) (by kernel_rfl) (by kernel_rfl) (.none rfl) rfl rfl (.move rfl) ⟨st187, trivial⟩ ?_
                    obtain ⟨p188, hp188, h⟩ := h
                    refine JD.pure_ (i := 6) [false] rfl (by kernel_rfl) (by kernel_rfl) (by kernel_rfl) (by kernel_rfl) (.none rfl) rfl rfl (.nilCheck rfl hp188) ⟨st187, trivial⟩ ?_
                    refine JD.pure_ (i := 7) [false] rfl (by kernel_rfl) (by kernel_rfl) (by kernel_rfl) (by kernel_rfl) (.none rfl) rfl rfl (.fieldAddr rfl (fa_64_0 _)) ⟨st187, trivial⟩ ?_
                    refine JD.read (i := 8) [false] rfl (by kernel_rfl) (by kernel_rfl) (by kernel_rfl) (by kernel_rfl) (.none rfl) rfl rfl (.load rfl) h ⟨st187, trivial⟩ (fun v189 st190 h => ?_)
                    refine JD.read (i := 9) [false, false] rfl (by kernel_rfl) (by kernel_rfl) (by kernel_rfl) (by kernel_rfl) (.none rfl) rfl rfl (.load rfl) h ⟨st190, st187, trivial⟩ (fun v191 st192 h => ?_)
                    refine JD.read (i := 10) [true, true, false] rfl (by kernel_rfl) (by kernel_rfl) (by kernel_rfl) (by kernel_rfl) (.none rfl) rfl rfl (.lookup rfl rfl) h ⟨st187, trivial⟩ (fun vx193 st194 h => ?_)
                    obtain ⟨x193, rfl, h⟩ := h
                    refine JD.sPure (i := 11) [true, true, true, true] rfl (by kernel_rfl) (by kernel_rfl) (by kernel_rfl) (by kernel_rfl) (.none rfl) rfl rfl ((.max (vs := [(.int .i64 x186), (.int .i64 x193)]) rfl)) h trivial (fun vx195 h => ?_)
                    obtain ⟨x195, rfl, h⟩ := h
                    obtain ⟨p196, hp196, h⟩ := h
                    refine JD.pure_ (i := 12) [true, true, true, true] rfl (by kernel_rfl) (by kernel_rfl) (by kernel_rfl) (by kernel_rfl) (.none rfl) rfl rfl (.nilCheck rfl hp196) trivial ?_
                    refine JD.pure_ (i := 13) [true, true, true, true] rfl (by kernel_rfl) (by kernel_rfl) (by kernel_rfl) (by kernel_rfl) (.none rfl) rfl rfl (.fieldAddr rfl (fa_64_1 _)) trivial ?_
                    refine JD.one (j := 14) (by kernel_rfl) ?_
                    refine JD1.exU [true, true, true, true] rfl (by kernel_rfl) (.none rfl) rfl (.store rfl rfl) h (fun w h => ?_)
                    refine ⟨trivial, ?_⟩
                    refine JD.done (by kernel_rfl) ?_
                    exact JX.joinEnd h ⟨rfl, rfl, rfl, rfl, rfl, rfl, rfl, trivial⟩
                  · refine J.skip ?_
                    exact JX.joinEnd h ⟨rfl, rfl, rfl, rfl, rfl, rfl, rfl, trivial⟩
                · refine JX.blockNormal ?_
                  exact JX.joinEnd h ⟨rfl, rfl, rfl, rfl, rfl, rfl, rfl, trivial⟩
            · refine JX.then ?_
              refine J.region ?_
              refine JL.exP (.none rfl) rfl rfl (.add rfl rfl) ?_
              refine JL.exP (.none rfl) rfl rfl (.move rfl) ?_
              refine JL.nil ?_
              exact JX.loopEnd h ⟨rfl, rfl, rfl, rfl, rfl, rfl, rfl, trivial⟩
          · refine J.exit ?_
            refine JX.thenExit ?_
            refine JX.thenExit ?_
            refine JX.blockHere ?_
            refine JX.then ?_
            refine J.seq ?_
            refine J.region ?_
            refine JL.exP (.none rfl) rfl rfl (.move rfl) ?_
            obtain ⟨p197, hp197, h⟩ := h
            refine JL.exP (.none rfl) rfl rfl (.nilCheck rfl hp197) ?_
            refine JL.exP (.none rfl) rfl rfl (.fieldAddr rfl (fa_64_3 _)) ?_
            refine JL.exV (.none rfl) rfl rfl (.load rfl) h (fun v198 w h => ?_)
            refine JL.exC (.none rfl) rfl rfl (.func (vs := [v198, (.func (.func 38) #[] #[])]) en_37 rfl) h (fun v199 w h => ?_)
            refine JL.nil ?_
            refine JX.then ?_
            refine J.seq ?_
            refine J.region ?_
            refine JL.exP (.none rfl) rfl rfl (.assign rfl) ?_
            refine JL.nil ?_
            refine JX.then ?_
            refine J.ret ?_
            exact JX.ret1 rfl rfl h

/-- (*cabstand/fair.Watch).Worst -/
def fair_Watch_Worst (a0 : Value) (K : Value → WP) : WP :=
  callB Try.prog 55 #[a0] fun b200 =>
  iteH (!b200) (
    K (.int .i64 0)) (
    asP a0 fun p201 =>
    semI Try.prog .i64 (loadVar 3 (p201.add 1)) fun x202 =>
    K (.int .i64 x202))
set_option maxRecDepth 100000 in
set_option maxHeartbeats 1000000 in
theorem fair_Watch_Worst_ok {a0 : Value} {K : Value → WP} {w : World} (h : fair_Watch_Worst a0 K w) : callH Try.prog 23 #[a0] K w := by
  refine enter (l := [a0]) Try.func23 rfl rfl rfl ?_
  show J Try.prog 10 [(0, a0)] _ _ _
  unfold fair_Watch_Worst at h
  refine J.seq ?_
  refine J.region ?_
  refine JL.exP (.none rfl) rfl rfl (.assign rfl) ?_
  refine JL.nil ?_
  refine JX.then ?_
  refine J.seq ?_
  refine J.seq ?_
  refine J.region ?_
  refine JL.exP (.none rfl) rfl rfl (.move rfl) ?_
  refine JL.exC (.none rfl) rfl rfl (.func (vs := [a0]) en_55 rfl) h (fun vb200 w h => ?_)
  obtain ⟨b200, rfl, h⟩ := h
  refine JL.exP (.none rfl) rfl rfl (.not rfl) ?_
  refine JL.nil ?_
  refine JX.then ?_
  refine J.cond (b := _) rfl h (fun h => ?_) (fun h => ?_)
  · refine J.seq ?_
    refine J.region ?_
    refine JL.exP (.none rfl) rfl rfl (.assign rfl) ?_
    refine JL.nil ?_
    refine JX.then ?_
    refine J.ret ?_
    refine JX.thenRet ?_
    exact JX.ret1 rfl rfl h
  · refine J.skip ?_
    refine JX.then ?_
    refine J.seq ?_
    refine J.region ?_
    refine JL.exP (.none rfl) rfl rfl (.move rfl) ?_
    obtain ⟨p201, hp201, h⟩ := h
    refine JL.exP (.none rfl) rfl rfl (.nilCheck rfl hp201) ?_
    refine JL.exP (.none rfl) rfl rfl (.fieldAddr rfl (fa_64_1 _)) ?_
    refine JL.exV (.none rfl) rfl rfl (.load rfl) h (fun vx202 w h => ?_)
    obtain ⟨x202, rfl, h⟩ := h
    refine JL.exP (.none rfl) rfl rfl (.assign rfl) ?_
    refine JL.nil ?_
    refine JX.then ?_
    refine J.ret ?_
    exact JX.ret1 rfl rfl h

/-- (*cabstand/fair.Watch).Standing -/
def fair_Watch_Standing (a0 : Value) (K : Value → WP) : WP :=
  callB Try.prog 55 #[a0] fun b203 =>
  iteH (!b203) (
    K (.slice none 0 0)) (
    asP a0 fun p204 =>
    semV Try.prog (loadVar 34 (p204.add 3)) fun v205 =>
    pureI Try.prog .i64 (Builtin.len_ #[34] 3 #[v205]) fun x206 =>
    loopH (σ := Value × Int) (fun kc208 s207 =>
      iteH (decide (s207.2 < x206)) (
        pureA Try.prog (Instr.indexAt 34 v205 (.int .i64 s207.2)) fun p209 =>
        semV Try.prog (loadVar 28 p209) fun v210 =>
        semA Try.prog (Instr.alloc 28 true (.tuple #[])) fun p211 =>
        semU Try.prog (storeVar 28 p211 v210) <|
        drawH <|
        readV Try.prog (loadVar 28 p211) fun v212 =>
        asP a0 fun p214 =>
        readV Try.prog (loadVar 62 (p214.add 0)) fun v215 =>
        readV Try.prog (loadVar 28 p211) fun v217 =>
        readI Try.prog .i64 (Instr.lookup 62 v215 v217 false) fun x219 =>
        pureV Try.prog (Instr.build 112 #[(0, v212), (1, (.int .i64 x219))]) fun v221 =>
        semV Try.prog (Instr.buildSlice 67 1 #[(0, v221)]) fun v222 =>
        semV Try.prog (Builtin.append_ #[67, 67] 67 #[s207.1, v222]) fun v223 =>
        kc208 (v223, (IntKind.i64.wrap (s207.2 + 1)))) (
        K s207.1)) ((.slice none 0 0), 0))
set_option maxRecDepth 100000 in
set_option maxHeartbeats 1000000 in
theorem fair_Watch_Standing_ok {a0 : Value} {K : Value → WP} {w : World} (h : fair_Watch_Standing a0 K w) : callH Try.prog 24 #[a0] K w := by
  refine enter (l := [a0]) Try.func24 rfl rfl rfl ?_
  show J Try.prog 31 [(0, a0)] _ _ _
  unfold fair_Watch_Standing at h
  refine J.seq ?_
  refine J.region ?_
  refine JL.exP (.none rfl) rfl rfl (.assign rfl) ?_
  refine JL.nil ?_
  refine JX.then ?_
  refine J.seq ?_
  refine J.seq ?_
  refine J.region ?_
  refine JL.exP (.none rfl) rfl rfl (.move rfl) ?_
  refine JL.exC (.none rfl) rfl rfl (.func (vs := [a0]) en_55 rfl) h (fun vb203 w h => ?_)
  obtain ⟨b203, rfl, h⟩ := h
  refine JL.exP (.none rfl) rfl rfl (.not rfl) ?_
  refine JL.nil ?_
  refine JX.then ?_
  refine J.cond (b := _) rfl h (fun h => ?_) (fun h => ?_)
  · refine J.seq ?_
    refine J.region ?_
    refine JL.exP (.none rfl) rfl rfl (.assign rfl) ?_
    refine JL.nil ?_
    refine JX.then ?_
    refine J.ret ?_
    refine JX.thenRet ?_
    exact JX.ret1 rfl rfl h
  · refine J.skip ?_
    refine JX.then ?_
    refine J.seq ?_
    refine J.region ?_
    refine JL.exP (.none rfl) rfl rfl (.assign rfl) ?_
    refine JL.nil ?_
    refine JX.then ?_
    refine J.seq ?_
    refine J.seq ?_
    refine J.region ?_
    refine JL.exP (.none rfl) rfl rfl (.move rfl) ?_
    obtain ⟨p204, hp204, h⟩ := h
    refine JL.exP (.none rfl) rfl rfl (.nilCheck rfl hp204) ?_
    refine JL.exP (.none rfl) rfl rfl (.fieldAddr rfl (fa_64_3 _)) ?_
    refine JL.exV (.none rfl) rfl rfl (.load rfl) h (fun v205 w h => ?_)
    refine JL.sPure (.none rfl) rfl rfl ((.len (vs := [v205]) rfl)) h (fun vx206 w h => ?_)
    obtain ⟨x206, rfl, h⟩ := h
    refine JL.exP (.none rfl) rfl rfl (.move rfl) ?_
    refine JL.nil ?_
    refine JX.then ?_
    refine J.block ?_
    refine J.loop h (fun s207 => [(0, a0), (2, (.slice none 0 0)), (3, s207.1), (12, v205), (13, (.int .i64 x206)), (14, (.int .i64 s207.2))]) ⟨rfl, rfl, rfl, rfl, rfl, rfl, trivial⟩ (fun I μ s207 w h => ?_)
    refine J.seq ?_
    refine J.region ?_
    refine JL.exP (.none rfl) rfl rfl (.lss rfl rfl) ?_
    refine JL.nil ?_
    refine JX.then ?_
    refine J.seq ?_
    refine J.cond (b := _) rfl h (fun h => ?_) (fun h => ?_)
    · refine J.skip ?_
      refine JX.then ?_
      refine J.seq ?_
      refine J.block ?_
      refine J.seq ?_
      refine J.region ?_
      refine JL.sPure (.none rfl) rfl rfl (.indexAddr rfl rfl) h (fun vp209 w h => ?_)
      obtain ⟨p209, rfl, h⟩ := h
      refine JL.exV (.none rfl) rfl rfl (.load rfl) h (fun v210 w h => ?_)
      refine JL.exV (.none rfl) rfl rfl (.alloc) h (fun vp211 w h => ?_)
      obtain ⟨p211, rfl, h⟩ := h
      refine JL.exU (.none rfl) rfl (.store rfl rfl) h (fun w h => ?_)
      refine JL.nil ?_
      refine JX.then ?_
      refine J.draw [[], [], [], [2], [2, 3], [2, 3, 4], [], [2, 3, 4, 5, 6], [1, 2, 3, 4, 5, 6, 7], [1, 2, 3, 4, 5, 6, 7, 8], [0, 1, 2, 3, 4, 5, 6, 7, 8, 9], [0, 1, 2, 3, 4, 5, 6, 7, 8, 9, 10]] (by kernel_rfl) mixed h (fun w h => ?_)
      refine JD.pure_ (i := 0) [] rfl (by kernel_rfl) (by kernel_rfl) (by kernel_rfl) (by kernel_rfl) (.none rfl) rfl rfl (.move rfl) trivial ?_
      refine JD.read (i := 1) [] rfl (by kernel_rfl) (by kernel_rfl) (by kernel_rfl) (by kernel_rfl) (.none rfl) rfl rfl (.load rfl) h trivial (fun v212 st213 h => ?_)
      refine JD.pure_ (i := 2) [false] rfl (by kernel_rfl) (by kernel_rfl) (by kernel_rfl) (by kernel_rfl) (.none rfl) rfl rfl (.move rfl) ⟨st213, trivial⟩ ?_
      obtain ⟨p214, hp214, h⟩ := h
      refine JD.pure_ (i := 3) [false] rfl (by kernel_rfl) (by kernel_rfl) (by kernel_rfl) (by kernel_rfl) (.none rfl) rfl rfl (.nilCheck rfl hp214) ⟨st213, trivial⟩ ?_
      refine JD.pure_ (i := 4) [false] rfl (by kernel_rfl) (by kernel_rfl) (by kernel_rfl) (by kernel_rfl) (.none rfl) rfl rfl (.fieldAddr rfl (fa_64_0 _)) ⟨st213, trivial⟩ ?_
      refine JD.read (i := 5) [false] rfl (by kernel_rfl) (by kernel_rfl) (by kernel_rfl) (by kernel_rfl) (.none rfl) rfl rfl (.load rfl) h ⟨st213, trivial⟩ (fun v215 st216 h => ?_)
      refine JD.read (i := 6) [false, false] rfl (by kernel_rfl) (by kernel_rfl) (by kernel_rfl) (by kernel_rfl) (.none rfl) rfl rfl (.load rfl) h ⟨st216, st213, trivial⟩ (fun v217 st218 h => ?_)
      refine JD.read (i := 7) [true, true, false] rfl (by kernel_rfl) (by kernel_rfl) (by kernel_rfl) (by kernel_rfl) (.none rfl) rfl rfl (.lookup rfl rfl) h ⟨st213, trivial⟩ (fun vx219 st220 h => ?_)
      obtain ⟨x219, rfl, h⟩ := h
      refine JD.sPure (i := 8) [true, true, true, true] rfl (by kernel_rfl) (by kernel_rfl) (by kernel_rfl) (by kernel_rfl) (.none rfl) rfl rfl ((.build (l' := [(0, v212), (1, (.int .i64 x219))]) rfl)) h trivial (fun v221 h => ?_)
      refine JD.one (j := 9) (by kernel_rfl) ?_
      refine JD1.exV [true, true, true, true] rfl (by kernel_rfl) (.none rfl) rfl rfl ((.buildSlice (l' := [(0, v221)]) rfl)) h (fun v222 w h => ?_)
      refine ⟨trivial, ?_⟩
      refine JD.one (j := 10) (by kernel_rfl) ?_
      refine JD1.exV [] rfl (by kernel_rfl) (.none rfl) rfl rfl ((.append (vs := [s207.1, v222]) rfl)) h (fun v223 w h => ?_)
      refine ⟨trivial, ?_⟩
      refine JD.pure_ (i := 11) [] rfl (by kernel_rfl) (by kernel_rfl) (by kernel_rfl) (by kernel_rfl) (.none rfl) rfl rfl (.assign rfl) trivial ?_
      refine JD.done (by kernel_rfl) ?_
      refine JX.blockNormal ?_
      refine JX.then ?_
      refine J.region ?_
      refine JL.exP (.none rfl) rfl rfl (.add rfl rfl) ?_
      refine JL.exP (.none rfl) rfl rfl (.move rfl) ?_
      refine JL.nil ?_
      exact JX.loopEnd h ⟨rfl, rfl, rfl, rfl, rfl, rfl, trivial⟩
    · refine J.exit ?_
      refine JX.thenExit ?_
      refine JX.thenExit ?_
      refine JX.blockHere ?_
      refine JX.then ?_
      refine J.seq ?_
      refine J.region ?_
      refine JL.exP (.none rfl) rfl rfl (.move rfl) ?_
      refine JL.exP (.none rfl) rfl rfl (.assign rfl) ?_
      refine JL.nil ?_
      refine JX.then ?_
      refine J.ret ?_
      exact JX.ret1 rfl rfl h

/-- cabstand/fair.New -/
def fair_New  (K : Value → WP) : WP :=
  semV Try.prog (Instr.makeMap 62 none) fun v224 =>
  pureV Try.prog (Instr.build 64 #[(0, v224)]) fun v225 =>
  semA Try.prog (Instr.box 64 v225) fun p226 =>
  K (.pointer (some p226))
set_option maxRecDepth 100000 in
set_option maxHeartbeats 1000000 in
theorem fair_New_ok  {K : Value → WP} {w : World} (h : fair_New  K w) : callH Try.prog 25 #[] K w := by
  refine enter (l := []) Try.func25 rfl rfl rfl ?_
  show J Try.prog 4 [] _ _ _
  unfold fair_New at h
  refine J.seq ?_
  refine J.region ?_
  refine JL.exP (.none rfl) rfl rfl (.assign rfl) ?_
  refine JL.nil ?_
  refine JX.then ?_
  refine J.seq ?_
  refine J.region ?_
  refine JL.exV (.none rfl) rfl rfl (.makeMap) h (fun v224 w h => ?_)
  refine JL.sPure (.none rfl) rfl rfl ((.build (l' := [(0, v224)]) rfl)) h (fun v225 w h => ?_)
  refine JL.exV (.none rfl) rfl rfl (.box rfl) h (fun vp226 w h => ?_)
  obtain ⟨p226, rfl, h⟩ := h
  refine JL.exP (.none rfl) rfl rfl (.assign rfl) ?_
  refine JL.nil ?_
  refine JX.then ?_
  refine J.ret ?_
  exact JX.ret1 rfl rfl h

/-- slices.IndexFunc[[]cabstand/api.Waiting,cabstand/api.Waiting] -/
def slices_IndexFunc (a0 : Value) (a1 : Value) (K : Value → WP) : WP :=
  pureI Try.prog .i64 (Builtin.len_ #[36] 3 #[a0]) fun x227 =>
  loopH (σ := Int × Int) (fun kc229 s228 =>
    iteH (decide (s228.2 < x227)) (
      pureA Try.prog (Instr.indexAt 36 a0 (.int .i64 s228.2)) fun p230 =>
      semV Try.prog (loadVar 56 p230) fun v231 =>
      callF Try.prog a1 #[v231] fun v232 =>
      asB v232 fun b233 =>
      iteH b233 (
        K (.int .i64 s228.2)) (
        kc229 (s228.1, (IntKind.i64.wrap (s228.2 + 1))))) (
      K (.int .i64 (-1)))) (0, 0)
set_option maxRecDepth 100000 in
set_option maxHeartbeats 1000000 in
theorem slices_IndexFunc_ok {a0 : Value} {a1 : Value} {K : Value → WP} {w : World} (h : slices_IndexFunc a0 a1 K w) : callH Try.prog 44 #[a0, a1] K w := by
  refine enter (l := [a0, a1]) Try.func44 rfl rfl rfl ?_
  show J Try.prog 19 [(0, a0), (1, a1)] _ _ _
  unfold slices_IndexFunc at h
  refine J.seq ?_
  refine J.region ?_
  refine JL.exP (.none rfl) rfl rfl (.assign rfl) ?_
  refine JL.nil ?_
  refine JX.then ?_
  refine J.seq ?_
  refine J.seq ?_
  refine J.region ?_
  refine JL.exP (.none rfl) rfl rfl (.move rfl) ?_
  refine JL.sPure (.none rfl) rfl rfl ((.len (vs := [a0]) rfl)) h (fun vx227 w h => ?_)
  obtain ⟨x227, rfl, h⟩ := h
  refine JL.exP (.none rfl) rfl rfl (.move rfl) ?_
  refine JL.nil ?_
  refine JX.then ?_
  refine J.block ?_
  refine J.loop h (fun s228 => [(0, a0), (1, a1), (4, (.int .i64 s228.1)), (7, (.int .i64 x227)), (8, (.int .i64 s228.2))]) ⟨rfl, rfl, rfl, rfl, rfl, trivial⟩ (fun I μ s228 w h => ?_)
  refine J.seq ?_
  refine J.region ?_
  refine JL.exP (.none rfl) rfl rfl (.lss rfl rfl) ?_
  refine JL.nil ?_
  refine JX.then ?_
  refine J.seq ?_
  refine J.cond (b := _) rfl h (fun h => ?_) (fun h => ?_)
  · refine J.skip ?_
    refine JX.then ?_
    refine J.seq ?_
    refine J.block ?_
    refine J.seq ?_
    refine J.region ?_
    refine JL.exP (.none rfl) rfl rfl (.move rfl) ?_
    refine JL.exP (.none rfl) rfl rfl (.assign rfl) ?_
    refine JL.nil ?_
    refine JX.then ?_
    refine J.seq ?_
    refine J.region ?_
    refine JL.exP (.none rfl) rfl rfl (.move rfl) ?_
    refine JL.exP (.none rfl) rfl rfl (.move rfl) ?_
    refine JL.exP (.none rfl) rfl rfl (.move rfl) ?_
    refine JL.sPure (.none rfl) rfl rfl (.indexAddr rfl rfl) h (fun vp230 w h => ?_)
    obtain ⟨p230, rfl, h⟩ := h
    refine JL.exV (.none rfl) rfl rfl (.load rfl) h (fun v231 w h => ?_)
    refine JL.exF (.none rfl) rfl rfl (vs := [v231]) rfl h (fun v232 w h => ?_)
    obtain ⟨b233, rfl, h⟩ := h
    refine JL.nil ?_
    refine JX.then ?_
    refine J.cond (b := _) rfl h (fun h => ?_) (fun h => ?_)
    · refine J.seq ?_
      refine J.region ?_
      refine JL.exP (.none rfl) rfl rfl (.move rfl) ?_
      refine JL.exP (.none rfl) rfl rfl (.assign rfl) ?_
      refine JL.nil ?_
      refine JX.then ?_
      refine J.ret ?_
      refine JX.blockRet ?_
      refine JX.thenRet ?_
      refine JX.thenRet ?_
      refine JX.blockRet ?_
      refine JX.thenRet ?_
      exact JX.ret1 rfl rfl h
    · refine J.skip ?_
      refine JX.blockNormal ?_
      refine JX.then ?_
      refine J.region ?_
      refine JL.exP (.none rfl) rfl rfl (.add rfl rfl) ?_
      refine JL.exP (.none rfl) rfl rfl (.move rfl) ?_
      refine JL.nil ?_
      exact JX.loopEnd h ⟨rfl, rfl, rfl, rfl, rfl, trivial⟩
  · refine J.exit ?_
    refine JX.thenExit ?_
    refine JX.thenExit ?_
    refine JX.blockHere ?_
    refine JX.then ?_
    refine J.seq ?_
    refine J.region ?_
    refine JL.exP (.none rfl) rfl rfl (.assign rfl) ?_
    refine JL.nil ?_
    refine JX.then ?_
    refine J.ret ?_
    exact JX.ret1 rfl rfl h

/-- cabstand/fair.Good$1 -/
def fair_Good_1 (a0 : Value) (a1 : Value) (K : Value → WP) : WP :=
  semA Try.prog (Instr.box 56 a0) fun p234 =>
  semV Try.prog (loadVar 28 ((p234.add 0).add 0)) fun v235 =>
  asP a1 fun p236 =>
  semV Try.prog (loadVar 28 p236) fun v237 =>
  pureB Try.prog (eqM .eql 28 (.tmp 6) (.tmp 7) v235 v237) fun b238 =>
  K (.bool b238)
set_option maxRecDepth 100000 in
set_option maxHeartbeats 1000000 in
theorem fair_Good_1_ok {a0 : Value} {a1 : Value} {K : Value → WP} {w : World} (h : fair_Good_1 a0 a1 K w) : callH Try.prog 45 #[a0, a1] K w := by
  refine enter (l := [a0, a1]) Try.func45 rfl rfl rfl ?_
  show J Try.prog 9 [(0, a0), (1, a1)] _ _ _
  unfold fair_Good_1 at h
  refine J.seq ?_
  refine J.region ?_
  refine JL.exV (.none rfl) rfl rfl (.box rfl) h (fun vp234 w h => ?_)
  obtain ⟨p234, rfl, h⟩ := h
  refine JL.exP (.none rfl) rfl rfl (.assign rfl) ?_
  refine JL.nil ?_
  refine JX.then ?_
  refine J.seq ?_
  refine J.region ?_
  refine JL.exP (.none rfl) rfl rfl (.fieldAddr rfl (fa_56_0 _)) ?_
  refine JL.exP (.none rfl) rfl rfl (.fieldAddr rfl (fa_54_0 _)) ?_
  refine JL.exV (.none rfl) rfl rfl (.load rfl) h (fun v235 w h => ?_)
  obtain ⟨p236, rfl, hq⟩ := h
  have h := hq; clear hq
  refine JL.exV (.none rfl) rfl rfl (.load rfl) h (fun v237 w h => ?_)
  refine JL.sPure (.none rfl) rfl rfl (.binOp rfl rfl) h (fun vb238 w h => ?_)
  obtain ⟨b238, rfl, h⟩ := h
  refine JL.exP (.none rfl) rfl rfl (.assign rfl) ?_
  refine JL.nil ?_
  refine JX.then ?_
  refine J.ret ?_
  exact JX.ret1 rfl rfl h

/-- cabstand/fair.fault -/
def fair_fault (a0 : Value) (K : Value → WP) : WP :=
  semA Try.prog (Instr.box 46 a0) fun p239 =>
  joinH (α := Bool) (fun y240 =>
    iteH y240 (
      K (.int .i64 1)) (
      semV Try.prog (loadVar 36 (p239.add 1)) fun v257 =>
      pureI Try.prog .i64 (Builtin.len_ #[36] 3 #[v257]) fun x258 =>
      loopH (σ := Int × Int × Int) (fun kc260 s259 =>
        iteH (decide (s259.2.2 < x258)) (
          pureA Try.prog (Instr.indexAt 36 v257 (.int .i64 s259.2.2)) fun p261 =>
          semV Try.prog (loadVar 56 p261) fun v262 =>
          semA Try.prog (Instr.alloc 56 true (.tuple #[])) fun p263 =>
          semU Try.prog (storeVar 56 p263 v262) <|
          joinH (α := Bool) (fun y264 =>
            iteH y264 (
              K (.int .i64 1)) (
              semI Try.prog .i64 (loadVar 3 (p263.add 17)) fun x276 =>
              kc260 (s259.1, x276, (IntKind.i64.wrap (s259.2.2 + 1))))) fun k265 =>
            semI Try.prog .i64 (loadVar 3 (p263.add 17)) fun x266 =>
            orB (decide (x266 ≤ s259.2.1)) (fun k268 =>
              semI Try.prog .i64 (loadVar 3 (p263.add 16)) fun x270 =>
              k268 (decide (x270 < 0))) fun b267 =>
            orB b267 (fun k272 =>
              semI Try.prog .i64 (loadVar 3 (p263.add 16)) fun x274 =>
              semI Try.prog .i64 (loadVar 3 (p239.add 0)) fun x275 =>
              k272 (decide (x275 < x274))) fun b271 =>
            k265 b271) (
          semV Try.prog (loadVar 37 (p239.add 2)) fun v277 =>
          pureI Try.prog .i64 (Builtin.len_ #[37] 3 #[v277]) fun x278 =>
          loopH (σ := Int × Int × Int) (fun kc280 s279 =>
            iteH (decide (s279.2.2 < x278)) (
              pureA Try.prog (Instr.indexAt 37 v277 (.int .i64 s279.2.2)) fun p281 =>
              semV Try.prog (loadVar 126 p281) fun v282 =>
              semA Try.prog (Instr.alloc 126 true (.tuple #[])) fun p283 =>
              semU Try.prog (storeVar 126 p283 v282) <|
              semI Try.prog .i64 (loadVar 3 (p283.add 13)) fun x284 =>
              iteH (decide (x284 ≤ s279.2.1)) (
                K (.int .i64 1)) (
                semI Try.prog .i64 (loadVar 3 (p283.add 13)) fun x285 =>
                kc280 (s279.1, x285, (IntKind.i64.wrap (s279.2.2 + 1))))) (
              joinH (α := Bool) (fun y286 =>
                iteH y286 (
                  K (.int .i64 170)) (
                  semV Try.prog (loadVar 40 (p239.add 3)) fun v302 =>
                  semV Try.prog (loadVar 41 ((p239.add 6).add 0)) fun v303 =>
                  callI Try.prog 69 #[v302, v303] .i64 fun x304 =>
                  iteH ((x304 : Int) != 0) (
                    K (.int .i64 x304)) (
                    joinH (α := Bool) (fun y305 =>
                      iteH y305 (
                        K (.int .i64 1)) (
                        K (.int .i64 0))) fun k306 =>
                      semV Try.prog (loadVar 42 ((p239.add 6).add 1)) fun v307 =>
                      pureI Try.prog .i64 (Builtin.len_ #[42] 3 #[v307]) fun x308 =>
                      semI Try.prog .i64 (loadVar 3 ((p239.add 3).add 0)) fun x309 =>
                      orB ((x308 : Int) != x309) (fun k311 =>
                        semV Try.prog (loadVar 42 ((p239.add 6).add 2)) fun v313 =>
                        pureI Try.prog .i64 (Builtin.len_ #[42] 3 #[v313]) fun x314 =>
                        semI Try.prog .i64 (loadVar 3 ((p239.add 3).add 1)) fun x315 =>
                        k311 ((x314 : Int) != x315)) fun b310 =>
                      k306 b310))) fun k287 =>
                semV Try.prog (loadVar 40 (p239.add 3)) fun v288 =>
                callI Try.prog 68 #[v288] .i64 fun x289 =>
                orB ((x289 : Int) != 0) (fun k291 =>
                  semI Try.prog .i64 (loadVar 3 ((p239.add 3).add 0)) fun x293 =>
                  semV Try.prog (loadVar 36 (p239.add 1)) fun v294 =>
                  pureI Try.prog .i64 (Builtin.len_ #[36] 3 #[v294]) fun x295 =>
                  k291 ((x293 : Int) != x295)) fun b290 =>
                orB b290 (fun k297 =>
                  semI Try.prog .i64 (loadVar 3 ((p239.add 3).add 1)) fun x299 =>
                  semV Try.prog (loadVar 37 (p239.add 2)) fun v300 =>
                  pureI Try.prog .i64 (Builtin.len_ #[37] 3 #[v300]) fun x301 =>
                  k297 ((x299 : Int) != x301)) fun b296 =>
                k287 b296)) (s259.1, (-1), 0))) (0, (-1), 0))) fun k241 =>
    semI Try.prog .i64 (loadVar 3 (p239.add 0)) fun x242 =>
    orB (decide (x242 < 1)) (fun k244 =>
      semI Try.prog .i64 (loadVar 3 (p239.add 0)) fun x246 =>
      k244 (decide (1099511627776 < x246))) fun b243 =>
    orB b243 (fun k248 =>
      semV Try.prog (loadVar 36 (p239.add 1)) fun v250 =>
      pureI Try.prog .i64 (Builtin.len_ #[36] 3 #[v250]) fun x251 =>
      k248 (decide (64 < x251))) fun b247 =>
    orB b247 (fun k253 =>
      semV Try.prog (loadVar 37 (p239.add 2)) fun v255 =>
      pureI Try.prog .i64 (Builtin.len_ #[37] 3 #[v255]) fun x256 =>
      k253 (decide (64 < x256))) fun b252 =>
    k241 b252
set_option maxRecDepth 100000 in
set_option maxHeartbeats 1000000 in
theorem fair_fault_ok {a0 : Value} {K : Value → WP} {w : World} (h : fair_fault a0 K w) : callH Try.prog 46 #[a0] K w := by
  refine enter (l := [a0]) Try.func46 rfl rfl rfl ?_
  show J Try.prog 118 [(0, a0)] _ _ _
  unfold fair_fault at h
  refine J.seq ?_
  refine J.region ?_
  refine JL.exV (.none rfl) rfl rfl (.box rfl) h (fun vp239 w h => ?_)
  obtain ⟨p239, rfl, h⟩ := h
  refine JL.exP (.none rfl) rfl rfl (.assign rfl) ?_
  refine JL.nil ?_
  refine JX.then ?_
  refine J.seq ?_
  refine J.seq ?_
  refine J.join h (fun y240 => [(1, (.pointer (some p239))), (2, (.int .i64 0)), (28, (.bool y240))]) (fun k241 w h => ?_) (fun y240 w h => ?_)
  · refine J.region ?_
    refine JL.exP (.none rfl) rfl rfl (.fieldAddr rfl (fa_46_0 _)) ?_
    refine JL.exV (.none rfl) rfl rfl (.load rfl) h (fun vx242 w h => ?_)
    obtain ⟨x242, rfl, h⟩ := h
    refine JL.exP (.none rfl) rfl rfl (.lss rfl rfl) ?_
    refine JL.exP (.none rfl) rfl rfl (.move rfl) ?_
    rcases orB_cases h with ⟨hc245, h⟩ | ⟨hc245, h⟩
    · refine JL.exNo (.off rfl rfl rfl hc245 rfl) rfl rfl ?_
      refine JL.exNo (.off rfl rfl rfl hc245 rfl) rfl rfl ?_
      refine JL.exNo (.off rfl rfl rfl hc245 rfl) rfl rfl ?_
      refine JL.exP (.none rfl) rfl rfl (.pickOn rfl hc245 rfl) ?_
      refine JL.exP (.none rfl) rfl rfl (.move rfl) ?_
      have h := orB_true' h
      refine JL.exNo (.off rfl rfl rfl rfl rfl) rfl rfl ?_
      refine JL.exNo (.off rfl rfl rfl rfl rfl) rfl rfl ?_
      refine JL.exNo (.off rfl rfl rfl rfl rfl) rfl rfl ?_
      refine JL.exNo (.off rfl rfl rfl rfl rfl) rfl rfl ?_
      refine JL.exP (.none rfl) rfl rfl (.pickOn rfl rfl rfl) ?_
      refine JL.exP (.none rfl) rfl rfl (.move rfl) ?_
      have h := orB_true' h
      refine JL.exNo (.off rfl rfl rfl rfl rfl) rfl rfl ?_
      refine JL.exNo (.off rfl rfl rfl rfl rfl) rfl rfl ?_
      refine JL.exNo (.off rfl rfl rfl rfl rfl) rfl rfl ?_
      refine JL.exNo (.off rfl rfl rfl rfl rfl) rfl rfl ?_
      refine JL.exP (.none rfl) rfl rfl (.pickOn rfl rfl rfl) ?_
      refine JL.nil ?_
      exact JX.joinEnd h ⟨rfl, rfl, rfl, trivial⟩
    · refine JL.exP (.on rfl rfl rfl hc245) rfl rfl (.fieldAddr rfl (fa_46_0 _)) ?_
      refine JL.exV (.on rfl rfl rfl hc245) rfl rfl (.load rfl) h (fun vx246 w h => ?_)
      obtain ⟨x246, rfl, h⟩ := h
      refine JL.exP (.on rfl rfl rfl hc245) rfl rfl (.gtr rfl rfl) ?_
      refine JL.exP (.none rfl) rfl rfl (.pickOff rfl hc245 rfl) ?_
      refine JL.exP (.none rfl) rfl rfl (.move rfl) ?_
      rcases orB_cases h with ⟨hc249, h⟩ | ⟨hc249, h⟩
      · refine JL.exNo (.off rfl rfl rfl hc249 rfl) rfl rfl ?_
        refine JL.exNo (.off rfl rfl rfl hc249 rfl) rfl rfl ?_
        refine JL.exNo (.off rfl rfl rfl hc249 rfl) rfl rfl ?_
        refine JL.exNo (.off rfl rfl rfl hc249 rfl) rfl rfl ?_
        refine JL.exP (.none rfl) rfl rfl (.pickOn rfl hc249 rfl) ?_
        refine JL.exP (.none rfl) rfl rfl (.move rfl) ?_
        have h := orB_true' h
        refine JL.exNo (.off rfl rfl rfl rfl rfl) rfl rfl ?_
        refine JL.exNo (.off rfl rfl rfl rfl rfl) rfl rfl ?_
        refine JL.exNo (.off rfl rfl rfl rfl rfl) rfl rfl ?_
        refine JL.exNo (.off rfl rfl rfl rfl rfl) rfl rfl ?_
        refine JL.exP (.none rfl) rfl rfl (.pickOn rfl rfl rfl) ?_
        refine JL.nil ?_
        exact JX.joinEnd h ⟨rfl, rfl, rfl, trivial⟩
      · refine JL.exP (.on rfl rfl rfl hc249) rfl rfl (.fieldAddr rfl (fa_46_1 _)) ?_
        refine JL.exV (.on rfl rfl rfl hc249) rfl rfl (.load rfl) h (fun v250 w h => ?_)
        refine JL.sPure (.on rfl rfl rfl hc249) rfl rfl ((.len (vs := [v250]) rfl)) h (fun vx251 w h => ?_)
        obtain ⟨x251, rfl, h⟩ := h
        refine JL.exP (.on rfl rfl rfl hc249) rfl rfl (.gtr rfl rfl) ?_
        refine JL.exP (.none rfl) rfl rfl (.pickOff rfl hc249 rfl) ?_
        refine JL.exP (.none rfl) rfl rfl (.move rfl) ?_
        rcases orB_cases h with ⟨hc254, h⟩ | ⟨hc254, h⟩
        · refine JL.exNo (.off rfl rfl rfl hc254 rfl) rfl rfl ?_
          refine JL.exNo (.off rfl rfl rfl hc254 rfl) rfl rfl ?_
          refine JL.exNo (.off rfl rfl rfl hc254 rfl) rfl rfl ?_
          refine JL.exNo (.off rfl rfl rfl hc254 rfl) rfl rfl ?_
          refine JL.exP (.none rfl) rfl rfl (.pickOn rfl hc254 rfl) ?_
          refine JL.nil ?_
          exact JX.joinEnd h ⟨rfl, rfl, rfl, trivial⟩
        · refine JL.exP (.on rfl rfl rfl hc254) rfl rfl (.fieldAddr rfl (fa_46_2 _)) ?_
          refine JL.exV (.on rfl rfl rfl hc254) rfl rfl (.load rfl) h (fun v255 w h => ?_)
          refine JL.sPure (.on rfl rfl rfl hc254) rfl rfl ((.len (vs := [v255]) rfl)) h (fun vx256 w h => ?_)
          obtain ⟨x256, rfl, h⟩ := h
          refine JL.exP (.on rfl rfl rfl hc254) rfl rfl (.gtr rfl rfl) ?_
          refine JL.exP (.none rfl) rfl rfl (.pickOff rfl hc254 rfl) ?_
          refine JL.nil ?_
          exact JX.joinEnd h ⟨rfl, rfl, rfl, trivial⟩
  · refine JX.then ?_
    refine J.cond (b := _) rfl h (fun h => ?_) (fun h => ?_)
    · refine J.seq ?_
      refine J.region ?_
      refine JL.exP (.none rfl) rfl rfl (.assign rfl) ?_
      refine JL.nil ?_
      refine JX.then ?_
      refine J.ret ?_
      refine JX.thenRet ?_
      exact JX.ret1 rfl rfl h
    · refine J.skip ?_
      refine JX.then ?_
      refine J.seq ?_
      refine J.region ?_
      refine JL.exP (.none rfl) rfl rfl (.assign rfl) ?_
      refine JL.nil ?_
      refine JX.then ?_
      refine J.seq ?_
      refine J.seq ?_
      refine J.region ?_
      refine JL.exP (.none rfl) rfl rfl (.fieldAddr rfl (fa_46_1 _)) ?_
      refine JL.exV (.none rfl) rfl rfl (.load rfl) h (fun v257 w h => ?_)
      refine JL.sPure (.none rfl) rfl rfl ((.len (vs := [v257]) rfl)) h (fun vx258 w h => ?_)
      obtain ⟨x258, rfl, h⟩ := h
      refine JL.exP (.none rfl) rfl rfl (.move rfl) ?_
      refine JL.nil ?_
      refine JX.then ?_
      refine J.block ?_
      refine J.loop h (fun s259 => [(1, (.pointer (some p239))), (2, (.int .i64 s259.1)), (3, (.int .i64 s259.2.1)), (30, v257), (31, (.int .i64 x258)), (32, (.int .i64 s259.2.2))]) ⟨rfl, rfl, rfl, rfl, rfl, rfl, trivial⟩ (fun I μ s259 w h => ?_)
      refine J.seq ?_
      refine J.region ?_
      refine JL.exP (.none rfl) rfl rfl (.lss rfl rfl) ?_
      refine JL.nil ?_
      refine JX.then ?_
      refine J.seq ?_
      refine J.cond (b := _) rfl h (fun h => ?_) (fun h => ?_)
      · refine J.skip ?_
        refine JX.then ?_
        refine J.seq ?_
        refine J.block ?_
        refine J.seq ?_
        refine J.region ?_
        refine JL.sPure (.none rfl) rfl rfl (.indexAddr rfl rfl) h (fun vp261 w h => ?_)
        obtain ⟨p261, rfl, h⟩ := h
        refine JL.exV (.none rfl) rfl rfl (.load rfl) h (fun v262 w h => ?_)
        refine JL.exV (.none rfl) rfl rfl (.alloc) h (fun vp263 w h => ?_)
        obtain ⟨p263, rfl, h⟩ := h
        refine JL.exU (.none rfl) rfl (.store rfl rfl) h (fun w h => ?_)
        refine JL.nil ?_
        refine JX.then ?_
        refine J.seq ?_
        refine J.seq ?_
        refine J.join h (fun y264 => [(1, (.pointer (some p239))), (2, (.int .i64 s259.1)), (3, (.int .i64 s259.2.1)), (5, (.pointer (some p263))), (30, v257), (31, (.int .i64 x258)), (32, (.int .i64 s259.2.2)), (51, (.bool y264))]) (fun k265 w h => ?_) (fun y264 w h => ?_)
        · refine J.region ?_
          refine JL.exP (.none rfl) rfl rfl (.fieldAddr rfl (fa_56_2 _)) ?_
          refine JL.exV (.none rfl) rfl rfl (.load rfl) h (fun vx266 w h => ?_)
          obtain ⟨x266, rfl, h⟩ := h
          refine JL.exP (.none rfl) rfl rfl (.move rfl) ?_
          refine JL.exP (.none rfl) rfl rfl (.leq rfl rfl) ?_
          refine JL.exP (.none rfl) rfl rfl (.move rfl) ?_
          rcases orB_cases h with ⟨hc269, h⟩ | ⟨hc269, h⟩
          · refine JL.exNo (.off rfl rfl rfl hc269 rfl) rfl rfl ?_
            refine JL.exNo (.off rfl rfl rfl hc269 rfl) rfl rfl ?_
            refine JL.exNo (.off rfl rfl rfl hc269 rfl) rfl rfl ?_
            refine JL.exP (.none rfl) rfl rfl (.pickOn rfl hc269 rfl) ?_
            refine JL.exP (.none rfl) rfl rfl (.move rfl) ?_
            have h := orB_true' h
            refine JL.exNo (.off rfl rfl rfl rfl rfl) rfl rfl ?_
            refine JL.exNo (.off rfl rfl rfl rfl rfl) rfl rfl ?_
            refine JL.exNo (.off rfl rfl rfl rfl rfl) rfl rfl ?_
            refine JL.exNo (.off rfl rfl rfl rfl rfl) rfl rfl ?_
            refine JL.exNo (.off rfl rfl rfl rfl rfl) rfl rfl ?_
            refine JL.exP (.none rfl) rfl rfl (.pickOn rfl rfl rfl) ?_
            refine JL.nil ?_
            exact JX.joinEnd h ⟨rfl, rfl, rfl, rfl, rfl, rfl, rfl, rfl, trivial⟩
          · refine JL.exP (.on rfl rfl rfl hc269) rfl rfl (.fieldAddr rfl (fa_56_1 _)) ?_
            refine JL.exV (.on rfl rfl rfl hc269) rfl rfl (.load rfl) h (fun vx270 w h => ?_)
            obtain ⟨x270, rfl, h⟩ := h
            refine JL.exP (.on rfl rfl rfl hc269) rfl rfl (.lss rfl rfl) ?_
            refine JL.exP (.none rfl) rfl rfl (.pickOff rfl hc269 rfl) ?_
            refine JL.exP (.none rfl) rfl rfl (.move rfl) ?_
            rcases orB_cases h with ⟨hc273, h⟩ | ⟨hc273, h⟩
            · refine JL.exNo (.off rfl rfl rfl hc273 rfl) rfl rfl ?_
              refine JL.exNo (.off rfl rfl rfl hc273 rfl) rfl rfl ?_
              refine JL.exNo (.off rfl rfl rfl hc273 rfl) rfl rfl ?_
              refine JL.exNo (.off rfl rfl rfl hc273 rfl) rfl rfl ?_
              refine JL.exNo (.off rfl rfl rfl hc273 rfl) rfl rfl ?_
              refine JL.exP (.none rfl) rfl rfl (.pickOn rfl hc273 rfl) ?_
              refine JL.nil ?_
              exact JX.joinEnd h ⟨rfl, rfl, rfl, rfl, rfl, rfl, rfl, rfl, trivial⟩
            · refine JL.exP (.on rfl rfl rfl hc273) rfl rfl (.fieldAddr rfl (fa_56_1 _)) ?_
              refine JL.exV (.on rfl rfl rfl hc273) rfl rfl (.load rfl) h (fun vx274 w h => ?_)
              obtain ⟨x274, rfl, h⟩ := h
              refine JL.exP (.on rfl rfl rfl hc273) rfl rfl (.fieldAddr rfl (fa_46_0 _)) ?_
              refine JL.exV (.on rfl rfl rfl hc273) rfl rfl (.load rfl) h (fun vx275 w h => ?_)
              obtain ⟨x275, rfl, h⟩ := h
              refine JL.exP (.on rfl rfl rfl hc273) rfl rfl (.gtr rfl rfl) ?_
              refine JL.exP (.none rfl) rfl rfl (.pickOff rfl hc273 rfl) ?_
              refine JL.nil ?_
              exact JX.joinEnd h ⟨rfl, rfl, rfl, rfl, rfl, rfl, rfl, rfl, trivial⟩
        · refine JX.then ?_
          refine J.cond (b := _) rfl h (fun h => ?_) (fun h => ?_)
          · refine J.seq ?_
            refine J.region ?_
            refine JL.exP (.none rfl) rfl rfl (.assign rfl) ?_
            refine JL.nil ?_
            refine JX.then ?_
            refine J.ret ?_
            refine JX.thenRet ?_
            refine JX.blockRet ?_
            refine JX.thenRet ?_
            refine JX.thenRet ?_
            refine JX.blockRet ?_
            refine JX.thenRet ?_
            exact JX.ret1 rfl rfl h
          · refine J.skip ?_
            refine JX.then ?_
            refine J.region ?_
            refine JL.exP (.none rfl) rfl rfl (.fieldAddr rfl (fa_56_2 _)) ?_
            refine JL.exV (.none rfl) rfl rfl (.load rfl) h (fun vx276 w h => ?_)
            obtain ⟨x276, rfl, h⟩ := h
            refine JL.exP (.none rfl) rfl rfl (.assign rfl) ?_
            refine JL.nil ?_
            refine JX.blockNormal ?_
            refine JX.then ?_
            refine J.region ?_
            refine JL.exP (.none rfl) rfl rfl (.add rfl rfl) ?_
            refine JL.exP (.none rfl) rfl rfl (.move rfl) ?_
            refine JL.nil ?_
            exact JX.loopEnd h ⟨rfl, rfl, rfl, rfl, rfl, rfl, trivial⟩
      · refine J.exit ?_
        refine JX.thenExit ?_
        refine JX.thenExit ?_
        refine JX.blockHere ?_
        refine JX.then ?_
        refine J.seq ?_
        refine J.region ?_
        refine JL.exP (.none rfl) rfl rfl (.assign rfl) ?_
        refine JL.nil ?_
        refine JX.then ?_
        refine J.seq ?_
        refine J.seq ?_
        refine J.region ?_
        refine JL.exP (.none rfl) rfl rfl (.fieldAddr rfl (fa_46_2 _)) ?_
        refine JL.exV (.none rfl) rfl rfl (.load rfl) h (fun v277 w h => ?_)
        refine JL.sPure (.none rfl) rfl rfl ((.len (vs := [v277]) rfl)) h (fun vx278 w h => ?_)
        obtain ⟨x278, rfl, h⟩ := h
        refine JL.exP (.none rfl) rfl rfl (.move rfl) ?_
        refine JL.nil ?_
        refine JX.then ?_
        refine J.block ?_
        refine J.loop h (fun s279 => [(1, (.pointer (some p239))), (2, (.int .i64 s279.1)), (3, (.int .i64 s279.2.1)), (56, v277), (57, (.int .i64 x278)), (58, (.int .i64 s279.2.2))]) ⟨rfl, rfl, rfl, rfl, rfl, rfl, trivial⟩ (fun I μ s279 w h => ?_)
        refine J.seq ?_
        refine J.region ?_
        refine JL.exP (.none rfl) rfl rfl (.lss rfl rfl) ?_
        refine JL.nil ?_
        refine JX.then ?_
        refine J.seq ?_
        refine J.cond (b := _) rfl h (fun h => ?_) (fun h => ?_)
        · refine J.skip ?_
          refine JX.then ?_
          refine J.seq ?_
          refine J.block ?_
          refine J.seq ?_
          refine J.region ?_
          refine JL.sPure (.none rfl) rfl rfl (.indexAddr rfl rfl) h (fun vp281 w h => ?_)
          obtain ⟨p281, rfl, h⟩ := h
          refine JL.exV (.none rfl) rfl rfl (.load rfl) h (fun v282 w h => ?_)
          refine JL.exV (.none rfl) rfl rfl (.alloc) h (fun vp283 w h => ?_)
          obtain ⟨p283, rfl, h⟩ := h
          refine JL.exU (.none rfl) rfl (.store rfl rfl) h (fun w h => ?_)
          refine JL.nil ?_
          refine JX.then ?_
          refine J.seq ?_
          refine J.seq ?_
          refine J.region ?_
          refine JL.exP (.none rfl) rfl rfl (.fieldAddr rfl (fa_126_1 _)) ?_
          refine JL.exV (.none rfl) rfl rfl (.load rfl) h (fun vx284 w h => ?_)
          obtain ⟨x284, rfl, h⟩ := h
          refine JL.exP (.none rfl) rfl rfl (.move rfl) ?_
          refine JL.exP (.none rfl) rfl rfl (.leq rfl rfl) ?_
          refine JL.nil ?_
          refine JX.then ?_
          refine J.cond (b := _) rfl h (fun h => ?_) (fun h => ?_)
          · refine J.seq ?_
            refine J.region ?_
            refine JL.exP (.none rfl) rfl rfl (.assign rfl) ?_
            refine JL.nil ?_
            refine JX.then ?_
            refine J.ret ?_
            refine JX.thenRet ?_
            refine JX.blockRet ?_
            refine JX.thenRet ?_
            refine JX.thenRet ?_
            refine JX.blockRet ?_
            refine JX.thenRet ?_
            exact JX.ret1 rfl rfl h
          · refine J.skip ?_
            refine JX.then ?_
            refine J.region ?_
            refine JL.exP (.none rfl) rfl rfl (.fieldAddr rfl (fa_126_1 _)) ?_
            refine JL.exV (.none rfl) rfl rfl (.load rfl) h (fun vx285 w h => ?_)
            obtain ⟨x285, rfl, h⟩ := h
            refine JL.exP (.none rfl) rfl rfl (.assign rfl) ?_
            refine JL.nil ?_
            refine JX.blockNormal ?_
            refine JX.then ?_
            refine J.region ?_
            refine JL.exP (.none rfl) rfl rfl (.add rfl rfl) ?_
            refine JL.exP (.none rfl) rfl rfl (.move rfl) ?_
            refine JL.nil ?_
            exact JX.loopEnd h ⟨rfl, rfl, rfl, rfl, rfl, rfl, trivial⟩
        · refine J.exit ?_
          refine JX.thenExit ?_
          refine JX.thenExit ?_
          refine JX.blockHere ?_
          refine JX.then ?_
          refine J.seq ?_
          refine J.seq ?_
          refine J.join h (fun y286 => [(1, (.pointer (some p239))), (2, (.int .i64 s279.1)), (90, (.bool y286))]) (fun k287 w h => ?_) (fun y286 w h => ?_)
          · refine J.region ?_
            refine JL.exP (.none rfl) rfl rfl (.fieldAddr rfl (fa_46_3 _)) ?_
            refine JL.exV (.none rfl) rfl rfl (.load rfl) h (fun v288 w h => ?_)
            refine JL.exC (.none rfl) rfl rfl (.func (vs := [v288]) en_68 rfl) h (fun vx289 w h => ?_)
            obtain ⟨x289, rfl, h⟩ := h
            refine JL.exP (.none rfl) rfl rfl (.neq rfl rfl) ?_
            refine JL.exP (.none rfl) rfl rfl (.move rfl) ?_
            rcases orB_cases h with ⟨hc292, h⟩ | ⟨hc292, h⟩
            · refine JL.exNo (.off rfl rfl rfl hc292 rfl) rfl rfl ?_
              refine JL.exNo (.off rfl rfl rfl hc292 rfl) rfl rfl ?_
              refine JL.exNo (.off rfl rfl rfl hc292 rfl) rfl rfl ?_
              refine JL.exNo (.off rfl rfl rfl hc292 rfl) rfl rfl ?_
              refine JL.exNo (.off rfl rfl rfl hc292 rfl) rfl rfl ?_
              refine JL.exNo (.off rfl rfl rfl hc292 rfl) rfl rfl ?_
              refine JL.exNo (.off rfl rfl rfl hc292 rfl) rfl rfl ?_
              refine JL.exP (.none rfl) rfl rfl (.pickOn rfl hc292 rfl) ?_
              refine JL.exP (.none rfl) rfl rfl (.move rfl) ?_
              have h := orB_true' h
              refine JL.exNo (.off rfl rfl rfl rfl rfl) rfl rfl ?_
              refine JL.exNo (.off rfl rfl rfl rfl rfl) rfl rfl ?_
              refine JL.exNo (.off rfl rfl rfl rfl rfl) rfl rfl ?_
              refine JL.exNo (.off rfl rfl rfl rfl rfl) rfl rfl ?_
              refine JL.exNo (.off rfl rfl rfl rfl rfl) rfl rfl ?_
              refine JL.exNo (.off rfl rfl rfl rfl rfl) rfl rfl ?_
              refine JL.exNo (.off rfl rfl rfl rfl rfl) rfl rfl ?_
              refine JL.exP (.none rfl) rfl rfl (.pickOn rfl rfl rfl) ?_
              refine JL.nil ?_
              exact JX.joinEnd h ⟨rfl, rfl, rfl, trivial⟩
            · refine JL.exP (.on rfl rfl rfl hc292) rfl rfl (.fieldAddr rfl (fa_46_3 _)) ?_
              refine JL.exP (.on rfl rfl rfl hc292) rfl rfl (.fieldAddr rfl (fa_40_0 _)) ?_
              refine JL.exV (.on rfl rfl rfl hc292) rfl rfl (.load rfl) h (fun vx293 w h => ?_)
              obtain ⟨x293, rfl, h⟩ := h
              refine JL.exP (.on rfl rfl rfl hc292) rfl rfl (.fieldAddr rfl (fa_46_1 _)) ?_
              refine JL.exV (.on rfl rfl rfl hc292) rfl rfl (.load rfl) h (fun v294 w h => ?_)
              refine JL.sPure (.on rfl rfl rfl hc292) rfl rfl ((.len (vs := [v294]) rfl)) h (fun vx295 w h => ?_)
              obtain ⟨x295, rfl, h⟩ := h
              refine JL.exP (.on rfl rfl rfl hc292) rfl rfl (.neq rfl rfl) ?_
              refine JL.exP (.none rfl) rfl rfl (.pickOff rfl hc292 rfl) ?_
              refine JL.exP (.none rfl) rfl rfl (.move rfl) ?_
              rcases orB_cases h with ⟨hc298, h⟩ | ⟨hc298, h⟩
              · refine JL.exNo (.off rfl rfl rfl hc298 rfl) rfl rfl ?_
                refine JL.exNo (.off rfl rfl rfl hc298 rfl) rfl rfl ?_
                refine JL.exNo (.off rfl rfl rfl hc298 rfl) rfl rfl ?_
                refine JL.exNo (.off rfl rfl rfl hc298 rfl) rfl rfl ?_
                refine JL.exNo (.off rfl rfl rfl hc298 rfl) rfl rfl ?_
                refine JL.exNo (.off rfl rfl rfl hc298 rfl) rfl rfl ?_
                refine JL.exNo (.off rfl rfl rfl hc298 rfl) rfl rfl ?_
                refine JL.exP (.none rfl) rfl rfl (.pickOn rfl hc298 rfl) ?_
                refine JL.nil ?_
                exact JX.joinEnd h ⟨rfl, rfl, rfl, trivial⟩
              · refine JL.exP (.on rfl rfl rfl hc298) rfl rfl (.fieldAddr rfl (fa_46_3 _)) ?_
                refine JL.exP (.on rfl rfl rfl hc298) rfl rfl (.fieldAddr rfl (fa_40_1 _)) ?_
                refine JL.exV (.on rfl rfl rfl hc298) rfl rfl (.load rfl) h (fun vx299 w h => ?_)
                obtain ⟨x299, rfl, h⟩ := h
                refine JL.exP (.on rfl rfl rfl hc298) rfl rfl (.fieldAddr rfl (fa_46_2 _)) ?_
                refine JL.exV (.on rfl rfl rfl hc298) rfl rfl (.load rfl) h (fun v300 w h => ?_)
                refine JL.sPure (.on rfl rfl rfl hc298) rfl rfl ((.len (vs := [v300]) rfl)) h (fun vx301 w h => ?_)
                obtain ⟨x301, rfl, h⟩ := h
                refine JL.exP (.on rfl rfl rfl hc298) rfl rfl (.neq rfl rfl) ?_
                refine JL.exP (.none rfl) rfl rfl (.pickOff rfl hc298 rfl) ?_
                refine JL.nil ?_
                exact JX.joinEnd h ⟨rfl, rfl, rfl, trivial⟩
          · refine JX.then ?_
            refine J.cond (b := _) rfl h (fun h => ?_) (fun h => ?_)
            · refine J.seq ?_
              refine J.region ?_
              refine JL.exP (.none rfl) rfl rfl (.assign rfl) ?_
              refine JL.nil ?_
              refine JX.then ?_
              refine J.ret ?_
              refine JX.thenRet ?_
              exact JX.ret1 rfl rfl h
            · refine J.skip ?_
              refine JX.then ?_
              refine J.seq ?_
              refine J.seq ?_
              refine J.region ?_
              refine JL.exP (.none rfl) rfl rfl (.fieldAddr rfl (fa_46_3 _)) ?_
              refine JL.exV (.none rfl) rfl rfl (.load rfl) h (fun v302 w h => ?_)
              refine JL.exP (.none rfl) rfl rfl (.fieldAddr rfl (fa_46_4 _)) ?_
              refine JL.exP (.none rfl) rfl rfl (.fieldAddr rfl (fa_44_0 _)) ?_
              refine JL.exV (.none rfl) rfl rfl (.load rfl) h (fun v303 w h => ?_)
              refine JL.exC (.none rfl) rfl rfl (.func (vs := [v302, v303]) en_69 rfl) h (fun vx304 w h => ?_)
              obtain ⟨x304, rfl, h⟩ := h
              refine JL.exP (.none rfl) rfl rfl (.assign rfl) ?_
              refine JL.nil ?_
              refine JX.then ?_
              refine J.seq ?_
              refine J.region ?_
              refine JL.exP (.none rfl) rfl rfl (.move rfl) ?_
              refine JL.exP (.none rfl) rfl rfl (.neq rfl rfl) ?_
              refine JL.nil ?_
              refine JX.then ?_
              refine J.cond (b := _) rfl h (fun h => ?_) (fun h => ?_)
              · refine J.seq ?_
                refine J.region ?_
                refine JL.exP (.none rfl) rfl rfl (.move rfl) ?_
                refine JL.exP (.none rfl) rfl rfl (.assign rfl) ?_
                refine JL.nil ?_
                refine JX.then ?_
                refine J.ret ?_
                refine JX.thenRet ?_
                exact JX.ret1 rfl rfl h
              · refine J.skip ?_
                refine JX.then ?_
                refine J.seq ?_
                refine J.seq ?_
                refine J.join h (fun y305 => [(2, (.int .i64 s279.1)), (117, (.bool y305))]) (fun k306 w h => ?_) (fun y305 w h => ?_)
                · refine J.region ?_
                  refine JL.exP (.none rfl) rfl rfl (.fieldAddr rfl (fa_46_4 _)) ?_
                  refine JL.exP (.none rfl) rfl rfl (.fieldAddr rfl (fa_44_1 _)) ?_
                  refine JL.exV (.none rfl) rfl rfl (.load rfl) h (fun v307 w h => ?_)
                  refine JL.sPure (.none rfl) rfl rfl ((.len (vs := [v307]) rfl)) h (fun vx308 w h => ?_)
                  obtain ⟨x308, rfl, h⟩ := h
                  refine JL.exP (.none rfl) rfl rfl (.fieldAddr rfl (fa_46_3 _)) ?_
                  refine JL.exP (.none rfl) rfl rfl (.fieldAddr rfl (fa_40_0 _)) ?_
                  refine JL.exV (.none rfl) rfl rfl (.load rfl) h (fun vx309 w h => ?_)
                  obtain ⟨x309, rfl, h⟩ := h
                  refine JL.exP (.none rfl) rfl rfl (.neq rfl rfl) ?_
                  refine JL.exP (.none rfl) rfl rfl (.move rfl) ?_
                  rcases orB_cases h with ⟨hc312, h⟩ | ⟨hc312, h⟩
                  · refine JL.exNo (.off rfl rfl rfl hc312 rfl) rfl rfl ?_
                    refine JL.exNo (.off rfl rfl rfl hc312 rfl) rfl rfl ?_
                    refine JL.exNo (.off rfl rfl rfl hc312 rfl) rfl rfl ?_
                    refine JL.exNo (.off rfl rfl rfl hc312 rfl) rfl rfl ?_
                    refine JL.exNo (.off rfl rfl rfl hc312 rfl) rfl rfl ?_
                    refine JL.exNo (.off rfl rfl rfl hc312 rfl) rfl rfl ?_
                    refine JL.exNo (.off rfl rfl rfl hc312 rfl) rfl rfl ?_
                    refine JL.exNo (.off rfl rfl rfl hc312 rfl) rfl rfl ?_
                    refine JL.exP (.none rfl) rfl rfl (.pickOn rfl hc312 rfl) ?_
                    refine JL.nil ?_
                    exact JX.joinEnd h ⟨rfl, rfl, trivial⟩
                  · refine JL.exP (.on rfl rfl rfl hc312) rfl rfl (.fieldAddr rfl (fa_46_4 _)) ?_
                    refine JL.exP (.on rfl rfl rfl hc312) rfl rfl (.fieldAddr rfl (fa_44_2 _)) ?_
                    refine JL.exV (.on rfl rfl rfl hc312) rfl rfl (.load rfl) h (fun v313 w h => ?_)
                    refine JL.sPure (.on rfl rfl rfl hc312) rfl rfl ((.len (vs := [v313]) rfl)) h (fun vx314 w h => ?_)
                    obtain ⟨x314, rfl, h⟩ := h
                    refine JL.exP (.on rfl rfl rfl hc312) rfl rfl (.fieldAddr rfl (fa_46_3 _)) ?_
                    refine JL.exP (.on rfl rfl rfl hc312) rfl rfl (.fieldAddr rfl (fa_40_1 _)) ?_
                    refine JL.exV (.on rfl rfl rfl hc312) rfl rfl (.load rfl) h (fun vx315 w h => ?_)
                    obtain ⟨x315, rfl, h⟩ := h
                    refine JL.exP (.on rfl rfl rfl hc312) rfl rfl (.neq rfl rfl) ?_
                    refine JL.exP (.none rfl) rfl rfl (.pickOff rfl hc312 rfl) ?_
                    refine JL.nil ?_
                    exact JX.joinEnd h ⟨rfl, rfl, trivial⟩
                · refine JX.then ?_
                  refine J.cond (b := _) rfl h (fun h => ?_) (fun h => ?_)
                  · refine J.seq ?_
                    refine J.region ?_
                    refine JL.exP (.none rfl) rfl rfl (.assign rfl) ?_
                    refine JL.nil ?_
                    refine JX.then ?_
                    refine J.ret ?_
                    refine JX.thenRet ?_
                    exact JX.ret1 rfl rfl h
                  · refine J.skip ?_
                    refine JX.then ?_
                    refine J.seq ?_
                    refine J.region ?_
                    refine JL.exP (.none rfl) rfl rfl (.assign rfl) ?_
                    refine JL.nil ?_
                    refine JX.then ?_
                    refine J.ret ?_
                    exact JX.ret1 rfl rfl h

/-- cabstand/fair.rows -/
def fair_rows (a0 : Value) (K : Value → WP) : WP :=
  semA Try.prog (Instr.box 46 a0) fun p316 =>
  joinH (α := Value × Value) (fun y317 =>
    semV Try.prog (loadVar 38 ((p316.add 3).add 2)) fun v329 =>
    pureI Try.prog .i64 (Builtin.len_ #[38] 3 #[v329]) fun x330 =>
    loopH (σ := Int) (fun kc332 s331 =>
      iteH (decide (s331 < x330)) (
        pureA Try.prog (Instr.indexAt 38 v329 (.int .i64 s331)) fun p333 =>
        semV Try.prog (loadVar 103 p333) fun v334 =>
        semA Try.prog (Instr.alloc 103 true (.tuple #[])) fun p335 =>
        semU Try.prog (storeVar 103 p335 v334) <|
        semI Try.prog .i64 (loadVar 3 (p335.add 0)) fun x336 =>
        pureA Try.prog (Instr.indexAt 98 y317.1 (.int .i64 x336)) fun p337 =>
        semU Try.prog (storeVar 4 p337 (.bool true)) <|
        kc332 (IntKind.i64.wrap (s331 + 1))) (
        semV Try.prog (loadVar 41 ((p316.add 6).add 0)) fun v338 =>
        pureI Try.prog .i64 (Builtin.len_ #[41] 3 #[v338]) fun x339 =>
        loopH (σ := Int) (fun kc341 s340 =>
          iteH (decide (s340 < x339)) (
            pureA Try.prog (Instr.indexAt 41 v338 (.int .i64 s340)) fun p342 =>
            semV Try.prog (loadVar 105 p342) fun v343 =>
            semA Try.prog (Instr.alloc 105 true (.tuple #[])) fun p344 =>
            semU Try.prog (storeVar 105 p344 v343) <|
            semI Try.prog .i64 (loadVar 3 (p344.add 0)) fun x345 =>
            pureA Try.prog (Instr.indexAt 98 y317.2 (.int .i64 x345)) fun p346 =>
            semU Try.prog (storeVar 4 p346 (.bool true)) <|
            kc341 (IntKind.i64.wrap (s340 + 1))) (
            K (.tuple #[y317.1, y317.2]))) 0)) 0) fun k318 =>
    drawH <|
    readI Try.prog .i64 (loadVar 3 ((p316.add 3).add 0)) fun x319 =>
    readI Try.prog .i64 (loadVar 3 ((p316.add 3).add 0)) fun x321 =>
    bothH (
      semV Try.prog (Instr.makeSlice 98 (.int .i64 x319) (.int .i64 x319)) fun v324 =>
      keepR Try.prog (loadVar 3 ((p316.add 3).add 0)) (.int .i64 x321) <|
      semV Try.prog (Instr.makeSlice 98 (.int .i64 x321) (.int .i64 x321)) fun v325 =>
      k318 (v324, v325)) (
      semV Try.prog (Instr.makeSlice 98 (.int .i64 x321) (.int .i64 x321)) fun v327 =>
      keepR Try.prog (loadVar 3 ((p316.add 3).add 0)) (.int .i64 x319) <|
      semV Try.prog (Instr.makeSlice 98 (.int .i64 x319) (.int .i64 x319)) fun v328 =>
      k318 (v328, v327))
set_option maxRecDepth 100000 in
set_option maxHeartbeats 1000000 in
theorem fair_rows_ok {a0 : Value} {K : Value → WP} {w : World} (h : fair_rows a0 K w) : callH Try.prog 47 #[a0] K w := by
  refine enter (l := [a0]) Try.func47 rfl rfl rfl ?_
  show J Try.prog 44 [(0, a0)] _ _ _
  unfold fair_rows at h
  refine J.seq ?_
  refine J.region ?_
  refine JL.exV (.none rfl) rfl rfl (.box rfl) h (fun vp316 w h => ?_)
  obtain ⟨p316, rfl, h⟩ := h
  refine JL.exP (.none rfl) rfl rfl (.assign rfl) ?_
  refine JL.exP (.none rfl) rfl rfl (.assign rfl) ?_
  refine JL.nil ?_
  refine JX.then ?_
  refine J.seq ?_
  refine J.join h (fun y317 => [(1, (.pointer (some p316))), (2, y317.1), (3, y317.2)]) (fun k318 w h => ?_) (fun y317 w h => ?_)
  · refine J.draw [[], [0], [0, 1], [0, 1, 2], [], [4], [4, 5], [4, 5, 6], [0, 1, 2, 3], [0, 1, 2, 3, 4, 5, 6, 7, 8]] (by kernel_rfl) mixed h (fun w h => ?_)
    refine JD.pure_ (i := 0) [] rfl (by kernel_rfl) (by kernel_rfl) (by kernel_rfl) (by kernel_rfl) (.none rfl) rfl rfl (.fieldAddr rfl (fa_46_3 _)) trivial ?_
    refine JD.pure_ (i := 1) [] rfl (by kernel_rfl) (by kernel_rfl) (by kernel_rfl) (by kernel_rfl) (.none rfl) rfl rfl (.fieldAddr rfl (fa_40_0 _)) trivial ?_
    refine JD.read (i := 2) [] rfl (by kernel_rfl) (by kernel_rfl) (by kernel_rfl) (by kernel_rfl) (.none rfl) rfl rfl (.load rfl) h trivial (fun vx319 st320 h => ?_)
    obtain ⟨x319, rfl, h⟩ := h
    refine JD.pure_ (i := 4) [false] rfl (by kernel_rfl) (by kernel_rfl) (by kernel_rfl) (by kernel_rfl) (.none rfl) rfl rfl (.fieldAddr rfl (fa_46_3 _)) ⟨st320, trivial⟩ ?_
    refine JD.pure_ (i := 5) [false] rfl (by kernel_rfl) (by kernel_rfl) (by kernel_rfl) (by kernel_rfl) (.none rfl) rfl rfl (.fieldAddr rfl (fa_40_0 _)) ⟨st320, trivial⟩ ?_
    refine JD.read (i := 6) [false] rfl (by kernel_rfl) (by kernel_rfl) (by kernel_rfl) (by kernel_rfl) (.none rfl) rfl rfl (.load rfl) h ⟨st320, trivial⟩ (fun vx321 st322 h => ?_)
    obtain ⟨x321, rfl, h⟩ := h
    refine JD.two (i := 3) (j := 7) (by kernel_rfl) h (fun h => ?_) (fun h => ?_)
    · refine JD1.exV [false, true] rfl (by kernel_rfl) (.none rfl) rfl rfl (.makeSlice rfl rfl) h (fun v324 w h => ?_)
      obtain ⟨st323, h⟩ := h
      refine ⟨⟨st323, trivial⟩, ?_⟩
      refine JD.pure_ (i := 8) [false] rfl (by kernel_rfl) (by kernel_rfl) (by kernel_rfl) (by kernel_rfl) (.none rfl) rfl rfl (.assign rfl) ⟨st323, trivial⟩ ?_
      refine JD.one (j := 7) (by kernel_rfl) ?_
      refine JD1.exV [true] rfl (by kernel_rfl) (.none rfl) rfl rfl (.makeSlice rfl rfl) h (fun v325 w h => ?_)
      refine ⟨trivial, ?_⟩
      refine JD.pure_ (i := 9) [] rfl (by kernel_rfl) (by kernel_rfl) (by kernel_rfl) (by kernel_rfl) (.none rfl) rfl rfl (.assign rfl) trivial ?_
      refine JD.done (by kernel_rfl) ?_
      exact JX.joinEnd h ⟨rfl, rfl, rfl, trivial⟩
    · refine JD1.exV [true, false] rfl (by kernel_rfl) (.none rfl) rfl rfl (.makeSlice rfl rfl) h (fun v327 w h => ?_)
      obtain ⟨st326, h⟩ := h
      refine ⟨⟨st326, trivial⟩, ?_⟩
      refine JD.one (j := 3) (by kernel_rfl) ?_
      refine JD1.exV [true] rfl (by kernel_rfl) (.none rfl) rfl rfl (.makeSlice rfl rfl) h (fun v328 w h => ?_)
      refine ⟨trivial, ?_⟩
      refine JD.pure_ (i := 8) [] rfl (by kernel_rfl) (by kernel_rfl) (by kernel_rfl) (by kernel_rfl) (.none rfl) rfl rfl (.assign rfl) trivial ?_
      refine JD.pure_ (i := 9) [] rfl (by kernel_rfl) (by kernel_rfl) (by kernel_rfl) (by kernel_rfl) (.none rfl) rfl rfl (.assign rfl) trivial ?_
      refine JD.done (by kernel_rfl) ?_
      exact JX.joinEnd h ⟨rfl, rfl, rfl, trivial⟩
  · refine JX.then ?_
    refine J.seq ?_
    refine J.seq ?_
    refine J.region ?_
    refine JL.exP (.none rfl) rfl rfl (.fieldAddr rfl (fa_46_3 _)) ?_
    refine JL.exP (.none rfl) rfl rfl (.fieldAddr rfl (fa_40_2 _)) ?_
    refine JL.exV (.none rfl) rfl rfl (.load rfl) h (fun v329 w h => ?_)
    refine JL.sPure (.none rfl) rfl rfl ((.len (vs := [v329]) rfl)) h (fun vx330 w h => ?_)
    obtain ⟨x330, rfl, h⟩ := h
    refine JL.exP (.none rfl) rfl rfl (.move rfl) ?_
    refine JL.nil ?_
    refine JX.then ?_
    refine J.block ?_
    refine J.loop h (fun s331 => [(1, (.pointer (some p316))), (2, y317.1), (3, y317.2), (18, v329), (19, (.int .i64 x330)), (20, (.int .i64 s331))]) ⟨rfl, rfl, rfl, rfl, rfl, rfl, trivial⟩ (fun I μ s331 w h => ?_)
    refine J.seq ?_
    refine J.region ?_
    refine JL.exP (.none rfl) rfl rfl (.lss rfl rfl) ?_
    refine JL.nil ?_
    refine JX.then ?_
    refine J.seq ?_
    refine J.cond (b := _) rfl h (fun h => ?_) (fun h => ?_)
    · refine J.skip ?_
      refine JX.then ?_
      refine J.seq ?_
      refine J.block ?_
      refine J.seq ?_
      refine J.region ?_
      refine JL.sPure (.none rfl) rfl rfl (.indexAddr rfl rfl) h (fun vp333 w h => ?_)
      obtain ⟨p333, rfl, h⟩ := h
      refine JL.exV (.none rfl) rfl rfl (.load rfl) h (fun v334 w h => ?_)
      refine JL.exV (.none rfl) rfl rfl (.alloc) h (fun vp335 w h => ?_)
      obtain ⟨p335, rfl, h⟩ := h
      refine JL.exU (.none rfl) rfl (.store rfl rfl) h (fun w h => ?_)
      refine JL.nil ?_
      refine JX.then ?_
      refine J.region ?_
      refine JL.exP (.none rfl) rfl rfl (.move rfl) ?_
      refine JL.exP (.none rfl) rfl rfl (.fieldAddr rfl (fa_103_0 _)) ?_
      refine JL.exV (.none rfl) rfl rfl (.load rfl) h (fun vx336 w h => ?_)
      obtain ⟨x336, rfl, h⟩ := h
      refine JL.sPure (.none rfl) rfl rfl (.indexAddr rfl rfl) h (fun vp337 w h => ?_)
      obtain ⟨p337, rfl, h⟩ := h
      refine JL.exU (.none rfl) rfl (.store rfl rfl) h (fun w h => ?_)
      refine JL.nil ?_
      refine JX.blockNormal ?_
      refine JX.then ?_
      refine J.region ?_
      refine JL.exP (.none rfl) rfl rfl (.add rfl rfl) ?_
      refine JL.exP (.none rfl) rfl rfl (.move rfl) ?_
      refine JL.nil ?_
      exact JX.loopEnd h ⟨rfl, rfl, rfl, rfl, rfl, rfl, trivial⟩
    · refine J.exit ?_
      refine JX.thenExit ?_
      refine JX.thenExit ?_
      refine JX.blockHere ?_
      refine JX.then ?_
      refine J.seq ?_
      refine J.seq ?_
      refine J.region ?_
      refine JL.exP (.none rfl) rfl rfl (.fieldAddr rfl (fa_46_4 _)) ?_
      refine JL.exP (.none rfl) rfl rfl (.fieldAddr rfl (fa_44_0 _)) ?_
      refine JL.exV (.none rfl) rfl rfl (.load rfl) h (fun v338 w h => ?_)
      refine JL.sPure (.none rfl) rfl rfl ((.len (vs := [v338]) rfl)) h (fun vx339 w h => ?_)
      obtain ⟨x339, rfl, h⟩ := h
      refine JL.exP (.none rfl) rfl rfl (.move rfl) ?_
      refine JL.nil ?_
      refine JX.then ?_
      refine J.block ?_
      refine J.loop h (fun s340 => [(2, y317.1), (3, y317.2), (31, v338), (32, (.int .i64 x339)), (33, (.int .i64 s340))]) ⟨rfl, rfl, rfl, rfl, rfl, trivial⟩ (fun I μ s340 w h => ?_)
      refine J.seq ?_
      refine J.region ?_
      refine JL.exP (.none rfl) rfl rfl (.lss rfl rfl) ?_
      refine JL.nil ?_
      refine JX.then ?_
      refine J.seq ?_
      refine J.cond (b := _) rfl h (fun h => ?_) (fun h => ?_)
      · refine J.skip ?_
        refine JX.then ?_
        refine J.seq ?_
        refine J.block ?_
        refine J.seq ?_
        refine J.region ?_
        refine JL.sPure (.none rfl) rfl rfl (.indexAddr rfl rfl) h (fun vp342 w h => ?_)
        obtain ⟨p342, rfl, h⟩ := h
        refine JL.exV (.none rfl) rfl rfl (.load rfl) h (fun v343 w h => ?_)
        refine JL.exV (.none rfl) rfl rfl (.alloc) h (fun vp344 w h => ?_)
        obtain ⟨p344, rfl, h⟩ := h
        refine JL.exU (.none rfl) rfl (.store rfl rfl) h (fun w h => ?_)
        refine JL.nil ?_
        refine JX.then ?_
        refine J.region ?_
        refine JL.exP (.none rfl) rfl rfl (.move rfl) ?_
        refine JL.exP (.none rfl) rfl rfl (.fieldAddr rfl (fa_105_0 _)) ?_
        refine JL.exV (.none rfl) rfl rfl (.load rfl) h (fun vx345 w h => ?_)
        obtain ⟨x345, rfl, h⟩ := h
        refine JL.sPure (.none rfl) rfl rfl (.indexAddr rfl rfl) h (fun vp346 w h => ?_)
        obtain ⟨p346, rfl, h⟩ := h
        refine JL.exU (.none rfl) rfl (.store rfl rfl) h (fun w h => ?_)
        refine JL.nil ?_
        refine JX.blockNormal ?_
        refine JX.then ?_
        refine J.region ?_
        refine JL.exP (.none rfl) rfl rfl (.add rfl rfl) ?_
        refine JL.exP (.none rfl) rfl rfl (.move rfl) ?_
        refine JL.nil ?_
        exact JX.loopEnd h ⟨rfl, rfl, rfl, rfl, rfl, trivial⟩
      · refine J.exit ?_
        refine JX.thenExit ?_
        refine JX.thenExit ?_
        refine JX.blockHere ?_
        refine JX.then ?_
        refine J.seq ?_
        refine J.region ?_
        refine JL.exP (.none rfl) rfl rfl (.move rfl) ?_
        refine JL.exP (.none rfl) rfl rfl (.move rfl) ?_
        refine JL.exP (.none rfl) rfl rfl (.assign rfl) ?_
        refine JL.exP (.none rfl) rfl rfl (.assign rfl) ?_
        refine JL.nil ?_
        refine JX.then ?_
        refine J.ret ?_
        exact JX.ret2 rfl rfl rfl h

/-- cabstand/cabstandlaw21.first -/
def law21_first  (K : Value → WP) : WP :=
  semA Try.prog (Instr.alloc 46 true (.tuple #[])) fun p347 =>
  pureV Try.prog (Instr.build 28 #[(7, (.int .u8 1))]) fun v348 =>
  pureV Try.prog (Instr.build 54 #[(0, v348)]) fun v349 =>
  pureV Try.prog (Instr.build 56 #[(0, v349)]) fun v350 =>
  pureV Try.prog (Instr.build 28 #[(7, (.int .u8 2))]) fun v351 =>
  pureV Try.prog (Instr.build 54 #[(0, v351)]) fun v352 =>
  pureV Try.prog (Instr.build 56 #[(0, v352), (2, (.int .i64 1))]) fun v353 =>
  semV Try.prog (Instr.buildSlice 36 2 #[(0, v350), (1, v353)]) fun v354 =>
  pureV Try.prog (Instr.build 103 #[(0, (.int .i64 0)), (1, (.int .i64 0)), (2, (.int .i64 13))]) fun v355 =>
  pureV Try.prog (Instr.build 103 #[(0, (.int .i64 1)), (1, (.int .i64 0)), (2, (.int .i64 18))]) fun v356 =>
  semV Try.prog (Instr.buildSlice 38 2 #[(0, v355), (1, v356)]) fun v357 =>
  pureV Try.prog (Instr.build 40 #[(0, (.int .i64 2)), (1, (.int .i64 1)), (2, v357)]) fun v358 =>
  semA Try.prog (Instr.alloc 40 true (.tuple #[])) fun p359 =>
  semU Try.prog (storeVar 40 p359 v358) <|
  pureV Try.prog (Instr.build 28 #[(7, (.int .u8 7))]) fun v360 =>
  pureV Try.prog (Instr.build 124 #[(0, v360)]) fun v361 =>
  pureV Try.prog (Instr.build 126 #[(0, v361)]) fun v362 =>
  semV Try.prog (Instr.buildSlice 37 1 #[(0, v362)]) fun v363 =>
  semV Try.prog (loadVar 40 p359) fun v364 =>
  pureV Try.prog (Instr.build 105 #[(0, (.int .i64 1)), (1, (.int .i64 0))]) fun v365 =>
  semV Try.prog (Instr.buildSlice 41 1 #[(0, v365)]) fun v366 =>
  semV Try.prog (Instr.buildSlice 42 2 #[(0, (.int .i64 0)), (1, (.int .i64 5))]) fun v367 =>
  semV Try.prog (Instr.buildSlice 42 1 #[(0, (.int .i64 13))]) fun v368 =>
  pureV Try.prog (Instr.build 44 #[(0, v366), (1, v367), (2, v368)]) fun v369 =>
  pureV Try.prog (Instr.build 46 #[(0, (.int .i64 2)), (1, v354), (2, v363), (3, v364), (4, v369)]) fun v370 =>
  semU Try.prog (storeVar 46 p347 v370) <|
  seeV Try.prog (loadVar 46 p347) K
set_option maxRecDepth 100000 in
set_option maxHeartbeats 1000000 in
theorem law21_first_ok  {K : Value → WP} {w : World} (h : law21_first  K w) : callH Try.prog 54 #[] K w := by
  refine enter (l := []) Try.func54 rfl rfl rfl ?_
  show J Try.prog 26 [] _ _ _
  unfold law21_first at h
  refine J.seq ?_
  refine J.region ?_
  refine JL.exV (.none rfl) rfl rfl (.alloc) h (fun vp347 w h => ?_)
  obtain ⟨p347, rfl, h⟩ := h
  refine JL.nil ?_
  refine JX.then ?_
  refine J.seq ?_
  refine J.region ?_
  refine JL.sPure (.none rfl) rfl rfl ((.build (l' := [(7, (.int .u8 1))]) rfl)) h (fun v348 w h => ?_)
  refine JL.sPure (.none rfl) rfl rfl ((.build (l' := [(0, v348)]) rfl)) h (fun v349 w h => ?_)
  refine JL.sPure (.none rfl) rfl rfl ((.build (l' := [(0, v349)]) rfl)) h (fun v350 w h => ?_)
  refine JL.sPure (.none rfl) rfl rfl ((.build (l' := [(7, (.int .u8 2))]) rfl)) h (fun v351 w h => ?_)
  refine JL.sPure (.none rfl) rfl rfl ((.build (l' := [(0, v351)]) rfl)) h (fun v352 w h => ?_)
  refine JL.sPure (.none rfl) rfl rfl ((.build (l' := [(0, v352), (2, (.int .i64 1))]) rfl)) h (fun v353 w h => ?_)
  refine JL.exV (.none rfl) rfl rfl ((.buildSlice (l' := [(0, v350), (1, v353)]) rfl)) h (fun v354 w h => ?_)
  refine JL.exP (.none rfl) rfl rfl (.assign rfl) ?_
  refine JL.nil ?_
  refine JX.then ?_
  refine J.seq ?_
  refine J.region ?_
  refine JL.sPure (.none rfl) rfl rfl ((.build (l' := [(0, (.int .i64 0)), (1, (.int .i64 0)), (2, (.int .i64 13))]) rfl)) h (fun v355 w h => ?_)
  refine JL.sPure (.none rfl) rfl rfl ((.build (l' := [(0, (.int .i64 1)), (1, (.int .i64 0)), (2, (.int .i64 18))]) rfl)) h (fun v356 w h => ?_)
  refine JL.exV (.none rfl) rfl rfl ((.buildSlice (l' := [(0, v355), (1, v356)]) rfl)) h (fun v357 w h => ?_)
  refine JL.sPure (.none rfl) rfl rfl ((.build (l' := [(0, (.int .i64 2)), (1, (.int .i64 1)), (2, v357)]) rfl)) h (fun v358 w h => ?_)
  refine JL.exV (.none rfl) rfl rfl (.alloc) h (fun vp359 w h => ?_)
  obtain ⟨p359, rfl, h⟩ := h
  refine JL.exU (.none rfl) rfl (.store rfl rfl) h (fun w h => ?_)
  refine JL.nil ?_
  refine JX.then ?_
  refine J.seq ?_
  refine J.region ?_
  refine JL.exP (.none rfl) rfl rfl (.move rfl) ?_
  refine JL.sPure (.none rfl) rfl rfl ((.build (l' := [(7, (.int .u8 7))]) rfl)) h (fun v360 w h => ?_)
  refine JL.sPure (.none rfl) rfl rfl ((.build (l' := [(0, v360)]) rfl)) h (fun v361 w h => ?_)
  refine JL.sPure (.none rfl) rfl rfl ((.build (l' := [(0, v361)]) rfl)) h (fun v362 w h => ?_)
  refine JL.exV (.none rfl) rfl rfl ((.buildSlice (l' := [(0, v362)]) rfl)) h (fun v363 w h => ?_)
  refine JL.exV (.none rfl) rfl rfl (.load rfl) h (fun v364 w h => ?_)
  refine JL.sPure (.none rfl) rfl rfl ((.build (l' := [(0, (.int .i64 1)), (1, (.int .i64 0))]) rfl)) h (fun v365 w h => ?_)
  refine JL.exV (.none rfl) rfl rfl ((.buildSlice (l' := [(0, v365)]) rfl)) h (fun v366 w h => ?_)
  refine JL.exV (.none rfl) rfl rfl ((.buildSlice (l' := [(0, (.int .i64 0)), (1, (.int .i64 5))]) rfl)) h (fun v367 w h => ?_)
  refine JL.exV (.none rfl) rfl rfl ((.buildSlice (l' := [(0, (.int .i64 13))]) rfl)) h (fun v368 w h => ?_)
  refine JL.sPure (.none rfl) rfl rfl ((.build (l' := [(0, v366), (1, v367), (2, v368)]) rfl)) h (fun v369 w h => ?_)
  refine JL.sPure (.none rfl) rfl rfl ((.build (l' := [(0, (.int .i64 2)), (1, v354), (2, v363), (3, v364), (4, v369)]) rfl)) h (fun v370 w h => ?_)
  refine JL.exU (.none rfl) rfl (.store rfl rfl) h (fun w h => ?_)
  refine JL.nil ?_
  refine JX.then ?_
  refine J.ret ?_
  exact JX.retC rfl rfl h

/-- (*cabstand/fair.Watch).there -/
def fair_Watch_there (a0 : Value) (K : Value → WP) : WP :=
  joinH (α := Bool) (fun y371 =>
    K (.bool y371)) fun k372 =>
    pureB Try.prog (eqM .neq 61 (.tmp 3) (.const (.pointer none)) a0 (.pointer none)) fun b373 =>
    andB b373 (fun k375 =>
      asP a0 fun p377 =>
      semV Try.prog (loadVar 62 (p377.add 0)) fun v378 =>
      pureB Try.prog (eqM .neq 62 (.tmp 9) (.const (.map none)) v378 (.map none)) fun b379 =>
      k375 b379) fun b374 =>
    k372 b374
set_option maxRecDepth 100000 in
set_option maxHeartbeats 1000000 in
theorem fair_Watch_there_ok {a0 : Value} {K : Value → WP} {w : World} (h : fair_Watch_there a0 K w) : callH Try.prog 55 #[a0] K w := by
  refine enter (l := [a0]) Try.func55 rfl rfl rfl ?_
  show J Try.prog 12 [(0, a0)] _ _ _
  unfold fair_Watch_there at h
  refine J.seq ?_
  refine J.region ?_
  refine JL.exP (.none rfl) rfl rfl (.assign rfl) ?_
  refine JL.nil ?_
  refine JX.then ?_
  refine J.seq ?_
  refine J.join h (fun y371 => [(2, (.bool y371))]) (fun k372 w h => ?_) (fun y371 w h => ?_)
  · refine J.region ?_
    refine JL.exP (.none rfl) rfl rfl (.move rfl) ?_
    refine JL.sPure (.none rfl) rfl rfl (.binOp rfl rfl) h (fun vb373 w h => ?_)
    obtain ⟨b373, rfl, h⟩ := h
    refine JL.exP (.none rfl) rfl rfl (.move rfl) ?_
    rcases andB_cases h with ⟨hc376, h⟩ | ⟨hc376, h⟩
    · refine JL.exNo (.off rfl rfl rfl hc376 rfl) rfl rfl ?_
      refine JL.exNo (.off rfl rfl rfl hc376 rfl) rfl rfl ?_
      refine JL.exNo (.off rfl rfl rfl hc376 rfl) rfl rfl ?_
      refine JL.exNo (.off rfl rfl rfl hc376 rfl) rfl rfl ?_
      refine JL.exNo (.off rfl rfl rfl hc376 rfl) rfl rfl ?_
      refine JL.exP (.none rfl) rfl rfl (.pickOff rfl hc376 rfl) ?_
      refine JL.exP (.none rfl) rfl rfl (.assign rfl) ?_
      refine JL.nil ?_
      exact JX.joinEnd h ⟨rfl, trivial⟩
    · refine JL.exP (.on rfl rfl rfl hc376) rfl rfl (.move rfl) ?_
      obtain ⟨p377, hp377, h⟩ := h
      refine JL.exP (.on rfl rfl rfl hc376) rfl rfl (.nilCheck rfl hp377) ?_
      refine JL.exP (.on rfl rfl rfl hc376) rfl rfl (.fieldAddr rfl (fa_64_0 _)) ?_
      refine JL.exV (.on rfl rfl rfl hc376) rfl rfl (.load rfl) h (fun v378 w h => ?_)
      refine JL.sPure (.on rfl rfl rfl hc376) rfl rfl (.binOp rfl rfl) h (fun vb379 w h => ?_)
      obtain ⟨b379, rfl, h⟩ := h
      refine JL.exP (.none rfl) rfl rfl (.pickOn rfl hc376 rfl) ?_
      refine JL.exP (.none rfl) rfl rfl (.assign rfl) ?_
      refine JL.nil ?_
      exact JX.joinEnd h ⟨rfl, trivial⟩
  · refine JX.then ?_
    refine J.ret ?_
    exact JX.ret1 rfl rfl h

/-- cabstand/weigh.Check -/
def weigh_Check (a0 : Value) (K : Value → WP) : WP :=
  semA Try.prog (Instr.box 40 a0) fun p380 =>
  joinH (α := Bool) (fun y381 =>
    pureV Try.prog (Instr.build 103 #[(0, (.int .i64 (-1)))]) fun v396 =>
    semA Try.prog (Instr.alloc 103 true (.tuple #[])) fun p397 =>
    semU Try.prog (storeVar 103 p397 v396) <|
    semV Try.prog (loadVar 38 (p380.add 2)) fun v398 =>
    pureI Try.prog .i64 (Builtin.len_ #[38] 3 #[v398]) fun x399 =>
    joinH (α := Bool) (fun y400 =>
      iteH y400 (
        K (.int .i64 170)) (
        K (.int .i64 0))) fun k401 =>
      loopH (σ := Bool × Int) (fun kc403 s402 =>
        iteH (decide (s402.2 < x399)) (
          pureA Try.prog (Instr.indexAt 38 v398 (.int .i64 s402.2)) fun p404 =>
          semV Try.prog (loadVar 103 p404) fun v405 =>
          semA Try.prog (Instr.alloc 103 true (.tuple #[])) fun p406 =>
          semU Try.prog (storeVar 103 p406 v405) <|
          semI Try.prog .i64 (loadVar 3 (p406.add 0)) fun x407 =>
          joinH (α := Bool) (fun y408 =>
            iteH y408 (
              k401 true) (
              semI Try.prog .i64 (loadVar 3 (p406.add 0)) fun x425 =>
              semI Try.prog .i64 (loadVar 3 (p397.add 0)) fun x426 =>
              joinH (α := Bool) (fun y427 =>
                iteH y427 (
                  k401 true) (
                  semV Try.prog (loadVar 103 p406) fun v438 =>
                  semU Try.prog (storeVar 103 p397 v438) <|
                  kc403 (s402.1, (IntKind.i64.wrap (s402.2 + 1))))) fun k428 =>
                iteH (decide (x425 < x426)) (
                  k428 (decide (x425 < x426))) (
                  joinH (α := Bool) (fun y429 =>
                    k428 y429) fun k430 =>
                    semI Try.prog .i64 (loadVar 3 (p406.add 0)) fun x431 =>
                    semI Try.prog .i64 (loadVar 3 (p397.add 0)) fun x432 =>
                    andB ((x431 : Int) == x432) (fun k434 =>
                      semI Try.prog .i64 (loadVar 3 (p406.add 1)) fun x436 =>
                      semI Try.prog .i64 (loadVar 3 (p397.add 1)) fun x437 =>
                      k434 (decide (x436 ≤ x437))) fun b433 =>
                    k430 b433))) fun k409 =>
            iteH (decide (x407 < 0)) (
              k409 (decide (x407 < 0))) (
              semI Try.prog .i64 (loadVar 3 (p406.add 0)) fun x410 =>
              semI Try.prog .i64 (loadVar 3 (p380.add 0)) fun x411 =>
              joinH (α := Bool) (fun y412 =>
                k409 y412) fun k413 =>
                iteH (decide (x411 ≤ x410)) (
                  k413 (decide (x411 ≤ x410))) (
                  semI Try.prog .i64 (loadVar 3 (p406.add 1)) fun x414 =>
                  joinH (α := Bool) (fun y415 =>
                    k413 y415) fun k416 =>
                    iteH (decide (x414 < 0)) (
                      k416 (decide (x414 < 0))) (
                      semI Try.prog .i64 (loadVar 3 (p406.add 1)) fun x417 =>
                      semI Try.prog .i64 (loadVar 3 (p380.add 1)) fun x418 =>
                      joinH (α := Bool) (fun y419 =>
                        k416 y419) fun k420 =>
                        iteH (decide (x418 ≤ x417)) (
                          k420 (decide (x418 ≤ x417))) (
                          semI Try.prog .i64 (loadVar 3 (p406.add 2)) fun x421 =>
                          joinH (α := Bool) (fun y422 =>
                            k420 y422) fun k423 =>
                            iteH (decide (x421 < 1)) (
                              k423 (decide (x421 < 1))) (
                              semI Try.prog .i64 (loadVar 3 (p406.add 2)) fun x424 =>
                              k423 (decide (1099513724929 < x424)))))))) (
          k401 s402.1)) (y381, 0)) fun k382 =>
    semI Try.prog .i64 (loadVar 3 (p380.add 0)) fun x383 =>
    orB (decide (x383 < 0)) (fun k385 =>
      semI Try.prog .i64 (loadVar 3 (p380.add 0)) fun x387 =>
      k385 (decide (64 < x387))) fun b384 =>
    orB b384 (fun k389 =>
      semI Try.prog .i64 (loadVar 3 (p380.add 1)) fun x391 =>
      k389 (decide (x391 < 0))) fun b388 =>
    orB b388 (fun k393 =>
      semI Try.prog .i64 (loadVar 3 (p380.add 1)) fun x395 =>
      k393 (decide (64 < x395))) fun b392 =>
    k382 b392
set_option maxRecDepth 100000 in
set_option maxHeartbeats 1000000 in
theorem weigh_Check_ok {a0 : Value} {K : Value → WP} {w : World} (h : weigh_Check a0 K w) : callH Try.prog 68 #[a0] K w := by
  refine enter (l := [a0]) Try.func68 rfl rfl rfl ?_
  show J Try.prog 77 [(0, a0)] _ _ _
  unfold weigh_Check at h
  refine J.seq ?_
  refine J.region ?_
  refine JL.exV (.none rfl) rfl rfl (.box rfl) h (fun vp380 w h => ?_)
  obtain ⟨p380, rfl, h⟩ := h
  refine JL.exP (.none rfl) rfl rfl (.assign rfl) ?_
  refine JL.nil ?_
  refine JX.then ?_
  refine J.scope ?_
  refine J.seq ?_
  refine J.join h (fun y381 => [(1, (.pointer (some p380))), (2, (.int .i64 0)), (3, (.bool y381))]) (fun k382 w h => ?_) (fun y381 w h => ?_)
  · refine J.region ?_
    refine JL.exP (.none rfl) rfl rfl (.fieldAddr rfl (fa_40_0 _)) ?_
    refine JL.exV (.none rfl) rfl rfl (.load rfl) h (fun vx383 w h => ?_)
    obtain ⟨x383, rfl, h⟩ := h
    refine JL.exP (.none rfl) rfl rfl (.lss rfl rfl) ?_
    refine JL.exP (.none rfl) rfl rfl (.move rfl) ?_
    rcases orB_cases h with ⟨hc386, h⟩ | ⟨hc386, h⟩
    · refine JL.exNo (.off rfl rfl rfl hc386 rfl) rfl rfl ?_
      refine JL.exNo (.off rfl rfl rfl hc386 rfl) rfl rfl ?_
      refine JL.exNo (.off rfl rfl rfl hc386 rfl) rfl rfl ?_
      refine JL.exP (.none rfl) rfl rfl (.pickOn rfl hc386 rfl) ?_
      refine JL.exP (.none rfl) rfl rfl (.move rfl) ?_
      have h := orB_true' h
      refine JL.exNo (.off rfl rfl rfl rfl rfl) rfl rfl ?_
      refine JL.exNo (.off rfl rfl rfl rfl rfl) rfl rfl ?_
      refine JL.exNo (.off rfl rfl rfl rfl rfl) rfl rfl ?_
      refine JL.exP (.none rfl) rfl rfl (.pickOn rfl rfl rfl) ?_
      refine JL.exP (.none rfl) rfl rfl (.move rfl) ?_
      have h := orB_true' h
      refine JL.exNo (.off rfl rfl rfl rfl rfl) rfl rfl ?_
      refine JL.exNo (.off rfl rfl rfl rfl rfl) rfl rfl ?_
      refine JL.exNo (.off rfl rfl rfl rfl rfl) rfl rfl ?_
      refine JL.exP (.none rfl) rfl rfl (.pickOn rfl rfl rfl) ?_
      refine JL.exP (.none rfl) rfl rfl (.assign rfl) ?_
      refine JL.nil ?_
      exact JX.joinEnd h ⟨rfl, rfl, rfl, trivial⟩
    · refine JL.exP (.on rfl rfl rfl hc386) rfl rfl (.fieldAddr rfl (fa_40_0 _)) ?_
      refine JL.exV (.on rfl rfl rfl hc386) rfl rfl (.load rfl) h (fun vx387 w h => ?_)
      obtain ⟨x387, rfl, h⟩ := h
      refine JL.exP (.on rfl rfl rfl hc386) rfl rfl (.gtr rfl rfl) ?_
      refine JL.exP (.none rfl) rfl rfl (.pickOff rfl hc386 rfl) ?_
      refine JL.exP (.none rfl) rfl rfl (.move rfl) ?_
      rcases orB_cases h with ⟨hc390, h⟩ | ⟨hc390, h⟩
      · refine JL.exNo (.off rfl rfl rfl hc390 rfl) rfl rfl ?_
        refine JL.exNo (.off rfl rfl rfl hc390 rfl) rfl rfl ?_
        refine JL.exNo (.off rfl rfl rfl hc390 rfl) rfl rfl ?_
        refine JL.exP (.none rfl) rfl rfl (.pickOn rfl hc390 rfl) ?_
        refine JL.exP (.none rfl) rfl rfl (.move rfl) ?_
        have h := orB_true' h
        refine JL.exNo (.off rfl rfl rfl rfl rfl) rfl rfl ?_
        refine JL.exNo (.off rfl rfl rfl rfl rfl) rfl rfl ?_
        refine JL.exNo (.off rfl rfl rfl rfl rfl) rfl rfl ?_
        refine JL.exP (.none rfl) rfl rfl (.pickOn rfl rfl rfl) ?_
        refine JL.exP (.none rfl) rfl rfl (.assign rfl) ?_
        refine JL.nil ?_
        exact JX.joinEnd h ⟨rfl, rfl, rfl, trivial⟩
      · refine JL.exP (.on rfl rfl rfl hc390) rfl rfl (.fieldAddr rfl (fa_40_1 _)) ?_
        refine JL.exV (.on rfl rfl rfl hc390) rfl rfl (.load rfl) h (fun vx391 w h => ?_)
        obtain ⟨x391, rfl, h⟩ := h
        refine JL.exP (.on rfl rfl rfl hc390) rfl rfl (.lss rfl rfl) ?_
        refine JL.exP (.none rfl) rfl rfl (.pickOff rfl hc390 rfl) ?_
        refine JL.exP (.none rfl) rfl rfl (.move rfl) ?_
        rcases orB_cases h with ⟨hc394, h⟩ | ⟨hc394, h⟩
        · refine JL.exNo (.off rfl rfl rfl hc394 rfl) rfl rfl ?_
          refine JL.exNo (.off rfl rfl rfl hc394 rfl) rfl rfl ?_
          refine JL.exNo (.off rfl rfl rfl hc394 rfl) rfl rfl ?_
          refine JL.exP (.none rfl) rfl rfl (.pickOn rfl hc394 rfl) ?_
          refine JL.exP (.none rfl) rfl rfl (.assign rfl) ?_
          refine JL.nil ?_
          exact JX.joinEnd h ⟨rfl, rfl, rfl, trivial⟩
        · refine JL.exP (.on rfl rfl rfl hc394) rfl rfl (.fieldAddr rfl (fa_40_1 _)) ?_
          refine JL.exV (.on rfl rfl rfl hc394) rfl rfl (.load rfl) h (fun vx395 w h => ?_)
          obtain ⟨x395, rfl, h⟩ := h
          refine JL.exP (.on rfl rfl rfl hc394) rfl rfl (.gtr rfl rfl) ?_
          refine JL.exP (.none rfl) rfl rfl (.pickOff rfl hc394 rfl) ?_
          refine JL.exP (.none rfl) rfl rfl (.assign rfl) ?_
          refine JL.nil ?_
          exact JX.joinEnd h ⟨rfl, rfl, rfl, trivial⟩
  · refine JX.then ?_
    refine J.seq ?_
    refine J.region ?_
    refine JL.sPure (.none rfl) rfl rfl ((.build (l' := [(0, (.int .i64 (-1)))]) rfl)) h (fun v396 w h => ?_)
    refine JL.exV (.none rfl) rfl rfl (.alloc) h (fun vp397 w h => ?_)
    obtain ⟨p397, rfl, h⟩ := h
    refine JL.exU (.none rfl) rfl (.store rfl rfl) h (fun w h => ?_)
    refine JL.nil ?_
    refine JX.then ?_
    refine J.seq ?_
    refine J.label ?_
    refine JX.then ?_
    refine J.seq ?_
    refine J.seq ?_
    refine J.region ?_
    refine JL.exP (.none rfl) rfl rfl (.fieldAddr rfl (fa_40_2 _)) ?_
    refine JL.exV (.none rfl) rfl rfl (.load rfl) h (fun v398 w h => ?_)
    refine JL.sPure (.none rfl) rfl rfl ((.len (vs := [v398]) rfl)) h (fun vx399 w h => ?_)
    obtain ⟨x399, rfl, h⟩ := h
    refine JL.exP (.none rfl) rfl rfl (.move rfl) ?_
    refine JL.nil ?_
    refine JX.then ?_
    refine J.join h (fun y400 => [(2, (.int .i64 0)), (3, (.bool y400))]) (fun k401 w h => ?_) (fun y400 w h => ?_)
    · refine J.block ?_
      refine J.loop h (fun s402 => [(1, (.pointer (some p380))), (2, (.int .i64 0)), (3, (.bool s402.1)), (4, (.pointer (some p397))), (27, v398), (28, (.int .i64 x399)), (29, (.int .i64 s402.2))]) ⟨rfl, rfl, rfl, rfl, rfl, rfl, rfl, trivial⟩ (fun I μ s402 w h => ?_)
      refine J.seq ?_
      refine J.region ?_
      refine JL.exP (.none rfl) rfl rfl (.lss rfl rfl) ?_
      refine JL.nil ?_
      refine JX.then ?_
      refine J.seq ?_
      refine J.cond (b := _) rfl h (fun h => ?_) (fun h => ?_)
      · refine J.skip ?_
        refine JX.then ?_
        refine J.seq ?_
        refine J.block ?_
        refine J.seq ?_
        refine J.region ?_
        refine JL.sPure (.none rfl) rfl rfl (.indexAddr rfl rfl) h (fun vp404 w h => ?_)
        obtain ⟨p404, rfl, h⟩ := h
        refine JL.exV (.none rfl) rfl rfl (.load rfl) h (fun v405 w h => ?_)
        refine JL.exV (.none rfl) rfl rfl (.alloc) h (fun vp406 w h => ?_)
        obtain ⟨p406, rfl, h⟩ := h
        refine JL.exU (.none rfl) rfl (.store rfl rfl) h (fun w h => ?_)
        refine JL.nil ?_
        refine JX.then ?_
        refine J.seq ?_
        refine J.block ?_
        refine J.seq ?_
        refine J.seq ?_
        refine J.region ?_
        refine JL.exP (.none rfl) rfl rfl (.fieldAddr rfl (fa_103_0 _)) ?_
        refine JL.exV (.none rfl) rfl rfl (.load rfl) h (fun vx407 w h => ?_)
        obtain ⟨x407, rfl, h⟩ := h
        refine JL.exP (.none rfl) rfl rfl (.lss rfl rfl) ?_
        refine JL.exP (.none rfl) rfl rfl (.assign rfl) ?_
        refine JL.nil ?_
        refine JX.then ?_
        refine J.join h (fun y408 => [(1, (.pointer (some p380))), (2, (.int .i64 0)), (3, (.bool s402.1)), (4, (.pointer (some p397))), (6, (.pointer (some p406))), (27, v398), (28, (.int .i64 x399)), (29, (.int .i64 s402.2)), (33, (.bool y408))]) (fun k409 w h => ?_) (fun y408 w h => ?_)
        · refine J.cond (b := _) rfl h (fun h => ?_) (fun h => ?_)
          · refine J.skip ?_
            exact JX.joinEnd h ⟨rfl, rfl, rfl, rfl, rfl, rfl, rfl, rfl, rfl, trivial⟩
          · refine J.seq ?_
            refine J.region ?_
            refine JL.exP (.none rfl) rfl rfl (.fieldAddr rfl (fa_103_0 _)) ?_
            refine JL.exV (.none rfl) rfl rfl (.load rfl) h (fun vx410 w h => ?_)
            obtain ⟨x410, rfl, h⟩ := h
            refine JL.exP (.none rfl) rfl rfl (.fieldAddr rfl (fa_40_0 _)) ?_
            refine JL.exV (.none rfl) rfl rfl (.load rfl) h (fun vx411 w h => ?_)
            obtain ⟨x411, rfl, h⟩ := h
            refine JL.exP (.none rfl) rfl rfl (.geq rfl rfl) ?_
            refine JL.exP (.none rfl) rfl rfl (.assign rfl) ?_
            refine JL.nil ?_
            refine JX.then ?_
            refine J.join h (fun y412 => [(1, (.pointer (some p380))), (2, (.int .i64 0)), (3, (.bool s402.1)), (4, (.pointer (some p397))), (6, (.pointer (some p406))), (27, v398), (28, (.int .i64 x399)), (29, (.int .i64 s402.2)), (33, (.bool y412))]) (fun k413 w h => ?_) (fun y412 w h => ?_)
            · refine J.cond (b := _) rfl h (fun h => ?_) (fun h => ?_)
              · refine J.skip ?_
                exact JX.joinEnd h ⟨rfl, rfl, rfl, rfl, rfl, rfl, rfl, rfl, rfl, trivial⟩
              · refine J.seq ?_
                refine J.region ?_
                refine JL.exP (.none rfl) rfl rfl (.fieldAddr rfl (fa_103_1 _)) ?_
                refine JL.exV (.none rfl) rfl rfl (.load rfl) h (fun vx414 w h => ?_)
                obtain ⟨x414, rfl, h⟩ := h
                refine JL.exP (.none rfl) rfl rfl (.lss rfl rfl) ?_
                refine JL.exP (.none rfl) rfl rfl (.assign rfl) ?_
                refine JL.nil ?_
                refine JX.then ?_
                refine J.join h (fun y415 => [(1, (.pointer (some p380))), (2, (.int .i64 0)), (3, (.bool s402.1)), (4, (.pointer (some p397))), (6, (.pointer (some p406))), (27, v398), (28, (.int .i64 x399)), (29, (.int .i64 s402.2)), (33, (.bool y415))]) (fun k416 w h => ?_) (fun y415 w h => ?_)
                · refine J.cond (b := _) rfl h (fun h => ?_) (fun h => ?_)
                  · refine J.skip ?_
                    exact JX.joinEnd h ⟨rfl, rfl, rfl, rfl, rfl, rfl, rfl, rfl, rfl, trivial⟩
                  · refine J.seq ?_
                    refine J.region ?_
                    refine JL.exP (.none rfl) rfl rfl (.fieldAddr rfl (fa_103_1 _)) ?_
                    refine JL.exV (.none rfl) rfl rfl (.load rfl) h (fun vx417 w h => ?_)
                    obtain ⟨x417, rfl, h⟩ := h
                    refine JL.exP (.none rfl) rfl rfl (.fieldAddr rfl (fa_40_1 _)) ?_
                    refine JL.exV (.none rfl) rfl rfl (.load rfl) h (fun vx418 w h => ?_)
                    obtain ⟨x418, rfl, h⟩ := h
                    refine JL.exP (.none rfl) rfl rfl (.geq rfl rfl) ?_
                    refine JL.exP (.none rfl) rfl rfl (.assign rfl) ?_
                    refine JL.nil ?_
                    refine JX.then ?_
                    refine J.join h (fun y419 => [(1, (.pointer (some p380))), (2, (.int .i64 0)), (3, (.bool s402.1)), (4, (.pointer (some p397))), (6, (.pointer (some p406))), (27, v398), (28, (.int .i64 x399)), (29, (.int .i64 s402.2)), (33, (.bool y419))]) (fun k420 w h => ?_) (fun y419 w h => ?_)
                    · refine J.cond (b := _) rfl h (fun h => ?_) (fun h => ?_)
                      · refine J.skip ?_
                        exact JX.joinEnd h ⟨rfl, rfl, rfl, rfl, rfl, rfl, rfl, rfl, rfl, trivial⟩
                      · refine J.seq ?_
                        refine J.region ?_
                        refine JL.exP (.none rfl) rfl rfl (.fieldAddr rfl (fa_103_2 _)) ?_
                        refine JL.exV (.none rfl) rfl rfl (.load rfl) h (fun vx421 w h => ?_)
                        obtain ⟨x421, rfl, h⟩ := h
                        refine JL.exP (.none rfl) rfl rfl (.lss rfl rfl) ?_
                        refine JL.exP (.none rfl) rfl rfl (.assign rfl) ?_
                        refine JL.nil ?_
                        refine JX.then ?_
                        refine J.join h (fun y422 => [(1, (.pointer (some p380))), (2, (.int .i64 0)), (3, (.bool s402.1)), (4, (.pointer (some p397))), (6, (.pointer (some p406))), (27, v398), (28, (.int .i64 x399)), (29, (.int .i64 s402.2)), (33, (.bool y422))]) (fun k423 w h => ?_) (fun y422 w h => ?_)
                        · refine J.cond (b := _) rfl h (fun h => ?_) (fun h => ?_)
                          · refine J.skip ?_
                            exact JX.joinEnd h ⟨rfl, rfl, rfl, rfl, rfl, rfl, rfl, rfl, rfl, trivial⟩
                          · refine J.region ?_
                            refine JL.exP (.none rfl) rfl rfl (.fieldAddr rfl (fa_103_2 _)) ?_
                            refine JL.exV (.none rfl) rfl rfl (.load rfl) h (fun vx424 w h => ?_)
                            obtain ⟨x424, rfl, h⟩ := h
                            refine JL.exP (.none rfl) rfl rfl (.gtr rfl rfl) ?_
                            refine JL.exP (.none rfl) rfl rfl (.assign rfl) ?_
                            refine JL.nil ?_
                            exact JX.joinEnd h ⟨rfl, rfl, rfl, rfl, rfl, rfl, rfl, rfl, rfl, trivial⟩
                        · exact JX.joinEnd h ⟨rfl, rfl, rfl, rfl, rfl, rfl, rfl, rfl, rfl, trivial⟩
                    · exact JX.joinEnd h ⟨rfl, rfl, rfl, rfl, rfl, rfl, rfl, rfl, rfl, trivial⟩
                · exact JX.joinEnd h ⟨rfl, rfl, rfl, rfl, rfl, rfl, rfl, rfl, rfl, trivial⟩
            · exact JX.joinEnd h ⟨rfl, rfl, rfl, rfl, rfl, rfl, rfl, rfl, rfl, trivial⟩
        · refine JX.then ?_
          refine J.cond (b := _) rfl h (fun h => ?_) (fun h => ?_)
          · refine J.seq ?_
            refine J.region ?_
            refine JL.exP (.none rfl) rfl rfl (.assign rfl) ?_
            refine JL.nil ?_
            refine JX.then ?_
            refine J.exit ?_
            refine JX.blockOut rfl ?_
            refine JX.thenExit ?_
            refine JX.blockOut rfl ?_
            refine JX.thenExit ?_
            refine JX.thenExit ?_
            refine JX.blockHere ?_
            exact JX.joinEnd h ⟨rfl, rfl, trivial⟩
          · refine J.seq ?_
            refine J.seq ?_
            refine J.region ?_
            refine JL.exP (.none rfl) rfl rfl (.fieldAddr rfl (fa_103_0 _)) ?_
            refine JL.exV (.none rfl) rfl rfl (.load rfl) h (fun vx425 w h => ?_)
            obtain ⟨x425, rfl, h⟩ := h
            refine JL.exP (.none rfl) rfl rfl (.fieldAddr rfl (fa_103_0 _)) ?_
            refine JL.exV (.none rfl) rfl rfl (.load rfl) h (fun vx426 w h => ?_)
            obtain ⟨x426, rfl, h⟩ := h
            refine JL.exP (.none rfl) rfl rfl (.lss rfl rfl) ?_
            refine JL.exP (.none rfl) rfl rfl (.assign rfl) ?_
            refine JL.nil ?_
            refine JX.then ?_
            refine J.join h (fun y427 => [(1, (.pointer (some p380))), (2, (.int .i64 0)), (3, (.bool s402.1)), (4, (.pointer (some p397))), (6, (.pointer (some p406))), (27, v398), (28, (.int .i64 x399)), (29, (.int .i64 s402.2)), (56, (.bool y427))]) (fun k428 w h => ?_) (fun y427 w h => ?_)
            · refine J.cond (b := _) rfl h (fun h => ?_) (fun h => ?_)
              · refine J.skip ?_
                exact JX.joinEnd h ⟨rfl, rfl, rfl, rfl, rfl, rfl, rfl, rfl, rfl, trivial⟩
              · refine J.join h (fun y429 => [(1, (.pointer (some p380))), (2, (.int .i64 0)), (3, (.bool s402.1)), (4, (.pointer (some p397))), (6, (.pointer (some p406))), (27, v398), (28, (.int .i64 x399)), (29, (.int .i64 s402.2)), (56, (.bool y429))]) (fun k430 w h => ?_) (fun y429 w h => ?_)
                · refine J.region ?_
                  refine JL.exP (.none rfl) rfl rfl (.fieldAddr rfl (fa_103_0 _)) ?_
                  refine JL.exV (.none rfl) rfl rfl (.load rfl) h (fun vx431 w h => ?_)
                  obtain ⟨x431, rfl, h⟩ := h
                  refine JL.exP (.none rfl) rfl rfl (.fieldAddr rfl (fa_103_0 _)) ?_
                  refine JL.exV (.none rfl) rfl rfl (.load rfl) h (fun vx432 w h => ?_)
                  obtain ⟨x432, rfl, h⟩ := h
                  refine JL.exP (.none rfl) rfl rfl (.eql rfl rfl) ?_
                  refine JL.exP (.none rfl) rfl rfl (.move rfl) ?_
                  rcases andB_cases h with ⟨hc435, h⟩ | ⟨hc435, h⟩
                  · refine JL.exNo (.off rfl rfl rfl hc435 rfl) rfl rfl ?_
                    refine JL.exNo (.off rfl rfl rfl hc435 rfl) rfl rfl ?_
                    refine JL.exNo (.off rfl rfl rfl hc435 rfl) rfl rfl ?_
                    refine JL.exNo (.off rfl rfl rfl hc435 rfl) rfl rfl ?_
                    refine JL.exNo (.off rfl rfl rfl hc435 rfl) rfl rfl ?_
                    refine JL.exP (.none rfl) rfl rfl (.pickOff rfl hc435 rfl) ?_
                    refine JL.exP (.none rfl) rfl rfl (.assign rfl) ?_
                    refine JL.nil ?_
                    exact JX.joinEnd h ⟨rfl, rfl, rfl, rfl, rfl, rfl, rfl, rfl, rfl, trivial⟩
                  · refine JL.exP (.on rfl rfl rfl hc435) rfl rfl (.fieldAddr rfl (fa_103_1 _)) ?_
                    refine JL.exV (.on rfl rfl rfl hc435) rfl rfl (.load rfl) h (fun vx436 w h => ?_)
                    obtain ⟨x436, rfl, h⟩ := h
                    refine JL.exP (.on rfl rfl rfl hc435) rfl rfl (.fieldAddr rfl (fa_103_1 _)) ?_
                    refine JL.exV (.on rfl rfl rfl hc435) rfl rfl (.load rfl) h (fun vx437 w h => ?_)
                    obtain ⟨x437, rfl, h⟩ := h
                    refine JL.exP (.on rfl rfl rfl hc435) rfl rfl (.leq rfl rfl) ?_
                    refine JL.exP (.none rfl) rfl rfl (.pickOn rfl hc435 rfl) ?_
                    refine JL.exP (.none rfl) rfl rfl (.assign rfl) ?_
                    refine JL.nil ?_
                    exact JX.joinEnd h ⟨rfl, rfl, rfl, rfl, rfl, rfl, rfl, rfl, rfl, trivial⟩
                · exact JX.joinEnd h ⟨rfl, rfl, rfl, rfl, rfl, rfl, rfl, rfl, rfl, trivial⟩
            · refine JX.then ?_
              refine J.cond (b := _) rfl h (fun h => ?_) (fun h => ?_)
              · refine J.seq ?_
                refine J.region ?_
                refine JL.exP (.none rfl) rfl rfl (.assign rfl) ?_
                refine JL.nil ?_
                refine JX.then ?_
                refine J.exit ?_
                refine JX.blockOut rfl ?_
                refine JX.thenExit ?_
                refine JX.blockOut rfl ?_
                refine JX.thenExit ?_
                refine JX.thenExit ?_
                refine JX.blockHere ?_
                exact JX.joinEnd h ⟨rfl, rfl, trivial⟩
              · refine J.skip ?_
                refine JX.blockNormal ?_
                refine JX.then ?_
                refine J.region ?_
                refine JL.exV (.none rfl) rfl rfl (.load rfl) h (fun v438 w h => ?_)
                refine JL.exU (.none rfl) rfl (.store rfl rfl) h (fun w h => ?_)
                refine JL.nil ?_
                refine JX.blockNormal ?_
                refine JX.then ?_
                refine J.region ?_
                refine JL.exP (.none rfl) rfl rfl (.add rfl rfl) ?_
                refine JL.exP (.none rfl) rfl rfl (.move rfl) ?_
                refine JL.nil ?_
                exact JX.loopEnd h ⟨rfl, rfl, rfl, rfl, rfl, rfl, rfl, trivial⟩
      · refine J.exit ?_
        refine JX.thenExit ?_
        refine JX.thenExit ?_
        refine JX.blockHere ?_
        exact JX.joinEnd h ⟨rfl, rfl, trivial⟩
    · refine JX.then ?_
      refine J.seq ?_
      refine J.seq ?_
      refine J.region ?_
      refine JL.exP (.none rfl) rfl rfl (.move rfl) ?_
      refine JL.nil ?_
      refine JX.then ?_
      refine J.cond (b := _) rfl h (fun h => ?_) (fun h => ?_)
      · refine J.seq ?_
        refine J.region ?_
        refine JL.exP (.none rfl) rfl rfl (.assign rfl) ?_
        refine JL.nil ?_
        refine JX.then ?_
        refine J.ret ?_
        refine JX.thenRet ?_
        refine JX.scopeRet ?_
        exact JX.ret1 rfl rfl h
      · refine J.skip ?_
        refine JX.then ?_
        refine J.seq ?_
        refine J.region ?_
        refine JL.exP (.none rfl) rfl rfl (.assign rfl) ?_
        refine JL.nil ?_
        refine JX.then ?_
        refine J.ret ?_
        refine JX.scopeRet ?_
        exact JX.ret1 rfl rfl h

/-- cabstand/cert.Pairs -/
def cert_Pairs (a0 : Value) (a1 : Value) (K : Value → WP) : WP :=
  semA Try.prog (Instr.box 40 a0) fun p439 =>
  semV Try.prog (loadVar 40 p439) fun v440 =>
  pureV Try.prog (Instr.build 44 #[(0, a1)]) fun v441 =>
  pureV Try.prog (Instr.build 155 #[(0, v440), (1, v441)]) fun v442 =>
  semA Try.prog (Instr.alloc 155 true (.tuple #[])) fun p443 =>
  semU Try.prog (storeVar 155 p443 v442) <|
  semV Try.prog (loadVar 155 p443) fun v444 =>
  semV Try.prog (loadVar 155 p443) fun v445 =>
  semV Try.prog (Instr.buildSlice 170 2 #[(0, (.func (.func 97) #[v444] #[])), (1, (.func (.func 98) #[v445] #[]))]) fun v446 =>
  callI Try.prog 96 #[v446] .i64 fun x447 =>
  K (.int .i64 x447)
set_option maxRecDepth 100000 in
set_option maxHeartbeats 1000000 in
theorem cert_Pairs_ok {a0 : Value} {a1 : Value} {K : Value → WP} {w : World} (h : cert_Pairs a0 a1 K w) : callH Try.prog 69 #[a0, a1] K w := by
  refine enter (l := [a0, a1]) Try.func69 rfl rfl rfl ?_
  show J Try.prog 16 [(0, a0), (1, a1)] _ _ _
  unfold cert_Pairs at h
  refine J.seq ?_
  refine J.region ?_
  refine JL.exV (.none rfl) rfl rfl (.box rfl) h (fun vp439 w h => ?_)
  obtain ⟨p439, rfl, h⟩ := h
  refine JL.exP (.none rfl) rfl rfl (.assign rfl) ?_
  refine JL.nil ?_
  refine JX.then ?_
  refine J.seq ?_
  refine J.region ?_
  refine JL.exV (.none rfl) rfl rfl (.load rfl) h (fun v440 w h => ?_)
  refine JL.exP (.none rfl) rfl rfl (.move rfl) ?_
  refine JL.sPure (.none rfl) rfl rfl ((.build (l' := [(0, a1)]) rfl)) h (fun v441 w h => ?_)
  refine JL.sPure (.none rfl) rfl rfl ((.build (l' := [(0, v440), (1, v441)]) rfl)) h (fun v442 w h => ?_)
  refine JL.exV (.none rfl) rfl rfl (.alloc) h (fun vp443 w h => ?_)
  obtain ⟨p443, rfl, h⟩ := h
  refine JL.exU (.none rfl) rfl (.store rfl rfl) h (fun w h => ?_)
  refine JL.nil ?_
  refine JX.then ?_
  refine J.seq ?_
  refine J.region ?_
  refine JL.exV (.none rfl) rfl rfl (.load rfl) h (fun v444 w h => ?_)
  refine JL.exP (.none rfl) rfl rfl ((.makeFunc (vl := [v444]) (vc := []) rfl rfl)) ?_
  refine JL.exV (.none rfl) rfl rfl (.load rfl) h (fun v445 w h => ?_)
  refine JL.exP (.none rfl) rfl rfl ((.makeFunc (vl := [v445]) (vc := []) rfl rfl)) ?_
  refine JL.exV (.none rfl) rfl rfl ((.buildSlice (l' := [(0, (.func (.func 97) #[v444] #[])), (1, (.func (.func 98) #[v445] #[]))]) rfl)) h (fun v446 w h => ?_)
  refine JL.exC (.none rfl) rfl rfl (.func (vs := [v446]) en_96 rfl) h (fun vx447 w h => ?_)
  obtain ⟨x447, rfl, h⟩ := h
  refine JL.exP (.none rfl) rfl rfl (.assign rfl) ?_
  refine JL.nil ?_
  refine JX.then ?_
  refine J.ret ?_
  exact JX.ret1 rfl rfl h

/-- cabstand/cert.first -/
def cert_first (a0 : Value) (K : Value → WP) : WP :=
  pureI Try.prog .i64 (Builtin.len_ #[170] 3 #[a0]) fun x448 =>
  loopH (σ := Int × Int) (fun kc450 s449 =>
    iteH (decide (s449.2 < x448)) (
      pureA Try.prog (Instr.indexAt 170 a0 (.int .i64 s449.2)) fun p451 =>
      semV Try.prog (loadVar 157 p451) fun v452 =>
      callF Try.prog v452 #[] fun v453 =>
      asI .i64 v453 fun x454 =>
      iteH ((x454 : Int) != 0) (
        K (.int .i64 x454)) (
        kc450 (s449.1, (IntKind.i64.wrap (s449.2 + 1))))) (
      K (.int .i64 0))) (0, 0)
set_option maxRecDepth 100000 in
set_option maxHeartbeats 1000000 in
theorem cert_first_ok {a0 : Value} {K : Value → WP} {w : World} (h : cert_first a0 K w) : callH Try.prog 96 #[a0] K w := by
  refine enter (l := [a0]) Try.func96 rfl rfl rfl ?_
  show J Try.prog 18 [(0, a0)] _ _ _
  unfold cert_first at h
  refine J.seq ?_
  refine J.region ?_
  refine JL.exP (.none rfl) rfl rfl (.assign rfl) ?_
  refine JL.nil ?_
  refine JX.then ?_
  refine J.seq ?_
  refine J.seq ?_
  refine J.region ?_
  refine JL.exP (.none rfl) rfl rfl (.move rfl) ?_
  refine JL.sPure (.none rfl) rfl rfl ((.len (vs := [a0]) rfl)) h (fun vx448 w h => ?_)
  obtain ⟨x448, rfl, h⟩ := h
  refine JL.exP (.none rfl) rfl rfl (.move rfl) ?_
  refine JL.nil ?_
  refine JX.then ?_
  refine J.block ?_
  refine J.loop h (fun s449 => [(2, (.int .i64 s449.1)), (6, a0), (7, (.int .i64 x448)), (8, (.int .i64 s449.2))]) ⟨rfl, rfl, rfl, rfl, trivial⟩ (fun I μ s449 w h => ?_)
  refine J.seq ?_
  refine J.region ?_
  refine JL.exP (.none rfl) rfl rfl (.lss rfl rfl) ?_
  refine JL.nil ?_
  refine JX.then ?_
  refine J.seq ?_
  refine J.cond (b := _) rfl h (fun h => ?_) (fun h => ?_)
  · refine J.skip ?_
    refine JX.then ?_
    refine J.seq ?_
    refine J.block ?_
    refine J.seq ?_
    refine J.region ?_
    refine JL.sPure (.none rfl) rfl rfl (.indexAddr rfl rfl) h (fun vp451 w h => ?_)
    obtain ⟨p451, rfl, h⟩ := h
    refine JL.exV (.none rfl) rfl rfl (.load rfl) h (fun v452 w h => ?_)
    refine JL.exP (.none rfl) rfl rfl (.assign rfl) ?_
    refine JL.nil ?_
    refine JX.then ?_
    refine J.seq ?_
    refine J.region ?_
    refine JL.exP (.none rfl) rfl rfl (.move rfl) ?_
    refine JL.exF (.none rfl) rfl rfl (vs := []) rfl h (fun v453 w h => ?_)
    obtain ⟨x454, rfl, h⟩ := h
    refine JL.exP (.none rfl) rfl rfl (.assign rfl) ?_
    refine JL.nil ?_
    refine JX.then ?_
    refine J.seq ?_
    refine J.region ?_
    refine JL.exP (.none rfl) rfl rfl (.move rfl) ?_
    refine JL.exP (.none rfl) rfl rfl (.neq rfl rfl) ?_
    refine JL.nil ?_
    refine JX.then ?_
    refine J.cond (b := _) rfl h (fun h => ?_) (fun h => ?_)
    · refine J.seq ?_
      refine J.region ?_
      refine JL.exP (.none rfl) rfl rfl (.move rfl) ?_
      refine JL.exP (.none rfl) rfl rfl (.assign rfl) ?_
      refine JL.nil ?_
      refine JX.then ?_
      refine J.ret ?_
      refine JX.blockRet ?_
      refine JX.thenRet ?_
      refine JX.thenRet ?_
      refine JX.blockRet ?_
      refine JX.thenRet ?_
      exact JX.ret1 rfl rfl h
    · refine J.skip ?_
      refine JX.blockNormal ?_
      refine JX.then ?_
      refine J.region ?_
      refine JL.exP (.none rfl) rfl rfl (.add rfl rfl) ?_
      refine JL.exP (.none rfl) rfl rfl (.move rfl) ?_
      refine JL.nil ?_
      exact JX.loopEnd h ⟨rfl, rfl, rfl, rfl, trivial⟩
  · refine J.exit ?_
    refine JX.thenExit ?_
    refine JX.thenExit ?_
    refine JX.blockHere ?_
    refine JX.then ?_
    refine J.seq ?_
    refine J.region ?_
    refine JL.exP (.none rfl) rfl rfl (.assign rfl) ?_
    refine JL.nil ?_
    refine JX.then ?_
    refine J.ret ?_
    exact JX.ret1 rfl rfl h

/-- (cabstand/cert.claim).graph -/
def cert_claim_graph (a0 : Value) (K : Value → WP) : WP :=
  semA Try.prog (Instr.box 155 a0) fun p455 =>
  semV Try.prog (loadVar 40 (p455.add 0)) fun v456 =>
  callI Try.prog 68 #[v456] .i64 fun x457 =>
  K (.int .i64 x457)
set_option maxRecDepth 100000 in
set_option maxHeartbeats 1000000 in
theorem cert_claim_graph_ok {a0 : Value} {K : Value → WP} {w : World} (h : cert_claim_graph a0 K w) : callH Try.prog 97 #[a0] K w := by
  refine enter (l := [a0]) Try.func97 rfl rfl rfl ?_
  show J Try.prog 6 [(0, a0)] _ _ _
  unfold cert_claim_graph at h
  refine J.seq ?_
  refine J.region ?_
  refine JL.exV (.none rfl) rfl rfl (.box rfl) h (fun vp455 w h => ?_)
  obtain ⟨p455, rfl, h⟩ := h
  refine JL.exP (.none rfl) rfl rfl (.assign rfl) ?_
  refine JL.nil ?_
  refine JX.then ?_
  refine J.seq ?_
  refine J.region ?_
  refine JL.exP (.none rfl) rfl rfl (.fieldAddr rfl (fa_155_0 _)) ?_
  refine JL.exV (.none rfl) rfl rfl (.load rfl) h (fun v456 w h => ?_)
  refine JL.exC (.none rfl) rfl rfl (.func (vs := [v456]) en_68 rfl) h (fun vx457 w h => ?_)
  obtain ⟨x457, rfl, h⟩ := h
  refine JL.exP (.none rfl) rfl rfl (.assign rfl) ?_
  refine JL.nil ?_
  refine JX.then ?_
  refine J.ret ?_
  exact JX.ret1 rfl rfl h

/-- (cabstand/cert.claim).pairs -/
def cert_claim_pairs (a0 : Value) (K : Value → WP) : WP :=
  semA Try.prog (Instr.box 155 a0) fun p458 =>
  semA Try.prog (Instr.alloc 171 true (.tuple #[])) fun p459 =>
  semV Try.prog (loadVar 41 ((p458.add 3).add 0)) fun v460 =>
  pureI Try.prog .i64 (Builtin.len_ #[41] 3 #[v460]) fun x461 =>
  loopH (σ := Int × Int × Int) (fun kc463 s462 =>
    iteH (decide (s462.2.2 < x461)) (
      pureA Try.prog (Instr.indexAt 41 v460 (.int .i64 s462.2.2)) fun p464 =>
      semV Try.prog (loadVar 105 p464) fun v465 =>
      semA Try.prog (Instr.alloc 105 true (.tuple #[])) fun p466 =>
      semU Try.prog (storeVar 105 p466 v465) <|
      joinH (α := Bool) (fun y467 =>
        iteH y467 (
          K (.int .i64 180)) (
          semI Try.prog .i64 (loadVar 3 (p466.add 1)) fun x482 =>
          pureA Try.prog (Instr.indexAt 171 (.pointer (some p459)) (.int .i64 x482)) fun p483 =>
          semU Try.prog (storeVar 4 p483 (.bool true)) <|
          semI Try.prog .i64 (loadVar 3 (p466.add 0)) fun x484 =>
          kc463 (s462.1, x484, (IntKind.i64.wrap (s462.2.2 + 1))))) fun k468 =>
        semI Try.prog .i64 (loadVar 3 (p466.add 0)) fun x469 =>
        orB (decide (x469 ≤ s462.2.1)) (fun k471 =>
          semV Try.prog (loadVar 155 p458) fun v473 =>
          semV Try.prog (loadVar 105 p466) fun v474 =>
          callI Try.prog 113 #[v473, v474] .i64 fun x475 =>
          k471 ((x475 : Int) == 0)) fun b470 =>
        orB b470 (fun k477 =>
          semI Try.prog .i64 (loadVar 3 (p466.add 1)) fun x479 =>
          pureA Try.prog (Instr.indexAt 171 (.pointer (some p459)) (.int .i64 x479)) fun p480 =>
          semB Try.prog (loadVar 4 p480) fun b481 =>
          k477 b481) fun b476 =>
        k468 b476) (
      K (.int .i64 0))) (0, (-1), 0)
set_option maxRecDepth 100000 in
set_option maxHeartbeats 1000000 in
theorem cert_claim_pairs_ok {a0 : Value} {K : Value → WP} {w : World} (h : cert_claim_pairs a0 K w) : callH Try.prog 98 #[a0] K w := by
  refine enter (l := [a0]) Try.func98 rfl rfl rfl ?_
  show J Try.prog 37 [(0, a0)] _ _ _
  unfold cert_claim_pairs at h
  refine J.seq ?_
  refine J.region ?_
  refine JL.exV (.none rfl) rfl rfl (.box rfl) h (fun vp458 w h => ?_)
  obtain ⟨p458, rfl, h⟩ := h
  refine JL.exP (.none rfl) rfl rfl (.assign rfl) ?_
  refine JL.nil ?_
  refine JX.then ?_
  refine J.seq ?_
  refine J.region ?_
  refine JL.exV (.none rfl) rfl rfl (.alloc) h (fun vp459 w h => ?_)
  obtain ⟨p459, rfl, h⟩ := h
  refine JL.nil ?_
  refine JX.then ?_
  refine J.seq ?_
  refine J.region ?_
  refine JL.exP (.none rfl) rfl rfl (.assign rfl) ?_
  refine JL.nil ?_
  refine JX.then ?_
  refine J.seq ?_
  refine J.seq ?_
  refine J.region ?_
  refine JL.exP (.none rfl) rfl rfl (.fieldAddr rfl (fa_155_1 _)) ?_
  refine JL.exP (.none rfl) rfl rfl (.fieldAddr rfl (fa_44_0 _)) ?_
  refine JL.exV (.none rfl) rfl rfl (.load rfl) h (fun v460 w h => ?_)
  refine JL.sPure (.none rfl) rfl rfl ((.len (vs := [v460]) rfl)) h (fun vx461 w h => ?_)
  obtain ⟨x461, rfl, h⟩ := h
  refine JL.exP (.none rfl) rfl rfl (.move rfl) ?_
  refine JL.nil ?_
  refine JX.then ?_
  refine J.block ?_
  refine J.loop h (fun s462 => [(1, (.pointer (some p458))), (2, (.int .i64 s462.1)), (3, (.pointer (some p459))), (4, (.int .i64 s462.2.1)), (9, v460), (10, (.int .i64 x461)), (11, (.int .i64 s462.2.2))]) ⟨rfl, rfl, rfl, rfl, rfl, rfl, rfl, trivial⟩ (fun I μ s462 w h => ?_)
  refine J.seq ?_
  refine J.region ?_
  refine JL.exP (.none rfl) rfl rfl (.lss rfl rfl) ?_
  refine JL.nil ?_
  refine JX.then ?_
  refine J.seq ?_
  refine J.cond (b := _) rfl h (fun h => ?_) (fun h => ?_)
  · refine J.skip ?_
    refine JX.then ?_
    refine J.seq ?_
    refine J.block ?_
    refine J.seq ?_
    refine J.region ?_
    refine JL.sPure (.none rfl) rfl rfl (.indexAddr rfl rfl) h (fun vp464 w h => ?_)
    obtain ⟨p464, rfl, h⟩ := h
    refine JL.exV (.none rfl) rfl rfl (.load rfl) h (fun v465 w h => ?_)
    refine JL.exV (.none rfl) rfl rfl (.alloc) h (fun vp466 w h => ?_)
    obtain ⟨p466, rfl, h⟩ := h
    refine JL.exU (.none rfl) rfl (.store rfl rfl) h (fun w h => ?_)
    refine JL.nil ?_
    refine JX.then ?_
    refine J.seq ?_
    refine J.seq ?_
    refine J.join h (fun y467 => [(1, (.pointer (some p458))), (2, (.int .i64 s462.1)), (3, (.pointer (some p459))), (4, (.int .i64 s462.2.1)), (6, (.pointer (some p466))), (9, v460), (10, (.int .i64 x461)), (11, (.int .i64 s462.2.2)), (30, (.bool y467))]) (fun k468 w h => ?_) (fun y467 w h => ?_)
    · refine J.region ?_
      refine JL.exP (.none rfl) rfl rfl (.fieldAddr rfl (fa_105_0 _)) ?_
      refine JL.exV (.none rfl) rfl rfl (.load rfl) h (fun vx469 w h => ?_)
      obtain ⟨x469, rfl, h⟩ := h
      refine JL.exP (.none rfl) rfl rfl (.move rfl) ?_
      refine JL.exP (.none rfl) rfl rfl (.leq rfl rfl) ?_
      refine JL.exP (.none rfl) rfl rfl (.move rfl) ?_
      rcases orB_cases h with ⟨hc472, h⟩ | ⟨hc472, h⟩
      · refine JL.exNo (.off rfl rfl rfl hc472 rfl) rfl rfl ?_
        refine JL.exNo (.off rfl rfl rfl hc472 rfl) rfl rfl ?_
        refine JL.exNo (.off rfl rfl rfl hc472 rfl) rfl rfl ?_
        refine JL.exNo (.off rfl rfl rfl hc472 rfl) rfl rfl ?_
        refine JL.exP (.none rfl) rfl rfl (.pickOn rfl hc472 rfl) ?_
        refine JL.exP (.none rfl) rfl rfl (.move rfl) ?_
        have h := orB_true' h
        refine JL.exNo (.off rfl rfl rfl rfl rfl) rfl rfl ?_
        refine JL.exNo (.off rfl rfl rfl rfl rfl) rfl rfl ?_
        refine JL.exNo (.off rfl rfl rfl rfl rfl) rfl rfl ?_
        refine JL.exNo (.off rfl rfl rfl rfl rfl) rfl rfl ?_
        refine JL.exP (.none rfl) rfl rfl (.pickOn rfl rfl rfl) ?_
        refine JL.nil ?_
        exact JX.joinEnd h ⟨rfl, rfl, rfl, rfl, rfl, rfl, rfl, rfl, rfl, trivial⟩
      · refine JL.exV (.on rfl rfl rfl hc472) rfl rfl (.load rfl) h (fun v473 w h => ?_)
        refine JL.exV (.on rfl rfl rfl hc472) rfl rfl (.load rfl) h (fun v474 w h => ?_)
        refine JL.exC (.on rfl rfl rfl hc472) rfl rfl (.func (vs := [v473, v474]) en_113 rfl) h (fun vx475 w h => ?_)
        obtain ⟨x475, rfl, h⟩ := h
        refine JL.exP (.on rfl rfl rfl hc472) rfl rfl (.eql rfl rfl) ?_
        refine JL.exP (.none rfl) rfl rfl (.pickOff rfl hc472 rfl) ?_
        refine JL.exP (.none rfl) rfl rfl (.move rfl) ?_
        rcases orB_cases h with ⟨hc478, h⟩ | ⟨hc478, h⟩
        · refine JL.exNo (.off rfl rfl rfl hc478 rfl) rfl rfl ?_
          refine JL.exNo (.off rfl rfl rfl hc478 rfl) rfl rfl ?_
          refine JL.exNo (.off rfl rfl rfl hc478 rfl) rfl rfl ?_
          refine JL.exNo (.off rfl rfl rfl hc478 rfl) rfl rfl ?_
          refine JL.exP (.none rfl) rfl rfl (.pickOn rfl hc478 rfl) ?_
          refine JL.nil ?_
          exact JX.joinEnd h ⟨rfl, rfl, rfl, rfl, rfl, rfl, rfl, rfl, rfl, trivial⟩
        · refine JL.exP (.on rfl rfl rfl hc478) rfl rfl (.fieldAddr rfl (fa_105_1 _)) ?_
          refine JL.exV (.on rfl rfl rfl hc478) rfl rfl (.load rfl) h (fun vx479 w h => ?_)
          obtain ⟨x479, rfl, h⟩ := h
          refine JL.sPure (.on rfl rfl rfl hc478) rfl rfl (.indexAddr rfl rfl) h (fun vp480 w h => ?_)
          obtain ⟨p480, rfl, h⟩ := h
          refine JL.exV (.on rfl rfl rfl hc478) rfl rfl (.load rfl) h (fun vb481 w h => ?_)
          obtain ⟨b481, rfl, h⟩ := h
          refine JL.exP (.none rfl) rfl rfl (.pickOff rfl hc478 rfl) ?_
          refine JL.nil ?_
          exact JX.joinEnd h ⟨rfl, rfl, rfl, rfl, rfl, rfl, rfl, rfl, rfl, trivial⟩
    · refine JX.then ?_
      refine J.cond (b := _) rfl h (fun h => ?_) (fun h => ?_)
      · refine J.seq ?_
        refine J.region ?_
        refine JL.exP (.none rfl) rfl rfl (.assign rfl) ?_
        refine JL.nil ?_
        refine JX.then ?_
        refine J.ret ?_
        refine JX.thenRet ?_
        refine JX.blockRet ?_
        refine JX.thenRet ?_
        refine JX.thenRet ?_
        refine JX.blockRet ?_
        refine JX.thenRet ?_
        exact JX.ret1 rfl rfl h
      · refine J.skip ?_
        refine JX.then ?_
        refine J.seq ?_
        refine J.region ?_
        refine JL.exP (.none rfl) rfl rfl (.fieldAddr rfl (fa_105_1 _)) ?_
        refine JL.exV (.none rfl) rfl rfl (.load rfl) h (fun vx482 w h => ?_)
        obtain ⟨x482, rfl, h⟩ := h
        refine JL.sPure (.none rfl) rfl rfl (.indexAddr rfl rfl) h (fun vp483 w h => ?_)
        obtain ⟨p483, rfl, h⟩ := h
        refine JL.exU (.none rfl) rfl (.store rfl rfl) h (fun w h => ?_)
        refine JL.nil ?_
        refine JX.then ?_
        refine J.region ?_
        refine JL.exP (.none rfl) rfl rfl (.fieldAddr rfl (fa_105_0 _)) ?_
        refine JL.exV (.none rfl) rfl rfl (.load rfl) h (fun vx484 w h => ?_)
        obtain ⟨x484, rfl, h⟩ := h
        refine JL.exP (.none rfl) rfl rfl (.assign rfl) ?_
        refine JL.nil ?_
        refine JX.blockNormal ?_
        refine JX.then ?_
        refine J.region ?_
        refine JL.exP (.none rfl) rfl rfl (.add rfl rfl) ?_
        refine JL.exP (.none rfl) rfl rfl (.move rfl) ?_
        refine JL.nil ?_
        exact JX.loopEnd h ⟨rfl, rfl, rfl, rfl, rfl, rfl, rfl, trivial⟩
  · refine J.exit ?_
    refine JX.thenExit ?_
    refine JX.thenExit ?_
    refine JX.blockHere ?_
    refine JX.then ?_
    refine J.seq ?_
    refine J.region ?_
    refine JL.exP (.none rfl) rfl rfl (.assign rfl) ?_
    refine JL.nil ?_
    refine JX.then ?_
    refine J.ret ?_
    exact JX.ret1 rfl rfl h

/-- (cabstand/cert.claim).weight -/
def cert_claim_weight (a0 : Value) (a1 : Value) (K : Value → WP) : WP :=
  semA Try.prog (Instr.box 155 a0) fun p485 =>
  semA Try.prog (Instr.box 105 a1) fun p486 =>
  drawH <|
  readV Try.prog (loadVar 38 ((p485.add 0).add 2)) fun v487 =>
  pureI Try.prog .i64 (Builtin.len_ #[38] 3 #[v487]) fun x489 =>
  loopH (σ := Int × Int) (fun kc491 s490 =>
    iteH (decide (s490.1 < s490.2)) (
      joinH (α := Int × Int) (fun y492 =>
        kc491 (y492.1, y492.2)) fun k493 =>
        pureI Try.prog .i64 (eqM .quo 3 (.tmp 18) (.const (.int .i64 (2))) (.int .i64 (IntKind.i64.wrap (s490.1 + s490.2))) (.int .i64 2)) fun x494 =>
        semV Try.prog (loadVar 38 ((p485.add 0).add 2)) fun v495 =>
        pureA Try.prog (Instr.indexAt 38 v495 (.int .i64 x494)) fun p496 =>
        semV Try.prog (loadVar 103 p496) fun v497 =>
        semA Try.prog (Instr.alloc 103 true (.tuple #[])) fun p498 =>
        semU Try.prog (storeVar 103 p498 v497) <|
        joinH (α := Bool) (fun y499 =>
          joinH (α := Int × Int) (fun y513 =>
            k493 (y513.1, y513.2)) fun k514 =>
            iteH y499 (
              k514 ((IntKind.i64.wrap (x494 + 1)), s490.2)) (
              k514 (s490.1, x494))) fun k500 =>
          semI Try.prog .i64 (loadVar 3 (p498.add 0)) fun x501 =>
          semI Try.prog .i64 (loadVar 3 (p486.add 0)) fun x502 =>
          orB (decide (x501 < x502)) (fun k504 =>
            semI Try.prog .i64 (loadVar 3 (p498.add 0)) fun x506 =>
            semI Try.prog .i64 (loadVar 3 (p486.add 0)) fun x507 =>
            andB ((x506 : Int) == x507) (fun k509 =>
              semI Try.prog .i64 (loadVar 3 (p498.add 1)) fun x511 =>
              semI Try.prog .i64 (loadVar 3 (p486.add 1)) fun x512 =>
              k509 (decide (x511 < x512))) fun b508 =>
            k504 b508) fun b503 =>
          k500 b503) (
      joinH (α := Bool) (fun y515 =>
        iteH y515 (
          semV Try.prog (loadVar 38 ((p485.add 0).add 2)) fun v540 =>
          pureA Try.prog (Instr.indexAt 38 v540 (.int .i64 s490.1)) fun p541 =>
          semI Try.prog .i64 (loadVar 3 (p541.add 2)) fun x542 =>
          K (.int .i64 x542)) (
          K (.int .i64 0))) fun k516 =>
        drawH <|
        readV Try.prog (loadVar 38 ((p485.add 0).add 2)) fun v517 =>
        pureI Try.prog .i64 (Builtin.len_ #[38] 3 #[v517]) fun x519 =>
        andB (decide (s490.1 < x519)) (fun k521 =>
          readV Try.prog (loadVar 38 ((p485.add 0).add 2)) fun v523 =>
          pureA Try.prog (Instr.indexAt 38 v523 (.int .i64 s490.1)) fun p525 =>
          readI Try.prog .i64 (loadVar 3 (p525.add 0)) fun x526 =>
          readI Try.prog .i64 (loadVar 3 (p486.add 0)) fun x528 =>
          k521 ((x526 : Int) == x528)) fun b520 =>
        andB b520 (fun k531 =>
          readV Try.prog (loadVar 38 ((p485.add 0).add 2)) fun v533 =>
          pureA Try.prog (Instr.indexAt 38 v533 (.int .i64 s490.1)) fun p535 =>
          readI Try.prog .i64 (loadVar 3 (p535.add 1)) fun x536 =>
          readI Try.prog .i64 (loadVar 3 (p486.add 1)) fun x538 =>
          k531 ((x536 : Int) == x538)) fun b530 =>
        k516 b530)) (0, x489)
set_option maxRecDepth 100000 in
set_option maxHeartbeats 1000000 in
theorem cert_claim_weight_ok {a0 : Value} {a1 : Value} {K : Value → WP} {w : World} (h : cert_claim_weight a0 a1 K w) : callH Try.prog 113 #[a0, a1] K w := by
  refine enter (l := [a0, a1]) Try.func113 rfl rfl rfl ?_
  show J Try.prog 85 [(0, a0), (1, a1)] _ _ _
  unfold cert_claim_weight at h
  refine J.seq ?_
  refine J.region ?_
  refine JL.exV (.none rfl) rfl rfl (.box rfl) h (fun vp485 w h => ?_)
  obtain ⟨p485, rfl, h⟩ := h
  refine JL.exV (.none rfl) rfl rfl (.box rfl) h (fun vp486 w h => ?_)
  obtain ⟨p486, rfl, h⟩ := h
  refine JL.exP (.none rfl) rfl rfl (.assign rfl) ?_
  refine JL.nil ?_
  refine JX.then ?_
  refine J.seq ?_
  refine J.draw [[], [0], [0, 1], [0, 1, 2], [], [0, 1, 2, 3, 4]] (by kernel_rfl) mixed h (fun w h => ?_)
  refine JD.pure_ (i := 0) [] rfl (by kernel_rfl) (by kernel_rfl) (by kernel_rfl) (by kernel_rfl) (.none rfl) rfl rfl (.fieldAddr rfl (fa_155_0 _)) trivial ?_
  refine JD.pure_ (i := 1) [] rfl (by kernel_rfl) (by kernel_rfl) (by kernel_rfl) (by kernel_rfl) (.none rfl) rfl rfl (.fieldAddr rfl (fa_40_2 _)) trivial ?_
  refine JD.read (i := 2) [] rfl (by kernel_rfl) (by kernel_rfl) (by kernel_rfl) (by kernel_rfl) (.none rfl) rfl rfl (.load rfl) h trivial (fun v487 st488 h => ?_)
  refine JD.sPure (i := 3) [true] rfl (by kernel_rfl) (by kernel_rfl) (by kernel_rfl) (by kernel_rfl) (.none rfl) rfl rfl ((.len (vs := [v487]) rfl)) h trivial (fun vx489 h => ?_)
  obtain ⟨x489, rfl, h⟩ := h
  refine JD.pure_ (i := 4) [false] rfl (by kernel_rfl) (by kernel_rfl) (by kernel_rfl) (by kernel_rfl) (.none rfl) rfl rfl (.assign rfl) ⟨st488, trivial⟩ ?_
  refine JD.pure_ (i := 5) [true] rfl (by kernel_rfl) (by kernel_rfl) (by kernel_rfl) (by kernel_rfl) (.none rfl) rfl rfl (.assign rfl) trivial ?_
  refine JD.done (by kernel_rfl) ?_
  refine JX.then ?_
  refine J.seq ?_
  refine J.block ?_
  refine J.loop h (fun s490 => [(2, (.pointer (some p485))), (3, (.pointer (some p486))), (4, (.int .i64 0)), (5, (.int .i64 s490.1)), (6, (.int .i64 s490.2))]) ⟨rfl, rfl, rfl, rfl, rfl, trivial⟩ (fun I μ s490 w h => ?_)
  refine J.seq ?_
  refine J.seq ?_
  refine J.region ?_
  refine JL.exP (.none rfl) rfl rfl (.move rfl) ?_
  refine JL.exP (.none rfl) rfl rfl (.move rfl) ?_
  refine JL.exP (.none rfl) rfl rfl (.lss rfl rfl) ?_
  refine JL.nil ?_
  refine JX.then ?_
  refine J.cond (b := _) rfl h (fun h => ?_) (fun h => ?_)
  · refine J.skip ?_
    refine JX.then ?_
    refine J.join h (fun y492 => [(2, (.pointer (some p485))), (3, (.pointer (some p486))), (4, (.int .i64 0)), (5, (.int .i64 y492.1)), (6, (.int .i64 y492.2))]) (fun k493 w h => ?_) (fun y492 w h => ?_)
    · refine J.block ?_
      refine J.seq ?_
      refine J.region ?_
      refine JL.exP (.none rfl) rfl rfl (.move rfl) ?_
      refine JL.exP (.none rfl) rfl rfl (.move rfl) ?_
      refine JL.exP (.none rfl) rfl rfl (.add rfl rfl) ?_
      refine JL.sPure (.none rfl) rfl rfl (.binOp rfl rfl) h (fun vx494 w h => ?_)
      obtain ⟨x494, rfl, h⟩ := h
      refine JL.exP (.none rfl) rfl rfl (.assign rfl) ?_
      refine JL.nil ?_
      refine JX.then ?_
      refine J.seq ?_
      refine J.region ?_
      refine JL.exP (.none rfl) rfl rfl (.fieldAddr rfl (fa_155_0 _)) ?_
      refine JL.exP (.none rfl) rfl rfl (.fieldAddr rfl (fa_40_2 _)) ?_
      refine JL.exV (.none rfl) rfl rfl (.load rfl) h (fun v495 w h => ?_)
      refine JL.exP (.none rfl) rfl rfl (.move rfl) ?_
      refine JL.sPure (.none rfl) rfl rfl (.indexAddr rfl rfl) h (fun vp496 w h => ?_)
      obtain ⟨p496, rfl, h⟩ := h
      refine JL.exV (.none rfl) rfl rfl (.load rfl) h (fun v497 w h => ?_)
      refine JL.exV (.none rfl) rfl rfl (.alloc) h (fun vp498 w h => ?_)
      obtain ⟨p498, rfl, h⟩ := h
      refine JL.exU (.none rfl) rfl (.store rfl rfl) h (fun w h => ?_)
      refine JL.nil ?_
      refine JX.then ?_
      refine J.seq ?_
      refine J.join h (fun y499 => [(2, (.pointer (some p485))), (3, (.pointer (some p486))), (4, (.int .i64 0)), (5, (.int .i64 s490.1)), (6, (.int .i64 s490.2)), (7, (.int .i64 x494)), (44, (.bool y499))]) (fun k500 w h => ?_) (fun y499 w h => ?_)
      · refine J.region ?_
        refine JL.exP (.none rfl) rfl rfl (.fieldAddr rfl (fa_103_0 _)) ?_
        refine JL.exV (.none rfl) rfl rfl (.load rfl) h (fun vx501 w h => ?_)
        obtain ⟨x501, rfl, h⟩ := h
        refine JL.exP (.none rfl) rfl rfl (.fieldAddr rfl (fa_105_0 _)) ?_
        refine JL.exV (.none rfl) rfl rfl (.load rfl) h (fun vx502 w h => ?_)
        obtain ⟨x502, rfl, h⟩ := h
        refine JL.exP (.none rfl) rfl rfl (.lss rfl rfl) ?_
        refine JL.exP (.none rfl) rfl rfl (.move rfl) ?_
        rcases orB_cases h with ⟨hc505, h⟩ | ⟨hc505, h⟩
        · refine JL.exNo (.off rfl rfl rfl hc505 rfl) rfl rfl ?_
          refine JL.exNo (.off rfl rfl rfl hc505 rfl) rfl rfl ?_
          refine JL.exNo (.off rfl rfl rfl hc505 rfl) rfl rfl ?_
          refine JL.exNo (.off rfl rfl rfl hc505 rfl) rfl rfl ?_
          refine JL.exNo (.off rfl rfl rfl hc505 rfl) rfl rfl ?_
          refine JL.exNo (.off rfl rfl rfl hc505 rfl) rfl rfl ?_
          refine JL.exNo (.undef rfl rfl rfl) rfl rfl ?_
          refine JL.exNo (.undef rfl rfl rfl) rfl rfl ?_
          refine JL.exNo (.undef rfl rfl rfl) rfl rfl ?_
          refine JL.exNo (.undef rfl rfl rfl) rfl rfl ?_
          refine JL.exNo (.undef rfl rfl rfl) rfl rfl ?_
          refine JL.exNo (.off rfl rfl rfl hc505 rfl) rfl rfl ?_
          refine JL.exP (.none rfl) rfl rfl (.pickOn rfl hc505 rfl) ?_
          refine JL.nil ?_
          exact JX.joinEnd h ⟨rfl, rfl, rfl, rfl, rfl, rfl, rfl, trivial⟩
        · refine JL.exP (.on rfl rfl rfl hc505) rfl rfl (.fieldAddr rfl (fa_103_0 _)) ?_
          refine JL.exV (.on rfl rfl rfl hc505) rfl rfl (.load rfl) h (fun vx506 w h => ?_)
          obtain ⟨x506, rfl, h⟩ := h
          refine JL.exP (.on rfl rfl rfl hc505) rfl rfl (.fieldAddr rfl (fa_105_0 _)) ?_
          refine JL.exV (.on rfl rfl rfl hc505) rfl rfl (.load rfl) h (fun vx507 w h => ?_)
          obtain ⟨x507, rfl, h⟩ := h
          refine JL.exP (.on rfl rfl rfl hc505) rfl rfl (.eql rfl rfl) ?_
          refine JL.exP (.on rfl rfl rfl hc505) rfl rfl (.move rfl) ?_
          rcases andB_cases h with ⟨hc510, h⟩ | ⟨hc510, h⟩
          · refine JL.exNo (.off rfl rfl rfl hc510 rfl) rfl rfl ?_
            refine JL.exNo (.off rfl rfl rfl hc510 rfl) rfl rfl ?_
            refine JL.exNo (.off rfl rfl rfl hc510 rfl) rfl rfl ?_
            refine JL.exNo (.off rfl rfl rfl hc510 rfl) rfl rfl ?_
            refine JL.exNo (.off rfl rfl rfl hc510 rfl) rfl rfl ?_
            refine JL.exP (.on rfl rfl rfl hc505) rfl rfl (.pickOff rfl hc510 rfl) ?_
            refine JL.exP (.none rfl) rfl rfl (.pickOff rfl hc505 rfl) ?_
            refine JL.nil ?_
            exact JX.joinEnd h ⟨rfl, rfl, rfl, rfl, rfl, rfl, rfl, trivial⟩
          · refine JL.exP (.on rfl rfl rfl hc510) rfl rfl (.fieldAddr rfl (fa_103_1 _)) ?_
            refine JL.exV (.on rfl rfl rfl hc510) rfl rfl (.load rfl) h (fun vx511 w h => ?_)
            obtain ⟨x511, rfl, h⟩ := h
            refine JL.exP (.on rfl rfl rfl hc510) rfl rfl (.fieldAddr rfl (fa_105_1 _)) ?_
            refine JL.exV (.on rfl rfl rfl hc510) rfl rfl (.load rfl) h (fun vx512 w h => ?_)
            obtain ⟨x512, rfl, h⟩ := h
            refine JL.exP (.on rfl rfl rfl hc510) rfl rfl (.lss rfl rfl) ?_
            refine JL.exP (.on rfl rfl rfl hc505) rfl rfl (.pickOn rfl hc510 rfl) ?_
            refine JL.exP (.none rfl) rfl rfl (.pickOff rfl hc505 rfl) ?_
            refine JL.nil ?_
            exact JX.joinEnd h ⟨rfl, rfl, rfl, rfl, rfl, rfl, rfl, trivial⟩
      · refine JX.then ?_
        refine J.join h (fun y513 => [(2, (.pointer (some p485))), (3, (.pointer (some p486))), (4, (.int .i64 0)), (5, (.int .i64 y513.1)), (6, (.int .i64 y513.2))]) (fun k514 w h => ?_) (fun y513 w h => ?_)
        · refine J.cond (b := _) rfl h (fun h => ?_) (fun h => ?_)
          · refine J.region ?_
            refine JL.exP (.none rfl) rfl rfl (.move rfl) ?_
            refine JL.exP (.none rfl) rfl rfl (.add rfl rfl) ?_
            refine JL.exP (.none rfl) rfl rfl (.assign rfl) ?_
            refine JL.nil ?_
            exact JX.joinEnd h ⟨rfl, rfl, rfl, rfl, rfl, trivial⟩
          · refine J.region ?_
            refine JL.exP (.none rfl) rfl rfl (.move rfl) ?_
            refine JL.exP (.none rfl) rfl rfl (.assign rfl) ?_
            refine JL.nil ?_
            exact JX.joinEnd h ⟨rfl, rfl, rfl, rfl, rfl, trivial⟩
        · refine JX.blockNormal ?_
          exact JX.joinEnd h ⟨rfl, rfl, rfl, rfl, rfl, trivial⟩
    · exact JX.loopEnd h ⟨rfl, rfl, rfl, rfl, rfl, trivial⟩
  · refine J.exit ?_
    refine JX.thenExit ?_
    refine JX.thenExit ?_
    refine JX.blockHere ?_
    refine JX.then ?_
    refine J.seq ?_
    refine J.seq ?_
    refine J.join h (fun y515 => [(2, (.pointer (some p485))), (4, (.int .i64 0)), (5, (.int .i64 s490.1)), (77, (.bool y515))]) (fun k516 w h => ?_) (fun y515 w h => ?_)
    · refine J.draw [[], [], [1], [1, 2], [1, 2, 3], [0, 1, 2, 3, 4], [0, 1, 2, 3, 4, 5], [0, 1, 2, 3, 4, 5, 6], [0, 1, 2, 3, 4, 5, 6, 7], [0, 1, 2, 3, 4, 5, 6, 7, 8], [0, 1, 2, 3, 4, 5, 6], [0, 1, 2, 3, 4, 5, 6, 7, 8, 9, 10], [0, 1, 2, 3, 4, 5, 6, 7, 8, 9, 10, 11], [0, 1, 2, 3, 4, 5, 6, 7, 8, 9, 10, 11, 12], [0, 1, 2, 3, 4, 5, 6], [0, 1, 2, 3, 4, 5, 6, 14], [0, 1, 2, 3, 4, 5, 6, 7, 8, 9, 10, 11, 12, 13, 14, 15], [0, 1, 2, 3, 4, 5, 6, 7, 8, 9, 10, 11, 12, 13, 14, 15, 16], [0, 1, 2, 3, 4, 5, 6, 7, 8, 9, 10, 11, 12, 13, 14, 15, 16, 17], [0, 1, 2, 3, 4, 5, 6, 7, 8, 9, 10, 11, 12, 13, 14, 15, 16, 17, 18], [0, 1, 2, 3, 4, 5, 6, 7, 8, 9, 10, 11, 12, 13, 14, 15, 16, 17, 18, 19], [0, 1, 2, 3, 4, 5, 6, 7, 8, 9, 10, 11, 12, 13, 14, 15, 16, 17, 18, 19, 20], [0, 1, 2, 3, 4, 5, 6, 7, 8, 9, 10, 11, 12, 13, 14, 15, 16, 17, 18], [0, 1, 2, 3, 4, 5, 6, 7, 8, 9, 10, 11, 12, 13, 14, 15, 16, 17, 18, 19, 20, 21, 22], [0, 1, 2, 3, 4, 5, 6, 7, 8, 9, 10, 11, 12, 13, 14, 15, 16, 17, 18, 19, 20, 21, 22, 23], [0, 1, 2, 3, 4, 5, 6, 7, 8, 9, 10, 11, 12, 13, 14, 15, 16, 17, 18, 19, 20, 21, 22, 23, 24], [0, 1, 2, 3, 4, 5, 6, 7, 8, 9, 10, 11, 12, 13, 14, 15, 16, 17, 18], [0, 1, 2, 3, 4, 5, 6, 7, 8, 9, 10, 11, 12, 13, 14, 15, 16, 17, 18, 26], [0, 1, 2, 3, 4, 5, 6, 7, 8, 9, 10, 11, 12, 13, 14, 15, 16, 17, 18, 19, 20, 21, 22, 23, 24, 25, 26, 27], [0, 1, 2, 3, 4, 5, 6, 7, 8, 9, 10, 11, 12, 13, 14, 15, 16, 17, 18, 19, 20, 21, 22, 23, 24, 25, 26, 27, 28]] (by kernel_rfl) mixed h (fun w h => ?_)
      refine JD.pure_ (i := 0) [] rfl (by kernel_rfl) (by kernel_rfl) (by kernel_rfl) (by kernel_rfl) (.none rfl) rfl rfl (.move rfl) trivial ?_
      refine JD.pure_ (i := 1) [] rfl (by kernel_rfl) (by kernel_rfl) (by kernel_rfl) (by kernel_rfl) (.none rfl) rfl rfl (.fieldAddr rfl (fa_155_0 _)) trivial ?_
      refine JD.pure_ (i := 2) [] rfl (by kernel_rfl) (by kernel_rfl) (by kernel_rfl) (by kernel_rfl) (.none rfl) rfl rfl (.fieldAddr rfl (fa_40_2 _)) trivial ?_
      refine JD.read (i := 3) [] rfl (by kernel_rfl) (by kernel_rfl) (by kernel_rfl) (by kernel_rfl) (.none rfl) rfl rfl (.load rfl) h trivial (fun v517 st518 h => ?_)
      refine JD.sPure (i := 4) [true] rfl (by kernel_rfl) (by kernel_rfl) (by kernel_rfl) (by kernel_rfl) (.none rfl) rfl rfl ((.len (vs := [v517]) rfl)) h trivial (fun vx519 h => ?_)
      obtain ⟨x519, rfl, h⟩ := h
      refine JD.pure_ (i := 5) [true] rfl (by kernel_rfl) (by kernel_rfl) (by kernel_rfl) (by kernel_rfl) (.none rfl) rfl rfl (.lss rfl rfl) trivial ?_
      refine JD.pure_ (i := 6) [true] rfl (by kernel_rfl) (by kernel_rfl) (by kernel_rfl) (by kernel_rfl) (.none rfl) rfl rfl (.move rfl) trivial ?_
      rcases andB_cases h with ⟨hc522, h⟩ | ⟨hc522, h⟩
      · refine JD.skip (i := 7) [true] rfl (by kernel_rfl) (by kernel_rfl) (by kernel_rfl) (by kernel_rfl) (.off rfl rfl rfl hc522 rfl) rfl rfl trivial ?_
        refine JD.skip (i := 8) [true] rfl (by kernel_rfl) (by kernel_rfl) (by kernel_rfl) (by kernel_rfl) (.off rfl rfl rfl hc522 rfl) rfl rfl trivial ?_
        refine JD.skip (i := 9) [true] rfl (by kernel_rfl) (by kernel_rfl) (by kernel_rfl) (by kernel_rfl) (.off rfl rfl rfl hc522 rfl) rfl rfl trivial ?_
        refine JD.skip (i := 10) [true] rfl (by kernel_rfl) (by kernel_rfl) (by kernel_rfl) (by kernel_rfl) (.off rfl rfl rfl hc522 rfl) rfl rfl trivial ?_
        refine JD.skip (i := 11) [true] rfl (by kernel_rfl) (by kernel_rfl) (by kernel_rfl) (by kernel_rfl) (.off rfl rfl rfl hc522 rfl) rfl rfl trivial ?_
        refine JD.skip (i := 12) [true] rfl (by kernel_rfl) (by kernel_rfl) (by kernel_rfl) (by kernel_rfl) (.off rfl rfl rfl hc522 rfl) rfl rfl trivial ?_
        refine JD.skip (i := 13) [true] rfl (by kernel_rfl) (by kernel_rfl) (by kernel_rfl) (by kernel_rfl) (.off rfl rfl rfl hc522 rfl) rfl rfl trivial ?_
        refine JD.skip (i := 14) [true] rfl (by kernel_rfl) (by kernel_rfl) (by kernel_rfl) (by kernel_rfl) (.off rfl rfl rfl hc522 rfl) rfl rfl trivial ?_
        refine JD.skip (i := 15) [true] rfl (by kernel_rfl) (by kernel_rfl) (by kernel_rfl) (by kernel_rfl) (.off rfl rfl rfl hc522 rfl) rfl rfl trivial ?_
        refine JD.skip (i := 16) [true] rfl (by kernel_rfl) (by kernel_rfl) (by kernel_rfl) (by kernel_rfl) (.off rfl rfl rfl hc522 rfl) rfl rfl trivial ?_
        refine JD.pure_ (i := 17) [true] rfl (by kernel_rfl) (by kernel_rfl) (by kernel_rfl) (by kernel_rfl) (.none rfl) rfl rfl (.pickOff rfl hc522 rfl) trivial ?_
        refine JD.pure_ (i := 18) [true] rfl (by kernel_rfl) (by kernel_rfl) (by kernel_rfl) (by kernel_rfl) (.none rfl) rfl rfl (.move rfl) trivial ?_
        rcases andB_cases h with ⟨hc532, h⟩ | ⟨hc532, h⟩
        · refine JD.skip (i := 19) [true] rfl (by kernel_rfl) (by kernel_rfl) (by kernel_rfl) (by kernel_rfl) (.off rfl rfl rfl hc532 rfl) rfl rfl trivial ?_
          refine JD.skip (i := 20) [true] rfl (by kernel_rfl) (by kernel_rfl) (by kernel_rfl) (by kernel_rfl) (.off rfl rfl rfl hc532 rfl) rfl rfl trivial ?_
          refine JD.skip (i := 21) [true] rfl (by kernel_rfl) (by kernel_rfl) (by kernel_rfl) (by kernel_rfl) (.off rfl rfl rfl hc532 rfl) rfl rfl trivial ?_
          refine JD.skip (i := 22) [true] rfl (by kernel_rfl) (by kernel_rfl) (by kernel_rfl) (by kernel_rfl) (.off rfl rfl rfl hc532 rfl) rfl rfl trivial ?_
          refine JD.skip (i := 23) [true] rfl (by kernel_rfl) (by kernel_rfl) (by kernel_rfl) (by kernel_rfl) (.off rfl rfl rfl hc532 rfl) rfl rfl trivial ?_
          refine JD.skip (i := 24) [true] rfl (by kernel_rfl) (by kernel_rfl) (by kernel_rfl) (by kernel_rfl) (.off rfl rfl rfl hc532 rfl) rfl rfl trivial ?_
          refine JD.skip (i := 25) [true] rfl (by kernel_rfl) (by kernel_rfl) (by kernel_rfl) (by kernel_rfl) (.off rfl rfl rfl hc532 rfl) rfl rfl trivial ?_
          refine JD.skip (i := 26) [true] rfl (by kernel_rfl) (by kernel_rfl) (by kernel_rfl) (by kernel_rfl) (.off rfl rfl rfl hc532 rfl) rfl rfl trivial ?_
          refine JD.skip (i := 27) [true] rfl (by kernel_rfl) (by kernel_rfl) (by kernel_rfl) (by kernel_rfl) (.off rfl rfl rfl hc532 rfl) rfl rfl trivial ?_
          refine JD.skip (i := 28) [true] rfl (by kernel_rfl) (by kernel_rfl) (by kernel_rfl) (by kernel_rfl) (.off rfl rfl rfl hc532 rfl) rfl rfl trivial ?_
          refine JD.pure_ (i := 29) [true] rfl (by kernel_rfl) (by kernel_rfl) (by kernel_rfl) (by kernel_rfl) (.none rfl) rfl rfl (.pickOff rfl hc532 rfl) trivial ?_
          refine JD.done (by kernel_rfl) ?_
          exact JX.joinEnd h ⟨rfl, rfl, rfl, rfl, trivial⟩
        · refine JD.pure_ (i := 19) [true] rfl (by kernel_rfl) (by kernel_rfl) (by kernel_rfl) (by kernel_rfl) (.on rfl rfl rfl hc532) rfl rfl (.fieldAddr rfl (fa_155_0 _)) trivial ?_
          refine JD.pure_ (i := 20) [true] rfl (by kernel_rfl) (by kernel_rfl) (by kernel_rfl) (by kernel_rfl) (.on rfl rfl rfl hc532) rfl rfl (.fieldAddr rfl (fa_40_2 _)) trivial ?_
          refine JD.read (i := 21) [true] rfl (by kernel_rfl) (by kernel_rfl) (by kernel_rfl) (by kernel_rfl) (.on rfl rfl rfl hc532) rfl rfl (.load rfl) h trivial (fun v533 st534 h => ?_)
          refine JD.pure_ (i := 22) [false, true] rfl (by kernel_rfl) (by kernel_rfl) (by kernel_rfl) (by kernel_rfl) (.on rfl rfl rfl hc532) rfl rfl (.move rfl) ⟨st534, trivial⟩ ?_
          refine JD.sPure (i := 23) [true, true] rfl (by kernel_rfl) (by kernel_rfl) (by kernel_rfl) (by kernel_rfl) (.on rfl rfl rfl hc532) rfl rfl (.indexAddr rfl rfl) h trivial (fun vp535 h => ?_)
          obtain ⟨p535, rfl, h⟩ := h
          refine JD.pure_ (i := 24) [true, true] rfl (by kernel_rfl) (by kernel_rfl) (by kernel_rfl) (by kernel_rfl) (.on rfl rfl rfl hc532) rfl rfl (.fieldAddr rfl (fa_103_1 _)) trivial ?_
          refine JD.read (i := 25) [true, true] rfl (by kernel_rfl) (by kernel_rfl) (by kernel_rfl) (by kernel_rfl) (.on rfl rfl rfl hc532) rfl rfl (.load rfl) h trivial (fun vx536 st537 h => ?_)
          obtain ⟨x536, rfl, h⟩ := h
          refine JD.pure_ (i := 26) [false, false, true] rfl (by kernel_rfl) (by kernel_rfl) (by kernel_rfl) (by kernel_rfl) (.on rfl rfl rfl hc532) rfl rfl (.fieldAddr rfl (fa_105_1 _)) ⟨st537, st534, trivial⟩ ?_
          refine JD.read (i := 27) [false, false, true] rfl (by kernel_rfl) (by kernel_rfl) (by kernel_rfl) (by kernel_rfl) (.on rfl rfl rfl hc532) rfl rfl (.load rfl) h ⟨st537, st534, trivial⟩ (fun vx538 st539 h => ?_)
          obtain ⟨x538, rfl, h⟩ := h
          refine JD.pure_ (i := 28) [true, true, true, true] rfl (by kernel_rfl) (by kernel_rfl) (by kernel_rfl) (by kernel_rfl) (.on rfl rfl rfl hc532) rfl rfl (.eql rfl rfl) trivial ?_
          refine JD.pure_ (i := 29) [true, true, true, true] rfl (by kernel_rfl) (by kernel_rfl) (by kernel_rfl) (by kernel_rfl) (.none rfl) rfl rfl (.pickOn rfl hc532 rfl) trivial ?_
          refine JD.done (by kernel_rfl) ?_
          exact JX.joinEnd h ⟨rfl, rfl, rfl, rfl, trivial⟩
      · refine JD.pure_ (i := 7) [true] rfl (by kernel_rfl) (by kernel_rfl) (by kernel_rfl) (by kernel_rfl) (.on rfl rfl rfl hc522) rfl rfl (.fieldAddr rfl (fa_155_0 _)) trivial ?_
        refine JD.pure_ (i := 8) [true] rfl (by kernel_rfl) (by kernel_rfl) (by kernel_rfl) (by kernel_rfl) (.on rfl rfl rfl hc522) rfl rfl (.fieldAddr rfl (fa_40_2 _)) trivial ?_
        refine JD.read (i := 9) [true] rfl (by kernel_rfl) (by kernel_rfl) (by kernel_rfl) (by kernel_rfl) (.on rfl rfl rfl hc522) rfl rfl (.load rfl) h trivial (fun v523 st524 h => ?_)
        refine JD.pure_ (i := 10) [false, true] rfl (by kernel_rfl) (by kernel_rfl) (by kernel_rfl) (by kernel_rfl) (.on rfl rfl rfl hc522) rfl rfl (.move rfl) ⟨st524, trivial⟩ ?_
        refine JD.sPure (i := 11) [true, true] rfl (by kernel_rfl) (by kernel_rfl) (by kernel_rfl) (by kernel_rfl) (.on rfl rfl rfl hc522) rfl rfl (.indexAddr rfl rfl) h trivial (fun vp525 h => ?_)
        obtain ⟨p525, rfl, h⟩ := h
        refine JD.pure_ (i := 12) [true, true] rfl (by kernel_rfl) (by kernel_rfl) (by kernel_rfl) (by kernel_rfl) (.on rfl rfl rfl hc522) rfl rfl (.fieldAddr rfl (fa_103_0 _)) trivial ?_
        refine JD.read (i := 13) [true, true] rfl (by kernel_rfl) (by kernel_rfl) (by kernel_rfl) (by kernel_rfl) (.on rfl rfl rfl hc522) rfl rfl (.load rfl) h trivial (fun vx526 st527 h => ?_)
        obtain ⟨x526, rfl, h⟩ := h
        refine JD.pure_ (i := 14) [false, false, true] rfl (by kernel_rfl) (by kernel_rfl) (by kernel_rfl) (by kernel_rfl) (.on rfl rfl rfl hc522) rfl rfl (.fieldAddr rfl (fa_105_0 _)) ⟨st527, st524, trivial⟩ ?_
        refine JD.read (i := 15) [false, false, true] rfl (by kernel_rfl) (by kernel_rfl) (by kernel_rfl) (by kernel_rfl) (.on rfl rfl rfl hc522) rfl rfl (.load rfl) h ⟨st527, st524, trivial⟩ (fun vx528 st529 h => ?_)
        obtain ⟨x528, rfl, h⟩ := h
        refine JD.pure_ (i := 16) [true, true, true, true] rfl (by kernel_rfl) (by kernel_rfl) (by kernel_rfl) (by kernel_rfl) (.on rfl rfl rfl hc522) rfl rfl (.eql rfl rfl) trivial ?_
        refine JD.pure_ (i := 17) [true, true, true, true] rfl (by kernel_rfl) (by kernel_rfl) (by kernel_rfl) (by kernel_rfl) (.none rfl) rfl rfl (.pickOn rfl hc522 rfl) trivial ?_
        refine JD.pure_ (i := 18) [true, true, true, true] rfl (by kernel_rfl) (by kernel_rfl) (by kernel_rfl) (by kernel_rfl) (.none rfl) rfl rfl (.move rfl) trivial ?_
        rcases andB_cases h with ⟨hc532, h⟩ | ⟨hc532, h⟩
        · refine JD.skip (i := 19) [true, true, true, true] rfl (by kernel_rfl) (by kernel_rfl) (by kernel_rfl) (by kernel_rfl) (.off rfl rfl rfl hc532 rfl) rfl rfl trivial ?_
          refine JD.skip (i := 20) [true, true, true, true] rfl (by kernel_rfl) (by kernel_rfl) (by kernel_rfl) (by kernel_rfl) (.off rfl rfl rfl hc532 rfl) rfl rfl trivial ?_
          refine JD.skip (i := 21) [true, true, true, true] rfl (by kernel_rfl) (by kernel_rfl) (by kernel_rfl) (by kernel_rfl) (.off rfl rfl rfl hc532 rfl) rfl rfl trivial ?_
          refine JD.skip (i := 22) [true, true, true, true] rfl (by kernel_rfl) (by kernel_rfl) (by kernel_rfl) (by kernel_rfl) (.off rfl rfl rfl hc532 rfl) rfl rfl trivial ?_
          refine JD.skip (i := 23) [true, true, true, true] rfl (by kernel_rfl) (by kernel_rfl) (by kernel_rfl) (by kernel_rfl) (.off rfl rfl rfl hc532 rfl) rfl rfl trivial ?_
          refine JD.skip (i := 24) [true, true, true, true] rfl (by kernel_rfl) (by kernel_rfl) (by kernel_rfl) (by kernel_rfl) (.off rfl rfl rfl hc532 rfl) rfl rfl trivial ?_
          refine JD.skip (i := 25) [true, true, true, true] rfl (by kernel_rfl) (by kernel_rfl) (by kernel_rfl) (by kernel_rfl) (.off rfl rfl rfl hc532 rfl) rfl rfl trivial ?_
          refine JD.skip (i := 26) [true, true, true, true] rfl (by kernel_rfl) (by kernel_rfl) (by kernel_rfl) (by kernel_rfl) (.off rfl rfl rfl hc532 rfl) rfl rfl trivial ?_
          refine JD.skip (i := 27) [true, true, true, true] rfl (by kernel_rfl) (by kernel_rfl) (by kernel_rfl) (by kernel_rfl) (.off rfl rfl rfl hc532 rfl) rfl rfl trivial ?_
          refine JD.skip (i := 28) [true, true, true, true] rfl (by kernel_rfl) (by kernel_rfl) (by kernel_rfl) (by kernel_rfl) (.off rfl rfl rfl hc532 rfl) rfl rfl trivial ?_
          refine JD.pure_ (i := 29) [true, true, true, true] rfl (by kernel_rfl) (by kernel_rfl) (by kernel_rfl) (by kernel_rfl) (.none rfl) rfl rfl (.pickOff rfl hc532 rfl) trivial ?_
          refine JD.done (by kernel_rfl) ?_
          exact JX.joinEnd h ⟨rfl, rfl, rfl, rfl, trivial⟩
        · refine JD.pure_ (i := 19) [true, true, true, true] rfl (by kernel_rfl) (by kernel_rfl) (by kernel_rfl) (by kernel_rfl) (.on rfl rfl rfl hc532) rfl rfl (.fieldAddr rfl (fa_155_0 _)) trivial ?_
          refine JD.pure_ (i := 20) [true, true, true, true] rfl (by kernel_rfl) (by kernel_rfl) (by kernel_rfl) (by kernel_rfl) (.on rfl rfl rfl hc532) rfl rfl (.fieldAddr rfl (fa_40_2 _)) trivial ?_
          refine JD.read (i := 21) [true, true, true, true] rfl (by kernel_rfl) (by kernel_rfl) (by kernel_rfl) (by kernel_rfl) (.on rfl rfl rfl hc532) rfl rfl (.load rfl) h trivial (fun v533 st534 h => ?_)
          refine JD.pure_ (i := 22) [false, true, true, true, true] rfl (by kernel_rfl) (by kernel_rfl) (by kernel_rfl) (by kernel_rfl) (.on rfl rfl rfl hc532) rfl rfl (.move rfl) ⟨st534, trivial⟩ ?_
          refine JD.sPure (i := 23) [true, true, true, true, true] rfl (by kernel_rfl) (by kernel_rfl) (by kernel_rfl) (by kernel_rfl) (.on rfl rfl rfl hc532) rfl rfl (.indexAddr rfl rfl) h trivial (fun vp535 h => ?_)
          obtain ⟨p535, rfl, h⟩ := h
          refine JD.pure_ (i := 24) [true, true, true, true, true] rfl (by kernel_rfl) (by kernel_rfl) (by kernel_rfl) (by kernel_rfl) (.on rfl rfl rfl hc532) rfl rfl (.fieldAddr rfl (fa_103_1 _)) trivial ?_
          refine JD.read (i := 25) [true, true, true, true, true] rfl (by kernel_rfl) (by kernel_rfl) (by kernel_rfl) (by kernel_rfl) (.on rfl rfl rfl hc532) rfl rfl (.load rfl) h trivial (fun vx536 st537 h => ?_)
          obtain ⟨x536, rfl, h⟩ := h
          refine JD.pure_ (i := 26) [false, false, true, true, true, true] rfl (by kernel_rfl) (by kernel_rfl) (by kernel_rfl) (by kernel_rfl) (.on rfl rfl rfl hc532) rfl rfl (.fieldAddr rfl (fa_105_1 _)) ⟨st537, st534, trivial⟩ ?_
          refine JD.read (i := 27) [false, false, true, true, true, true] rfl (by kernel_rfl) (by kernel_rfl) (by kernel_rfl) (by kernel_rfl) (.on rfl rfl rfl hc532) rfl rfl (.load rfl) h ⟨st537, st534, trivial⟩ (fun vx538 st539 h => ?_)
          obtain ⟨x538, rfl, h⟩ := h
          refine JD.pure_ (i := 28) [true, true, true, true, true, true, true] rfl (by kernel_rfl) (by kernel_rfl) (by kernel_rfl) (by kernel_rfl) (.on rfl rfl rfl hc532) rfl rfl (.eql rfl rfl) trivial ?_
          refine JD.pure_ (i := 29) [true, true, true, true, true, true, true] rfl (by kernel_rfl) (by kernel_rfl) (by kernel_rfl) (by kernel_rfl) (.none rfl) rfl rfl (.pickOn rfl hc532 rfl) trivial ?_
          refine JD.done (by kernel_rfl) ?_
          exact JX.joinEnd h ⟨rfl, rfl, rfl, rfl, trivial⟩
    · refine JX.then ?_
      refine J.cond (b := _) rfl h (fun h => ?_) (fun h => ?_)
      · refine J.seq ?_
        refine J.region ?_
        refine JL.exP (.none rfl) rfl rfl (.fieldAddr rfl (fa_155_0 _)) ?_
        refine JL.exP (.none rfl) rfl rfl (.fieldAddr rfl (fa_40_2 _)) ?_
        refine JL.exV (.none rfl) rfl rfl (.load rfl) h (fun v540 w h => ?_)
        refine JL.exP (.none rfl) rfl rfl (.move rfl) ?_
        refine JL.sPure (.none rfl) rfl rfl (.indexAddr rfl rfl) h (fun vp541 w h => ?_)
        obtain ⟨p541, rfl, h⟩ := h
        refine JL.exP (.none rfl) rfl rfl (.fieldAddr rfl (fa_103_2 _)) ?_
        refine JL.exV (.none rfl) rfl rfl (.load rfl) h (fun vx542 w h => ?_)
        obtain ⟨x542, rfl, h⟩ := h
        refine JL.exP (.none rfl) rfl rfl (.assign rfl) ?_
        refine JL.nil ?_
        refine JX.then ?_
        refine J.ret ?_
        refine JX.thenRet ?_
        exact JX.ret1 rfl rfl h
      · refine J.skip ?_
        refine JX.then ?_
        refine J.seq ?_
        refine J.region ?_
        refine JL.exP (.none rfl) rfl rfl (.assign rfl) ?_
        refine JL.nil ?_
        refine JX.then ?_
        refine J.ret ?_
        exact JX.ret1 rfl rfl h

/-- cabstand/ident.Cmp -/
def ident_Cmp (a0 : Value) (a1 : Value) (K : Value → WP) : WP :=
  semA Try.prog (Instr.box 28 a0) fun p543 =>
  semA Try.prog (Instr.box 28 a1) fun p544 =>
  semV Try.prog (loadVar 28 p543) fun v545 =>
  semV Try.prog (loadVar 28 p544) fun v546 =>
  pureB Try.prog (eqM .eql 28 (.tmp 5) (.tmp 6) v545 v546) fun b547 =>
  iteH b547 (
    K (.int .i64 0)) (
    drawH <|
    pureV Try.prog (Instr.sliceAt 28 (.pointer (some p543)) none none none) fun v548 =>
    pureV Try.prog (Instr.sliceAt 28 (.pointer (some p544)) none none none) fun v549 =>
    callI Try.prog 62 #[v548, v549] .i64 fun x550 =>
    K (.int .i64 x550))
set_option maxRecDepth 100000 in
set_option maxHeartbeats 1000000 in
theorem ident_Cmp_ok {a0 : Value} {a1 : Value} {K : Value → WP} {w : World} (h : ident_Cmp a0 a1 K w) : callH Try.prog 38 #[a0, a1] K w := by
  refine enter (l := [a0, a1]) Try.func38 rfl rfl rfl ?_
  show J Try.prog 11 [(0, a0), (1, a1)] _ _ _
  unfold ident_Cmp at h
  refine J.seq ?_
  refine J.region ?_
  refine JL.exV (.none rfl) rfl rfl (.box rfl) h (fun vp543 w h => ?_)
  obtain ⟨p543, rfl, h⟩ := h
  refine JL.exV (.none rfl) rfl rfl (.box rfl) h (fun vp544 w h => ?_)
  obtain ⟨p544, rfl, h⟩ := h
  refine JL.exP (.none rfl) rfl rfl (.assign rfl) ?_
  refine JL.nil ?_
  refine JX.then ?_
  refine J.seq ?_
  refine J.seq ?_
  refine J.region ?_
  refine JL.exV (.none rfl) rfl rfl (.load rfl) h (fun v545 w h => ?_)
  refine JL.exV (.none rfl) rfl rfl (.load rfl) h (fun v546 w h => ?_)
  refine JL.sPure (.none rfl) rfl rfl (.binOp rfl rfl) h (fun vb547 w h => ?_)
  obtain ⟨b547, rfl, h⟩ := h
  refine JL.nil ?_
  refine JX.then ?_
  refine J.cond (b := _) rfl h (fun h => ?_) (fun h => ?_)
  · refine J.seq ?_
    refine J.region ?_
    refine JL.exP (.none rfl) rfl rfl (.assign rfl) ?_
    refine JL.nil ?_
    refine JX.then ?_
    refine J.ret ?_
    refine JX.thenRet ?_
    exact JX.ret1 rfl rfl h
  · refine J.skip ?_
    refine JX.then ?_
    refine J.seq ?_
    refine J.draw [[], [], [0, 1], [0, 1, 2]] (by kernel_rfl) mixed h (fun w h => ?_)
    refine JD.sPure (i := 0) [] rfl (by kernel_rfl) (by kernel_rfl) (by kernel_rfl) (by kernel_rfl) (.none rfl) rfl rfl (.slice rfl rfl rfl rfl) h trivial (fun v548 h => ?_)
    refine JD.sPure (i := 1) [] rfl (by kernel_rfl) (by kernel_rfl) (by kernel_rfl) (by kernel_rfl) (.none rfl) rfl rfl (.slice rfl rfl rfl rfl) h trivial (fun v549 h => ?_)
    refine JD.one (j := 2) (by kernel_rfl) ?_
    refine JD1.exC [] rfl (by kernel_rfl) (.none rfl) rfl rfl (.func (vs := [v548, v549]) en_62 rfl) h (fun vx550 w h => ?_)
    obtain ⟨x550, rfl, h⟩ := h
    refine ⟨trivial, ?_⟩
    refine JD.pure_ (i := 3) [] rfl (by kernel_rfl) (by kernel_rfl) (by kernel_rfl) (by kernel_rfl) (.none rfl) rfl rfl (.assign rfl) trivial ?_
    refine JD.done (by kernel_rfl) ?_
    refine JX.then ?_
    refine J.ret ?_
    exact JX.ret1 rfl rfl h

end S
end Go.Cab

