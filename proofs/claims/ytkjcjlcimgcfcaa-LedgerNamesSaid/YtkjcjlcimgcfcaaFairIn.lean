/- What is read at each type of this seat. -/
import Derived.Test.YtkjcjlcimgcfcaaFairT
import Derived.Test.YtkjcjlcimgcfcaaInp
namespace Go.Cab
set_option linter.unusedSimpArgs false
set_option linter.unusedVariables false
set_option linter.unusedSectionVars false
open Go Go.Proofs
set_option maxRecDepth 100000
instance rdr_3 : Rdr Try.prog enc_3 InI64 := Rdr.i64 rfl (fun _ => rfl) Try.underlying3
instance rdr_28 : Rdr Try.prog enc_28 InAny := ⟨fun {H enc w sp fuel cs d ps} h hw => by
  obtain ⟨hl, ha⟩ := trod_array Try.underlying28 h
  have c1 : Try.prog.cellsOf 5 = 1 := by kernel_rfl
  have cn : Try.prog.cellsOf 28 = 8 := by kernel_rfl
  rw [c1] at ha; rw [cn] at hl
  obtain ⟨_, _, _, t0⟩ := ha 0 (by decide)
  obtain ⟨n0, e0, a0, b0⟩ := trod_int Try.underlying5 t0
  obtain ⟨x0, y0⟩ := u8_of a0 b0
  subst y0
  have g0 := glue (o' := 1) e0 (by decide)
  obtain ⟨_, _, _, t1⟩ := ha 1 (by decide)
  obtain ⟨n1, e1, a1, b1⟩ := trod_int Try.underlying5 t1
  obtain ⟨x1, y1⟩ := u8_of a1 b1
  subst y1
  have g1 := glue (o' := 2) e1 (by decide)
  obtain ⟨_, _, _, t2⟩ := ha 2 (by decide)
  obtain ⟨n2, e2, a2, b2⟩ := trod_int Try.underlying5 t2
  obtain ⟨x2, y2⟩ := u8_of a2 b2
  subst y2
  have g2 := glue (o' := 3) e2 (by decide)
  obtain ⟨_, _, _, t3⟩ := ha 3 (by decide)
  obtain ⟨n3, e3, a3, b3⟩ := trod_int Try.underlying5 t3
  obtain ⟨x3, y3⟩ := u8_of a3 b3
  subst y3
  have g3 := glue (o' := 4) e3 (by decide)
  obtain ⟨_, _, _, t4⟩ := ha 4 (by decide)
  obtain ⟨n4, e4, a4, b4⟩ := trod_int Try.underlying5 t4
  obtain ⟨x4, y4⟩ := u8_of a4 b4
  subst y4
  have g4 := glue (o' := 5) e4 (by decide)
  obtain ⟨_, _, _, t5⟩ := ha 5 (by decide)
  obtain ⟨n5, e5, a5, b5⟩ := trod_int Try.underlying5 t5
  obtain ⟨x5, y5⟩ := u8_of a5 b5
  subst y5
  have g5 := glue (o' := 6) e5 (by decide)
  obtain ⟨_, _, _, t6⟩ := ha 6 (by decide)
  obtain ⟨n6, e6, a6, b6⟩ := trod_int Try.underlying5 t6
  obtain ⟨x6, y6⟩ := u8_of a6 b6
  subst y6
  have g6 := glue (o' := 7) e6 (by decide)
  obtain ⟨_, _, _, t7⟩ := ha 7 (by decide)
  obtain ⟨n7, e7, a7, b7⟩ := trod_int Try.underlying5 t7
  obtain ⟨x7, y7⟩ := u8_of a7 b7
  subst y7
  have g7 := glue (o' := 8) e7 (by decide)
  refine ⟨⟨x0, x1, x2, x3, x4, x5, x6, x7⟩, ?_, trivial⟩
  have gN : cs.drop 8 = [] := List.drop_of_length_le (by omega)
  rw [show (0 * 1 : Nat) = 0 from rfl, List.drop_zero] at g0
  rw [show (1 * 1 : Nat) = 1 from rfl] at g1
  rw [show (2 * 1 : Nat) = 2 from rfl] at g2
  rw [show (3 * 1 : Nat) = 3 from rfl] at g3
  rw [show (4 * 1 : Nat) = 4 from rfl] at g4
  rw [show (5 * 1 : Nat) = 5 from rfl] at g5
  rw [show (6 * 1 : Nat) = 6 from rfl] at g6
  rw [show (7 * 1 : Nat) = 7 from rfl] at g7
  rw [g0, g1, g2, g3, g4, g5, g6, g7, gN]; rfl⟩
instance rdr_50 : Rdr Try.prog enc_50 InAny := Rdr.i16 rfl (fun _ => rfl) Try.underlying50
def InPoint : World → Point → Prop := fun w x => InAny w x.x ∧ InAny w x.y
instance rdr_52 : Rdr Try.prog enc_52 InPoint := ⟨fun {H enc w sp fuel cs d ps} h hw => by
  have hl := trod_len Try.underlying52 h
  have cn : Try.prog.cellsOf 52 = 2 := by kernel_rfl
  rw [cn] at hl
  obtain ⟨_, _, _, t0, w0⟩ := trod_field Try.underlying52 h hw (i := 0) (f := fld52_0) (T := 50) (o := 0) (n := 1) (by kernel_rfl) (by kernel_rfl) (by kernel_rfl) (by kernel_rfl)
  obtain ⟨x0, e0, i0⟩ := rdr_50.rd t0 w0
  have g0 := glue (o' := 1) e0 (by decide)
  obtain ⟨_, _, _, t1, w1⟩ := trod_field Try.underlying52 h hw (i := 1) (f := fld52_1) (T := 50) (o := 1) (n := 1) (by kernel_rfl) (by kernel_rfl) (by kernel_rfl) (by kernel_rfl)
  obtain ⟨x1, e1, i1⟩ := rdr_50.rd t1 w1
  have g1 := glue (o' := 2) e1 (by decide)
  refine ⟨⟨x0, x1⟩, ?_, i0, i1⟩
  have gN : cs.drop 2 = [] := List.drop_of_length_le (by omega)
  rw [List.drop_zero] at g0
  rw [g0, g1, gN]; rfl⟩
instance rdr_5 : Rdr Try.prog enc_5 InAny := Rdr.u8 rfl (fun _ => rfl) Try.underlying5
def InRequest : World → Request → Prop := fun w x => InAny w x.id ∧ InPoint w x.from_ ∧ InPoint w x.to_ ∧ InAny w x.seats ∧ InAny w x.classes ∧ InI64 w x.base ∧ InI64 w x.ttl
instance rdr_54 : Rdr Try.prog enc_54 InRequest := ⟨fun {H enc w sp fuel cs d ps} h hw => by
  have hl := trod_len Try.underlying54 h
  have cn : Try.prog.cellsOf 54 = 16 := by kernel_rfl
  rw [cn] at hl
  obtain ⟨_, _, _, t0, w0⟩ := trod_field Try.underlying54 h hw (i := 0) (f := fld54_0) (T := 28) (o := 0) (n := 8) (by kernel_rfl) (by kernel_rfl) (by kernel_rfl) (by kernel_rfl)
  obtain ⟨x0, e0, i0⟩ := rdr_28.rd t0 w0
  have g0 := glue (o' := 8) e0 (by decide)
  obtain ⟨_, _, _, t1, w1⟩ := trod_field Try.underlying54 h hw (i := 1) (f := fld54_1) (T := 52) (o := 8) (n := 2) (by kernel_rfl) (by kernel_rfl) (by kernel_rfl) (by kernel_rfl)
  obtain ⟨x1, e1, i1⟩ := rdr_52.rd t1 w1
  have g1 := glue (o' := 10) e1 (by decide)
  obtain ⟨_, _, _, t2, w2⟩ := trod_field Try.underlying54 h hw (i := 2) (f := fld54_2) (T := 52) (o := 10) (n := 2) (by kernel_rfl) (by kernel_rfl) (by kernel_rfl) (by kernel_rfl)
  obtain ⟨x2, e2, i2⟩ := rdr_52.rd t2 w2
  have g2 := glue (o' := 12) e2 (by decide)
  obtain ⟨_, _, _, t3, w3⟩ := trod_field Try.underlying54 h hw (i := 3) (f := fld54_3) (T := 5) (o := 12) (n := 1) (by kernel_rfl) (by kernel_rfl) (by kernel_rfl) (by kernel_rfl)
  obtain ⟨x3, e3, i3⟩ := rdr_5.rd t3 w3
  have g3 := glue (o' := 13) e3 (by decide)
  obtain ⟨_, _, _, t4, w4⟩ := trod_field Try.underlying54 h hw (i := 4) (f := fld54_4) (T := 5) (o := 13) (n := 1) (by kernel_rfl) (by kernel_rfl) (by kernel_rfl) (by kernel_rfl)
  obtain ⟨x4, e4, i4⟩ := rdr_5.rd t4 w4
  have g4 := glue (o' := 14) e4 (by decide)
  obtain ⟨_, _, _, t5, w5⟩ := trod_field Try.underlying54 h hw (i := 5) (f := fld54_5) (T := 3) (o := 14) (n := 1) (by kernel_rfl) (by kernel_rfl) (by kernel_rfl) (by kernel_rfl)
  obtain ⟨x5, e5, i5⟩ := rdr_3.rd t5 w5
  have g5 := glue (o' := 15) e5 (by decide)
  obtain ⟨_, _, _, t6, w6⟩ := trod_field Try.underlying54 h hw (i := 6) (f := fld54_6) (T := 3) (o := 15) (n := 1) (by kernel_rfl) (by kernel_rfl) (by kernel_rfl) (by kernel_rfl)
  obtain ⟨x6, e6, i6⟩ := rdr_3.rd t6 w6
  have g6 := glue (o' := 16) e6 (by decide)
  refine ⟨⟨x0, x1, x2, x3, x4, x5, x6⟩, ?_, i0, i1, i2, i3, i4, i5, i6⟩
  have gN : cs.drop 16 = [] := List.drop_of_length_le (by omega)
  rw [List.drop_zero] at g0
  rw [g0, g1, g2, g3, g4, g5, g6, gN]; rfl⟩
def InWaiting : World → Waiting → Prop := fun w x => InRequest w x.request ∧ InI64 w x.since ∧ InI64 w x.number
instance rdr_56 : Rdr Try.prog enc_56 InWaiting := ⟨fun {H enc w sp fuel cs d ps} h hw => by
  have hl := trod_len Try.underlying56 h
  have cn : Try.prog.cellsOf 56 = 18 := by kernel_rfl
  rw [cn] at hl
  obtain ⟨_, _, _, t0, w0⟩ := trod_field Try.underlying56 h hw (i := 0) (f := fld56_0) (T := 54) (o := 0) (n := 16) (by kernel_rfl) (by kernel_rfl) (by kernel_rfl) (by kernel_rfl)
  obtain ⟨x0, e0, i0⟩ := rdr_54.rd t0 w0
  have g0 := glue (o' := 16) e0 (by decide)
  obtain ⟨_, _, _, t1, w1⟩ := trod_field Try.underlying56 h hw (i := 1) (f := fld56_1) (T := 3) (o := 16) (n := 1) (by kernel_rfl) (by kernel_rfl) (by kernel_rfl) (by kernel_rfl)
  obtain ⟨x1, e1, i1⟩ := rdr_3.rd t1 w1
  have g1 := glue (o' := 17) e1 (by decide)
  obtain ⟨_, _, _, t2, w2⟩ := trod_field Try.underlying56 h hw (i := 2) (f := fld56_2) (T := 3) (o := 17) (n := 1) (by kernel_rfl) (by kernel_rfl) (by kernel_rfl) (by kernel_rfl)
  obtain ⟨x2, e2, i2⟩ := rdr_3.rd t2 w2
  have g2 := glue (o' := 18) e2 (by decide)
  refine ⟨⟨x0, x1, x2⟩, ?_, i0, i1, i2⟩
  have gN : cs.drop 18 = [] := List.drop_of_length_le (by omega)
  rw [List.drop_zero] at g0
  rw [g0, g1, g2, gN]; rfl⟩
instance rdr_36 : Rdr Try.prog enc_36 (InSl Try.prog enc_56 InWaiting) := Rdr.slice rdr_56 rfl (fun _ => rfl) Try.underlying36
def InDriver : World → Driver → Prop := fun w x => InAny w x.id ∧ InPoint w x.at_ ∧ InAny w x.seats ∧ InAny w x.klass ∧ InI64 w x.radius
instance rdr_124 : Rdr Try.prog enc_124 InDriver := ⟨fun {H enc w sp fuel cs d ps} h hw => by
  have hl := trod_len Try.underlying124 h
  have cn : Try.prog.cellsOf 124 = 13 := by kernel_rfl
  rw [cn] at hl
  obtain ⟨_, _, _, t0, w0⟩ := trod_field Try.underlying124 h hw (i := 0) (f := fld124_0) (T := 28) (o := 0) (n := 8) (by kernel_rfl) (by kernel_rfl) (by kernel_rfl) (by kernel_rfl)
  obtain ⟨x0, e0, i0⟩ := rdr_28.rd t0 w0
  have g0 := glue (o' := 8) e0 (by decide)
  obtain ⟨_, _, _, t1, w1⟩ := trod_field Try.underlying124 h hw (i := 1) (f := fld124_1) (T := 52) (o := 8) (n := 2) (by kernel_rfl) (by kernel_rfl) (by kernel_rfl) (by kernel_rfl)
  obtain ⟨x1, e1, i1⟩ := rdr_52.rd t1 w1
  have g1 := glue (o' := 10) e1 (by decide)
  obtain ⟨_, _, _, t2, w2⟩ := trod_field Try.underlying124 h hw (i := 2) (f := fld124_2) (T := 5) (o := 10) (n := 1) (by kernel_rfl) (by kernel_rfl) (by kernel_rfl) (by kernel_rfl)
  obtain ⟨x2, e2, i2⟩ := rdr_5.rd t2 w2
  have g2 := glue (o' := 11) e2 (by decide)
  obtain ⟨_, _, _, t3, w3⟩ := trod_field Try.underlying124 h hw (i := 3) (f := fld124_3) (T := 5) (o := 11) (n := 1) (by kernel_rfl) (by kernel_rfl) (by kernel_rfl) (by kernel_rfl)
  obtain ⟨x3, e3, i3⟩ := rdr_5.rd t3 w3
  have g3 := glue (o' := 12) e3 (by decide)
  obtain ⟨_, _, _, t4, w4⟩ := trod_field Try.underlying124 h hw (i := 4) (f := fld124_4) (T := 3) (o := 12) (n := 1) (by kernel_rfl) (by kernel_rfl) (by kernel_rfl) (by kernel_rfl)
  obtain ⟨x4, e4, i4⟩ := rdr_3.rd t4 w4
  have g4 := glue (o' := 13) e4 (by decide)
  refine ⟨⟨x0, x1, x2, x3, x4⟩, ?_, i0, i1, i2, i3, i4⟩
  have gN : cs.drop 13 = [] := List.drop_of_length_le (by omega)
  rw [List.drop_zero] at g0
  rw [g0, g1, g2, g3, g4, gN]; rfl⟩
def InIdle : World → Idle → Prop := fun w x => InDriver w x.driver ∧ InI64 w x.number
instance rdr_126 : Rdr Try.prog enc_126 InIdle := ⟨fun {H enc w sp fuel cs d ps} h hw => by
  have hl := trod_len Try.underlying126 h
  have cn : Try.prog.cellsOf 126 = 14 := by kernel_rfl
  rw [cn] at hl
  obtain ⟨_, _, _, t0, w0⟩ := trod_field Try.underlying126 h hw (i := 0) (f := fld126_0) (T := 124) (o := 0) (n := 13) (by kernel_rfl) (by kernel_rfl) (by kernel_rfl) (by kernel_rfl)
  obtain ⟨x0, e0, i0⟩ := rdr_124.rd t0 w0
  have g0 := glue (o' := 13) e0 (by decide)
  obtain ⟨_, _, _, t1, w1⟩ := trod_field Try.underlying126 h hw (i := 1) (f := fld126_1) (T := 3) (o := 13) (n := 1) (by kernel_rfl) (by kernel_rfl) (by kernel_rfl) (by kernel_rfl)
  obtain ⟨x1, e1, i1⟩ := rdr_3.rd t1 w1
  have g1 := glue (o' := 14) e1 (by decide)
  refine ⟨⟨x0, x1⟩, ?_, i0, i1⟩
  have gN : cs.drop 14 = [] := List.drop_of_length_le (by omega)
  rw [List.drop_zero] at g0
  rw [g0, g1, gN]; rfl⟩
instance rdr_37 : Rdr Try.prog enc_37 (InSl Try.prog enc_126 InIdle) := Rdr.slice rdr_126 rfl (fun _ => rfl) Try.underlying37
def InEdge : World → Edge → Prop := fun w x => InI64 w x.r ∧ InI64 w x.c ∧ InI64 w x.w
instance rdr_103 : Rdr Try.prog enc_103 InEdge := ⟨fun {H enc w sp fuel cs d ps} h hw => by
  have hl := trod_len Try.underlying103 h
  have cn : Try.prog.cellsOf 103 = 3 := by kernel_rfl
  rw [cn] at hl
  obtain ⟨_, _, _, t0, w0⟩ := trod_field Try.underlying103 h hw (i := 0) (f := fld103_0) (T := 3) (o := 0) (n := 1) (by kernel_rfl) (by kernel_rfl) (by kernel_rfl) (by kernel_rfl)
  obtain ⟨x0, e0, i0⟩ := rdr_3.rd t0 w0
  have g0 := glue (o' := 1) e0 (by decide)
  obtain ⟨_, _, _, t1, w1⟩ := trod_field Try.underlying103 h hw (i := 1) (f := fld103_1) (T := 3) (o := 1) (n := 1) (by kernel_rfl) (by kernel_rfl) (by kernel_rfl) (by kernel_rfl)
  obtain ⟨x1, e1, i1⟩ := rdr_3.rd t1 w1
  have g1 := glue (o' := 2) e1 (by decide)
  obtain ⟨_, _, _, t2, w2⟩ := trod_field Try.underlying103 h hw (i := 2) (f := fld103_2) (T := 3) (o := 2) (n := 1) (by kernel_rfl) (by kernel_rfl) (by kernel_rfl) (by kernel_rfl)
  obtain ⟨x2, e2, i2⟩ := rdr_3.rd t2 w2
  have g2 := glue (o' := 3) e2 (by decide)
  refine ⟨⟨x0, x1, x2⟩, ?_, i0, i1, i2⟩
  have gN : cs.drop 3 = [] := List.drop_of_length_le (by omega)
  rw [List.drop_zero] at g0
  rw [g0, g1, g2, gN]; rfl⟩
instance rdr_38 : Rdr Try.prog enc_38 (InSl Try.prog enc_103 InEdge) := Rdr.slice rdr_103 rfl (fun _ => rfl) Try.underlying38
noncomputable def fld40_0 : Field := (Try.prog.fieldsOf 40)[0]!
noncomputable def fld40_1 : Field := (Try.prog.fieldsOf 40)[1]!
noncomputable def fld40_2 : Field := (Try.prog.fieldsOf 40)[2]!
def InGraph : World → Graph → Prop := fun w x => InI64 w x.rows ∧ InI64 w x.cols ∧ (InSl Try.prog enc_103 InEdge) w x.edges
instance rdr_40 : Rdr Try.prog enc_40 InGraph := ⟨fun {H enc w sp fuel cs d ps} h hw => by
  have hl := trod_len Try.underlying40 h
  have cn : Try.prog.cellsOf 40 = 3 := by kernel_rfl
  rw [cn] at hl
  obtain ⟨_, _, _, t0, w0⟩ := trod_field Try.underlying40 h hw (i := 0) (f := fld40_0) (T := 3) (o := 0) (n := 1) (by kernel_rfl) (by kernel_rfl) (by kernel_rfl) (by kernel_rfl)
  obtain ⟨x0, e0, i0⟩ := rdr_3.rd t0 w0
  have g0 := glue (o' := 1) e0 (by decide)
  obtain ⟨_, _, _, t1, w1⟩ := trod_field Try.underlying40 h hw (i := 1) (f := fld40_1) (T := 3) (o := 1) (n := 1) (by kernel_rfl) (by kernel_rfl) (by kernel_rfl) (by kernel_rfl)
  obtain ⟨x1, e1, i1⟩ := rdr_3.rd t1 w1
  have g1 := glue (o' := 2) e1 (by decide)
  obtain ⟨_, _, _, t2, w2⟩ := trod_field Try.underlying40 h hw (i := 2) (f := fld40_2) (T := 38) (o := 2) (n := 1) (by kernel_rfl) (by kernel_rfl) (by kernel_rfl) (by kernel_rfl)
  obtain ⟨x2, e2, i2⟩ := rdr_38.rd t2 w2
  have g2 := glue (o' := 3) e2 (by decide)
  refine ⟨⟨x0, x1, x2⟩, ?_, i0, i1, i2⟩
  have gN : cs.drop 3 = [] := List.drop_of_length_le (by omega)
  rw [List.drop_zero] at g0
  rw [g0, g1, g2, gN]; rfl⟩
def InPair : World → Pair → Prop := fun w x => InI64 w x.r ∧ InI64 w x.c
instance rdr_105 : Rdr Try.prog enc_105 InPair := ⟨fun {H enc w sp fuel cs d ps} h hw => by
  have hl := trod_len Try.underlying105 h
  have cn : Try.prog.cellsOf 105 = 2 := by kernel_rfl
  rw [cn] at hl
  obtain ⟨_, _, _, t0, w0⟩ := trod_field Try.underlying105 h hw (i := 0) (f := fld105_0) (T := 3) (o := 0) (n := 1) (by kernel_rfl) (by kernel_rfl) (by kernel_rfl) (by kernel_rfl)
  obtain ⟨x0, e0, i0⟩ := rdr_3.rd t0 w0
  have g0 := glue (o' := 1) e0 (by decide)
  obtain ⟨_, _, _, t1, w1⟩ := trod_field Try.underlying105 h hw (i := 1) (f := fld105_1) (T := 3) (o := 1) (n := 1) (by kernel_rfl) (by kernel_rfl) (by kernel_rfl) (by kernel_rfl)
  obtain ⟨x1, e1, i1⟩ := rdr_3.rd t1 w1
  have g1 := glue (o' := 2) e1 (by decide)
  refine ⟨⟨x0, x1⟩, ?_, i0, i1⟩
  have gN : cs.drop 2 = [] := List.drop_of_length_le (by omega)
  rw [List.drop_zero] at g0
  rw [g0, g1, gN]; rfl⟩
instance rdr_41 : Rdr Try.prog enc_41 (InSl Try.prog enc_105 InPair) := Rdr.slice rdr_105 rfl (fun _ => rfl) Try.underlying41
instance rdr_42 : Rdr Try.prog enc_42 (InSl Try.prog enc_3 InI64) := Rdr.slice rdr_3 rfl (fun _ => rfl) Try.underlying42
noncomputable def fld44_0 : Field := (Try.prog.fieldsOf 44)[0]!
noncomputable def fld44_1 : Field := (Try.prog.fieldsOf 44)[1]!
noncomputable def fld44_2 : Field := (Try.prog.fieldsOf 44)[2]!
def InCert : World → Cert → Prop := fun w x => (InSl Try.prog enc_105 InPair) w x.pairs ∧ (InSl Try.prog enc_3 InI64) w x.ys ∧ (InSl Try.prog enc_3 InI64) w x.zs
instance rdr_44 : Rdr Try.prog enc_44 InCert := ⟨fun {H enc w sp fuel cs d ps} h hw => by
  have hl := trod_len Try.underlying44 h
  have cn : Try.prog.cellsOf 44 = 3 := by kernel_rfl
  rw [cn] at hl
  obtain ⟨_, _, _, t0, w0⟩ := trod_field Try.underlying44 h hw (i := 0) (f := fld44_0) (T := 41) (o := 0) (n := 1) (by kernel_rfl) (by kernel_rfl) (by kernel_rfl) (by kernel_rfl)
  obtain ⟨x0, e0, i0⟩ := rdr_41.rd t0 w0
  have g0 := glue (o' := 1) e0 (by decide)
  obtain ⟨_, _, _, t1, w1⟩ := trod_field Try.underlying44 h hw (i := 1) (f := fld44_1) (T := 42) (o := 1) (n := 1) (by kernel_rfl) (by kernel_rfl) (by kernel_rfl) (by kernel_rfl)
  obtain ⟨x1, e1, i1⟩ := rdr_42.rd t1 w1
  have g1 := glue (o' := 2) e1 (by decide)
  obtain ⟨_, _, _, t2, w2⟩ := trod_field Try.underlying44 h hw (i := 2) (f := fld44_2) (T := 42) (o := 2) (n := 1) (by kernel_rfl) (by kernel_rfl) (by kernel_rfl) (by kernel_rfl)
  obtain ⟨x2, e2, i2⟩ := rdr_42.rd t2 w2
  have g2 := glue (o' := 3) e2 (by decide)
  refine ⟨⟨x0, x1, x2⟩, ?_, i0, i1, i2⟩
  have gN : cs.drop 3 = [] := List.drop_of_length_le (by omega)
  rw [List.drop_zero] at g0
  rw [g0, g1, g2, gN]; rfl⟩
noncomputable def fld46_0 : Field := (Try.prog.fieldsOf 46)[0]!
noncomputable def fld46_1 : Field := (Try.prog.fieldsOf 46)[1]!
noncomputable def fld46_2 : Field := (Try.prog.fieldsOf 46)[2]!
noncomputable def fld46_3 : Field := (Try.prog.fieldsOf 46)[3]!
noncomputable def fld46_4 : Field := (Try.prog.fieldsOf 46)[4]!
def InRecord : World → Record → Prop := fun w x => InI64 w x.tick ∧ (InSl Try.prog enc_56 InWaiting) w x.waiting ∧ (InSl Try.prog enc_126 InIdle) w x.idle ∧ InGraph w x.g ∧ InCert w x.cert
instance rdr_46 : Rdr Try.prog enc_46 InRecord := ⟨fun {H enc w sp fuel cs d ps} h hw => by
  have hl := trod_len Try.underlying46 h
  have cn : Try.prog.cellsOf 46 = 9 := by kernel_rfl
  rw [cn] at hl
  obtain ⟨_, _, _, t0, w0⟩ := trod_field Try.underlying46 h hw (i := 0) (f := fld46_0) (T := 3) (o := 0) (n := 1) (by kernel_rfl) (by kernel_rfl) (by kernel_rfl) (by kernel_rfl)
  obtain ⟨x0, e0, i0⟩ := rdr_3.rd t0 w0
  have g0 := glue (o' := 1) e0 (by decide)
  obtain ⟨_, _, _, t1, w1⟩ := trod_field Try.underlying46 h hw (i := 1) (f := fld46_1) (T := 36) (o := 1) (n := 1) (by kernel_rfl) (by kernel_rfl) (by kernel_rfl) (by kernel_rfl)
  obtain ⟨x1, e1, i1⟩ := rdr_36.rd t1 w1
  have g1 := glue (o' := 2) e1 (by decide)
  obtain ⟨_, _, _, t2, w2⟩ := trod_field Try.underlying46 h hw (i := 2) (f := fld46_2) (T := 37) (o := 2) (n := 1) (by kernel_rfl) (by kernel_rfl) (by kernel_rfl) (by kernel_rfl)
  obtain ⟨x2, e2, i2⟩ := rdr_37.rd t2 w2
  have g2 := glue (o' := 3) e2 (by decide)
  obtain ⟨_, _, _, t3, w3⟩ := trod_field Try.underlying46 h hw (i := 3) (f := fld46_3) (T := 40) (o := 3) (n := 3) (by kernel_rfl) (by kernel_rfl) (by kernel_rfl) (by kernel_rfl)
  obtain ⟨x3, e3, i3⟩ := rdr_40.rd t3 w3
  have g3 := glue (o' := 6) e3 (by decide)
  obtain ⟨_, _, _, t4, w4⟩ := trod_field Try.underlying46 h hw (i := 4) (f := fld46_4) (T := 44) (o := 6) (n := 3) (by kernel_rfl) (by kernel_rfl) (by kernel_rfl) (by kernel_rfl)
  obtain ⟨x4, e4, i4⟩ := rdr_44.rd t4 w4
  have g4 := glue (o' := 9) e4 (by decide)
  refine ⟨⟨x0, x1, x2, x3, x4⟩, ?_, i0, i1, i2, i3, i4⟩
  have gN : cs.drop 9 = [] := List.drop_of_length_le (by omega)
  rw [List.drop_zero] at g0
  rw [g0, g1, g2, g3, g4, gN]; rfl⟩
instance rdr_48 : Rdr Try.prog enc_48 (InSl Try.prog enc_46 InRecord) := Rdr.slice rdr_46 rfl (fun _ => rfl) Try.underlying48
def InEntry : World → Entry → Prop := fun w x => InAny w x.from_ ∧ InAny w x.to_ ∧ InI64 w x.amount
instance rdr_82 : Rdr Try.prog enc_82 InEntry := ⟨fun {H enc w sp fuel cs d ps} h hw => by
  have hl := trod_len Try.underlying82 h
  have cn : Try.prog.cellsOf 82 = 17 := by kernel_rfl
  rw [cn] at hl
  obtain ⟨_, _, _, t0, w0⟩ := trod_field Try.underlying82 h hw (i := 0) (f := fld82_0) (T := 28) (o := 0) (n := 8) (by kernel_rfl) (by kernel_rfl) (by kernel_rfl) (by kernel_rfl)
  obtain ⟨x0, e0, i0⟩ := rdr_28.rd t0 w0
  have g0 := glue (o' := 8) e0 (by decide)
  obtain ⟨_, _, _, t1, w1⟩ := trod_field Try.underlying82 h hw (i := 1) (f := fld82_1) (T := 28) (o := 8) (n := 8) (by kernel_rfl) (by kernel_rfl) (by kernel_rfl) (by kernel_rfl)
  obtain ⟨x1, e1, i1⟩ := rdr_28.rd t1 w1
  have g1 := glue (o' := 16) e1 (by decide)
  obtain ⟨_, _, _, t2, w2⟩ := trod_field Try.underlying82 h hw (i := 2) (f := fld82_2) (T := 3) (o := 16) (n := 1) (by kernel_rfl) (by kernel_rfl) (by kernel_rfl) (by kernel_rfl)
  obtain ⟨x2, e2, i2⟩ := rdr_3.rd t2 w2
  have g2 := glue (o' := 17) e2 (by decide)
  refine ⟨⟨x0, x1, x2⟩, ?_, i0, i1, i2⟩
  have gN : cs.drop 17 = [] := List.drop_of_length_le (by omega)
  rw [List.drop_zero] at g0
  rw [g0, g1, g2, gN]; rfl⟩
instance rdr_77 : Rdr Try.prog enc_77 (InSl Try.prog enc_82 InEntry) := Rdr.slice rdr_82 rfl (fun _ => rfl) Try.underlying77
end Go.Cab
