/- The types of this seat, as they are laid in cells. -/
import Derived.Test.YtkjcjlcimgcfcaaBase
import Derived.Test.YtkjcjlcimgcfcaaRow
import Derived.Test.YtkjcjlcimgcfcaaMap
import Derived.Test.YtkjcjlcimgcfcaaAuto
import Derived.Test.YtkjcjlcimgcfcaaEqT
import Derived.Stop.BytesEq
import Derived.Laws.Pointers
import Derived.Laws.Cover3
namespace Go.Cab
set_option linter.unusedSimpArgs false
set_option linter.unusedVariables false
set_option linter.unusedSectionVars false
open Go Go.Proofs
theorem mixedT : Try.prog.follows .mixedOrders = true := by kernel_rfl
noncomputable instance enc_3 : Enc Try.prog Int where
  ty := 3
  size := 1
  bytes := 8
  info := Try.t3
  z := 0
  cells x := [.int .i64 x]
  val x := .int .i64 x
  len _ := rfl
  one x u h := by simp at h; subst h; first | rfl | (cases x <;> rfl)
  vcells x := by first | rfl | (cases x <;> rfl)
  pos := by decide
  hi := by kernel_rfl
  hz := by kernel_rfl
  hs := by kernel_rfl
  hb := by kernel_rfl
  loads x a w h := loads_one Try.isAgg3 _ a w h
instance : TyOf Try.prog 3 Int enc_3 := ⟨rfl⟩
instance : OneT Try.prog 3 := ⟨Try.isAgg3⟩
instance : SizeT Try.prog 3 1 := ⟨Try.sizeOf3⟩
noncomputable instance enc_4 : Enc Try.prog Bool where
  ty := 4
  size := 1
  bytes := 1
  info := Try.t4
  z := false
  cells x := [.bool x]
  val x := .bool x
  len _ := rfl
  one x u h := by simp at h; subst h; first | rfl | (cases x <;> rfl)
  vcells x := by first | rfl | (cases x <;> rfl)
  pos := by decide
  hi := by kernel_rfl
  hz := by kernel_rfl
  hs := by kernel_rfl
  hb := by kernel_rfl
  loads x a w h := loads_one Try.isAgg4 _ a w h
instance : TyOf Try.prog 4 Bool enc_4 := ⟨rfl⟩
instance : OneT Try.prog 4 := ⟨Try.isAgg4⟩
instance : SizeT Try.prog 4 1 := ⟨Try.sizeOf4⟩
noncomputable instance enc_5 : Enc Try.prog UInt8 where
  ty := 5
  size := 1
  bytes := 1
  info := Try.t5
  z := 0
  cells x := [.int .u8 (x.toNat : Int)]
  val x := .int .u8 (x.toNat : Int)
  len _ := rfl
  one x u h := by simp at h; subst h; first | rfl | (cases x <;> rfl)
  vcells x := by first | rfl | (cases x <;> rfl)
  pos := by decide
  hi := by kernel_rfl
  hz := by kernel_rfl
  hs := by kernel_rfl
  hb := by kernel_rfl
  loads x a w h := loads_one Try.isAgg5 _ a w h
instance : TyOf Try.prog 5 UInt8 enc_5 := ⟨rfl⟩
instance : OneT Try.prog 5 := ⟨Try.isAgg5⟩
instance : SizeT Try.prog 5 1 := ⟨Try.sizeOf5⟩
noncomputable instance enc_50 : Enc Try.prog Int16 where
  ty := 50
  size := 1
  bytes := 2
  info := Try.t50
  z := 0
  cells x := [.int .i16 x.toInt]
  val x := .int .i16 x.toInt
  len _ := rfl
  one x u h := by simp at h; subst h; first | rfl | (cases x <;> rfl)
  vcells x := by first | rfl | (cases x <;> rfl)
  pos := by decide
  hi := by kernel_rfl
  hz := by kernel_rfl
  hs := by kernel_rfl
  hb := by kernel_rfl
  loads x a w h := loads_one Try.isAgg50 _ a w h
instance : TyOf Try.prog 50 Int16 enc_50 := ⟨rfl⟩
instance : OneT Try.prog 50 := ⟨Try.isAgg50⟩
instance : SizeT Try.prog 50 1 := ⟨Try.sizeOf50⟩
@[reducible] noncomputable def enc_25 : Enc Try.prog Int where
  ty := 25
  size := 1
  bytes := 8
  info := Try.t25
  z := 0
  cells x := [.int .i64 x]
  val x := .int .i64 x
  len _ := rfl
  one x u h := by simp at h; subst h; first | rfl | (cases x <;> rfl)
  vcells x := by first | rfl | (cases x <;> rfl)
  pos := by decide
  hi := by kernel_rfl
  hz := by kernel_rfl
  hs := by kernel_rfl
  hb := by kernel_rfl
  loads x a w h := loads_one Try.isAgg25 _ a w h
instance : TyOf Try.prog 25 Int enc_25 := ⟨rfl⟩
instance : OneT Try.prog 25 := ⟨Try.isAgg25⟩
instance : SizeT Try.prog 25 1 := ⟨Try.sizeOf25⟩
structure ID where
  b0 : UInt8
  b1 : UInt8
  b2 : UInt8
  b3 : UInt8
  b4 : UInt8
  b5 : UInt8
  b6 : UInt8
  b7 : UInt8
deriving DecidableEq
@[reducible] def ID.cells (x : ID) : List Value := [.int .u8 (x.b0.toNat : Int), .int .u8 (x.b1.toNat : Int), .int .u8 (x.b2.toNat : Int), .int .u8 (x.b3.toNat : Int), .int .u8 (x.b4.toNat : Int), .int .u8 (x.b5.toNat : Int), .int .u8 (x.b6.toNat : Int), .int .u8 (x.b7.toNat : Int)]
@[reducible] def ID.val (x : ID) : Value := .agg #[.int .u8 (x.b0.toNat : Int), .int .u8 (x.b1.toNat : Int), .int .u8 (x.b2.toNat : Int), .int .u8 (x.b3.toNat : Int), .int .u8 (x.b4.toNat : Int), .int .u8 (x.b5.toNat : Int), .int .u8 (x.b6.toNat : Int), .int .u8 (x.b7.toNat : Int)]
noncomputable instance enc_28 : Enc Try.prog ID where
  ty := 28
  size := 8
  bytes := 8
  info := Try.t28
  z := ⟨0, 0, 0, 0, 0, 0, 0, 0⟩
  cells := ID.cells
  val := ID.val
  len _ := rfl
  one x u h := by simp only [ID.cells, SV.val, List.mem_cons, List.not_mem_nil, or_false] at h; rcases h with rfl | rfl | rfl | rfl | rfl | rfl | rfl | rfl <;> rfl
  vcells _ := rfl
  pos := by decide
  hi := by kernel_rfl
  hz := by kernel_rfl
  hs := by kernel_rfl
  hb := by kernel_rfl
  loads x a w h := loads_agg Try.isAgg28 Try.sizeOf28 x.cells rfl a w h
instance : TyOf Try.prog 28 ID enc_28 := ⟨rfl⟩
instance : FldOf Try.prog ID enc_28 0 UInt8 enc_5 (fun x => x.b0) (fun x y => { x with b0 := y }) := ⟨fun _ => by kernel_rfl, fun _ _ => by kernel_rfl, by decide⟩
instance : FldOf Try.prog ID enc_28 1 UInt8 enc_5 (fun x => x.b1) (fun x y => { x with b1 := y }) := ⟨fun _ => by kernel_rfl, fun _ _ => by kernel_rfl, by decide⟩
instance : FldOf Try.prog ID enc_28 2 UInt8 enc_5 (fun x => x.b2) (fun x y => { x with b2 := y }) := ⟨fun _ => by kernel_rfl, fun _ _ => by kernel_rfl, by decide⟩
instance : FldOf Try.prog ID enc_28 3 UInt8 enc_5 (fun x => x.b3) (fun x y => { x with b3 := y }) := ⟨fun _ => by kernel_rfl, fun _ _ => by kernel_rfl, by decide⟩
instance : FldOf Try.prog ID enc_28 4 UInt8 enc_5 (fun x => x.b4) (fun x y => { x with b4 := y }) := ⟨fun _ => by kernel_rfl, fun _ _ => by kernel_rfl, by decide⟩
instance : FldOf Try.prog ID enc_28 5 UInt8 enc_5 (fun x => x.b5) (fun x y => { x with b5 := y }) := ⟨fun _ => by kernel_rfl, fun _ _ => by kernel_rfl, by decide⟩
instance : FldOf Try.prog ID enc_28 6 UInt8 enc_5 (fun x => x.b6) (fun x y => { x with b6 := y }) := ⟨fun _ => by kernel_rfl, fun _ _ => by kernel_rfl, by decide⟩
instance : FldOf Try.prog ID enc_28 7 UInt8 enc_5 (fun x => x.b7) (fun x y => { x with b7 := y }) := ⟨fun _ => by kernel_rfl, fun _ _ => by kernel_rfl, by decide⟩
structure Point where
  x : Int16
  y : Int16
deriving DecidableEq
@[reducible] def Point.cells (x : Point) : List Value := [.int .i16 x.x.toInt, .int .i16 x.y.toInt]
@[reducible] def Point.val (x : Point) : Value := .agg #[.int .i16 x.x.toInt, .int .i16 x.y.toInt]
noncomputable instance enc_52 : Enc Try.prog Point where
  ty := 52
  size := 2
  bytes := 4
  info := Try.t52
  z := ⟨0, 0⟩
  cells := Point.cells
  val := Point.val
  len _ := rfl
  one x u h := by simp only [Point.cells, SV.val, List.mem_cons, List.not_mem_nil, or_false] at h; rcases h with rfl | rfl <;> rfl
  vcells _ := rfl
  pos := by decide
  hi := by kernel_rfl
  hz := by kernel_rfl
  hs := by kernel_rfl
  hb := by kernel_rfl
  loads x a w h := loads_agg Try.isAgg52 Try.sizeOf52 x.cells rfl a w h
instance : TyOf Try.prog 52 Point enc_52 := ⟨rfl⟩
instance : FldOf Try.prog Point enc_52 0 Int16 enc_50 (fun x => x.x) (fun x y => { x with x := y }) := ⟨fun _ => by kernel_rfl, fun _ _ => by kernel_rfl, by decide⟩
instance : FldOf Try.prog Point enc_52 1 Int16 enc_50 (fun x => x.y) (fun x y => { x with y := y }) := ⟨fun _ => by kernel_rfl, fun _ _ => by kernel_rfl, by decide⟩
structure Request where
  id : ID
  from_ : Point
  to_ : Point
  seats : UInt8
  classes : UInt8
  base : Int
  ttl : Int
deriving DecidableEq
@[reducible] def Request.cells (x : Request) : List Value := [.int .u8 (x.id.b0.toNat : Int), .int .u8 (x.id.b1.toNat : Int), .int .u8 (x.id.b2.toNat : Int), .int .u8 (x.id.b3.toNat : Int), .int .u8 (x.id.b4.toNat : Int), .int .u8 (x.id.b5.toNat : Int), .int .u8 (x.id.b6.toNat : Int), .int .u8 (x.id.b7.toNat : Int), .int .i16 x.from_.x.toInt, .int .i16 x.from_.y.toInt, .int .i16 x.to_.x.toInt, .int .i16 x.to_.y.toInt, .int .u8 (x.seats.toNat : Int), .int .u8 (x.classes.toNat : Int), .int .i64 x.base, .int .i64 x.ttl]
@[reducible] def Request.val (x : Request) : Value := .agg #[.int .u8 (x.id.b0.toNat : Int), .int .u8 (x.id.b1.toNat : Int), .int .u8 (x.id.b2.toNat : Int), .int .u8 (x.id.b3.toNat : Int), .int .u8 (x.id.b4.toNat : Int), .int .u8 (x.id.b5.toNat : Int), .int .u8 (x.id.b6.toNat : Int), .int .u8 (x.id.b7.toNat : Int), .int .i16 x.from_.x.toInt, .int .i16 x.from_.y.toInt, .int .i16 x.to_.x.toInt, .int .i16 x.to_.y.toInt, .int .u8 (x.seats.toNat : Int), .int .u8 (x.classes.toNat : Int), .int .i64 x.base, .int .i64 x.ttl]
noncomputable instance enc_54 : Enc Try.prog Request where
  ty := 54
  size := 16
  bytes := 40
  info := Try.t54
  z := ⟨⟨0, 0, 0, 0, 0, 0, 0, 0⟩, ⟨0, 0⟩, ⟨0, 0⟩, 0, 0, 0, 0⟩
  cells := Request.cells
  val := Request.val
  len _ := rfl
  one x u h := by simp only [Request.cells, SV.val, List.mem_cons, List.not_mem_nil, or_false] at h; rcases h with rfl | rfl | rfl | rfl | rfl | rfl | rfl | rfl | rfl | rfl | rfl | rfl | rfl | rfl | rfl | rfl <;> rfl
  vcells _ := rfl
  pos := by decide
  hi := by kernel_rfl
  hz := by kernel_rfl
  hs := by kernel_rfl
  hb := by kernel_rfl
  loads x a w h := loads_agg Try.isAgg54 Try.sizeOf54 x.cells rfl a w h
instance : TyOf Try.prog 54 Request enc_54 := ⟨rfl⟩
instance : FldOf Try.prog Request enc_54 0 ID enc_28 (fun x => x.id) (fun x y => { x with id := y }) := ⟨fun _ => by kernel_rfl, fun _ _ => by kernel_rfl, by decide⟩
instance : FldOf Try.prog Request enc_54 8 Point enc_52 (fun x => x.from_) (fun x y => { x with from_ := y }) := ⟨fun _ => by kernel_rfl, fun _ _ => by kernel_rfl, by decide⟩
instance : FldOf Try.prog Request enc_54 10 Point enc_52 (fun x => x.to_) (fun x y => { x with to_ := y }) := ⟨fun _ => by kernel_rfl, fun _ _ => by kernel_rfl, by decide⟩
instance : FldOf Try.prog Request enc_54 12 UInt8 enc_5 (fun x => x.seats) (fun x y => { x with seats := y }) := ⟨fun _ => by kernel_rfl, fun _ _ => by kernel_rfl, by decide⟩
instance : FldOf Try.prog Request enc_54 13 UInt8 enc_5 (fun x => x.classes) (fun x y => { x with classes := y }) := ⟨fun _ => by kernel_rfl, fun _ _ => by kernel_rfl, by decide⟩
instance : FldOf Try.prog Request enc_54 14 Int enc_3 (fun x => x.base) (fun x y => { x with base := y }) := ⟨fun _ => by kernel_rfl, fun _ _ => by kernel_rfl, by decide⟩
instance : FldOf Try.prog Request enc_54 15 Int enc_3 (fun x => x.ttl) (fun x y => { x with ttl := y }) := ⟨fun _ => by kernel_rfl, fun _ _ => by kernel_rfl, by decide⟩
structure Waiting where
  request : Request
  since : Int
  number : Int
deriving DecidableEq
@[reducible] def Waiting.cells (x : Waiting) : List Value := [.int .u8 (x.request.id.b0.toNat : Int), .int .u8 (x.request.id.b1.toNat : Int), .int .u8 (x.request.id.b2.toNat : Int), .int .u8 (x.request.id.b3.toNat : Int), .int .u8 (x.request.id.b4.toNat : Int), .int .u8 (x.request.id.b5.toNat : Int), .int .u8 (x.request.id.b6.toNat : Int), .int .u8 (x.request.id.b7.toNat : Int), .int .i16 x.request.from_.x.toInt, .int .i16 x.request.from_.y.toInt, .int .i16 x.request.to_.x.toInt, .int .i16 x.request.to_.y.toInt, .int .u8 (x.request.seats.toNat : Int), .int .u8 (x.request.classes.toNat : Int), .int .i64 x.request.base, .int .i64 x.request.ttl, .int .i64 x.since, .int .i64 x.number]
@[reducible] def Waiting.val (x : Waiting) : Value := .agg #[.int .u8 (x.request.id.b0.toNat : Int), .int .u8 (x.request.id.b1.toNat : Int), .int .u8 (x.request.id.b2.toNat : Int), .int .u8 (x.request.id.b3.toNat : Int), .int .u8 (x.request.id.b4.toNat : Int), .int .u8 (x.request.id.b5.toNat : Int), .int .u8 (x.request.id.b6.toNat : Int), .int .u8 (x.request.id.b7.toNat : Int), .int .i16 x.request.from_.x.toInt, .int .i16 x.request.from_.y.toInt, .int .i16 x.request.to_.x.toInt, .int .i16 x.request.to_.y.toInt, .int .u8 (x.request.seats.toNat : Int), .int .u8 (x.request.classes.toNat : Int), .int .i64 x.request.base, .int .i64 x.request.ttl, .int .i64 x.since, .int .i64 x.number]
noncomputable instance enc_56 : Enc Try.prog Waiting where
  ty := 56
  size := 18
  bytes := 56
  info := Try.t56
  z := ⟨⟨⟨0, 0, 0, 0, 0, 0, 0, 0⟩, ⟨0, 0⟩, ⟨0, 0⟩, 0, 0, 0, 0⟩, 0, 0⟩
  cells := Waiting.cells
  val := Waiting.val
  len _ := rfl
  one x u h := by simp only [Waiting.cells, SV.val, List.mem_cons, List.not_mem_nil, or_false] at h; rcases h with rfl | rfl | rfl | rfl | rfl | rfl | rfl | rfl | rfl | rfl | rfl | rfl | rfl | rfl | rfl | rfl | rfl | rfl <;> rfl
  vcells _ := rfl
  pos := by decide
  hi := by kernel_rfl
  hz := by kernel_rfl
  hs := by kernel_rfl
  hb := by kernel_rfl
  loads x a w h := loads_agg Try.isAgg56 Try.sizeOf56 x.cells rfl a w h
instance : TyOf Try.prog 56 Waiting enc_56 := ⟨rfl⟩
instance : FldOf Try.prog Waiting enc_56 0 Request enc_54 (fun x => x.request) (fun x y => { x with request := y }) := ⟨fun _ => by kernel_rfl, fun _ _ => by kernel_rfl, by decide⟩
instance : FldOf Try.prog Waiting enc_56 16 Int enc_3 (fun x => x.since) (fun x y => { x with since := y }) := ⟨fun _ => by kernel_rfl, fun _ _ => by kernel_rfl, by decide⟩
instance : FldOf Try.prog Waiting enc_56 17 Int enc_3 (fun x => x.number) (fun x y => { x with number := y }) := ⟨fun _ => by kernel_rfl, fun _ _ => by kernel_rfl, by decide⟩
structure Driver where
  id : ID
  at_ : Point
  seats : UInt8
  klass : UInt8
  radius : Int
deriving DecidableEq
@[reducible] def Driver.cells (x : Driver) : List Value := [.int .u8 (x.id.b0.toNat : Int), .int .u8 (x.id.b1.toNat : Int), .int .u8 (x.id.b2.toNat : Int), .int .u8 (x.id.b3.toNat : Int), .int .u8 (x.id.b4.toNat : Int), .int .u8 (x.id.b5.toNat : Int), .int .u8 (x.id.b6.toNat : Int), .int .u8 (x.id.b7.toNat : Int), .int .i16 x.at_.x.toInt, .int .i16 x.at_.y.toInt, .int .u8 (x.seats.toNat : Int), .int .u8 (x.klass.toNat : Int), .int .i64 x.radius]
@[reducible] def Driver.val (x : Driver) : Value := .agg #[.int .u8 (x.id.b0.toNat : Int), .int .u8 (x.id.b1.toNat : Int), .int .u8 (x.id.b2.toNat : Int), .int .u8 (x.id.b3.toNat : Int), .int .u8 (x.id.b4.toNat : Int), .int .u8 (x.id.b5.toNat : Int), .int .u8 (x.id.b6.toNat : Int), .int .u8 (x.id.b7.toNat : Int), .int .i16 x.at_.x.toInt, .int .i16 x.at_.y.toInt, .int .u8 (x.seats.toNat : Int), .int .u8 (x.klass.toNat : Int), .int .i64 x.radius]
noncomputable instance enc_124 : Enc Try.prog Driver where
  ty := 124
  size := 13
  bytes := 24
  info := Try.t124
  z := ⟨⟨0, 0, 0, 0, 0, 0, 0, 0⟩, ⟨0, 0⟩, 0, 0, 0⟩
  cells := Driver.cells
  val := Driver.val
  len _ := rfl
  one x u h := by simp only [Driver.cells, SV.val, List.mem_cons, List.not_mem_nil, or_false] at h; rcases h with rfl | rfl | rfl | rfl | rfl | rfl | rfl | rfl | rfl | rfl | rfl | rfl | rfl <;> rfl
  vcells _ := rfl
  pos := by decide
  hi := by kernel_rfl
  hz := by kernel_rfl
  hs := by kernel_rfl
  hb := by kernel_rfl
  loads x a w h := loads_agg Try.isAgg124 Try.sizeOf124 x.cells rfl a w h
instance : TyOf Try.prog 124 Driver enc_124 := ⟨rfl⟩
instance : FldOf Try.prog Driver enc_124 0 ID enc_28 (fun x => x.id) (fun x y => { x with id := y }) := ⟨fun _ => by kernel_rfl, fun _ _ => by kernel_rfl, by decide⟩
instance : FldOf Try.prog Driver enc_124 8 Point enc_52 (fun x => x.at_) (fun x y => { x with at_ := y }) := ⟨fun _ => by kernel_rfl, fun _ _ => by kernel_rfl, by decide⟩
instance : FldOf Try.prog Driver enc_124 10 UInt8 enc_5 (fun x => x.seats) (fun x y => { x with seats := y }) := ⟨fun _ => by kernel_rfl, fun _ _ => by kernel_rfl, by decide⟩
instance : FldOf Try.prog Driver enc_124 11 UInt8 enc_5 (fun x => x.klass) (fun x y => { x with klass := y }) := ⟨fun _ => by kernel_rfl, fun _ _ => by kernel_rfl, by decide⟩
instance : FldOf Try.prog Driver enc_124 12 Int enc_3 (fun x => x.radius) (fun x y => { x with radius := y }) := ⟨fun _ => by kernel_rfl, fun _ _ => by kernel_rfl, by decide⟩
structure Idle where
  driver : Driver
  number : Int
deriving DecidableEq
@[reducible] def Idle.cells (x : Idle) : List Value := [.int .u8 (x.driver.id.b0.toNat : Int), .int .u8 (x.driver.id.b1.toNat : Int), .int .u8 (x.driver.id.b2.toNat : Int), .int .u8 (x.driver.id.b3.toNat : Int), .int .u8 (x.driver.id.b4.toNat : Int), .int .u8 (x.driver.id.b5.toNat : Int), .int .u8 (x.driver.id.b6.toNat : Int), .int .u8 (x.driver.id.b7.toNat : Int), .int .i16 x.driver.at_.x.toInt, .int .i16 x.driver.at_.y.toInt, .int .u8 (x.driver.seats.toNat : Int), .int .u8 (x.driver.klass.toNat : Int), .int .i64 x.driver.radius, .int .i64 x.number]
@[reducible] def Idle.val (x : Idle) : Value := .agg #[.int .u8 (x.driver.id.b0.toNat : Int), .int .u8 (x.driver.id.b1.toNat : Int), .int .u8 (x.driver.id.b2.toNat : Int), .int .u8 (x.driver.id.b3.toNat : Int), .int .u8 (x.driver.id.b4.toNat : Int), .int .u8 (x.driver.id.b5.toNat : Int), .int .u8 (x.driver.id.b6.toNat : Int), .int .u8 (x.driver.id.b7.toNat : Int), .int .i16 x.driver.at_.x.toInt, .int .i16 x.driver.at_.y.toInt, .int .u8 (x.driver.seats.toNat : Int), .int .u8 (x.driver.klass.toNat : Int), .int .i64 x.driver.radius, .int .i64 x.number]
noncomputable instance enc_126 : Enc Try.prog Idle where
  ty := 126
  size := 14
  bytes := 32
  info := Try.t126
  z := ⟨⟨⟨0, 0, 0, 0, 0, 0, 0, 0⟩, ⟨0, 0⟩, 0, 0, 0⟩, 0⟩
  cells := Idle.cells
  val := Idle.val
  len _ := rfl
  one x u h := by simp only [Idle.cells, SV.val, List.mem_cons, List.not_mem_nil, or_false] at h; rcases h with rfl | rfl | rfl | rfl | rfl | rfl | rfl | rfl | rfl | rfl | rfl | rfl | rfl | rfl <;> rfl
  vcells _ := rfl
  pos := by decide
  hi := by kernel_rfl
  hz := by kernel_rfl
  hs := by kernel_rfl
  hb := by kernel_rfl
  loads x a w h := loads_agg Try.isAgg126 Try.sizeOf126 x.cells rfl a w h
instance : TyOf Try.prog 126 Idle enc_126 := ⟨rfl⟩
instance : FldOf Try.prog Idle enc_126 0 Driver enc_124 (fun x => x.driver) (fun x y => { x with driver := y }) := ⟨fun _ => by kernel_rfl, fun _ _ => by kernel_rfl, by decide⟩
instance : FldOf Try.prog Idle enc_126 13 Int enc_3 (fun x => x.number) (fun x y => { x with number := y }) := ⟨fun _ => by kernel_rfl, fun _ _ => by kernel_rfl, by decide⟩
structure Edge where
  r : Int
  c : Int
  w : Int
deriving DecidableEq
@[reducible] def Edge.cells (x : Edge) : List Value := [.int .i64 x.r, .int .i64 x.c, .int .i64 x.w]
@[reducible] def Edge.val (x : Edge) : Value := .agg #[.int .i64 x.r, .int .i64 x.c, .int .i64 x.w]
noncomputable instance enc_103 : Enc Try.prog Edge where
  ty := 103
  size := 3
  bytes := 24
  info := Try.t103
  z := ⟨0, 0, 0⟩
  cells := Edge.cells
  val := Edge.val
  len _ := rfl
  one x u h := by simp only [Edge.cells, SV.val, List.mem_cons, List.not_mem_nil, or_false] at h; rcases h with rfl | rfl | rfl <;> rfl
  vcells _ := rfl
  pos := by decide
  hi := by kernel_rfl
  hz := by kernel_rfl
  hs := by kernel_rfl
  hb := by kernel_rfl
  loads x a w h := loads_agg Try.isAgg103 Try.sizeOf103 x.cells rfl a w h
instance : TyOf Try.prog 103 Edge enc_103 := ⟨rfl⟩
instance : FldOf Try.prog Edge enc_103 0 Int enc_3 (fun x => x.r) (fun x y => { x with r := y }) := ⟨fun _ => by kernel_rfl, fun _ _ => by kernel_rfl, by decide⟩
instance : FldOf Try.prog Edge enc_103 1 Int enc_3 (fun x => x.c) (fun x y => { x with c := y }) := ⟨fun _ => by kernel_rfl, fun _ _ => by kernel_rfl, by decide⟩
instance : FldOf Try.prog Edge enc_103 2 Int enc_3 (fun x => x.w) (fun x y => { x with w := y }) := ⟨fun _ => by kernel_rfl, fun _ _ => by kernel_rfl, by decide⟩
structure Pair where
  r : Int
  c : Int
deriving DecidableEq
@[reducible] def Pair.cells (x : Pair) : List Value := [.int .i64 x.r, .int .i64 x.c]
@[reducible] def Pair.val (x : Pair) : Value := .agg #[.int .i64 x.r, .int .i64 x.c]
noncomputable instance enc_105 : Enc Try.prog Pair where
  ty := 105
  size := 2
  bytes := 16
  info := Try.t105
  z := ⟨0, 0⟩
  cells := Pair.cells
  val := Pair.val
  len _ := rfl
  one x u h := by simp only [Pair.cells, SV.val, List.mem_cons, List.not_mem_nil, or_false] at h; rcases h with rfl | rfl <;> rfl
  vcells _ := rfl
  pos := by decide
  hi := by kernel_rfl
  hz := by kernel_rfl
  hs := by kernel_rfl
  hb := by kernel_rfl
  loads x a w h := loads_agg Try.isAgg105 Try.sizeOf105 x.cells rfl a w h
instance : TyOf Try.prog 105 Pair enc_105 := ⟨rfl⟩
instance : FldOf Try.prog Pair enc_105 0 Int enc_3 (fun x => x.r) (fun x y => { x with r := y }) := ⟨fun _ => by kernel_rfl, fun _ _ => by kernel_rfl, by decide⟩
instance : FldOf Try.prog Pair enc_105 1 Int enc_3 (fun x => x.c) (fun x y => { x with c := y }) := ⟨fun _ => by kernel_rfl, fun _ _ => by kernel_rfl, by decide⟩
@[reducible] noncomputable def enc_38 : Enc Try.prog SV where
  ty := 38
  size := 1
  bytes := 24
  info := Try.t38
  z := ⟨none, 0, 0⟩
  cells x := [x.val]
  val x := x.val
  len _ := rfl
  one x u h := by simp at h; subst h; first | rfl | (cases x <;> rfl)
  vcells x := by first | rfl | (cases x <;> rfl)
  pos := by decide
  hi := by kernel_rfl
  hz := by kernel_rfl
  hs := by kernel_rfl
  hb := by kernel_rfl
  loads x a w h := loads_one Try.isAgg38 _ a w h
instance : TyOf Try.prog 38 SV enc_38 := ⟨rfl⟩
instance : OneT Try.prog 38 := ⟨Try.isAgg38⟩
instance : SizeT Try.prog 38 1 := ⟨Try.sizeOf38⟩
structure Graph where
  rows : Int
  cols : Int
  edges : SV
deriving DecidableEq
@[reducible] def Graph.cells (x : Graph) : List Value := [.int .i64 x.rows, .int .i64 x.cols, x.edges.val]
@[reducible] def Graph.val (x : Graph) : Value := .agg #[.int .i64 x.rows, .int .i64 x.cols, x.edges.val]
noncomputable instance enc_40 : Enc Try.prog Graph where
  ty := 40
  size := 3
  bytes := 40
  info := Try.t40
  z := ⟨0, 0, ⟨none, 0, 0⟩⟩
  cells := Graph.cells
  val := Graph.val
  len _ := rfl
  one x u h := by simp only [Graph.cells, SV.val, List.mem_cons, List.not_mem_nil, or_false] at h; rcases h with rfl | rfl | rfl <;> rfl
  vcells _ := rfl
  pos := by decide
  hi := by kernel_rfl
  hz := by kernel_rfl
  hs := by kernel_rfl
  hb := by kernel_rfl
  loads x a w h := loads_agg Try.isAgg40 Try.sizeOf40 x.cells rfl a w h
instance : TyOf Try.prog 40 Graph enc_40 := ⟨rfl⟩
instance : FldOf Try.prog Graph enc_40 0 Int enc_3 (fun x => x.rows) (fun x y => { x with rows := y }) := ⟨fun _ => by kernel_rfl, fun _ _ => by kernel_rfl, by decide⟩
instance : FldOf Try.prog Graph enc_40 1 Int enc_3 (fun x => x.cols) (fun x y => { x with cols := y }) := ⟨fun _ => by kernel_rfl, fun _ _ => by kernel_rfl, by decide⟩
instance : FldOf Try.prog Graph enc_40 2 SV enc_38 (fun x => x.edges) (fun x y => { x with edges := y }) := ⟨fun _ => by kernel_rfl, fun _ _ => by kernel_rfl, by decide⟩
@[reducible] noncomputable def enc_41 : Enc Try.prog SV where
  ty := 41
  size := 1
  bytes := 24
  info := Try.t41
  z := ⟨none, 0, 0⟩
  cells x := [x.val]
  val x := x.val
  len _ := rfl
  one x u h := by simp at h; subst h; first | rfl | (cases x <;> rfl)
  vcells x := by first | rfl | (cases x <;> rfl)
  pos := by decide
  hi := by kernel_rfl
  hz := by kernel_rfl
  hs := by kernel_rfl
  hb := by kernel_rfl
  loads x a w h := loads_one Try.isAgg41 _ a w h
instance : TyOf Try.prog 41 SV enc_41 := ⟨rfl⟩
instance : OneT Try.prog 41 := ⟨Try.isAgg41⟩
instance : SizeT Try.prog 41 1 := ⟨Try.sizeOf41⟩
@[reducible] noncomputable def enc_42 : Enc Try.prog SV where
  ty := 42
  size := 1
  bytes := 24
  info := Try.t42
  z := ⟨none, 0, 0⟩
  cells x := [x.val]
  val x := x.val
  len _ := rfl
  one x u h := by simp at h; subst h; first | rfl | (cases x <;> rfl)
  vcells x := by first | rfl | (cases x <;> rfl)
  pos := by decide
  hi := by kernel_rfl
  hz := by kernel_rfl
  hs := by kernel_rfl
  hb := by kernel_rfl
  loads x a w h := loads_one Try.isAgg42 _ a w h
instance : TyOf Try.prog 42 SV enc_42 := ⟨rfl⟩
instance : OneT Try.prog 42 := ⟨Try.isAgg42⟩
instance : SizeT Try.prog 42 1 := ⟨Try.sizeOf42⟩
structure Cert where
  pairs : SV
  ys : SV
  zs : SV
deriving DecidableEq
@[reducible] def Cert.cells (x : Cert) : List Value := [x.pairs.val, x.ys.val, x.zs.val]
@[reducible] def Cert.val (x : Cert) : Value := .agg #[x.pairs.val, x.ys.val, x.zs.val]
noncomputable instance enc_44 : Enc Try.prog Cert where
  ty := 44
  size := 3
  bytes := 72
  info := Try.t44
  z := ⟨⟨none, 0, 0⟩, ⟨none, 0, 0⟩, ⟨none, 0, 0⟩⟩
  cells := Cert.cells
  val := Cert.val
  len _ := rfl
  one x u h := by simp only [Cert.cells, SV.val, List.mem_cons, List.not_mem_nil, or_false] at h; rcases h with rfl | rfl | rfl <;> rfl
  vcells _ := rfl
  pos := by decide
  hi := by kernel_rfl
  hz := by kernel_rfl
  hs := by kernel_rfl
  hb := by kernel_rfl
  loads x a w h := loads_agg Try.isAgg44 Try.sizeOf44 x.cells rfl a w h
instance : TyOf Try.prog 44 Cert enc_44 := ⟨rfl⟩
instance : FldOf Try.prog Cert enc_44 0 SV enc_41 (fun x => x.pairs) (fun x y => { x with pairs := y }) := ⟨fun _ => by kernel_rfl, fun _ _ => by kernel_rfl, by decide⟩
instance : FldOf Try.prog Cert enc_44 1 SV enc_42 (fun x => x.ys) (fun x y => { x with ys := y }) := ⟨fun _ => by kernel_rfl, fun _ _ => by kernel_rfl, by decide⟩
instance : FldOf Try.prog Cert enc_44 2 SV enc_42 (fun x => x.zs) (fun x y => { x with zs := y }) := ⟨fun _ => by kernel_rfl, fun _ _ => by kernel_rfl, by decide⟩
@[reducible] noncomputable def enc_36 : Enc Try.prog SV where
  ty := 36
  size := 1
  bytes := 24
  info := Try.t36
  z := ⟨none, 0, 0⟩
  cells x := [x.val]
  val x := x.val
  len _ := rfl
  one x u h := by simp at h; subst h; first | rfl | (cases x <;> rfl)
  vcells x := by first | rfl | (cases x <;> rfl)
  pos := by decide
  hi := by kernel_rfl
  hz := by kernel_rfl
  hs := by kernel_rfl
  hb := by kernel_rfl
  loads x a w h := loads_one Try.isAgg36 _ a w h
instance : TyOf Try.prog 36 SV enc_36 := ⟨rfl⟩
instance : OneT Try.prog 36 := ⟨Try.isAgg36⟩
instance : SizeT Try.prog 36 1 := ⟨Try.sizeOf36⟩
@[reducible] noncomputable def enc_37 : Enc Try.prog SV where
  ty := 37
  size := 1
  bytes := 24
  info := Try.t37
  z := ⟨none, 0, 0⟩
  cells x := [x.val]
  val x := x.val
  len _ := rfl
  one x u h := by simp at h; subst h; first | rfl | (cases x <;> rfl)
  vcells x := by first | rfl | (cases x <;> rfl)
  pos := by decide
  hi := by kernel_rfl
  hz := by kernel_rfl
  hs := by kernel_rfl
  hb := by kernel_rfl
  loads x a w h := loads_one Try.isAgg37 _ a w h
instance : TyOf Try.prog 37 SV enc_37 := ⟨rfl⟩
instance : OneT Try.prog 37 := ⟨Try.isAgg37⟩
instance : SizeT Try.prog 37 1 := ⟨Try.sizeOf37⟩
structure Record where
  tick : Int
  waiting : SV
  idle : SV
  g : Graph
  cert : Cert
deriving DecidableEq
@[reducible] def Record.cells (x : Record) : List Value := [.int .i64 x.tick, x.waiting.val, x.idle.val, .int .i64 x.g.rows, .int .i64 x.g.cols, x.g.edges.val, x.cert.pairs.val, x.cert.ys.val, x.cert.zs.val]
@[reducible] def Record.val (x : Record) : Value := .agg #[.int .i64 x.tick, x.waiting.val, x.idle.val, .int .i64 x.g.rows, .int .i64 x.g.cols, x.g.edges.val, x.cert.pairs.val, x.cert.ys.val, x.cert.zs.val]
noncomputable instance enc_46 : Enc Try.prog Record where
  ty := 46
  size := 9
  bytes := 168
  info := Try.t46
  z := ⟨0, ⟨none, 0, 0⟩, ⟨none, 0, 0⟩, ⟨0, 0, ⟨none, 0, 0⟩⟩, ⟨⟨none, 0, 0⟩, ⟨none, 0, 0⟩, ⟨none, 0, 0⟩⟩⟩
  cells := Record.cells
  val := Record.val
  len _ := rfl
  one x u h := by simp only [Record.cells, SV.val, List.mem_cons, List.not_mem_nil, or_false] at h; rcases h with rfl | rfl | rfl | rfl | rfl | rfl | rfl | rfl | rfl <;> rfl
  vcells _ := rfl
  pos := by decide
  hi := by kernel_rfl
  hz := by kernel_rfl
  hs := by kernel_rfl
  hb := by kernel_rfl
  loads x a w h := loads_agg Try.isAgg46 Try.sizeOf46 x.cells rfl a w h
instance : TyOf Try.prog 46 Record enc_46 := ⟨rfl⟩
instance : FldOf Try.prog Record enc_46 0 Int enc_3 (fun x => x.tick) (fun x y => { x with tick := y }) := ⟨fun _ => by kernel_rfl, fun _ _ => by kernel_rfl, by decide⟩
instance : FldOf Try.prog Record enc_46 1 SV enc_36 (fun x => x.waiting) (fun x y => { x with waiting := y }) := ⟨fun _ => by kernel_rfl, fun _ _ => by kernel_rfl, by decide⟩
instance : FldOf Try.prog Record enc_46 2 SV enc_37 (fun x => x.idle) (fun x y => { x with idle := y }) := ⟨fun _ => by kernel_rfl, fun _ _ => by kernel_rfl, by decide⟩
instance : FldOf Try.prog Record enc_46 3 Graph enc_40 (fun x => x.g) (fun x y => { x with g := y }) := ⟨fun _ => by kernel_rfl, fun _ _ => by kernel_rfl, by decide⟩
instance : FldOf Try.prog Record enc_46 6 Cert enc_44 (fun x => x.cert) (fun x y => { x with cert := y }) := ⟨fun _ => by kernel_rfl, fun _ _ => by kernel_rfl, by decide⟩
structure Claim where
  g : Graph
  cert : Cert
deriving DecidableEq
@[reducible] def Claim.cells (x : Claim) : List Value := [.int .i64 x.g.rows, .int .i64 x.g.cols, x.g.edges.val, x.cert.pairs.val, x.cert.ys.val, x.cert.zs.val]
@[reducible] def Claim.val (x : Claim) : Value := .agg #[.int .i64 x.g.rows, .int .i64 x.g.cols, x.g.edges.val, x.cert.pairs.val, x.cert.ys.val, x.cert.zs.val]
noncomputable instance enc_155 : Enc Try.prog Claim where
  ty := 155
  size := 6
  bytes := 112
  info := Try.t155
  z := ⟨⟨0, 0, ⟨none, 0, 0⟩⟩, ⟨⟨none, 0, 0⟩, ⟨none, 0, 0⟩, ⟨none, 0, 0⟩⟩⟩
  cells := Claim.cells
  val := Claim.val
  len _ := rfl
  one x u h := by simp only [Claim.cells, SV.val, List.mem_cons, List.not_mem_nil, or_false] at h; rcases h with rfl | rfl | rfl | rfl | rfl | rfl <;> rfl
  vcells _ := rfl
  pos := by decide
  hi := by kernel_rfl
  hz := by kernel_rfl
  hs := by kernel_rfl
  hb := by kernel_rfl
  loads x a w h := loads_agg Try.isAgg155 Try.sizeOf155 x.cells rfl a w h
instance : TyOf Try.prog 155 Claim enc_155 := ⟨rfl⟩
instance : FldOf Try.prog Claim enc_155 0 Graph enc_40 (fun x => x.g) (fun x y => { x with g := y }) := ⟨fun _ => by kernel_rfl, fun _ _ => by kernel_rfl, by decide⟩
instance : FldOf Try.prog Claim enc_155 3 Cert enc_44 (fun x => x.cert) (fun x y => { x with cert := y }) := ⟨fun _ => by kernel_rfl, fun _ _ => by kernel_rfl, by decide⟩
structure Standing where
  id : ID
  good : Int
deriving DecidableEq
@[reducible] def Standing.cells (x : Standing) : List Value := [.int .u8 (x.id.b0.toNat : Int), .int .u8 (x.id.b1.toNat : Int), .int .u8 (x.id.b2.toNat : Int), .int .u8 (x.id.b3.toNat : Int), .int .u8 (x.id.b4.toNat : Int), .int .u8 (x.id.b5.toNat : Int), .int .u8 (x.id.b6.toNat : Int), .int .u8 (x.id.b7.toNat : Int), .int .i64 x.good]
@[reducible] def Standing.val (x : Standing) : Value := .agg #[.int .u8 (x.id.b0.toNat : Int), .int .u8 (x.id.b1.toNat : Int), .int .u8 (x.id.b2.toNat : Int), .int .u8 (x.id.b3.toNat : Int), .int .u8 (x.id.b4.toNat : Int), .int .u8 (x.id.b5.toNat : Int), .int .u8 (x.id.b6.toNat : Int), .int .u8 (x.id.b7.toNat : Int), .int .i64 x.good]
noncomputable instance enc_112 : Enc Try.prog Standing where
  ty := 112
  size := 9
  bytes := 16
  info := Try.t112
  z := ⟨⟨0, 0, 0, 0, 0, 0, 0, 0⟩, 0⟩
  cells := Standing.cells
  val := Standing.val
  len _ := rfl
  one x u h := by simp only [Standing.cells, SV.val, List.mem_cons, List.not_mem_nil, or_false] at h; rcases h with rfl | rfl | rfl | rfl | rfl | rfl | rfl | rfl | rfl <;> rfl
  vcells _ := rfl
  pos := by decide
  hi := by kernel_rfl
  hz := by kernel_rfl
  hs := by kernel_rfl
  hb := by kernel_rfl
  loads x a w h := loads_agg Try.isAgg112 Try.sizeOf112 x.cells rfl a w h
instance : TyOf Try.prog 112 Standing enc_112 := ⟨rfl⟩
instance : FldOf Try.prog Standing enc_112 0 ID enc_28 (fun x => x.id) (fun x y => { x with id := y }) := ⟨fun _ => by kernel_rfl, fun _ _ => by kernel_rfl, by decide⟩
instance : FldOf Try.prog Standing enc_112 8 Int enc_3 (fun x => x.good) (fun x y => { x with good := y }) := ⟨fun _ => by kernel_rfl, fun _ _ => by kernel_rfl, by decide⟩
@[reducible] noncomputable def enc_62 : Enc Try.prog (Option Nat) where
  ty := 62
  size := 1
  bytes := 8
  info := Try.t62
  z := none
  cells x := [.map x]
  val x := .map x
  len _ := rfl
  one x u h := by simp at h; subst h; first | rfl | (cases x <;> rfl)
  vcells x := by first | rfl | (cases x <;> rfl)
  pos := by decide
  hi := by kernel_rfl
  hz := by kernel_rfl
  hs := by kernel_rfl
  hb := by kernel_rfl
  loads x a w h := loads_one Try.isAgg62 _ a w h
instance : TyOf Try.prog 62 (Option Nat) enc_62 := ⟨rfl⟩
instance : OneT Try.prog 62 := ⟨Try.isAgg62⟩
instance : SizeT Try.prog 62 1 := ⟨Try.sizeOf62⟩
@[reducible] noncomputable def enc_34 : Enc Try.prog SV where
  ty := 34
  size := 1
  bytes := 24
  info := Try.t34
  z := ⟨none, 0, 0⟩
  cells x := [x.val]
  val x := x.val
  len _ := rfl
  one x u h := by simp at h; subst h; first | rfl | (cases x <;> rfl)
  vcells x := by first | rfl | (cases x <;> rfl)
  pos := by decide
  hi := by kernel_rfl
  hz := by kernel_rfl
  hs := by kernel_rfl
  hb := by kernel_rfl
  loads x a w h := loads_one Try.isAgg34 _ a w h
instance : TyOf Try.prog 34 SV enc_34 := ⟨rfl⟩
instance : OneT Try.prog 34 := ⟨Try.isAgg34⟩
instance : SizeT Try.prog 34 1 := ⟨Try.sizeOf34⟩
structure WatchV where
  times : Option Nat
  worst : Int
  tick : Int
  standing : SV
deriving DecidableEq
@[reducible] def WatchV.cells (x : WatchV) : List Value := [.map x.times, .int .i64 x.worst, .int .i64 x.tick, x.standing.val]
@[reducible] def WatchV.val (x : WatchV) : Value := .agg #[.map x.times, .int .i64 x.worst, .int .i64 x.tick, x.standing.val]
noncomputable instance enc_64 : Enc Try.prog WatchV where
  ty := 64
  size := 4
  bytes := 48
  info := Try.t64
  z := ⟨none, 0, 0, ⟨none, 0, 0⟩⟩
  cells := WatchV.cells
  val := WatchV.val
  len _ := rfl
  one x u h := by simp only [WatchV.cells, SV.val, List.mem_cons, List.not_mem_nil, or_false] at h; rcases h with rfl | rfl | rfl | rfl <;> rfl
  vcells _ := rfl
  pos := by decide
  hi := by kernel_rfl
  hz := by kernel_rfl
  hs := by kernel_rfl
  hb := by kernel_rfl
  loads x a w h := loads_agg Try.isAgg64 Try.sizeOf64 x.cells rfl a w h
instance : TyOf Try.prog 64 WatchV enc_64 := ⟨rfl⟩
instance : FldOf Try.prog WatchV enc_64 0 (Option Nat) enc_62 (fun x => x.times) (fun x y => { x with times := y }) := ⟨fun _ => by kernel_rfl, fun _ _ => by kernel_rfl, by decide⟩
instance : FldOf Try.prog WatchV enc_64 1 Int enc_3 (fun x => x.worst) (fun x y => { x with worst := y }) := ⟨fun _ => by kernel_rfl, fun _ _ => by kernel_rfl, by decide⟩
instance : FldOf Try.prog WatchV enc_64 2 Int enc_3 (fun x => x.tick) (fun x y => { x with tick := y }) := ⟨fun _ => by kernel_rfl, fun _ _ => by kernel_rfl, by decide⟩
instance : FldOf Try.prog WatchV enc_64 3 SV enc_34 (fun x => x.standing) (fun x y => { x with standing := y }) := ⟨fun _ => by kernel_rfl, fun _ _ => by kernel_rfl, by decide⟩
@[reducible] noncomputable def enc_48 : Enc Try.prog SV where
  ty := 48
  size := 1
  bytes := 24
  info := Try.t48
  z := ⟨none, 0, 0⟩
  cells x := [x.val]
  val x := x.val
  len _ := rfl
  one x u h := by simp at h; subst h; first | rfl | (cases x <;> rfl)
  vcells x := by first | rfl | (cases x <;> rfl)
  pos := by decide
  hi := by kernel_rfl
  hz := by kernel_rfl
  hs := by kernel_rfl
  hb := by kernel_rfl
  loads x a w h := loads_one Try.isAgg48 _ a w h
instance : TyOf Try.prog 48 SV enc_48 := ⟨rfl⟩
instance : OneT Try.prog 48 := ⟨Try.isAgg48⟩
instance : SizeT Try.prog 48 1 := ⟨Try.sizeOf48⟩
structure RWatch where
  seen : SV
deriving DecidableEq
@[reducible] def RWatch.cells (x : RWatch) : List Value := [x.seen.val]
@[reducible] def RWatch.val (x : RWatch) : Value := .agg #[x.seen.val]
noncomputable instance enc_74 : Enc Try.prog RWatch where
  ty := 74
  size := 1
  bytes := 24
  info := Try.t74
  z := ⟨⟨none, 0, 0⟩⟩
  cells := RWatch.cells
  val := RWatch.val
  len _ := rfl
  one x u h := by simp only [RWatch.cells, SV.val, List.mem_cons, List.not_mem_nil, or_false] at h; subst h; rfl
  vcells _ := rfl
  pos := by decide
  hi := by kernel_rfl
  hz := by kernel_rfl
  hs := by kernel_rfl
  hb := by kernel_rfl
  loads x a w h := loads_agg Try.isAgg74 Try.sizeOf74 x.cells rfl a w h
instance : TyOf Try.prog 74 RWatch enc_74 := ⟨rfl⟩
instance : FldOf Try.prog RWatch enc_74 0 SV enc_48 (fun x => x.seen) (fun x y => { x with seen := y }) := ⟨fun _ => by kernel_rfl, fun _ _ => by kernel_rfl, by decide⟩
structure Entry where
  from_ : ID
  to_ : ID
  amount : Int
deriving DecidableEq
@[reducible] def Entry.cells (x : Entry) : List Value := [.int .u8 (x.from_.b0.toNat : Int), .int .u8 (x.from_.b1.toNat : Int), .int .u8 (x.from_.b2.toNat : Int), .int .u8 (x.from_.b3.toNat : Int), .int .u8 (x.from_.b4.toNat : Int), .int .u8 (x.from_.b5.toNat : Int), .int .u8 (x.from_.b6.toNat : Int), .int .u8 (x.from_.b7.toNat : Int), .int .u8 (x.to_.b0.toNat : Int), .int .u8 (x.to_.b1.toNat : Int), .int .u8 (x.to_.b2.toNat : Int), .int .u8 (x.to_.b3.toNat : Int), .int .u8 (x.to_.b4.toNat : Int), .int .u8 (x.to_.b5.toNat : Int), .int .u8 (x.to_.b6.toNat : Int), .int .u8 (x.to_.b7.toNat : Int), .int .i64 x.amount]
@[reducible] def Entry.val (x : Entry) : Value := .agg #[.int .u8 (x.from_.b0.toNat : Int), .int .u8 (x.from_.b1.toNat : Int), .int .u8 (x.from_.b2.toNat : Int), .int .u8 (x.from_.b3.toNat : Int), .int .u8 (x.from_.b4.toNat : Int), .int .u8 (x.from_.b5.toNat : Int), .int .u8 (x.from_.b6.toNat : Int), .int .u8 (x.from_.b7.toNat : Int), .int .u8 (x.to_.b0.toNat : Int), .int .u8 (x.to_.b1.toNat : Int), .int .u8 (x.to_.b2.toNat : Int), .int .u8 (x.to_.b3.toNat : Int), .int .u8 (x.to_.b4.toNat : Int), .int .u8 (x.to_.b5.toNat : Int), .int .u8 (x.to_.b6.toNat : Int), .int .u8 (x.to_.b7.toNat : Int), .int .i64 x.amount]
noncomputable instance enc_82 : Enc Try.prog Entry where
  ty := 82
  size := 17
  bytes := 24
  info := Try.t82
  z := ⟨⟨0, 0, 0, 0, 0, 0, 0, 0⟩, ⟨0, 0, 0, 0, 0, 0, 0, 0⟩, 0⟩
  cells := Entry.cells
  val := Entry.val
  len _ := rfl
  one x u h := by simp only [Entry.cells, SV.val, List.mem_cons, List.not_mem_nil, or_false] at h; rcases h with rfl | rfl | rfl | rfl | rfl | rfl | rfl | rfl | rfl | rfl | rfl | rfl | rfl | rfl | rfl | rfl | rfl <;> rfl
  vcells _ := rfl
  pos := by decide
  hi := by kernel_rfl
  hz := by kernel_rfl
  hs := by kernel_rfl
  hb := by kernel_rfl
  loads x a w h := loads_agg Try.isAgg82 Try.sizeOf82 x.cells rfl a w h
instance : TyOf Try.prog 82 Entry enc_82 := ⟨rfl⟩
instance : FldOf Try.prog Entry enc_82 0 ID enc_28 (fun x => x.from_) (fun x y => { x with from_ := y }) := ⟨fun _ => by kernel_rfl, fun _ _ => by kernel_rfl, by decide⟩
instance : FldOf Try.prog Entry enc_82 8 ID enc_28 (fun x => x.to_) (fun x y => { x with to_ := y }) := ⟨fun _ => by kernel_rfl, fun _ _ => by kernel_rfl, by decide⟩
instance : FldOf Try.prog Entry enc_82 16 Int enc_3 (fun x => x.amount) (fun x y => { x with amount := y }) := ⟨fun _ => by kernel_rfl, fun _ _ => by kernel_rfl, by decide⟩
structure Account where
  balance : Int
  limit : Int
deriving DecidableEq
@[reducible] def Account.cells (x : Account) : List Value := [.int .i64 x.balance, .int .i64 x.limit]
@[reducible] def Account.val (x : Account) : Value := .agg #[.int .i64 x.balance, .int .i64 x.limit]
noncomputable instance enc_86 : Enc Try.prog Account where
  ty := 86
  size := 2
  bytes := 16
  info := Try.t86
  z := ⟨0, 0⟩
  cells := Account.cells
  val := Account.val
  len _ := rfl
  one x u h := by simp only [Account.cells, SV.val, List.mem_cons, List.not_mem_nil, or_false] at h; rcases h with rfl | rfl <;> rfl
  vcells _ := rfl
  pos := by decide
  hi := by kernel_rfl
  hz := by kernel_rfl
  hs := by kernel_rfl
  hb := by kernel_rfl
  loads x a w h := loads_agg Try.isAgg86 Try.sizeOf86 x.cells rfl a w h
instance : TyOf Try.prog 86 Account enc_86 := ⟨rfl⟩
instance : FldOf Try.prog Account enc_86 0 Int enc_3 (fun x => x.balance) (fun x y => { x with balance := y }) := ⟨fun _ => by kernel_rfl, fun _ _ => by kernel_rfl, by decide⟩
instance : FldOf Try.prog Account enc_86 1 Int enc_3 (fun x => x.limit) (fun x y => { x with limit := y }) := ⟨fun _ => by kernel_rfl, fun _ _ => by kernel_rfl, by decide⟩
@[reducible] noncomputable def enc_76 : Enc Try.prog (Option Nat) where
  ty := 76
  size := 1
  bytes := 8
  info := Try.t76
  z := none
  cells x := [.map x]
  val x := .map x
  len _ := rfl
  one x u h := by simp at h; subst h; first | rfl | (cases x <;> rfl)
  vcells x := by first | rfl | (cases x <;> rfl)
  pos := by decide
  hi := by kernel_rfl
  hz := by kernel_rfl
  hs := by kernel_rfl
  hb := by kernel_rfl
  loads x a w h := loads_one Try.isAgg76 _ a w h
instance : TyOf Try.prog 76 (Option Nat) enc_76 := ⟨rfl⟩
instance : OneT Try.prog 76 := ⟨Try.isAgg76⟩
instance : SizeT Try.prog 76 1 := ⟨Try.sizeOf76⟩
@[reducible] noncomputable def enc_77 : Enc Try.prog SV where
  ty := 77
  size := 1
  bytes := 24
  info := Try.t77
  z := ⟨none, 0, 0⟩
  cells x := [x.val]
  val x := x.val
  len _ := rfl
  one x u h := by simp at h; subst h; first | rfl | (cases x <;> rfl)
  vcells x := by first | rfl | (cases x <;> rfl)
  pos := by decide
  hi := by kernel_rfl
  hz := by kernel_rfl
  hs := by kernel_rfl
  hb := by kernel_rfl
  loads x a w h := loads_one Try.isAgg77 _ a w h
instance : TyOf Try.prog 77 SV enc_77 := ⟨rfl⟩
instance : OneT Try.prog 77 := ⟨Try.isAgg77⟩
instance : SizeT Try.prog 77 1 := ⟨Try.sizeOf77⟩
structure LedgerV where
  accounts : Option Nat
  entries : SV
deriving DecidableEq
@[reducible] def LedgerV.cells (x : LedgerV) : List Value := [.map x.accounts, x.entries.val]
@[reducible] def LedgerV.val (x : LedgerV) : Value := .agg #[.map x.accounts, x.entries.val]
noncomputable instance enc_79 : Enc Try.prog LedgerV where
  ty := 79
  size := 2
  bytes := 32
  info := Try.t79
  z := ⟨none, ⟨none, 0, 0⟩⟩
  cells := LedgerV.cells
  val := LedgerV.val
  len _ := rfl
  one x u h := by simp only [LedgerV.cells, SV.val, List.mem_cons, List.not_mem_nil, or_false] at h; rcases h with rfl | rfl <;> rfl
  vcells _ := rfl
  pos := by decide
  hi := by kernel_rfl
  hz := by kernel_rfl
  hs := by kernel_rfl
  hb := by kernel_rfl
  loads x a w h := loads_agg Try.isAgg79 Try.sizeOf79 x.cells rfl a w h
instance : TyOf Try.prog 79 LedgerV enc_79 := ⟨rfl⟩
instance : FldOf Try.prog LedgerV enc_79 0 (Option Nat) enc_76 (fun x => x.accounts) (fun x y => { x with accounts := y }) := ⟨fun _ => by kernel_rfl, fun _ _ => by kernel_rfl, by decide⟩
instance : FldOf Try.prog LedgerV enc_79 1 SV enc_77 (fun x => x.entries) (fun x y => { x with entries := y }) := ⟨fun _ => by kernel_rfl, fun _ _ => by kernel_rfl, by decide⟩
@[reducible] noncomputable def enc_22 : Enc Try.prog (Option Addr) where
  ty := 22
  size := 1
  bytes := 8
  info := Try.t22
  z := none
  cells x := [.pointer x]
  val x := .pointer x
  len _ := rfl
  one x u h := by simp at h; subst h; first | rfl | (cases x <;> rfl)
  vcells x := by first | rfl | (cases x <;> rfl)
  pos := by decide
  hi := by kernel_rfl
  hz := by kernel_rfl
  hs := by kernel_rfl
  hb := by kernel_rfl
  loads x a w h := loads_one Try.isAgg22 _ a w h
instance : TyOf Try.prog 22 (Option Addr) enc_22 := ⟨rfl⟩
instance : OneT Try.prog 22 := ⟨Try.isAgg22⟩
instance : SizeT Try.prog 22 1 := ⟨Try.sizeOf22⟩
@[reducible] noncomputable def enc_26 : Enc Try.prog FV where
  ty := 26
  size := 1
  bytes := 8
  info := Try.t26
  z := .none
  cells x := [x.val]
  val x := x.val
  len _ := rfl
  one x u h := by simp at h; subst h; first | rfl | (cases x <;> rfl)
  vcells x := by first | rfl | (cases x <;> rfl)
  pos := by decide
  hi := by kernel_rfl
  hz := by kernel_rfl
  hs := by kernel_rfl
  hb := by kernel_rfl
  loads x a w h := loads_one Try.isAgg26 _ a w h
instance : TyOf Try.prog 26 FV enc_26 := ⟨rfl⟩
instance : OneT Try.prog 26 := ⟨Try.isAgg26⟩
instance : SizeT Try.prog 26 1 := ⟨Try.sizeOf26⟩
@[reducible] noncomputable def enc_30 : Enc Try.prog FV where
  ty := 30
  size := 1
  bytes := 8
  info := Try.t30
  z := .none
  cells x := [x.val]
  val x := x.val
  len _ := rfl
  one x u h := by simp at h; subst h; first | rfl | (cases x <;> rfl)
  vcells x := by first | rfl | (cases x <;> rfl)
  pos := by decide
  hi := by kernel_rfl
  hz := by kernel_rfl
  hs := by kernel_rfl
  hb := by kernel_rfl
  loads x a w h := loads_one Try.isAgg30 _ a w h
instance : TyOf Try.prog 30 FV enc_30 := ⟨rfl⟩
instance : OneT Try.prog 30 := ⟨Try.isAgg30⟩
instance : SizeT Try.prog 30 1 := ⟨Try.sizeOf30⟩
@[reducible] noncomputable def enc_32 : Enc Try.prog FV where
  ty := 32
  size := 1
  bytes := 8
  info := Try.t32
  z := .none
  cells x := [x.val]
  val x := x.val
  len _ := rfl
  one x u h := by simp at h; subst h; first | rfl | (cases x <;> rfl)
  vcells x := by first | rfl | (cases x <;> rfl)
  pos := by decide
  hi := by kernel_rfl
  hz := by kernel_rfl
  hs := by kernel_rfl
  hb := by kernel_rfl
  loads x a w h := loads_one Try.isAgg32 _ a w h
instance : TyOf Try.prog 32 FV enc_32 := ⟨rfl⟩
instance : OneT Try.prog 32 := ⟨Try.isAgg32⟩
instance : SizeT Try.prog 32 1 := ⟨Try.sizeOf32⟩
@[reducible] noncomputable def enc_61 : Enc Try.prog (Option Addr) where
  ty := 61
  size := 1
  bytes := 8
  info := Try.t61
  z := none
  cells x := [.pointer x]
  val x := .pointer x
  len _ := rfl
  one x u h := by simp at h; subst h; first | rfl | (cases x <;> rfl)
  vcells x := by first | rfl | (cases x <;> rfl)
  pos := by decide
  hi := by kernel_rfl
  hz := by kernel_rfl
  hs := by kernel_rfl
  hb := by kernel_rfl
  loads x a w h := loads_one Try.isAgg61 _ a w h
instance : TyOf Try.prog 61 (Option Addr) enc_61 := ⟨rfl⟩
instance : OneT Try.prog 61 := ⟨Try.isAgg61⟩
instance : SizeT Try.prog 61 1 := ⟨Try.sizeOf61⟩
@[reducible] noncomputable def enc_65 : Enc Try.prog FV where
  ty := 65
  size := 1
  bytes := 8
  info := Try.t65
  z := .none
  cells x := [x.val]
  val x := x.val
  len _ := rfl
  one x u h := by simp at h; subst h; first | rfl | (cases x <;> rfl)
  vcells x := by first | rfl | (cases x <;> rfl)
  pos := by decide
  hi := by kernel_rfl
  hz := by kernel_rfl
  hs := by kernel_rfl
  hb := by kernel_rfl
  loads x a w h := loads_one Try.isAgg65 _ a w h
instance : TyOf Try.prog 65 FV enc_65 := ⟨rfl⟩
instance : OneT Try.prog 65 := ⟨Try.isAgg65⟩
instance : SizeT Try.prog 65 1 := ⟨Try.sizeOf65⟩
@[reducible] noncomputable def enc_67 : Enc Try.prog SV where
  ty := 67
  size := 1
  bytes := 24
  info := Try.t67
  z := ⟨none, 0, 0⟩
  cells x := [x.val]
  val x := x.val
  len _ := rfl
  one x u h := by simp at h; subst h; first | rfl | (cases x <;> rfl)
  vcells x := by first | rfl | (cases x <;> rfl)
  pos := by decide
  hi := by kernel_rfl
  hz := by kernel_rfl
  hs := by kernel_rfl
  hb := by kernel_rfl
  loads x a w h := loads_one Try.isAgg67 _ a w h
instance : TyOf Try.prog 67 SV enc_67 := ⟨rfl⟩
instance : OneT Try.prog 67 := ⟨Try.isAgg67⟩
instance : SizeT Try.prog 67 1 := ⟨Try.sizeOf67⟩
@[reducible] noncomputable def enc_72 : Enc Try.prog (Option Addr) where
  ty := 72
  size := 1
  bytes := 8
  info := Try.t72
  z := none
  cells x := [.pointer x]
  val x := .pointer x
  len _ := rfl
  one x u h := by simp at h; subst h; first | rfl | (cases x <;> rfl)
  vcells x := by first | rfl | (cases x <;> rfl)
  pos := by decide
  hi := by kernel_rfl
  hz := by kernel_rfl
  hs := by kernel_rfl
  hb := by kernel_rfl
  loads x a w h := loads_one Try.isAgg72 _ a w h
instance : TyOf Try.prog 72 (Option Addr) enc_72 := ⟨rfl⟩
instance : OneT Try.prog 72 := ⟨Try.isAgg72⟩
instance : SizeT Try.prog 72 1 := ⟨Try.sizeOf72⟩
@[reducible] noncomputable def enc_98 : Enc Try.prog SV where
  ty := 98
  size := 1
  bytes := 24
  info := Try.t98
  z := ⟨none, 0, 0⟩
  cells x := [x.val]
  val x := x.val
  len _ := rfl
  one x u h := by simp at h; subst h; first | rfl | (cases x <;> rfl)
  vcells x := by first | rfl | (cases x <;> rfl)
  pos := by decide
  hi := by kernel_rfl
  hz := by kernel_rfl
  hs := by kernel_rfl
  hb := by kernel_rfl
  loads x a w h := loads_one Try.isAgg98 _ a w h
instance : TyOf Try.prog 98 SV enc_98 := ⟨rfl⟩
instance : OneT Try.prog 98 := ⟨Try.isAgg98⟩
instance : SizeT Try.prog 98 1 := ⟨Try.sizeOf98⟩
@[reducible] noncomputable def enc_113 : Enc Try.prog FV where
  ty := 113
  size := 1
  bytes := 8
  info := Try.t113
  z := .none
  cells x := [x.val]
  val x := x.val
  len _ := rfl
  one x u h := by simp at h; subst h; first | rfl | (cases x <;> rfl)
  vcells x := by first | rfl | (cases x <;> rfl)
  pos := by decide
  hi := by kernel_rfl
  hz := by kernel_rfl
  hs := by kernel_rfl
  hb := by kernel_rfl
  loads x a w h := loads_one Try.isAgg113 _ a w h
instance : TyOf Try.prog 113 FV enc_113 := ⟨rfl⟩
instance : OneT Try.prog 113 := ⟨Try.isAgg113⟩
instance : SizeT Try.prog 113 1 := ⟨Try.sizeOf113⟩
@[reducible] noncomputable def enc_121 : Enc Try.prog SV where
  ty := 121
  size := 1
  bytes := 24
  info := Try.t121
  z := ⟨none, 0, 0⟩
  cells x := [x.val]
  val x := x.val
  len _ := rfl
  one x u h := by simp at h; subst h; first | rfl | (cases x <;> rfl)
  vcells x := by first | rfl | (cases x <;> rfl)
  pos := by decide
  hi := by kernel_rfl
  hz := by kernel_rfl
  hs := by kernel_rfl
  hb := by kernel_rfl
  loads x a w h := loads_one Try.isAgg121 _ a w h
instance : TyOf Try.prog 121 SV enc_121 := ⟨rfl⟩
instance : OneT Try.prog 121 := ⟨Try.isAgg121⟩
instance : SizeT Try.prog 121 1 := ⟨Try.sizeOf121⟩
@[reducible] noncomputable def enc_131 : Enc Try.prog FV where
  ty := 131
  size := 1
  bytes := 8
  info := Try.t131
  z := .none
  cells x := [x.val]
  val x := x.val
  len _ := rfl
  one x u h := by simp at h; subst h; first | rfl | (cases x <;> rfl)
  vcells x := by first | rfl | (cases x <;> rfl)
  pos := by decide
  hi := by kernel_rfl
  hz := by kernel_rfl
  hs := by kernel_rfl
  hb := by kernel_rfl
  loads x a w h := loads_one Try.isAgg131 _ a w h
instance : TyOf Try.prog 131 FV enc_131 := ⟨rfl⟩
instance : OneT Try.prog 131 := ⟨Try.isAgg131⟩
instance : SizeT Try.prog 131 1 := ⟨Try.sizeOf131⟩
@[reducible] noncomputable def enc_132 : Enc Try.prog FV where
  ty := 132
  size := 1
  bytes := 8
  info := Try.t132
  z := .none
  cells x := [x.val]
  val x := x.val
  len _ := rfl
  one x u h := by simp at h; subst h; first | rfl | (cases x <;> rfl)
  vcells x := by first | rfl | (cases x <;> rfl)
  pos := by decide
  hi := by kernel_rfl
  hz := by kernel_rfl
  hs := by kernel_rfl
  hb := by kernel_rfl
  loads x a w h := loads_one Try.isAgg132 _ a w h
instance : TyOf Try.prog 132 FV enc_132 := ⟨rfl⟩
instance : OneT Try.prog 132 := ⟨Try.isAgg132⟩
instance : SizeT Try.prog 132 1 := ⟨Try.sizeOf132⟩
@[reducible] noncomputable def enc_138 : Enc Try.prog FV where
  ty := 138
  size := 1
  bytes := 8
  info := Try.t138
  z := .none
  cells x := [x.val]
  val x := x.val
  len _ := rfl
  one x u h := by simp at h; subst h; first | rfl | (cases x <;> rfl)
  vcells x := by first | rfl | (cases x <;> rfl)
  pos := by decide
  hi := by kernel_rfl
  hz := by kernel_rfl
  hs := by kernel_rfl
  hb := by kernel_rfl
  loads x a w h := loads_one Try.isAgg138 _ a w h
instance : TyOf Try.prog 138 FV enc_138 := ⟨rfl⟩
instance : OneT Try.prog 138 := ⟨Try.isAgg138⟩
instance : SizeT Try.prog 138 1 := ⟨Try.sizeOf138⟩
@[reducible] noncomputable def enc_156 : Enc Try.prog FV where
  ty := 156
  size := 1
  bytes := 8
  info := Try.t156
  z := .none
  cells x := [x.val]
  val x := x.val
  len _ := rfl
  one x u h := by simp at h; subst h; first | rfl | (cases x <;> rfl)
  vcells x := by first | rfl | (cases x <;> rfl)
  pos := by decide
  hi := by kernel_rfl
  hz := by kernel_rfl
  hs := by kernel_rfl
  hb := by kernel_rfl
  loads x a w h := loads_one Try.isAgg156 _ a w h
instance : TyOf Try.prog 156 FV enc_156 := ⟨rfl⟩
instance : OneT Try.prog 156 := ⟨Try.isAgg156⟩
instance : SizeT Try.prog 156 1 := ⟨Try.sizeOf156⟩
noncomputable instance enc_157 : Enc Try.prog FV where
  ty := 157
  size := 1
  bytes := 8
  info := Try.t157
  z := .none
  cells x := [x.val]
  val x := x.val
  len _ := rfl
  one x u h := by simp at h; subst h; first | rfl | (cases x <;> rfl)
  vcells x := by first | rfl | (cases x <;> rfl)
  pos := by decide
  hi := by kernel_rfl
  hz := by kernel_rfl
  hs := by kernel_rfl
  hb := by kernel_rfl
  loads x a w h := loads_one Try.isAgg157 _ a w h
instance : TyOf Try.prog 157 FV enc_157 := ⟨rfl⟩
instance : OneT Try.prog 157 := ⟨Try.isAgg157⟩
instance : SizeT Try.prog 157 1 := ⟨Try.sizeOf157⟩
@[reducible] noncomputable def enc_170 : Enc Try.prog SV where
  ty := 170
  size := 1
  bytes := 24
  info := Try.t170
  z := ⟨none, 0, 0⟩
  cells x := [x.val]
  val x := x.val
  len _ := rfl
  one x u h := by simp at h; subst h; first | rfl | (cases x <;> rfl)
  vcells x := by first | rfl | (cases x <;> rfl)
  pos := by decide
  hi := by kernel_rfl
  hz := by kernel_rfl
  hs := by kernel_rfl
  hb := by kernel_rfl
  loads x a w h := loads_one Try.isAgg170 _ a w h
instance : TyOf Try.prog 170 SV enc_170 := ⟨rfl⟩
instance : OneT Try.prog 170 := ⟨Try.isAgg170⟩
instance : SizeT Try.prog 170 1 := ⟨Try.sizeOf170⟩
instance : SliceTy Try.prog 34 ID enc_28 := ⟨Try.underlying34⟩
instance : SliceTy Try.prog 36 Waiting enc_56 := ⟨Try.underlying36⟩
instance : SliceTy Try.prog 37 Idle enc_126 := ⟨Try.underlying37⟩
instance : SliceTy Try.prog 38 Edge enc_103 := ⟨Try.underlying38⟩
instance : SliceTy Try.prog 41 Pair enc_105 := ⟨Try.underlying41⟩
instance : SliceTy Try.prog 42 Int enc_3 := ⟨Try.underlying42⟩
instance : SliceTy Try.prog 48 Record enc_46 := ⟨Try.underlying48⟩
instance : SliceTy Try.prog 67 Standing enc_112 := ⟨Try.underlying67⟩
instance : SliceTy Try.prog 77 Entry enc_82 := ⟨Try.underlying77⟩
instance : SliceTy Try.prog 98 Bool enc_4 := ⟨Try.underlying98⟩
instance : SliceTy Try.prog 121 UInt8 enc_5 := ⟨Try.underlying121⟩
instance : SliceTy Try.prog 170 FV enc_157 := ⟨Try.underlying170⟩
theorem eqIn_ID (d : Nat) (a b : ID) (w : World) : ∃ r, (Op.equalIn (d + 2) 28 a.val b.val).run Try.prog w = .ok r w ∧ (r = true ↔ a = b) :=
  ⟨_, run_equalIn_bytes w d 28 5 8 Try.underlying28 Try.underlying5 Try.sizeOf5 [a.b0, a.b1, a.b2, a.b3, a.b4, a.b5, a.b6, a.b7] [b.b0, b.b1, b.b2, b.b3, b.b4, b.b5, b.b6, b.b7] rfl rfl, by cases a; cases b; simp⟩
instance : EqT Try.prog 28 ID enc_28 := EqT.of (9998 + 2) (by decide) (fun a : ID => a.val.cells) (fun _ => rfl) (by kernel_rfl) fun a b w => eqIn_ID 9998 a b w
noncomputable def fld52_0 : Field := (Try.prog.fieldsOf 52)[0]!
noncomputable def fld52_1 : Field := (Try.prog.fieldsOf 52)[1]!
theorem eqIn_Point (d : Nat) (a b : Point) (w : World) : ∃ r, (Op.equalIn (d + 2) 52 a.val b.val).run Try.prog w = .ok r w ∧ (r = true ↔ a = b) := by
  have hfs : (Try.prog.fieldsOf 52).toList = [fld52_0, fld52_1] := by kernel_rfl
  have hs := run_equalIn_struct (P := Try.prog) w (d + 1) 52 a.val.cells b.val.cells (by kernel_rfl) (by kernel_rfl)
  rw [hfs] at hs
  refine ⟨_, hs.trans (eqFields_step (f := fld52_0) (T := 50) (o := 0) (va := .int .i16 a.x.toInt) (vb := .int .i16 b.x.toInt) (by kernel_rfl) (by kernel_rfl) (by kernel_rfl) (by kernel_rfl) (by kernel_rfl) (run_equalIn_int w (d + 0) 50 .i16 .i16 _ _ Try.underlying50) (eqFields_step (f := fld52_1) (T := 50) (o := 1) (va := .int .i16 a.y.toInt) (vb := .int .i16 b.y.toInt) (by kernel_rfl) (by kernel_rfl) (by kernel_rfl) (by kernel_rfl) (by kernel_rfl) (run_equalIn_int w (d + 0) 50 .i16 .i16 _ _ Try.underlying50) eqFields_nil)), ?_⟩
  cases a; cases b
  simp [Int16.toInt_inj, u8_inj]
instance : EqT Try.prog 52 Point enc_52 := EqT.of (9998 + 2) (by decide) (fun a : Point => a.val.cells) (fun _ => rfl) (by kernel_rfl) fun a b w => eqIn_Point 9998 a b w
noncomputable def fld54_0 : Field := (Try.prog.fieldsOf 54)[0]!
noncomputable def fld54_1 : Field := (Try.prog.fieldsOf 54)[1]!
noncomputable def fld54_2 : Field := (Try.prog.fieldsOf 54)[2]!
noncomputable def fld54_3 : Field := (Try.prog.fieldsOf 54)[3]!
noncomputable def fld54_4 : Field := (Try.prog.fieldsOf 54)[4]!
noncomputable def fld54_5 : Field := (Try.prog.fieldsOf 54)[5]!
noncomputable def fld54_6 : Field := (Try.prog.fieldsOf 54)[6]!
theorem eqIn_Request (d : Nat) (a b : Request) (w : World) : ∃ r, (Op.equalIn (d + 3) 54 a.val b.val).run Try.prog w = .ok r w ∧ (r = true ↔ a = b) := by
  have hfs : (Try.prog.fieldsOf 54).toList = [fld54_0, fld54_1, fld54_2, fld54_3, fld54_4, fld54_5, fld54_6] := by kernel_rfl
  obtain ⟨r0, h0, e0⟩ := eqIn_ID (d + 0) a.id b.id w
  obtain ⟨r1, h1, e1⟩ := eqIn_Point (d + 0) a.from_ b.from_ w
  obtain ⟨r2, h2, e2⟩ := eqIn_Point (d + 0) a.to_ b.to_ w
  have hs := run_equalIn_struct (P := Try.prog) w (d + 2) 54 a.val.cells b.val.cells (by kernel_rfl) (by kernel_rfl)
  rw [hfs] at hs
  refine ⟨_, hs.trans (eqFields_step (f := fld54_0) (T := 28) (o := 0) (va := a.id.val) (vb := b.id.val) (by kernel_rfl) (by kernel_rfl) (by kernel_rfl) (by kernel_rfl) (by kernel_rfl) (h0) (eqFields_step (f := fld54_1) (T := 52) (o := 8) (va := a.from_.val) (vb := b.from_.val) (by kernel_rfl) (by kernel_rfl) (by kernel_rfl) (by kernel_rfl) (by kernel_rfl) (h1) (eqFields_step (f := fld54_2) (T := 52) (o := 10) (va := a.to_.val) (vb := b.to_.val) (by kernel_rfl) (by kernel_rfl) (by kernel_rfl) (by kernel_rfl) (by kernel_rfl) (h2) (eqFields_step (f := fld54_3) (T := 5) (o := 12) (va := .int .u8 (a.seats.toNat : Int)) (vb := .int .u8 (b.seats.toNat : Int)) (by kernel_rfl) (by kernel_rfl) (by kernel_rfl) (by kernel_rfl) (by kernel_rfl) (run_equalIn_int w (d + 1) 5 .u8 .u8 _ _ Try.underlying5) (eqFields_step (f := fld54_4) (T := 5) (o := 13) (va := .int .u8 (a.classes.toNat : Int)) (vb := .int .u8 (b.classes.toNat : Int)) (by kernel_rfl) (by kernel_rfl) (by kernel_rfl) (by kernel_rfl) (by kernel_rfl) (run_equalIn_int w (d + 1) 5 .u8 .u8 _ _ Try.underlying5) (eqFields_step (f := fld54_5) (T := 3) (o := 14) (va := .int .i64 a.base) (vb := .int .i64 b.base) (by kernel_rfl) (by kernel_rfl) (by kernel_rfl) (by kernel_rfl) (by kernel_rfl) (run_equalIn_int w (d + 1) 3 .i64 .i64 _ _ Try.underlying3) (eqFields_step (f := fld54_6) (T := 3) (o := 15) (va := .int .i64 a.ttl) (vb := .int .i64 b.ttl) (by kernel_rfl) (by kernel_rfl) (by kernel_rfl) (by kernel_rfl) (by kernel_rfl) (run_equalIn_int w (d + 1) 3 .i64 .i64 _ _ Try.underlying3) eqFields_nil))))))), ?_⟩
  cases a; cases b
  simp [e0, e1, e2, Int16.toInt_inj, u8_inj]
instance : EqT Try.prog 54 Request enc_54 := EqT.of (9997 + 3) (by decide) (fun a : Request => a.val.cells) (fun _ => rfl) (by kernel_rfl) fun a b w => eqIn_Request 9997 a b w
noncomputable def fld56_0 : Field := (Try.prog.fieldsOf 56)[0]!
noncomputable def fld56_1 : Field := (Try.prog.fieldsOf 56)[1]!
noncomputable def fld56_2 : Field := (Try.prog.fieldsOf 56)[2]!
theorem eqIn_Waiting (d : Nat) (a b : Waiting) (w : World) : ∃ r, (Op.equalIn (d + 4) 56 a.val b.val).run Try.prog w = .ok r w ∧ (r = true ↔ a = b) := by
  have hfs : (Try.prog.fieldsOf 56).toList = [fld56_0, fld56_1, fld56_2] := by kernel_rfl
  obtain ⟨r0, h0, e0⟩ := eqIn_Request (d + 0) a.request b.request w
  have hs := run_equalIn_struct (P := Try.prog) w (d + 3) 56 a.val.cells b.val.cells (by kernel_rfl) (by kernel_rfl)
  rw [hfs] at hs
  refine ⟨_, hs.trans (eqFields_step (f := fld56_0) (T := 54) (o := 0) (va := a.request.val) (vb := b.request.val) (by kernel_rfl) (by kernel_rfl) (by kernel_rfl) (by kernel_rfl) (by kernel_rfl) (h0) (eqFields_step (f := fld56_1) (T := 3) (o := 16) (va := .int .i64 a.since) (vb := .int .i64 b.since) (by kernel_rfl) (by kernel_rfl) (by kernel_rfl) (by kernel_rfl) (by kernel_rfl) (run_equalIn_int w (d + 2) 3 .i64 .i64 _ _ Try.underlying3) (eqFields_step (f := fld56_2) (T := 3) (o := 17) (va := .int .i64 a.number) (vb := .int .i64 b.number) (by kernel_rfl) (by kernel_rfl) (by kernel_rfl) (by kernel_rfl) (by kernel_rfl) (run_equalIn_int w (d + 2) 3 .i64 .i64 _ _ Try.underlying3) eqFields_nil))), ?_⟩
  cases a; cases b
  simp [e0, Int16.toInt_inj, u8_inj]
instance : EqT Try.prog 56 Waiting enc_56 := EqT.of (9996 + 4) (by decide) (fun a : Waiting => a.val.cells) (fun _ => rfl) (by kernel_rfl) fun a b w => eqIn_Waiting 9996 a b w
noncomputable def fld124_0 : Field := (Try.prog.fieldsOf 124)[0]!
noncomputable def fld124_1 : Field := (Try.prog.fieldsOf 124)[1]!
noncomputable def fld124_2 : Field := (Try.prog.fieldsOf 124)[2]!
noncomputable def fld124_3 : Field := (Try.prog.fieldsOf 124)[3]!
noncomputable def fld124_4 : Field := (Try.prog.fieldsOf 124)[4]!
theorem eqIn_Driver (d : Nat) (a b : Driver) (w : World) : ∃ r, (Op.equalIn (d + 3) 124 a.val b.val).run Try.prog w = .ok r w ∧ (r = true ↔ a = b) := by
  have hfs : (Try.prog.fieldsOf 124).toList = [fld124_0, fld124_1, fld124_2, fld124_3, fld124_4] := by kernel_rfl
  obtain ⟨r0, h0, e0⟩ := eqIn_ID (d + 0) a.id b.id w
  obtain ⟨r1, h1, e1⟩ := eqIn_Point (d + 0) a.at_ b.at_ w
  have hs := run_equalIn_struct (P := Try.prog) w (d + 2) 124 a.val.cells b.val.cells (by kernel_rfl) (by kernel_rfl)
  rw [hfs] at hs
  refine ⟨_, hs.trans (eqFields_step (f := fld124_0) (T := 28) (o := 0) (va := a.id.val) (vb := b.id.val) (by kernel_rfl) (by kernel_rfl) (by kernel_rfl) (by kernel_rfl) (by kernel_rfl) (h0) (eqFields_step (f := fld124_1) (T := 52) (o := 8) (va := a.at_.val) (vb := b.at_.val) (by kernel_rfl) (by kernel_rfl) (by kernel_rfl) (by kernel_rfl) (by kernel_rfl) (h1) (eqFields_step (f := fld124_2) (T := 5) (o := 10) (va := .int .u8 (a.seats.toNat : Int)) (vb := .int .u8 (b.seats.toNat : Int)) (by kernel_rfl) (by kernel_rfl) (by kernel_rfl) (by kernel_rfl) (by kernel_rfl) (run_equalIn_int w (d + 1) 5 .u8 .u8 _ _ Try.underlying5) (eqFields_step (f := fld124_3) (T := 5) (o := 11) (va := .int .u8 (a.klass.toNat : Int)) (vb := .int .u8 (b.klass.toNat : Int)) (by kernel_rfl) (by kernel_rfl) (by kernel_rfl) (by kernel_rfl) (by kernel_rfl) (run_equalIn_int w (d + 1) 5 .u8 .u8 _ _ Try.underlying5) (eqFields_step (f := fld124_4) (T := 3) (o := 12) (va := .int .i64 a.radius) (vb := .int .i64 b.radius) (by kernel_rfl) (by kernel_rfl) (by kernel_rfl) (by kernel_rfl) (by kernel_rfl) (run_equalIn_int w (d + 1) 3 .i64 .i64 _ _ Try.underlying3) eqFields_nil))))), ?_⟩
  cases a; cases b
  simp [e0, e1, Int16.toInt_inj, u8_inj]
instance : EqT Try.prog 124 Driver enc_124 := EqT.of (9997 + 3) (by decide) (fun a : Driver => a.val.cells) (fun _ => rfl) (by kernel_rfl) fun a b w => eqIn_Driver 9997 a b w
noncomputable def fld126_0 : Field := (Try.prog.fieldsOf 126)[0]!
noncomputable def fld126_1 : Field := (Try.prog.fieldsOf 126)[1]!
theorem eqIn_Idle (d : Nat) (a b : Idle) (w : World) : ∃ r, (Op.equalIn (d + 4) 126 a.val b.val).run Try.prog w = .ok r w ∧ (r = true ↔ a = b) := by
  have hfs : (Try.prog.fieldsOf 126).toList = [fld126_0, fld126_1] := by kernel_rfl
  obtain ⟨r0, h0, e0⟩ := eqIn_Driver (d + 0) a.driver b.driver w
  have hs := run_equalIn_struct (P := Try.prog) w (d + 3) 126 a.val.cells b.val.cells (by kernel_rfl) (by kernel_rfl)
  rw [hfs] at hs
  refine ⟨_, hs.trans (eqFields_step (f := fld126_0) (T := 124) (o := 0) (va := a.driver.val) (vb := b.driver.val) (by kernel_rfl) (by kernel_rfl) (by kernel_rfl) (by kernel_rfl) (by kernel_rfl) (h0) (eqFields_step (f := fld126_1) (T := 3) (o := 13) (va := .int .i64 a.number) (vb := .int .i64 b.number) (by kernel_rfl) (by kernel_rfl) (by kernel_rfl) (by kernel_rfl) (by kernel_rfl) (run_equalIn_int w (d + 2) 3 .i64 .i64 _ _ Try.underlying3) eqFields_nil)), ?_⟩
  cases a; cases b
  simp [e0, Int16.toInt_inj, u8_inj]
instance : EqT Try.prog 126 Idle enc_126 := EqT.of (9996 + 4) (by decide) (fun a : Idle => a.val.cells) (fun _ => rfl) (by kernel_rfl) fun a b w => eqIn_Idle 9996 a b w
noncomputable def fld103_0 : Field := (Try.prog.fieldsOf 103)[0]!
noncomputable def fld103_1 : Field := (Try.prog.fieldsOf 103)[1]!
noncomputable def fld103_2 : Field := (Try.prog.fieldsOf 103)[2]!
theorem eqIn_Edge (d : Nat) (a b : Edge) (w : World) : ∃ r, (Op.equalIn (d + 2) 103 a.val b.val).run Try.prog w = .ok r w ∧ (r = true ↔ a = b) := by
  have hfs : (Try.prog.fieldsOf 103).toList = [fld103_0, fld103_1, fld103_2] := by kernel_rfl
  have hs := run_equalIn_struct (P := Try.prog) w (d + 1) 103 a.val.cells b.val.cells (by kernel_rfl) (by kernel_rfl)
  rw [hfs] at hs
  refine ⟨_, hs.trans (eqFields_step (f := fld103_0) (T := 3) (o := 0) (va := .int .i64 a.r) (vb := .int .i64 b.r) (by kernel_rfl) (by kernel_rfl) (by kernel_rfl) (by kernel_rfl) (by kernel_rfl) (run_equalIn_int w (d + 0) 3 .i64 .i64 _ _ Try.underlying3) (eqFields_step (f := fld103_1) (T := 3) (o := 1) (va := .int .i64 a.c) (vb := .int .i64 b.c) (by kernel_rfl) (by kernel_rfl) (by kernel_rfl) (by kernel_rfl) (by kernel_rfl) (run_equalIn_int w (d + 0) 3 .i64 .i64 _ _ Try.underlying3) (eqFields_step (f := fld103_2) (T := 3) (o := 2) (va := .int .i64 a.w) (vb := .int .i64 b.w) (by kernel_rfl) (by kernel_rfl) (by kernel_rfl) (by kernel_rfl) (by kernel_rfl) (run_equalIn_int w (d + 0) 3 .i64 .i64 _ _ Try.underlying3) eqFields_nil))), ?_⟩
  cases a; cases b
  simp [Int16.toInt_inj, u8_inj]
instance : EqT Try.prog 103 Edge enc_103 := EqT.of (9998 + 2) (by decide) (fun a : Edge => a.val.cells) (fun _ => rfl) (by kernel_rfl) fun a b w => eqIn_Edge 9998 a b w
noncomputable def fld105_0 : Field := (Try.prog.fieldsOf 105)[0]!
noncomputable def fld105_1 : Field := (Try.prog.fieldsOf 105)[1]!
theorem eqIn_Pair (d : Nat) (a b : Pair) (w : World) : ∃ r, (Op.equalIn (d + 2) 105 a.val b.val).run Try.prog w = .ok r w ∧ (r = true ↔ a = b) := by
  have hfs : (Try.prog.fieldsOf 105).toList = [fld105_0, fld105_1] := by kernel_rfl
  have hs := run_equalIn_struct (P := Try.prog) w (d + 1) 105 a.val.cells b.val.cells (by kernel_rfl) (by kernel_rfl)
  rw [hfs] at hs
  refine ⟨_, hs.trans (eqFields_step (f := fld105_0) (T := 3) (o := 0) (va := .int .i64 a.r) (vb := .int .i64 b.r) (by kernel_rfl) (by kernel_rfl) (by kernel_rfl) (by kernel_rfl) (by kernel_rfl) (run_equalIn_int w (d + 0) 3 .i64 .i64 _ _ Try.underlying3) (eqFields_step (f := fld105_1) (T := 3) (o := 1) (va := .int .i64 a.c) (vb := .int .i64 b.c) (by kernel_rfl) (by kernel_rfl) (by kernel_rfl) (by kernel_rfl) (by kernel_rfl) (run_equalIn_int w (d + 0) 3 .i64 .i64 _ _ Try.underlying3) eqFields_nil)), ?_⟩
  cases a; cases b
  simp [Int16.toInt_inj, u8_inj]
instance : EqT Try.prog 105 Pair enc_105 := EqT.of (9998 + 2) (by decide) (fun a : Pair => a.val.cells) (fun _ => rfl) (by kernel_rfl) fun a b w => eqIn_Pair 9998 a b w
noncomputable def fld112_0 : Field := (Try.prog.fieldsOf 112)[0]!
noncomputable def fld112_1 : Field := (Try.prog.fieldsOf 112)[1]!
theorem eqIn_Standing (d : Nat) (a b : Standing) (w : World) : ∃ r, (Op.equalIn (d + 3) 112 a.val b.val).run Try.prog w = .ok r w ∧ (r = true ↔ a = b) := by
  have hfs : (Try.prog.fieldsOf 112).toList = [fld112_0, fld112_1] := by kernel_rfl
  obtain ⟨r0, h0, e0⟩ := eqIn_ID (d + 0) a.id b.id w
  have hs := run_equalIn_struct (P := Try.prog) w (d + 2) 112 a.val.cells b.val.cells (by kernel_rfl) (by kernel_rfl)
  rw [hfs] at hs
  refine ⟨_, hs.trans (eqFields_step (f := fld112_0) (T := 28) (o := 0) (va := a.id.val) (vb := b.id.val) (by kernel_rfl) (by kernel_rfl) (by kernel_rfl) (by kernel_rfl) (by kernel_rfl) (h0) (eqFields_step (f := fld112_1) (T := 3) (o := 8) (va := .int .i64 a.good) (vb := .int .i64 b.good) (by kernel_rfl) (by kernel_rfl) (by kernel_rfl) (by kernel_rfl) (by kernel_rfl) (run_equalIn_int w (d + 1) 3 .i64 .i64 _ _ Try.underlying3) eqFields_nil)), ?_⟩
  cases a; cases b
  simp [e0, Int16.toInt_inj, u8_inj]
instance : EqT Try.prog 112 Standing enc_112 := EqT.of (9997 + 3) (by decide) (fun a : Standing => a.val.cells) (fun _ => rfl) (by kernel_rfl) fun a b w => eqIn_Standing 9997 a b w
noncomputable def fld82_0 : Field := (Try.prog.fieldsOf 82)[0]!
noncomputable def fld82_1 : Field := (Try.prog.fieldsOf 82)[1]!
noncomputable def fld82_2 : Field := (Try.prog.fieldsOf 82)[2]!
theorem eqIn_Entry (d : Nat) (a b : Entry) (w : World) : ∃ r, (Op.equalIn (d + 3) 82 a.val b.val).run Try.prog w = .ok r w ∧ (r = true ↔ a = b) := by
  have hfs : (Try.prog.fieldsOf 82).toList = [fld82_0, fld82_1, fld82_2] := by kernel_rfl
  obtain ⟨r0, h0, e0⟩ := eqIn_ID (d + 0) a.from_ b.from_ w
  obtain ⟨r1, h1, e1⟩ := eqIn_ID (d + 0) a.to_ b.to_ w
  have hs := run_equalIn_struct (P := Try.prog) w (d + 2) 82 a.val.cells b.val.cells (by kernel_rfl) (by kernel_rfl)
  rw [hfs] at hs
  refine ⟨_, hs.trans (eqFields_step (f := fld82_0) (T := 28) (o := 0) (va := a.from_.val) (vb := b.from_.val) (by kernel_rfl) (by kernel_rfl) (by kernel_rfl) (by kernel_rfl) (by kernel_rfl) (h0) (eqFields_step (f := fld82_1) (T := 28) (o := 8) (va := a.to_.val) (vb := b.to_.val) (by kernel_rfl) (by kernel_rfl) (by kernel_rfl) (by kernel_rfl) (by kernel_rfl) (h1) (eqFields_step (f := fld82_2) (T := 3) (o := 16) (va := .int .i64 a.amount) (vb := .int .i64 b.amount) (by kernel_rfl) (by kernel_rfl) (by kernel_rfl) (by kernel_rfl) (by kernel_rfl) (run_equalIn_int w (d + 1) 3 .i64 .i64 _ _ Try.underlying3) eqFields_nil))), ?_⟩
  cases a; cases b
  simp [e0, e1, Int16.toInt_inj, u8_inj]
instance : EqT Try.prog 82 Entry enc_82 := EqT.of (9997 + 3) (by decide) (fun a : Entry => a.val.cells) (fun _ => rfl) (by kernel_rfl) fun a b w => eqIn_Entry 9997 a b w
noncomputable def fld86_0 : Field := (Try.prog.fieldsOf 86)[0]!
noncomputable def fld86_1 : Field := (Try.prog.fieldsOf 86)[1]!
theorem eqIn_Account (d : Nat) (a b : Account) (w : World) : ∃ r, (Op.equalIn (d + 2) 86 a.val b.val).run Try.prog w = .ok r w ∧ (r = true ↔ a = b) := by
  have hfs : (Try.prog.fieldsOf 86).toList = [fld86_0, fld86_1] := by kernel_rfl
  have hs := run_equalIn_struct (P := Try.prog) w (d + 1) 86 a.val.cells b.val.cells (by kernel_rfl) (by kernel_rfl)
  rw [hfs] at hs
  refine ⟨_, hs.trans (eqFields_step (f := fld86_0) (T := 3) (o := 0) (va := .int .i64 a.balance) (vb := .int .i64 b.balance) (by kernel_rfl) (by kernel_rfl) (by kernel_rfl) (by kernel_rfl) (by kernel_rfl) (run_equalIn_int w (d + 0) 3 .i64 .i64 _ _ Try.underlying3) (eqFields_step (f := fld86_1) (T := 3) (o := 1) (va := .int .i64 a.limit) (vb := .int .i64 b.limit) (by kernel_rfl) (by kernel_rfl) (by kernel_rfl) (by kernel_rfl) (by kernel_rfl) (run_equalIn_int w (d + 0) 3 .i64 .i64 _ _ Try.underlying3) eqFields_nil)), ?_⟩
  cases a; cases b
  simp [Int16.toInt_inj, u8_inj]
instance : EqT Try.prog 86 Account enc_86 := EqT.of (9998 + 2) (by decide) (fun a : Account => a.val.cells) (fun _ => rfl) (by kernel_rfl) fun a b w => eqIn_Account 9998 a b w
instance : EqT Try.prog 4 Bool enc_4 := ⟨fun a b x y w => ⟨a == b, by cases a <;> cases b <;> kernel_rfl, by cases a <;> cases b <;> kernel_rfl, by simp⟩⟩
@[reducible] def Waiting.id (x : Waiting) : ID := x.request.id
@[reducible] def Idle.id (x : Idle) : ID := x.driver.id
end Go.Cab
