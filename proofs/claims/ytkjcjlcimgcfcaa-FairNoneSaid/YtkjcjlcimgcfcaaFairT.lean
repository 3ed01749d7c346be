/- The types of this seat, as they are laid in cells. -/
import Derived.Test.YtkjcjlcimgcfcaaBase
import Derived.Test.YtkjcjlcimgcfcaaRow
import Derived.Test.YtkjcjlcimgcfcaaMap
import Derived.Stop.BytesEq
import Derived.Laws.Pointers
import Derived.Laws.Cover3
namespace Go.Cab
set_option linter.unusedSimpArgs false
set_option linter.unusedVariables false
set_option linter.unusedSectionVars false
open Go Go.Proofs
theorem mixedT : Try.prog.follows .mixedOrders = true := by kernel_rfl
noncomputable instance : Enc Try.prog Int where
  ty := 3
  size := 1
  bytes := 8
  info := Try.t3
  z := 0
  cells x := [.int .i64 x]
  val x := .int .i64 x
  len _ := rfl
  one x u h := by simp at h; subst h; first | rfl | (cases x <;> rfl)
  vcells x := by first | rfl | (cases x <;> rfl)
  pos := by decide
  hi := by kernel_rfl
  hz := by kernel_rfl
  hs := by kernel_rfl
  hb := by kernel_rfl
  loads x a w h := loads_one Try.isAgg3 _ a w h
noncomputable instance : Enc Try.prog Bool where
  ty := 4
  size := 1
  bytes := 1
  info := Try.t4
  z := false
  cells x := [.bool x]
  val x := .bool x
  len _ := rfl
  one x u h := by simp at h; subst h; first | rfl | (cases x <;> rfl)
  vcells x := by first | rfl | (cases x <;> rfl)
  pos := by decide
  hi := by kernel_rfl
  hz := by kernel_rfl
  hs := by kernel_rfl
  hb := by kernel_rfl
  loads x a w h := loads_one Try.isAgg4 _ a w h
noncomputable instance : Enc Try.prog FV where
  ty := 157
  size := 1
  bytes := 8
  info := Try.t157
  z := .none
  cells x := [x.val]
  val x := x.val
  len _ := rfl
  one x u h := by simp at h; subst h; first | rfl | (cases x <;> rfl)
  vcells x := by first | rfl | (cases x <;> rfl)
  pos := by decide
  hi := by kernel_rfl
  hz := by kernel_rfl
  hs := by kernel_rfl
  hb := by kernel_rfl
  loads x a w h := loads_one Try.isAgg157 _ a w h
instance : OneT Try.prog 2 := ⟨Try.isAgg2⟩
instance : OneT Try.prog 3 := ⟨Try.isAgg3⟩
instance : OneT Try.prog 4 := ⟨Try.isAgg4⟩
instance : OneT Try.prog 5 := ⟨Try.isAgg5⟩
instance : OneT Try.prog 22 := ⟨Try.isAgg22⟩
instance : OneT Try.prog 34 := ⟨Try.isAgg34⟩
instance : OneT Try.prog 36 := ⟨Try.isAgg36⟩
instance : OneT Try.prog 37 := ⟨Try.isAgg37⟩
instance : OneT Try.prog 38 := ⟨Try.isAgg38⟩
instance : OneT Try.prog 41 := ⟨Try.isAgg41⟩
instance : OneT Try.prog 42 := ⟨Try.isAgg42⟩
instance : OneT Try.prog 48 := ⟨Try.isAgg48⟩
instance : OneT Try.prog 61 := ⟨Try.isAgg61⟩
instance : OneT Try.prog 62 := ⟨Try.isAgg62⟩
instance : OneT Try.prog 67 := ⟨Try.isAgg67⟩
instance : OneT Try.prog 72 := ⟨Try.isAgg72⟩
instance : OneT Try.prog 76 := ⟨Try.isAgg76⟩
instance : OneT Try.prog 77 := ⟨Try.isAgg77⟩
instance : OneT Try.prog 98 := ⟨Try.isAgg98⟩
instance : OneT Try.prog 157 := ⟨Try.isAgg157⟩
instance : SizeT Try.prog 4 1 := ⟨Try.sizeOf4⟩
instance : SizeT Try.prog 3 1 := ⟨Try.sizeOf3⟩
instance : SizeT Try.prog 34 1 := ⟨Try.sizeOf34⟩
instance : SizeT Try.prog 62 1 := ⟨Try.sizeOf62⟩
structure ID where
  b0 : UInt8
  b1 : UInt8
  b2 : UInt8
  b3 : UInt8
  b4 : UInt8
  b5 : UInt8
  b6 : UInt8
  b7 : UInt8
deriving DecidableEq
@[reducible] def ID.cells (x : ID) : List Value := [.int .u8 (x.b0.toNat : Int), .int .u8 (x.b1.toNat : Int), .int .u8 (x.b2.toNat : Int), .int .u8 (x.b3.toNat : Int), .int .u8 (x.b4.toNat : Int), .int .u8 (x.b5.toNat : Int), .int .u8 (x.b6.toNat : Int), .int .u8 (x.b7.toNat : Int)]
@[reducible] def ID.val (x : ID) : Value := .agg #[.int .u8 (x.b0.toNat : Int), .int .u8 (x.b1.toNat : Int), .int .u8 (x.b2.toNat : Int), .int .u8 (x.b3.toNat : Int), .int .u8 (x.b4.toNat : Int), .int .u8 (x.b5.toNat : Int), .int .u8 (x.b6.toNat : Int), .int .u8 (x.b7.toNat : Int)]
noncomputable instance : Enc Try.prog ID where
  ty := 28
  size := 8
  bytes := 8
  info := Try.t28
  z := ⟨0, 0, 0, 0, 0, 0, 0, 0⟩
  cells := ID.cells
  val := ID.val
  len _ := rfl
  one x u h := by simp [ID.cells, SV.val] at h; rcases h with rfl | rfl | rfl | rfl | rfl | rfl | rfl | rfl <;> rfl
  vcells _ := rfl
  pos := by decide
  hi := by kernel_rfl
  hz := by kernel_rfl
  hs := by kernel_rfl
  hb := by kernel_rfl
  loads x a w h := loads_agg Try.isAgg28 Try.sizeOf28 x.cells rfl a w h
structure Waiting where
  id : ID
  fx : Int
  fy : Int
  tx : Int
  ty : Int
  seats : Int
  classes : Int
  base : Int
  ttl : Int
  since : Int
  number : Int
deriving DecidableEq
@[reducible] def Waiting.cells (x : Waiting) : List Value := [.int .u8 (x.id.b0.toNat : Int), .int .u8 (x.id.b1.toNat : Int), .int .u8 (x.id.b2.toNat : Int), .int .u8 (x.id.b3.toNat : Int), .int .u8 (x.id.b4.toNat : Int), .int .u8 (x.id.b5.toNat : Int), .int .u8 (x.id.b6.toNat : Int), .int .u8 (x.id.b7.toNat : Int), .int .i16 x.fx, .int .i16 x.fy, .int .i16 x.tx, .int .i16 x.ty, .int .u8 x.seats, .int .u8 x.classes, .int .i64 x.base, .int .i64 x.ttl, .int .i64 x.since, .int .i64 x.number]
@[reducible] def Waiting.val (x : Waiting) : Value := .agg #[.int .u8 (x.id.b0.toNat : Int), .int .u8 (x.id.b1.toNat : Int), .int .u8 (x.id.b2.toNat : Int), .int .u8 (x.id.b3.toNat : Int), .int .u8 (x.id.b4.toNat : Int), .int .u8 (x.id.b5.toNat : Int), .int .u8 (x.id.b6.toNat : Int), .int .u8 (x.id.b7.toNat : Int), .int .i16 x.fx, .int .i16 x.fy, .int .i16 x.tx, .int .i16 x.ty, .int .u8 x.seats, .int .u8 x.classes, .int .i64 x.base, .int .i64 x.ttl, .int .i64 x.since, .int .i64 x.number]
noncomputable instance : Enc Try.prog Waiting where
  ty := 56
  size := 18
  bytes := 56
  info := Try.t56
  z := ⟨⟨0, 0, 0, 0, 0, 0, 0, 0⟩, 0, 0, 0, 0, 0, 0, 0, 0, 0, 0⟩
  cells := Waiting.cells
  val := Waiting.val
  len _ := rfl
  one x u h := by simp [Waiting.cells, SV.val] at h; rcases h with rfl | rfl | rfl | rfl | rfl | rfl | rfl | rfl | rfl | rfl | rfl | rfl | rfl | rfl | rfl | rfl | rfl | rfl <;> rfl
  vcells _ := rfl
  pos := by decide
  hi := by kernel_rfl
  hz := by kernel_rfl
  hs := by kernel_rfl
  hb := by kernel_rfl
  loads x a w h := loads_agg Try.isAgg56 Try.sizeOf56 x.cells rfl a w h
structure Idle where
  id : ID
  x : Int
  y : Int
  seats : Int
  klass : Int
  radius : Int
  number : Int
deriving DecidableEq
@[reducible] def Idle.cells (x : Idle) : List Value := [.int .u8 (x.id.b0.toNat : Int), .int .u8 (x.id.b1.toNat : Int), .int .u8 (x.id.b2.toNat : Int), .int .u8 (x.id.b3.toNat : Int), .int .u8 (x.id.b4.toNat : Int), .int .u8 (x.id.b5.toNat : Int), .int .u8 (x.id.b6.toNat : Int), .int .u8 (x.id.b7.toNat : Int), .int .i16 x.x, .int .i16 x.y, .int .u8 x.seats, .int .u8 x.klass, .int .i64 x.radius, .int .i64 x.number]
@[reducible] def Idle.val (x : Idle) : Value := .agg #[.int .u8 (x.id.b0.toNat : Int), .int .u8 (x.id.b1.toNat : Int), .int .u8 (x.id.b2.toNat : Int), .int .u8 (x.id.b3.toNat : Int), .int .u8 (x.id.b4.toNat : Int), .int .u8 (x.id.b5.toNat : Int), .int .u8 (x.id.b6.toNat : Int), .int .u8 (x.id.b7.toNat : Int), .int .i16 x.x, .int .i16 x.y, .int .u8 x.seats, .int .u8 x.klass, .int .i64 x.radius, .int .i64 x.number]
noncomputable instance : Enc Try.prog Idle where
  ty := 126
  size := 14
  bytes := 32
  info := Try.t126
  z := ⟨⟨0, 0, 0, 0, 0, 0, 0, 0⟩, 0, 0, 0, 0, 0, 0⟩
  cells := Idle.cells
  val := Idle.val
  len _ := rfl
  one x u h := by simp [Idle.cells, SV.val] at h; rcases h with rfl | rfl | rfl | rfl | rfl | rfl | rfl | rfl | rfl | rfl | rfl | rfl | rfl | rfl <;> rfl
  vcells _ := rfl
  pos := by decide
  hi := by kernel_rfl
  hz := by kernel_rfl
  hs := by kernel_rfl
  hb := by kernel_rfl
  loads x a w h := loads_agg Try.isAgg126 Try.sizeOf126 x.cells rfl a w h
structure Edge where
  r : Int
  c : Int
  w : Int
deriving DecidableEq
@[reducible] def Edge.cells (x : Edge) : List Value := [.int .i64 x.r, .int .i64 x.c, .int .i64 x.w]
@[reducible] def Edge.val (x : Edge) : Value := .agg #[.int .i64 x.r, .int .i64 x.c, .int .i64 x.w]
noncomputable instance : Enc Try.prog Edge where
  ty := 103
  size := 3
  bytes := 24
  info := Try.t103
  z := ⟨0, 0, 0⟩
  cells := Edge.cells
  val := Edge.val
  len _ := rfl
  one x u h := by simp [Edge.cells, SV.val] at h; rcases h with rfl | rfl | rfl <;> rfl
  vcells _ := rfl
  pos := by decide
  hi := by kernel_rfl
  hz := by kernel_rfl
  hs := by kernel_rfl
  hb := by kernel_rfl
  loads x a w h := loads_agg Try.isAgg103 Try.sizeOf103 x.cells rfl a w h
structure Pair where
  r : Int
  c : Int
deriving DecidableEq
@[reducible] def Pair.cells (x : Pair) : List Value := [.int .i64 x.r, .int .i64 x.c]
@[reducible] def Pair.val (x : Pair) : Value := .agg #[.int .i64 x.r, .int .i64 x.c]
noncomputable instance : Enc Try.prog Pair where
  ty := 105
  size := 2
  bytes := 16
  info := Try.t105
  z := ⟨0, 0⟩
  cells := Pair.cells
  val := Pair.val
  len _ := rfl
  one x u h := by simp [Pair.cells, SV.val] at h; rcases h with rfl | rfl <;> rfl
  vcells _ := rfl
  pos := by decide
  hi := by kernel_rfl
  hz := by kernel_rfl
  hs := by kernel_rfl
  hb := by kernel_rfl
  loads x a w h := loads_agg Try.isAgg105 Try.sizeOf105 x.cells rfl a w h
structure Graph where
  rows : Int
  cols : Int
  edges : SV
deriving DecidableEq
@[reducible] def Graph.cells (x : Graph) : List Value := [.int .i64 x.rows, .int .i64 x.cols, x.edges.val]
@[reducible] def Graph.val (x : Graph) : Value := .agg #[.int .i64 x.rows, .int .i64 x.cols, x.edges.val]
noncomputable instance : Enc Try.prog Graph where
  ty := 40
  size := 3
  bytes := 40
  info := Try.t40
  z := ⟨0, 0, ⟨none, 0, 0⟩⟩
  cells := Graph.cells
  val := Graph.val
  len _ := rfl
  one x u h := by simp [Graph.cells, SV.val] at h; rcases h with rfl | rfl | rfl <;> rfl
  vcells _ := rfl
  pos := by decide
  hi := by kernel_rfl
  hz := by kernel_rfl
  hs := by kernel_rfl
  hb := by kernel_rfl
  loads x a w h := loads_agg Try.isAgg40 Try.sizeOf40 x.cells rfl a w h
structure Cert where
  pairs : SV
  ys : SV
  zs : SV
deriving DecidableEq
@[reducible] def Cert.cells (x : Cert) : List Value := [x.pairs.val, x.ys.val, x.zs.val]
@[reducible] def Cert.val (x : Cert) : Value := .agg #[x.pairs.val, x.ys.val, x.zs.val]
noncomputable instance : Enc Try.prog Cert where
  ty := 44
  size := 3
  bytes := 72
  info := Try.t44
  z := ⟨⟨none, 0, 0⟩, ⟨none, 0, 0⟩, ⟨none, 0, 0⟩⟩
  cells := Cert.cells
  val := Cert.val
  len _ := rfl
  one x u h := by simp [Cert.cells, SV.val] at h; rcases h with rfl | rfl | rfl <;> rfl
  vcells _ := rfl
  pos := by decide
  hi := by kernel_rfl
  hz := by kernel_rfl
  hs := by kernel_rfl
  hb := by kernel_rfl
  loads x a w h := loads_agg Try.isAgg44 Try.sizeOf44 x.cells rfl a w h
structure Record where
  tick : Int
  waiting : SV
  idle : SV
  g : Graph
  cert : Cert
deriving DecidableEq
@[reducible] def Record.cells (x : Record) : List Value := [.int .i64 x.tick, x.waiting.val, x.idle.val, .int .i64 x.g.rows, .int .i64 x.g.cols, x.g.edges.val, x.cert.pairs.val, x.cert.ys.val, x.cert.zs.val]
@[reducible] def Record.val (x : Record) : Value := .agg #[.int .i64 x.tick, x.waiting.val, x.idle.val, .int .i64 x.g.rows, .int .i64 x.g.cols, x.g.edges.val, x.cert.pairs.val, x.cert.ys.val, x.cert.zs.val]
noncomputable instance : Enc Try.prog Record where
  ty := 46
  size := 9
  bytes := 168
  info := Try.t46
  z := ⟨0, ⟨none, 0, 0⟩, ⟨none, 0, 0⟩, ⟨0, 0, ⟨none, 0, 0⟩⟩, ⟨⟨none, 0, 0⟩, ⟨none, 0, 0⟩, ⟨none, 0, 0⟩⟩⟩
  cells := Record.cells
  val := Record.val
  len _ := rfl
  one x u h := by simp [Record.cells, SV.val] at h; rcases h with rfl | rfl | rfl | rfl | rfl | rfl | rfl | rfl | rfl <;> rfl
  vcells _ := rfl
  pos := by decide
  hi := by kernel_rfl
  hz := by kernel_rfl
  hs := by kernel_rfl
  hb := by kernel_rfl
  loads x a w h := loads_agg Try.isAgg46 Try.sizeOf46 x.cells rfl a w h
structure Claim where
  g : Graph
  cert : Cert
deriving DecidableEq
@[reducible] def Claim.cells (x : Claim) : List Value := [.int .i64 x.g.rows, .int .i64 x.g.cols, x.g.edges.val, x.cert.pairs.val, x.cert.ys.val, x.cert.zs.val]
@[reducible] def Claim.val (x : Claim) : Value := .agg #[.int .i64 x.g.rows, .int .i64 x.g.cols, x.g.edges.val, x.cert.pairs.val, x.cert.ys.val, x.cert.zs.val]
noncomputable instance : Enc Try.prog Claim where
  ty := 155
  size := 6
  bytes := 112
  info := Try.t155
  z := ⟨⟨0, 0, ⟨none, 0, 0⟩⟩, ⟨⟨none, 0, 0⟩, ⟨none, 0, 0⟩, ⟨none, 0, 0⟩⟩⟩
  cells := Claim.cells
  val := Claim.val
  len _ := rfl
  one x u h := by simp [Claim.cells, SV.val] at h; rcases h with rfl | rfl | rfl | rfl | rfl | rfl <;> rfl
  vcells _ := rfl
  pos := by decide
  hi := by kernel_rfl
  hz := by kernel_rfl
  hs := by kernel_rfl
  hb := by kernel_rfl
  loads x a w h := loads_agg Try.isAgg155 Try.sizeOf155 x.cells rfl a w h
structure Standing where
  id : ID
  good : Int
deriving DecidableEq
@[reducible] def Standing.cells (x : Standing) : List Value := [.int .u8 (x.id.b0.toNat : Int), .int .u8 (x.id.b1.toNat : Int), .int .u8 (x.id.b2.toNat : Int), .int .u8 (x.id.b3.toNat : Int), .int .u8 (x.id.b4.toNat : Int), .int .u8 (x.id.b5.toNat : Int), .int .u8 (x.id.b6.toNat : Int), .int .u8 (x.id.b7.toNat : Int), .int .i64 x.good]
@[reducible] def Standing.val (x : Standing) : Value := .agg #[.int .u8 (x.id.b0.toNat : Int), .int .u8 (x.id.b1.toNat : Int), .int .u8 (x.id.b2.toNat : Int), .int .u8 (x.id.b3.toNat : Int), .int .u8 (x.id.b4.toNat : Int), .int .u8 (x.id.b5.toNat : Int), .int .u8 (x.id.b6.toNat : Int), .int .u8 (x.id.b7.toNat : Int), .int .i64 x.good]
noncomputable instance : Enc Try.prog Standing where
  ty := 112
  size := 9
  bytes := 16
  info := Try.t112
  z := ⟨⟨0, 0, 0, 0, 0, 0, 0, 0⟩, 0⟩
  cells := Standing.cells
  val := Standing.val
  len _ := rfl
  one x u h := by simp [Standing.cells, SV.val] at h; rcases h with rfl | rfl | rfl | rfl | rfl | rfl | rfl | rfl | rfl <;> rfl
  vcells _ := rfl
  pos := by decide
  hi := by kernel_rfl
  hz := by kernel_rfl
  hs := by kernel_rfl
  hb := by kernel_rfl
  loads x a w h := loads_agg Try.isAgg112 Try.sizeOf112 x.cells rfl a w h
structure WatchV where
  times : Option Nat
  worst : Int
  tick : Int
  standing : SV
deriving DecidableEq
@[reducible] def WatchV.cells (x : WatchV) : List Value := [.map x.times, .int .i64 x.worst, .int .i64 x.tick, x.standing.val]
@[reducible] def WatchV.val (x : WatchV) : Value := .agg #[.map x.times, .int .i64 x.worst, .int .i64 x.tick, x.standing.val]
noncomputable instance : Enc Try.prog WatchV where
  ty := 64
  size := 4
  bytes := 48
  info := Try.t64
  z := ⟨none, 0, 0, ⟨none, 0, 0⟩⟩
  cells := WatchV.cells
  val := WatchV.val
  len _ := rfl
  one x u h := by simp [WatchV.cells, SV.val] at h; rcases h with rfl | rfl | rfl | rfl <;> rfl
  vcells _ := rfl
  pos := by decide
  hi := by kernel_rfl
  hz := by kernel_rfl
  hs := by kernel_rfl
  hb := by kernel_rfl
  loads x a w h := loads_agg Try.isAgg64 Try.sizeOf64 x.cells rfl a w h
structure Entry where
  from_ : ID
  to_ : ID
  amount : Int
deriving DecidableEq
@[reducible] def Entry.cells (x : Entry) : List Value := [.int .u8 (x.from_.b0.toNat : Int), .int .u8 (x.from_.b1.toNat : Int), .int .u8 (x.from_.b2.toNat : Int), .int .u8 (x.from_.b3.toNat : Int), .int .u8 (x.from_.b4.toNat : Int), .int .u8 (x.from_.b5.toNat : Int), .int .u8 (x.from_.b6.toNat : Int), .int .u8 (x.from_.b7.toNat : Int), .int .u8 (x.to_.b0.toNat : Int), .int .u8 (x.to_.b1.toNat : Int), .int .u8 (x.to_.b2.toNat : Int), .int .u8 (x.to_.b3.toNat : Int), .int .u8 (x.to_.b4.toNat : Int), .int .u8 (x.to_.b5.toNat : Int), .int .u8 (x.to_.b6.toNat : Int), .int .u8 (x.to_.b7.toNat : Int), .int .i64 x.amount]
@[reducible] def Entry.val (x : Entry) : Value := .agg #[.int .u8 (x.from_.b0.toNat : Int), .int .u8 (x.from_.b1.toNat : Int), .int .u8 (x.from_.b2.toNat : Int), .int .u8 (x.from_.b3.toNat : Int), .int .u8 (x.from_.b4.toNat : Int), .int .u8 (x.from_.b5.toNat : Int), .int .u8 (x.from_.b6.toNat : Int), .int .u8 (x.from_.b7.toNat : Int), .int .u8 (x.to_.b0.toNat : Int), .int .u8 (x.to_.b1.toNat : Int), .int .u8 (x.to_.b2.toNat : Int), .int .u8 (x.to_.b3.toNat : Int), .int .u8 (x.to_.b4.toNat : Int), .int .u8 (x.to_.b5.toNat : Int), .int .u8 (x.to_.b6.toNat : Int), .int .u8 (x.to_.b7.toNat : Int), .int .i64 x.amount]
noncomputable instance : Enc Try.prog Entry where
  ty := 82
  size := 17
  bytes := 24
  info := Try.t82
  z := ⟨⟨0, 0, 0, 0, 0, 0, 0, 0⟩, ⟨0, 0, 0, 0, 0, 0, 0, 0⟩, 0⟩
  cells := Entry.cells
  val := Entry.val
  len _ := rfl
  one x u h := by simp [Entry.cells, SV.val] at h; rcases h with rfl | rfl | rfl | rfl | rfl | rfl | rfl | rfl | rfl | rfl | rfl | rfl | rfl | rfl | rfl | rfl | rfl <;> rfl
  vcells _ := rfl
  pos := by decide
  hi := by kernel_rfl
  hz := by kernel_rfl
  hs := by kernel_rfl
  hb := by kernel_rfl
  loads x a w h := loads_agg Try.isAgg82 Try.sizeOf82 x.cells rfl a w h
structure Account where
  balance : Int
  limit : Int
deriving DecidableEq
@[reducible] def Account.cells (x : Account) : List Value := [.int .i64 x.balance, .int .i64 x.limit]
@[reducible] def Account.val (x : Account) : Value := .agg #[.int .i64 x.balance, .int .i64 x.limit]
noncomputable instance : Enc Try.prog Account where
  ty := 86
  size := 2
  bytes := 16
  info := Try.t86
  z := ⟨0, 0⟩
  cells := Account.cells
  val := Account.val
  len _ := rfl
  one x u h := by simp [Account.cells, SV.val] at h; rcases h with rfl | rfl <;> rfl
  vcells _ := rfl
  pos := by decide
  hi := by kernel_rfl
  hz := by kernel_rfl
  hs := by kernel_rfl
  hb := by kernel_rfl
  loads x a w h := loads_agg Try.isAgg86 Try.sizeOf86 x.cells rfl a w h
structure LedgerV where
  accounts : Option Nat
  entries : SV
deriving DecidableEq
@[reducible] def LedgerV.cells (x : LedgerV) : List Value := [.map x.accounts, x.entries.val]
@[reducible] def LedgerV.val (x : LedgerV) : Value := .agg #[.map x.accounts, x.entries.val]
noncomputable instance : Enc Try.prog LedgerV where
  ty := 79
  size := 2
  bytes := 32
  info := Try.t79
  z := ⟨none, ⟨none, 0, 0⟩⟩
  cells := LedgerV.cells
  val := LedgerV.val
  len _ := rfl
  one x u h := by simp [LedgerV.cells, SV.val] at h; rcases h with rfl | rfl <;> rfl
  vcells _ := rfl
  pos := by decide
  hi := by kernel_rfl
  hz := by kernel_rfl
  hs := by kernel_rfl
  hb := by kernel_rfl
  loads x a w h := loads_agg Try.isAgg79 Try.sizeOf79 x.cells rfl a w h
end Go.Cab
