/-
  No cell of these rows narrows 'for every input' (looked for: loops, veiled, ifaces, maps, wideKeys, modest, calm, conditions, laid).
  DERIVED. THE GIVEN ROWS OF THIS SEAT. 5 by the template 'for every input the law returns true; each argument reads behind the call as it read before'; 0 by the template 'total and deterministic' (their statements: YtkjcjlcimgcfcaaTotals.lean).
  GIVEN WITH THE SEED: the statements are not yours to turn. If you find one false, say at which input.
  Laid BY PROGRAM, IN A SANDBOX (cutbox-rows.mjs): the forced cells as the released guide's own fill.sh prints them over the translation 66c08082c7a48afe… (all of the seat's roots in one cut). By AI agents, Wed Nov 11 2026. No macro, syntax, notation, axiom, sorry.
-/
import Derived.Test.YtkjcjlcimgcfcaaChecked
import GoSem.Claim
import GoSem.ClaimJoined
import GoSem.ClaimMapViews
import Derived.JoinedTies
import Derived.KernelRfl
namespace Go.Proofs.Ytkjcjlcimgcfcaa
/- THE CELL 'sum', in the pinned program and in every row, IS THE sha256 OF THE DUMP (.gsa) THAT YtkjcjlcimgcfcaaProg.lean LOADS. Nothing in Lean hashes anything: it is a label: what it is worth is what the hold of that sum in a sandbox is worth. -/
noncomputable def Try.pinned : Pinned := { name := "ytkjcjlcimgcfcaa", sum := "66c08082c7a48afe8bd5bd64ba2fdbc89eccfba7f140a8051e63425795dd438e", checked := Try.checked }
namespace Rows
def none {H : Type} : Left H := { results := [], args := [] }

/-- 'cabstandlaw23.LedgerNames': WHATEVER THE INPUT: true; the input reads as it did. -/
def ledgerNamesSpec : ChangeSpec := { name := "ledgerNames", fn := fun _ => fun
  | [] => { results := [.lit (.bool true)], args := [] }
  | _ => none }
def ledgerNamesRow : OpenClaim := { program := "ytkjcjlcimgcfcaa", sum := "66c08082c7a48afe8bd5bd64ba2fdbc89eccfba7f140a8051e63425795dd438e", func := "cabstand/cabstandlaw23.LedgerNames", spec := "ledgerNames", inPlace := ["internal/bytealg.Compare"], unfollowed := true, recurses := true, plainKeys := false, apart := false }
def LedgerNamesSaid : Prop := ledgerNamesRow.holds Try.pinned (OpenSpec.ofChange ledgerNamesSpec)

/-- ITS FALSE NEIGHBOUR: 'it returns false'. Refute it at one input. -/
def ledgerNamesWrong : ChangeSpec := { name := "ledgerNames", fn := fun _ => fun
  | [] => { results := [.lit (.bool false)], args := [] }
  | _ => none }
def LedgerNamesWrongFalsely : Prop := ledgerNamesRow.holds Try.pinned (OpenSpec.ofChange ledgerNamesWrong)

/-- 'cabstandlaw21.FairGoods': WHATEVER THE INPUT: true; the input reads as it did. -/
def fairGoodsSpec : ChangeSpec := { name := "fairGoods", fn := fun _ => fun
  | [d1, d2] => { results := [.lit (.bool true)], args := [d1, d2] }
  | _ => none }
def fairGoodsRow : OpenClaim := { program := "ytkjcjlcimgcfcaa", sum := "66c08082c7a48afe8bd5bd64ba2fdbc89eccfba7f140a8051e63425795dd438e", func := "cabstand/cabstandlaw21.FairGoods", spec := "fairGoods", inPlace := ["internal/bytealg.Compare"], unfollowed := true, recurses := true, plainKeys := false, apart := false }
def FairGoodsSaid : Prop := fairGoodsRow.holds Try.pinned (OpenSpec.ofChange fairGoodsSpec)

/-- ITS FALSE NEIGHBOUR: 'it returns false'. Refute it at one input. -/
def fairGoodsWrong : ChangeSpec := { name := "fairGoods", fn := fun _ => fun
  | [d1, d2] => { results := [.lit (.bool false)], args := [d1, d2] }
  | _ => none }
def FairGoodsWrongFalsely : Prop := fairGoodsRow.holds Try.pinned (OpenSpec.ofChange fairGoodsWrong)

/-- 'cabstandlaw21.FairNone': WHATEVER THE INPUT: true; the input reads as it did. -/
def fairNoneSpec : ChangeSpec := { name := "fairNone", fn := fun _ => fun
  | [d] => { results := [.lit (.bool true)], args := [d] }
  | _ => none }
def fairNoneRow : OpenClaim := { program := "ytkjcjlcimgcfcaa", sum := "66c08082c7a48afe8bd5bd64ba2fdbc89eccfba7f140a8051e63425795dd438e", func := "cabstand/cabstandlaw21.FairNone", spec := "fairNone", inPlace := ["internal/bytealg.Compare"], unfollowed := true, recurses := true, plainKeys := false, apart := false }
def FairNoneSaid : Prop := fairNoneRow.holds Try.pinned (OpenSpec.ofChange fairNoneSpec)

/-- ITS FALSE NEIGHBOUR: 'it returns false'. Refute it at one input. -/
def fairNoneWrong : ChangeSpec := { name := "fairNone", fn := fun _ => fun
  | [d] => { results := [.lit (.bool false)], args := [d] }
  | _ => none }
def FairNoneWrongFalsely : Prop := fairNoneRow.holds Try.pinned (OpenSpec.ofChange fairNoneWrong)

/-- 'cabstandlaw21.FairCounts': WHATEVER THE INPUT: true; the input reads as it did. -/
def fairCountsSpec : ChangeSpec := { name := "fairCounts", fn := fun _ => fun
  | [d] => { results := [.lit (.bool true)], args := [d] }
  | _ => none }
def fairCountsRow : OpenClaim := { program := "ytkjcjlcimgcfcaa", sum := "66c08082c7a48afe8bd5bd64ba2fdbc89eccfba7f140a8051e63425795dd438e", func := "cabstand/cabstandlaw21.FairCounts", spec := "fairCounts", inPlace := ["internal/bytealg.Compare"], unfollowed := true, recurses := true, plainKeys := false, apart := false }
def FairCountsSaid : Prop := fairCountsRow.holds Try.pinned (OpenSpec.ofChange fairCountsSpec)

/-- ITS FALSE NEIGHBOUR: 'it returns false'. Refute it at one input. -/
def fairCountsWrong : ChangeSpec := { name := "fairCounts", fn := fun _ => fun
  | [d] => { results := [.lit (.bool false)], args := [d] }
  | _ => none }
def FairCountsWrongFalsely : Prop := fairCountsRow.holds Try.pinned (OpenSpec.ofChange fairCountsWrong)

/-- 'cabstandlaw21.FairStarves': WHATEVER THE INPUT: true; the input reads as it did. -/
def fairStarvesSpec : ChangeSpec := { name := "fairStarves", fn := fun _ => fun
  | [d] => { results := [.lit (.bool true)], args := [d] }
  | _ => none }
def fairStarvesRow : OpenClaim := { program := "ytkjcjlcimgcfcaa", sum := "66c08082c7a48afe8bd5bd64ba2fdbc89eccfba7f140a8051e63425795dd438e", func := "cabstand/cabstandlaw21.FairStarves", spec := "fairStarves", inPlace := ["internal/bytealg.Compare"], unfollowed := true, recurses := true, plainKeys := false, apart := false }
def FairStarvesSaid : Prop := fairStarvesRow.holds Try.pinned (OpenSpec.ofChange fairStarvesSpec)

/-- ITS FALSE NEIGHBOUR: 'it returns false'. Refute it at one input. -/
def fairStarvesWrong : ChangeSpec := { name := "fairStarves", fn := fun _ => fun
  | [d] => { results := [.lit (.bool false)], args := [d] }
  | _ => none }
def FairStarvesWrongFalsely : Prop := fairStarvesRow.holds Try.pinned (OpenSpec.ofChange fairStarvesWrong)

/- THE SECOND FORM. 'bulk': how many values and letters a reading holds, each counted each time it is reached (what is shared counts as often as it is met; a slice's spare places count too). A statement '..UptoSaid' is the law's where the arguments, and the package variables that the reading takes, are together of bulk at most 1048576: NARROWER than '..Said'. Prove '..Said' where nothing that the law and all that it calls make is longer than what came in: it says more and counts as full. Else prove '..UptoSaid'. A law counts once. -/
mutual
def uptoBulk {H : Type} : DataW H → Nat
  | .lit (.string bytes) => bytes.length + 1
  | .lit _ => 1
  | .nil => 1
  | .ptr d => uptoBulk d + 1
  | .slice elems spare => uptoBulkAll elems + uptoBulkAll spare + 1
  | .agg parts => uptoBulkAll parts + 1
  | .iface _ d => uptoBulk d + 1
  | .map entries => uptoBulkEntries entries + 1
  | .held _ => 1
def uptoBulkAll {H : Type} : List (DataW H) → Nat
  | [] => 0
  | d :: r => uptoBulk d + uptoBulkAll r
def uptoBulkEntries {H : Type} : List (Lit × DataW H) → Nat
  | [] => 0
  | x :: r => uptoBulkEntry x + uptoBulkEntries r
def uptoBulkEntry {H : Type} : Lit × DataW H → Nat
  | (.string bytes, d) => bytes.length + uptoBulk d + 1
  | (_, d) => uptoBulk d + 1
 end
def uptoSmall : (H : Type) → List (DataW H) → Bool := fun _ ds => decide (uptoBulkAll ds ≤ 1048576)
def OpenSpec.upto (s : _root_.Go.ChangeSpec) : _root_.Go.OpenSpec := { _root_.Go.OpenSpec.ofChange s with cond := some uptoSmall }

/-- 'cabstandlaw23.LedgerNames', WHERE WHAT IT READS IS OF BULK AT MOST 1048576: true; the input reads as it did. -/
def ledgerNamesUptoRow : OpenClaim := { program := "ytkjcjlcimgcfcaa", sum := "66c08082c7a48afe8bd5bd64ba2fdbc89eccfba7f140a8051e63425795dd438e", func := "cabstand/cabstandlaw23.LedgerNames", spec := "ledgerNames", inPlace := ["internal/bytealg.Compare"], unfollowed := true, recurses := true, plainKeys := false, apart := false, narrowed := true }
def LedgerNamesUptoSaid : Prop := ledgerNamesUptoRow.holds Try.pinned (OpenSpec.upto ledgerNamesSpec)

/-- 'cabstandlaw21.FairGoods', WHERE WHAT IT READS IS OF BULK AT MOST 1048576: true; the input reads as it did. -/
def fairGoodsUptoRow : OpenClaim := { program := "ytkjcjlcimgcfcaa", sum := "66c08082c7a48afe8bd5bd64ba2fdbc89eccfba7f140a8051e63425795dd438e", func := "cabstand/cabstandlaw21.FairGoods", spec := "fairGoods", inPlace := ["internal/bytealg.Compare"], unfollowed := true, recurses := true, plainKeys := false, apart := false, narrowed := true }
def FairGoodsUptoSaid : Prop := fairGoodsUptoRow.holds Try.pinned (OpenSpec.upto fairGoodsSpec)

/-- 'cabstandlaw21.FairNone', WHERE WHAT IT READS IS OF BULK AT MOST 1048576: true; the input reads as it did. -/
def fairNoneUptoRow : OpenClaim := { program := "ytkjcjlcimgcfcaa", sum := "66c08082c7a48afe8bd5bd64ba2fdbc89eccfba7f140a8051e63425795dd438e", func := "cabstand/cabstandlaw21.FairNone", spec := "fairNone", inPlace := ["internal/bytealg.Compare"], unfollowed := true, recurses := true, plainKeys := false, apart := false, narrowed := true }
def FairNoneUptoSaid : Prop := fairNoneUptoRow.holds Try.pinned (OpenSpec.upto fairNoneSpec)

/-- 'cabstandlaw21.FairCounts', WHERE WHAT IT READS IS OF BULK AT MOST 1048576: true; the input reads as it did. -/
def fairCountsUptoRow : OpenClaim := { program := "ytkjcjlcimgcfcaa", sum := "66c08082c7a48afe8bd5bd64ba2fdbc89eccfba7f140a8051e63425795dd438e", func := "cabstand/cabstandlaw21.FairCounts", spec := "fairCounts", inPlace := ["internal/bytealg.Compare"], unfollowed := true, recurses := true, plainKeys := false, apart := false, narrowed := true }
def FairCountsUptoSaid : Prop := fairCountsUptoRow.holds Try.pinned (OpenSpec.upto fairCountsSpec)

/-- 'cabstandlaw21.FairStarves', WHERE WHAT IT READS IS OF BULK AT MOST 1048576: true; the input reads as it did. -/
def fairStarvesUptoRow : OpenClaim := { program := "ytkjcjlcimgcfcaa", sum := "66c08082c7a48afe8bd5bd64ba2fdbc89eccfba7f140a8051e63425795dd438e", func := "cabstand/cabstandlaw21.FairStarves", spec := "fairStarves", inPlace := ["internal/bytealg.Compare"], unfollowed := true, recurses := true, plainKeys := false, apart := false, narrowed := true }
def FairStarvesUptoSaid : Prop := fairStarvesUptoRow.holds Try.pinned (OpenSpec.upto fairStarvesSpec)

end Rows
end Go.Proofs.Ytkjcjlcimgcfcaa
