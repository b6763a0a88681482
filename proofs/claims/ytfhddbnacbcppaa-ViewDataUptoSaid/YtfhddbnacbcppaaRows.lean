/-
  No cell of these rows narrows 'for every input' (looked for: loops, veiled, ifaces, maps, wideKeys, modest, calm, conditions, laid).
  DERIVED. THE GIVEN ROWS OF THIS SEAT. 5 by the template 'for every input the law returns true; each argument reads behind the call as it read before'; 0 by the template 'total and deterministic' (their statements: YtfhddbnacbcppaaTotals.lean).
  GIVEN WITH THE SEED: the statements are not yours to turn. If you find one false, say at which input.
  Laid BY PROGRAM, IN A SANDBOX (cutbox-rows.mjs): the forced cells as the released guide's own fill.sh prints them over the translation 20dbc6f8f4000649… (all of the seat's roots in one cut). By AI agents, Wed Nov 11 2026. No macro, syntax, notation, axiom, sorry.
-/
import Derived.Test.YtfhddbnacbcppaaChecked
import GoSem.Claim
import GoSem.ClaimJoined
import GoSem.ClaimMapViews
import Derived.JoinedTies
import Derived.KernelRfl
namespace Go.Proofs.Ytfhddbnacbcppaa
/- THE CELL 'sum', in the pinned program and in every row, IS THE sha256 OF THE DUMP (.gsa) THAT YtfhddbnacbcppaaProg.lean LOADS. Nothing in Lean hashes anything: it is a label: what it is worth is what the hold of that sum in a sandbox is worth. -/
noncomputable def Try.pinned : Pinned := { name := "ytfhddbnacbcppaa", sum := "20dbc6f8f400064971dbf23bb1b2ca697a06c10dabc1b978fd4ba16082fcf86b", checked := Try.checked }
namespace Rows
def none {H : Type} : Left H := { results := [], args := [] }

/-- 'mootlaw3.LineSolves': WHATEVER THE INPUT: true; the input reads as it did. -/
def lineSolvesSpec : ChangeSpec := { name := "lineSolves", fn := fun _ => fun
  | [d1, d2] => { results := [.lit (.bool true)], args := [d1, d2] }
  | _ => none }
def lineSolvesRow : OpenClaim := { program := "ytfhddbnacbcppaa", sum := "20dbc6f8f400064971dbf23bb1b2ca697a06c10dabc1b978fd4ba16082fcf86b", func := "moothall/mootlaw3.LineSolves", spec := "lineSolves", unfollowed := true, recurses := true, apart := false }
def LineSolvesSaid : Prop := lineSolvesRow.holds Try.pinned (OpenSpec.ofChange lineSolvesSpec)

/-- ITS FALSE NEIGHBOUR: 'it returns false'. Refute it at one input. -/
def lineSolvesWrong : ChangeSpec := { name := "lineSolves", fn := fun _ => fun
  | [d1, d2] => { results := [.lit (.bool false)], args := [d1, d2] }
  | _ => none }
def LineSolvesWrongFalsely : Prop := lineSolvesRow.holds Try.pinned (OpenSpec.ofChange lineSolvesWrong)

/-- 'mootkeep3.LineOrders': WHATEVER THE INPUT: true; the input reads as it did. -/
def lineOrdersSpec : ChangeSpec := { name := "lineOrders", fn := fun _ => fun
  | [d1, d2] => { results := [.lit (.bool true)], args := [d1, d2] }
  | _ => none }
def lineOrdersRow : OpenClaim := { program := "ytfhddbnacbcppaa", sum := "20dbc6f8f400064971dbf23bb1b2ca697a06c10dabc1b978fd4ba16082fcf86b", func := "moothall/mootkeep3.LineOrders", spec := "lineOrders", unfollowed := true, recurses := true, apart := false }
def LineOrdersSaid : Prop := lineOrdersRow.holds Try.pinned (OpenSpec.ofChange lineOrdersSpec)

/-- ITS FALSE NEIGHBOUR: 'it returns false'. Refute it at one input. -/
def lineOrdersWrong : ChangeSpec := { name := "lineOrders", fn := fun _ => fun
  | [d1, d2] => { results := [.lit (.bool false)], args := [d1, d2] }
  | _ => none }
def LineOrdersWrongFalsely : Prop := lineOrdersRow.holds Try.pinned (OpenSpec.ofChange lineOrdersWrong)

/-- 'mootlaw3.ViewData': WHATEVER THE INPUT: true; the input reads as it did. -/
def viewDataSpec : ChangeSpec := { name := "viewData", fn := fun _ => fun
  | [d1, d2] => { results := [.lit (.bool true)], args := [d1, d2] }
  | _ => none }
def viewDataRow : OpenClaim := { program := "ytfhddbnacbcppaa", sum := "20dbc6f8f400064971dbf23bb1b2ca697a06c10dabc1b978fd4ba16082fcf86b", func := "moothall/mootlaw3.ViewData", spec := "viewData", inPlace := ["slices.overlaps[moothall/api.Datum]"], unfollowed := true, recurses := true, apart := false }
def ViewDataSaid : Prop := viewDataRow.holds Try.pinned (OpenSpec.ofChange viewDataSpec)

/-- ITS FALSE NEIGHBOUR: 'it returns false'. Refute it at one input. -/
def viewDataWrong : ChangeSpec := { name := "viewData", fn := fun _ => fun
  | [d1, d2] => { results := [.lit (.bool false)], args := [d1, d2] }
  | _ => none }
def ViewDataWrongFalsely : Prop := viewDataRow.holds Try.pinned (OpenSpec.ofChange viewDataWrong)

/-- 'mootlaw3.LineChecks': WHATEVER THE INPUT: true; the input reads as it did. -/
def lineChecksSpec : ChangeSpec := { name := "lineChecks", fn := fun _ => fun
  | [d1, d2, d3, d4] => { results := [.lit (.bool true)], args := [d1, d2, d3, d4] }
  | _ => none }
def lineChecksRow : OpenClaim := { program := "ytfhddbnacbcppaa", sum := "20dbc6f8f400064971dbf23bb1b2ca697a06c10dabc1b978fd4ba16082fcf86b", func := "moothall/mootlaw3.LineChecks", spec := "lineChecks", unfollowed := true, recurses := true, apart := false }
def LineChecksSaid : Prop := lineChecksRow.holds Try.pinned (OpenSpec.ofChange lineChecksSpec)

/-- ITS FALSE NEIGHBOUR: 'it returns false'. Refute it at one input. -/
def lineChecksWrong : ChangeSpec := { name := "lineChecks", fn := fun _ => fun
  | [d1, d2, d3, d4] => { results := [.lit (.bool false)], args := [d1, d2, d3, d4] }
  | _ => none }
def LineChecksWrongFalsely : Prop := lineChecksRow.holds Try.pinned (OpenSpec.ofChange lineChecksWrong)

/-- 'mootkeep3.LineFewer': WHATEVER THE INPUT: true; the input reads as it did. -/
def lineFewerSpec : ChangeSpec := { name := "lineFewer", fn := fun _ => fun
  | [d1, d2, d3] => { results := [.lit (.bool true)], args := [d1, d2, d3] }
  | _ => none }
def lineFewerRow : OpenClaim := { program := "ytfhddbnacbcppaa", sum := "20dbc6f8f400064971dbf23bb1b2ca697a06c10dabc1b978fd4ba16082fcf86b", func := "moothall/mootkeep3.LineFewer", spec := "lineFewer", unfollowed := true, recurses := true, apart := false }
def LineFewerSaid : Prop := lineFewerRow.holds Try.pinned (OpenSpec.ofChange lineFewerSpec)

/-- ITS FALSE NEIGHBOUR: 'it returns false'. Refute it at one input. -/
def lineFewerWrong : ChangeSpec := { name := "lineFewer", fn := fun _ => fun
  | [d1, d2, d3] => { results := [.lit (.bool false)], args := [d1, d2, d3] }
  | _ => none }
def LineFewerWrongFalsely : Prop := lineFewerRow.holds Try.pinned (OpenSpec.ofChange lineFewerWrong)

/- THE SECOND FORM. 'bulk': how many values and letters a reading holds, each counted each time it is reached (what is shared counts as often as it is met; a slice's spare places count too). A statement '..UptoSaid' is the law's where the arguments, and the package variables that the reading takes, are together of bulk at most 1048576: NARROWER than '..Said'. Prove '..Said' where nothing that the law and all that it calls make is longer than what came in: it says more and counts as full. Else prove '..UptoSaid'. A law counts once. -/
mutual
def uptoBulk {H : Type} : DataW H → Nat
  | .lit (.string bytes) => bytes.length + 1
  | .lit _ => 1
  | .nil => 1
  | .ptr d => uptoBulk d + 1
  | .slice elems spare => uptoBulkAll elems + uptoBulkAll spare + 1
  | .agg parts => uptoBulkAll parts + 1
  | .iface _ d => uptoBulk d + 1
  | .map entries => uptoBulkEntries entries + 1
  | .held _ => 1
def uptoBulkAll {H : Type} : List (DataW H) → Nat
  | [] => 0
  | d :: r => uptoBulk d + uptoBulkAll r
def uptoBulkEntries {H : Type} : List (Lit × DataW H) → Nat
  | [] => 0
  | x :: r => uptoBulkEntry x + uptoBulkEntries r
def uptoBulkEntry {H : Type} : Lit × DataW H → Nat
  | (.string bytes, d) => bytes.length + uptoBulk d + 1
  | (_, d) => uptoBulk d + 1
 end
def uptoSmall : (H : Type) → List (DataW H) → Bool := fun _ ds => decide (uptoBulkAll ds ≤ 1048576)
def OpenSpec.upto (s : _root_.Go.ChangeSpec) : _root_.Go.OpenSpec := { _root_.Go.OpenSpec.ofChange s with cond := some uptoSmall }

/-- 'mootlaw3.LineSolves', WHERE WHAT IT READS IS OF BULK AT MOST 1048576: true; the input reads as it did. -/
def lineSolvesUptoRow : OpenClaim := { program := "ytfhddbnacbcppaa", sum := "20dbc6f8f400064971dbf23bb1b2ca697a06c10dabc1b978fd4ba16082fcf86b", func := "moothall/mootlaw3.LineSolves", spec := "lineSolves", unfollowed := true, recurses := true, apart := false, narrowed := true }
def LineSolvesUptoSaid : Prop := lineSolvesUptoRow.holds Try.pinned (OpenSpec.upto lineSolvesSpec)

/-- 'mootkeep3.LineOrders', WHERE WHAT IT READS IS OF BULK AT MOST 1048576: true; the input reads as it did. -/
def lineOrdersUptoRow : OpenClaim := { program := "ytfhddbnacbcppaa", sum := "20dbc6f8f400064971dbf23bb1b2ca697a06c10dabc1b978fd4ba16082fcf86b", func := "moothall/mootkeep3.LineOrders", spec := "lineOrders", unfollowed := true, recurses := true, apart := false, narrowed := true }
def LineOrdersUptoSaid : Prop := lineOrdersUptoRow.holds Try.pinned (OpenSpec.upto lineOrdersSpec)

/-- 'mootlaw3.ViewData', WHERE WHAT IT READS IS OF BULK AT MOST 1048576: true; the input reads as it did. -/
def viewDataUptoRow : OpenClaim := { program := "ytfhddbnacbcppaa", sum := "20dbc6f8f400064971dbf23bb1b2ca697a06c10dabc1b978fd4ba16082fcf86b", func := "moothall/mootlaw3.ViewData", spec := "viewData", inPlace := ["slices.overlaps[moothall/api.Datum]"], unfollowed := true, recurses := true, apart := false, narrowed := true }
def ViewDataUptoSaid : Prop := viewDataUptoRow.holds Try.pinned (OpenSpec.upto viewDataSpec)

/-- 'mootlaw3.LineChecks', WHERE WHAT IT READS IS OF BULK AT MOST 1048576: true; the input reads as it did. -/
def lineChecksUptoRow : OpenClaim := { program := "ytfhddbnacbcppaa", sum := "20dbc6f8f400064971dbf23bb1b2ca697a06c10dabc1b978fd4ba16082fcf86b", func := "moothall/mootlaw3.LineChecks", spec := "lineChecks", unfollowed := true, recurses := true, apart := false, narrowed := true }
def LineChecksUptoSaid : Prop := lineChecksUptoRow.holds Try.pinned (OpenSpec.upto lineChecksSpec)

/-- 'mootkeep3.LineFewer', WHERE WHAT IT READS IS OF BULK AT MOST 1048576: true; the input reads as it did. -/
def lineFewerUptoRow : OpenClaim := { program := "ytfhddbnacbcppaa", sum := "20dbc6f8f400064971dbf23bb1b2ca697a06c10dabc1b978fd4ba16082fcf86b", func := "moothall/mootkeep3.LineFewer", spec := "lineFewer", unfollowed := true, recurses := true, apart := false, narrowed := true }
def LineFewerUptoSaid : Prop := lineFewerUptoRow.holds Try.pinned (OpenSpec.upto lineFewerSpec)

end Rows
end Go.Proofs.Ytfhddbnacbcppaa
