/-
  No cell of these rows narrows 'for every input' (looked for: loops, veiled, ifaces, maps, wideKeys, modest, calm, conditions, laid).
  DERIVED. THE GIVEN ROWS OF THIS SEAT. 11 by the template 'for every input the law returns true; each argument reads behind the call as it read before'; 0 by the template 'total and deterministic' (their statements: YtgpioploehgpdaaGreatTotals.lean).
  GIVEN WITH THE SEED: the statements are not yours to turn. If you find one false, say at which input.
  Laid BY PROGRAM, IN A SANDBOX (cutbox-rows.mjs): the forced cells as the released guide's own fill.sh prints them over the translation 4536a55f732e2264… (all of the seat's roots in one cut). By AI agents, Wed Nov 11 2026. No macro, syntax, notation, axiom, sorry.
-/
import Derived.Test.YtgpioploehgpdaaGreatChecked
import GoSem.Claim
import GoSem.ClaimJoined
import GoSem.ClaimMapViews
import Derived.JoinedTies
import Derived.KernelRfl
namespace Go.Proofs.YtgpioploehgpdaaGreat
/- THE CELL 'sum', in the pinned program and in every row, IS THE sha256 OF THE DUMP (.gsa) THAT YtgpioploehgpdaaGreatProg.lean LOADS. Nothing in Lean hashes anything: it is a label: what it is worth is what the hold of that sum in a sandbox is worth. -/
noncomputable def Tryz.pinned : Pinned := { name := "ytgpioploehgpdaagreat", sum := "4536a55f732e226459ba4d94faf0c5fe81f1bd80068d7fc389bb76ff886d53cb", checked := Tryz.checked }
namespace Rows
def none {H : Type} : Left H := { results := [], args := [] }

/-- 'mootkeep3.LookUsers': WHATEVER THE INPUT: true; the input reads as it did. -/
def lookUsersSpec : ChangeSpec := { name := "lookUsers", fn := fun _ => fun
  | [d1, d2, d3] => { results := [.lit (.bool true)], args := [d1, d2, d3] }
  | _ => none }
def lookUsersRow : OpenClaim := { program := "ytgpioploehgpdaagreat", sum := "4536a55f732e226459ba4d94faf0c5fe81f1bd80068d7fc389bb76ff886d53cb", func := "moothall/mootkeep3.LookUsers", spec := "lookUsers", unfollowed := true, recurses := true, plainKeys := false, apart := false }
def LookUsersSaid : Prop := lookUsersRow.holds Tryz.pinned (OpenSpec.ofChange lookUsersSpec)

/-- ITS FALSE NEIGHBOUR: 'it returns false'. Refute it at one input. -/
def lookUsersWrong : ChangeSpec := { name := "lookUsers", fn := fun _ => fun
  | [d1, d2, d3] => { results := [.lit (.bool false)], args := [d1, d2, d3] }
  | _ => none }
def LookUsersWrongFalsely : Prop := lookUsersRow.holds Tryz.pinned (OpenSpec.ofChange lookUsersWrong)

/-- 'mootkeep3.LookLevels': WHATEVER THE INPUT: true; the input reads as it did. -/
def lookLevelsSpec : ChangeSpec := { name := "lookLevels", fn := fun _ => fun
  | [d] => { results := [.lit (.bool true)], args := [d] }
  | _ => none }
def lookLevelsRow : OpenClaim := { program := "ytgpioploehgpdaagreat", sum := "4536a55f732e226459ba4d94faf0c5fe81f1bd80068d7fc389bb76ff886d53cb", func := "moothall/mootkeep3.LookLevels", spec := "lookLevels", unfollowed := true, recurses := true, plainKeys := false, apart := false }
def LookLevelsSaid : Prop := lookLevelsRow.holds Tryz.pinned (OpenSpec.ofChange lookLevelsSpec)

/-- ITS FALSE NEIGHBOUR: 'it returns false'. Refute it at one input. -/
def lookLevelsWrong : ChangeSpec := { name := "lookLevels", fn := fun _ => fun
  | [d] => { results := [.lit (.bool false)], args := [d] }
  | _ => none }
def LookLevelsWrongFalsely : Prop := lookLevelsRow.holds Tryz.pinned (OpenSpec.ofChange lookLevelsWrong)

/-- 'mootlaw3.LookNames': WHATEVER THE INPUT: true; the input reads as it did. -/
def lookNamesSpec : ChangeSpec := { name := "lookNames", fn := fun _ => fun
  | [d1, d2] => { results := [.lit (.bool true)], args := [d1, d2] }
  | _ => none }
def lookNamesRow : OpenClaim := { program := "ytgpioploehgpdaagreat", sum := "4536a55f732e226459ba4d94faf0c5fe81f1bd80068d7fc389bb76ff886d53cb", func := "moothall/mootlaw3.LookNames", spec := "lookNames", inPlace := ["slices.overlaps[moothall/api.Attr]", "slices.overlaps[string]"], unfollowed := true, recurses := true, plainKeys := false, apart := false }
def LookNamesSaid : Prop := lookNamesRow.holds Tryz.pinned (OpenSpec.ofChange lookNamesSpec)

/-- ITS FALSE NEIGHBOUR: 'it returns false'. Refute it at one input. -/
def lookNamesWrong : ChangeSpec := { name := "lookNames", fn := fun _ => fun
  | [d1, d2] => { results := [.lit (.bool false)], args := [d1, d2] }
  | _ => none }
def LookNamesWrongFalsely : Prop := lookNamesRow.holds Tryz.pinned (OpenSpec.ofChange lookNamesWrong)

/-- 'mootlaw3.LookLayers': WHATEVER THE INPUT: true; the input reads as it did. -/
def lookLayersSpec : ChangeSpec := { name := "lookLayers", fn := fun _ => fun
  | [d] => { results := [.lit (.bool true)], args := [d] }
  | _ => none }
def lookLayersRow : OpenClaim := { program := "ytgpioploehgpdaagreat", sum := "4536a55f732e226459ba4d94faf0c5fe81f1bd80068d7fc389bb76ff886d53cb", func := "moothall/mootlaw3.LookLayers", spec := "lookLayers", inPlace := ["slices.overlaps[moothall/api.Attr]", "slices.overlaps[string]"], unfollowed := true, recurses := true, plainKeys := false, apart := false }
def LookLayersSaid : Prop := lookLayersRow.holds Tryz.pinned (OpenSpec.ofChange lookLayersSpec)

/-- ITS FALSE NEIGHBOUR: 'it returns false'. Refute it at one input. -/
def lookLayersWrong : ChangeSpec := { name := "lookLayers", fn := fun _ => fun
  | [d] => { results := [.lit (.bool false)], args := [d] }
  | _ => none }
def LookLayersWrongFalsely : Prop := lookLayersRow.holds Tryz.pinned (OpenSpec.ofChange lookLayersWrong)

/-- 'mootkeep3.PrecStrong': WHATEVER THE INPUT: true; the input reads as it did. -/
def precStrongSpec : ChangeSpec := { name := "precStrong", fn := fun _ => fun
  | [d1, d2] => { results := [.lit (.bool true)], args := [d1, d2] }
  | _ => none }
def precStrongRow : OpenClaim := { program := "ytgpioploehgpdaagreat", sum := "4536a55f732e226459ba4d94faf0c5fe81f1bd80068d7fc389bb76ff886d53cb", func := "moothall/mootkeep3.PrecStrong", spec := "precStrong", unfollowed := true, recurses := true, plainKeys := false, apart := false }
def PrecStrongSaid : Prop := precStrongRow.holds Tryz.pinned (OpenSpec.ofChange precStrongSpec)

/-- ITS FALSE NEIGHBOUR: 'it returns false'. Refute it at one input. -/
def precStrongWrong : ChangeSpec := { name := "precStrong", fn := fun _ => fun
  | [d1, d2] => { results := [.lit (.bool false)], args := [d1, d2] }
  | _ => none }
def PrecStrongWrongFalsely : Prop := precStrongRow.holds Tryz.pinned (OpenSpec.ofChange precStrongWrong)

/-- 'mootkeep3.PrecDepths': WHATEVER THE INPUT: true; the input reads as it did. -/
def precDepthsSpec : ChangeSpec := { name := "precDepths", fn := fun _ => fun
  | [d] => { results := [.lit (.bool true)], args := [d] }
  | _ => none }
def precDepthsRow : OpenClaim := { program := "ytgpioploehgpdaagreat", sum := "4536a55f732e226459ba4d94faf0c5fe81f1bd80068d7fc389bb76ff886d53cb", func := "moothall/mootkeep3.PrecDepths", spec := "precDepths", unfollowed := true, recurses := true, plainKeys := false, apart := false }
def PrecDepthsSaid : Prop := precDepthsRow.holds Tryz.pinned (OpenSpec.ofChange precDepthsSpec)

/-- ITS FALSE NEIGHBOUR: 'it returns false'. Refute it at one input. -/
def precDepthsWrong : ChangeSpec := { name := "precDepths", fn := fun _ => fun
  | [d] => { results := [.lit (.bool false)], args := [d] }
  | _ => none }
def PrecDepthsWrongFalsely : Prop := precDepthsRow.holds Tryz.pinned (OpenSpec.ofChange precDepthsWrong)

/-- 'mootlaw3.PrecRefs': WHATEVER THE INPUT: true; the input reads as it did. -/
def precRefsSpec : ChangeSpec := { name := "precRefs", fn := fun _ => fun
  | [d1, d2] => { results := [.lit (.bool true)], args := [d1, d2] }
  | _ => none }
def precRefsRow : OpenClaim := { program := "ytgpioploehgpdaagreat", sum := "4536a55f732e226459ba4d94faf0c5fe81f1bd80068d7fc389bb76ff886d53cb", func := "moothall/mootlaw3.PrecRefs", spec := "precRefs", unfollowed := true, recurses := true, plainKeys := false, apart := false }
def PrecRefsSaid : Prop := precRefsRow.holds Tryz.pinned (OpenSpec.ofChange precRefsSpec)

/-- ITS FALSE NEIGHBOUR: 'it returns false'. Refute it at one input. -/
def precRefsWrong : ChangeSpec := { name := "precRefs", fn := fun _ => fun
  | [d1, d2] => { results := [.lit (.bool false)], args := [d1, d2] }
  | _ => none }
def PrecRefsWrongFalsely : Prop := precRefsRow.holds Tryz.pinned (OpenSpec.ofChange precRefsWrong)

/-- 'mootlaw3.PrecOrders': WHATEVER THE INPUT: true; the input reads as it did. -/
def precOrdersSpec : ChangeSpec := { name := "precOrders", fn := fun _ => fun
  | [d1, d2, d3] => { results := [.lit (.bool true)], args := [d1, d2, d3] }
  | _ => none }
def precOrdersRow : OpenClaim := { program := "ytgpioploehgpdaagreat", sum := "4536a55f732e226459ba4d94faf0c5fe81f1bd80068d7fc389bb76ff886d53cb", func := "moothall/mootlaw3.PrecOrders", spec := "precOrders", unfollowed := true, recurses := true, plainKeys := false, apart := false }
def PrecOrdersSaid : Prop := precOrdersRow.holds Tryz.pinned (OpenSpec.ofChange precOrdersSpec)

/-- ITS FALSE NEIGHBOUR: 'it returns false'. Refute it at one input. -/
def precOrdersWrong : ChangeSpec := { name := "precOrders", fn := fun _ => fun
  | [d1, d2, d3] => { results := [.lit (.bool false)], args := [d1, d2, d3] }
  | _ => none }
def PrecOrdersWrongFalsely : Prop := precOrdersRow.holds Tryz.pinned (OpenSpec.ofChange precOrdersWrong)

/-- 'mootlaw3.ViewChecks': WHATEVER THE INPUT: true; the input reads as it did. -/
def viewChecksSpec : ChangeSpec := { name := "viewChecks", fn := fun _ => fun
  | [d1, d2, d3] => { results := [.lit (.bool true)], args := [d1, d2, d3] }
  | _ => none }
def viewChecksRow : OpenClaim := { program := "ytgpioploehgpdaagreat", sum := "4536a55f732e226459ba4d94faf0c5fe81f1bd80068d7fc389bb76ff886d53cb", func := "moothall/mootlaw3.ViewChecks", spec := "viewChecks", inPlace := ["slices.overlaps[moothall/api.Attr]"], unfollowed := true, recurses := true, plainKeys := false, apart := false }
def ViewChecksSaid : Prop := viewChecksRow.holds Tryz.pinned (OpenSpec.ofChange viewChecksSpec)

/-- ITS FALSE NEIGHBOUR: 'it returns false'. Refute it at one input. -/
def viewChecksWrong : ChangeSpec := { name := "viewChecks", fn := fun _ => fun
  | [d1, d2, d3] => { results := [.lit (.bool false)], args := [d1, d2, d3] }
  | _ => none }
def ViewChecksWrongFalsely : Prop := viewChecksRow.holds Tryz.pinned (OpenSpec.ofChange viewChecksWrong)

/-- 'mootkeep3.ViewOpens': WHATEVER THE INPUT: true; the input reads as it did. -/
def viewOpensSpec : ChangeSpec := { name := "viewOpens", fn := fun _ => fun
  | [d1, d2, d3] => { results := [.lit (.bool true)], args := [d1, d2, d3] }
  | _ => none }
def viewOpensRow : OpenClaim := { program := "ytgpioploehgpdaagreat", sum := "4536a55f732e226459ba4d94faf0c5fe81f1bd80068d7fc389bb76ff886d53cb", func := "moothall/mootkeep3.ViewOpens", spec := "viewOpens", unfollowed := true, recurses := true, plainKeys := false, apart := false }
def ViewOpensSaid : Prop := viewOpensRow.holds Tryz.pinned (OpenSpec.ofChange viewOpensSpec)

/-- ITS FALSE NEIGHBOUR: 'it returns false'. Refute it at one input. -/
def viewOpensWrong : ChangeSpec := { name := "viewOpens", fn := fun _ => fun
  | [d1, d2, d3] => { results := [.lit (.bool false)], args := [d1, d2, d3] }
  | _ => none }
def ViewOpensWrongFalsely : Prop := viewOpensRow.holds Tryz.pinned (OpenSpec.ofChange viewOpensWrong)

/-- 'mootlaw3.ViewHouses': WHATEVER THE INPUT: true; the input reads as it did. -/
def viewHousesSpec : ChangeSpec := { name := "viewHouses", fn := fun _ => fun
  | [d1, d2, d3, d4] => { results := [.lit (.bool true)], args := [d1, d2, d3, d4] }
  | _ => none }
def viewHousesRow : OpenClaim := { program := "ytgpioploehgpdaagreat", sum := "4536a55f732e226459ba4d94faf0c5fe81f1bd80068d7fc389bb76ff886d53cb", func := "moothall/mootlaw3.ViewHouses", spec := "viewHouses", inPlace := ["slices.overlaps[moothall/api.Attr]", "slices.overlaps[moothall/api.Datum]"], unfollowed := true, recurses := true, plainKeys := false, apart := false }
def ViewHousesSaid : Prop := viewHousesRow.holds Tryz.pinned (OpenSpec.ofChange viewHousesSpec)

/-- ITS FALSE NEIGHBOUR: 'it returns false'. Refute it at one input. -/
def viewHousesWrong : ChangeSpec := { name := "viewHouses", fn := fun _ => fun
  | [d1, d2, d3, d4] => { results := [.lit (.bool false)], args := [d1, d2, d3, d4] }
  | _ => none }
def ViewHousesWrongFalsely : Prop := viewHousesRow.holds Tryz.pinned (OpenSpec.ofChange viewHousesWrong)

/- THE SECOND FORM. 'bulk': how many values and letters a reading holds, each counted each time it is reached (what is shared counts as often as it is met; a slice's spare places count too). A statement '..UptoSaid' is the law's where the arguments, and the package variables that the reading takes, are together of bulk at most 1048576: NARROWER than '..Said'. Prove '..Said' where nothing that the law and all that it calls make is longer than what came in: it says more and counts as full. Else prove '..UptoSaid'. A law counts once. -/
mutual
def uptoBulk {H : Type} : DataW H → Nat
  | .lit (.string bytes) => bytes.length + 1
  | .lit _ => 1
  | .nil => 1
  | .ptr d => uptoBulk d + 1
  | .slice elems spare => uptoBulkAll elems + uptoBulkAll spare + 1
  | .agg parts => uptoBulkAll parts + 1
  | .iface _ d => uptoBulk d + 1
  | .map entries => uptoBulkEntries entries + 1
  | .held _ => 1
def uptoBulkAll {H : Type} : List (DataW H) → Nat
  | [] => 0
  | d :: r => uptoBulk d + uptoBulkAll r
def uptoBulkEntries {H : Type} : List (Lit × DataW H) → Nat
  | [] => 0
  | x :: r => uptoBulkEntry x + uptoBulkEntries r
def uptoBulkEntry {H : Type} : Lit × DataW H → Nat
  | (.string bytes, d) => bytes.length + uptoBulk d + 1
  | (_, d) => uptoBulk d + 1
 end
def uptoSmall : (H : Type) → List (DataW H) → Bool := fun _ ds => decide (uptoBulkAll ds ≤ 1048576)
def OpenSpec.upto (s : _root_.Go.ChangeSpec) : _root_.Go.OpenSpec := { _root_.Go.OpenSpec.ofChange s with cond := some uptoSmall }

/-- 'mootkeep3.LookUsers', WHERE WHAT IT READS IS OF BULK AT MOST 1048576: true; the input reads as it did. -/
def lookUsersUptoRow : OpenClaim := { program := "ytgpioploehgpdaagreat", sum := "4536a55f732e226459ba4d94faf0c5fe81f1bd80068d7fc389bb76ff886d53cb", func := "moothall/mootkeep3.LookUsers", spec := "lookUsers", unfollowed := true, recurses := true, plainKeys := false, apart := false, narrowed := true }
def LookUsersUptoSaid : Prop := lookUsersUptoRow.holds Tryz.pinned (OpenSpec.upto lookUsersSpec)

/-- 'mootkeep3.LookLevels', WHERE WHAT IT READS IS OF BULK AT MOST 1048576: true; the input reads as it did. -/
def lookLevelsUptoRow : OpenClaim := { program := "ytgpioploehgpdaagreat", sum := "4536a55f732e226459ba4d94faf0c5fe81f1bd80068d7fc389bb76ff886d53cb", func := "moothall/mootkeep3.LookLevels", spec := "lookLevels", unfollowed := true, recurses := true, plainKeys := false, apart := false, narrowed := true }
def LookLevelsUptoSaid : Prop := lookLevelsUptoRow.holds Tryz.pinned (OpenSpec.upto lookLevelsSpec)

/-- 'mootlaw3.LookNames', WHERE WHAT IT READS IS OF BULK AT MOST 1048576: true; the input reads as it did. -/
def lookNamesUptoRow : OpenClaim := { program := "ytgpioploehgpdaagreat", sum := "4536a55f732e226459ba4d94faf0c5fe81f1bd80068d7fc389bb76ff886d53cb", func := "moothall/mootlaw3.LookNames", spec := "lookNames", inPlace := ["slices.overlaps[moothall/api.Attr]", "slices.overlaps[string]"], unfollowed := true, recurses := true, plainKeys := false, apart := false, narrowed := true }
def LookNamesUptoSaid : Prop := lookNamesUptoRow.holds Tryz.pinned (OpenSpec.upto lookNamesSpec)

/-- 'mootlaw3.LookLayers', WHERE WHAT IT READS IS OF BULK AT MOST 1048576: true; the input reads as it did. -/
def lookLayersUptoRow : OpenClaim := { program := "ytgpioploehgpdaagreat", sum := "4536a55f732e226459ba4d94faf0c5fe81f1bd80068d7fc389bb76ff886d53cb", func := "moothall/mootlaw3.LookLayers", spec := "lookLayers", inPlace := ["slices.overlaps[moothall/api.Attr]", "slices.overlaps[string]"], unfollowed := true, recurses := true, plainKeys := false, apart := false, narrowed := true }
def LookLayersUptoSaid : Prop := lookLayersUptoRow.holds Tryz.pinned (OpenSpec.upto lookLayersSpec)

/-- 'mootkeep3.PrecStrong', WHERE WHAT IT READS IS OF BULK AT MOST 1048576: true; the input reads as it did. -/
def precStrongUptoRow : OpenClaim := { program := "ytgpioploehgpdaagreat", sum := "4536a55f732e226459ba4d94faf0c5fe81f1bd80068d7fc389bb76ff886d53cb", func := "moothall/mootkeep3.PrecStrong", spec := "precStrong", unfollowed := true, recurses := true, plainKeys := false, apart := false, narrowed := true }
def PrecStrongUptoSaid : Prop := precStrongUptoRow.holds Tryz.pinned (OpenSpec.upto precStrongSpec)

/-- 'mootkeep3.PrecDepths', WHERE WHAT IT READS IS OF BULK AT MOST 1048576: true; the input reads as it did. -/
def precDepthsUptoRow : OpenClaim := { program := "ytgpioploehgpdaagreat", sum := "4536a55f732e226459ba4d94faf0c5fe81f1bd80068d7fc389bb76ff886d53cb", func := "moothall/mootkeep3.PrecDepths", spec := "precDepths", unfollowed := true, recurses := true, plainKeys := false, apart := false, narrowed := true }
def PrecDepthsUptoSaid : Prop := precDepthsUptoRow.holds Tryz.pinned (OpenSpec.upto precDepthsSpec)

/-- 'mootlaw3.PrecRefs', WHERE WHAT IT READS IS OF BULK AT MOST 1048576: true; the input reads as it did. -/
def precRefsUptoRow : OpenClaim := { program := "ytgpioploehgpdaagreat", sum := "4536a55f732e226459ba4d94faf0c5fe81f1bd80068d7fc389bb76ff886d53cb", func := "moothall/mootlaw3.PrecRefs", spec := "precRefs", unfollowed := true, recurses := true, plainKeys := false, apart := false, narrowed := true }
def PrecRefsUptoSaid : Prop := precRefsUptoRow.holds Tryz.pinned (OpenSpec.upto precRefsSpec)

/-- 'mootlaw3.PrecOrders', WHERE WHAT IT READS IS OF BULK AT MOST 1048576: true; the input reads as it did. -/
def precOrdersUptoRow : OpenClaim := { program := "ytgpioploehgpdaagreat", sum := "4536a55f732e226459ba4d94faf0c5fe81f1bd80068d7fc389bb76ff886d53cb", func := "moothall/mootlaw3.PrecOrders", spec := "precOrders", unfollowed := true, recurses := true, plainKeys := false, apart := false, narrowed := true }
def PrecOrdersUptoSaid : Prop := precOrdersUptoRow.holds Tryz.pinned (OpenSpec.upto precOrdersSpec)

/-- 'mootlaw3.ViewChecks', WHERE WHAT IT READS IS OF BULK AT MOST 1048576: true; the input reads as it did. -/
def viewChecksUptoRow : OpenClaim := { program := "ytgpioploehgpdaagreat", sum := "4536a55f732e226459ba4d94faf0c5fe81f1bd80068d7fc389bb76ff886d53cb", func := "moothall/mootlaw3.ViewChecks", spec := "viewChecks", inPlace := ["slices.overlaps[moothall/api.Attr]"], unfollowed := true, recurses := true, plainKeys := false, apart := false, narrowed := true }
def ViewChecksUptoSaid : Prop := viewChecksUptoRow.holds Tryz.pinned (OpenSpec.upto viewChecksSpec)

/-- 'mootkeep3.ViewOpens', WHERE WHAT IT READS IS OF BULK AT MOST 1048576: true; the input reads as it did. -/
def viewOpensUptoRow : OpenClaim := { program := "ytgpioploehgpdaagreat", sum := "4536a55f732e226459ba4d94faf0c5fe81f1bd80068d7fc389bb76ff886d53cb", func := "moothall/mootkeep3.ViewOpens", spec := "viewOpens", unfollowed := true, recurses := true, plainKeys := false, apart := false, narrowed := true }
def ViewOpensUptoSaid : Prop := viewOpensUptoRow.holds Tryz.pinned (OpenSpec.upto viewOpensSpec)

/-- 'mootlaw3.ViewHouses', WHERE WHAT IT READS IS OF BULK AT MOST 1048576: true; the input reads as it did. -/
def viewHousesUptoRow : OpenClaim := { program := "ytgpioploehgpdaagreat", sum := "4536a55f732e226459ba4d94faf0c5fe81f1bd80068d7fc389bb76ff886d53cb", func := "moothall/mootlaw3.ViewHouses", spec := "viewHouses", inPlace := ["slices.overlaps[moothall/api.Attr]", "slices.overlaps[moothall/api.Datum]"], unfollowed := true, recurses := true, plainKeys := false, apart := false, narrowed := true }
def ViewHousesUptoSaid : Prop := viewHousesUptoRow.holds Tryz.pinned (OpenSpec.upto viewHousesSpec)

end Rows
end Go.Proofs.YtgpioploehgpdaaGreat
