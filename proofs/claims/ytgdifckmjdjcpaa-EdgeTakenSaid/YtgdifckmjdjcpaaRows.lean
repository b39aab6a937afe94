/-
  No cell of these rows narrows 'for every input' (looked for: loops, veiled, ifaces, maps, wideKeys, modest, calm, conditions, laid).
  DERIVED. THE GIVEN ROWS OF THIS SEAT. 18 by the template 'for every input the law returns true; each argument reads behind the call as it read before'; 0 by the template 'total and deterministic' (their statements: YtgdifckmjdjcpaaTotals.lean).
  GIVEN WITH THE SEED: the statements are not yours to turn. If you find one false, say at which input.
  Laid BY PROGRAM, IN A SANDBOX (cutbox-rows.mjs): the forced cells as the released guide's own fill.sh prints them over the translation f7548c5d0661ee2c… (all of the seat's roots in one cut). By AI agents, Wed Nov 11 2026. No macro, syntax, notation, axiom, sorry.
-/
import Derived.Test.YtgdifckmjdjcpaaChecked
import GoSem.Claim
import GoSem.ClaimJoined
import GoSem.ClaimMapViews
import Derived.JoinedTies
import Derived.KernelRfl
namespace Go.Proofs.Ytgdifckmjdjcpaa
/- THE CELL 'sum', in the pinned program and in every row, IS THE sha256 OF THE DUMP (.gsa) THAT YtgdifckmjdjcpaaProg.lean LOADS. Nothing in Lean hashes anything: it is a label: what it is worth is what the hold of that sum in a sandbox is worth. -/
noncomputable def Try.pinned : Pinned := { name := "ytgdifckmjdjcpaa", sum := "f7548c5d0661ee2cd20ba06d9b6c2cec1b727a0a8eb0e74be584f1326233d834", checked := Try.checked }
namespace Rows
def none {H : Type} : Left H := { results := [], args := [] }

/-- 'mestalaw06.EdgeBounds': WHATEVER THE INPUT: true; the input reads as it did. -/
def edgeBoundsSpec : ChangeSpec := { name := "edgeBounds", fn := fun _ => fun
  | [d1, d2, d3] => { results := [.lit (.bool true)], args := [d1, d2, d3] }
  | _ => none }
def edgeBoundsRow : OpenClaim := { program := "ytgdifckmjdjcpaa", sum := "f7548c5d0661ee2cd20ba06d9b6c2cec1b727a0a8eb0e74be584f1326233d834", func := "mesta/mestalaw06.EdgeBounds", spec := "edgeBounds", unfollowed := true, recurses := true, apart := false }
def EdgeBoundsSaid : Prop := edgeBoundsRow.holds Try.pinned (OpenSpec.ofChange edgeBoundsSpec)

/-- ITS FALSE NEIGHBOUR: 'it returns false'. Refute it at one input. -/
def edgeBoundsWrong : ChangeSpec := { name := "edgeBounds", fn := fun _ => fun
  | [d1, d2, d3] => { results := [.lit (.bool false)], args := [d1, d2, d3] }
  | _ => none }
def EdgeBoundsWrongFalsely : Prop := edgeBoundsRow.holds Try.pinned (OpenSpec.ofChange edgeBoundsWrong)

/-- 'mestalaw06.EdgeFines': WHATEVER THE INPUT: true; the input reads as it did. -/
def edgeFinesSpec : ChangeSpec := { name := "edgeFines", fn := fun _ => fun
  | [d1, d2, d3, d4, d5, d6] => { results := [.lit (.bool true)], args := [d1, d2, d3, d4, d5, d6] }
  | _ => none }
def edgeFinesRow : OpenClaim := { program := "ytgdifckmjdjcpaa", sum := "f7548c5d0661ee2cd20ba06d9b6c2cec1b727a0a8eb0e74be584f1326233d834", func := "mesta/mestalaw06.EdgeFines", spec := "edgeFines", unfollowed := true, recurses := true, apart := false }
def EdgeFinesSaid : Prop := edgeFinesRow.holds Try.pinned (OpenSpec.ofChange edgeFinesSpec)

/-- ITS FALSE NEIGHBOUR: 'it returns false'. Refute it at one input. -/
def edgeFinesWrong : ChangeSpec := { name := "edgeFines", fn := fun _ => fun
  | [d1, d2, d3, d4, d5, d6] => { results := [.lit (.bool false)], args := [d1, d2, d3, d4, d5, d6] }
  | _ => none }
def EdgeFinesWrongFalsely : Prop := edgeFinesRow.holds Try.pinned (OpenSpec.ofChange edgeFinesWrong)

/-- 'mestalaw06.EdgeEnds': WHATEVER THE INPUT: true; the input reads as it did. -/
def edgeEndsSpec : ChangeSpec := { name := "edgeEnds", fn := fun _ => fun
  | [d] => { results := [.lit (.bool true)], args := [d] }
  | _ => none }
def edgeEndsRow : OpenClaim := { program := "ytgdifckmjdjcpaa", sum := "f7548c5d0661ee2cd20ba06d9b6c2cec1b727a0a8eb0e74be584f1326233d834", func := "mesta/mestalaw06.EdgeEnds", spec := "edgeEnds", unfollowed := true, recurses := true, apart := false }
def EdgeEndsSaid : Prop := edgeEndsRow.holds Try.pinned (OpenSpec.ofChange edgeEndsSpec)

/-- ITS FALSE NEIGHBOUR: 'it returns false'. Refute it at one input. -/
def edgeEndsWrong : ChangeSpec := { name := "edgeEnds", fn := fun _ => fun
  | [d] => { results := [.lit (.bool false)], args := [d] }
  | _ => none }
def EdgeEndsWrongFalsely : Prop := edgeEndsRow.holds Try.pinned (OpenSpec.ofChange edgeEndsWrong)

/-- 'mestalaw06.EdgeClash': WHATEVER THE INPUT: true; the input reads as it did. -/
def edgeClashSpec : ChangeSpec := { name := "edgeClash", fn := fun _ => fun
  | [d] => { results := [.lit (.bool true)], args := [d] }
  | _ => none }
def edgeClashRow : OpenClaim := { program := "ytgdifckmjdjcpaa", sum := "f7548c5d0661ee2cd20ba06d9b6c2cec1b727a0a8eb0e74be584f1326233d834", func := "mesta/mestalaw06.EdgeClash", spec := "edgeClash", unfollowed := true, recurses := true, apart := false }
def EdgeClashSaid : Prop := edgeClashRow.holds Try.pinned (OpenSpec.ofChange edgeClashSpec)

/-- ITS FALSE NEIGHBOUR: 'it returns false'. Refute it at one input. -/
def edgeClashWrong : ChangeSpec := { name := "edgeClash", fn := fun _ => fun
  | [d] => { results := [.lit (.bool false)], args := [d] }
  | _ => none }
def EdgeClashWrongFalsely : Prop := edgeClashRow.holds Try.pinned (OpenSpec.ofChange edgeClashWrong)

/-- 'mestalaw06.EdgeFurrows': WHATEVER THE INPUT: true; the input reads as it did. -/
def edgeFurrowsSpec : ChangeSpec := { name := "edgeFurrows", fn := fun _ => fun
  | [d] => { results := [.lit (.bool true)], args := [d] }
  | _ => none }
def edgeFurrowsRow : OpenClaim := { program := "ytgdifckmjdjcpaa", sum := "f7548c5d0661ee2cd20ba06d9b6c2cec1b727a0a8eb0e74be584f1326233d834", func := "mesta/mestalaw06.EdgeFurrows", spec := "edgeFurrows", unfollowed := true, recurses := true, apart := false }
def EdgeFurrowsSaid : Prop := edgeFurrowsRow.holds Try.pinned (OpenSpec.ofChange edgeFurrowsSpec)

/-- ITS FALSE NEIGHBOUR: 'it returns false'. Refute it at one input. -/
def edgeFurrowsWrong : ChangeSpec := { name := "edgeFurrows", fn := fun _ => fun
  | [d] => { results := [.lit (.bool false)], args := [d] }
  | _ => none }
def EdgeFurrowsWrongFalsely : Prop := edgeFurrowsRow.holds Try.pinned (OpenSpec.ofChange edgeFurrowsWrong)

/-- 'mestalaw06.EdgeFined': WHATEVER THE INPUT: true; the input reads as it did. -/
def edgeFinedSpec : ChangeSpec := { name := "edgeFined", fn := fun _ => fun
  | [d] => { results := [.lit (.bool true)], args := [d] }
  | _ => none }
def edgeFinedRow : OpenClaim := { program := "ytgdifckmjdjcpaa", sum := "f7548c5d0661ee2cd20ba06d9b6c2cec1b727a0a8eb0e74be584f1326233d834", func := "mesta/mestalaw06.EdgeFined", spec := "edgeFined", unfollowed := true, recurses := true, apart := false }
def EdgeFinedSaid : Prop := edgeFinedRow.holds Try.pinned (OpenSpec.ofChange edgeFinedSpec)

/-- ITS FALSE NEIGHBOUR: 'it returns false'. Refute it at one input. -/
def edgeFinedWrong : ChangeSpec := { name := "edgeFined", fn := fun _ => fun
  | [d] => { results := [.lit (.bool false)], args := [d] }
  | _ => none }
def EdgeFinedWrongFalsely : Prop := edgeFinedRow.holds Try.pinned (OpenSpec.ofChange edgeFinedWrong)

/-- 'mestalaw06.EdgeFewest': WHATEVER THE INPUT: true; the input reads as it did. -/
def edgeFewestSpec : ChangeSpec := { name := "edgeFewest", fn := fun _ => fun
  | [d] => { results := [.lit (.bool true)], args := [d] }
  | _ => none }
def edgeFewestRow : OpenClaim := { program := "ytgdifckmjdjcpaa", sum := "f7548c5d0661ee2cd20ba06d9b6c2cec1b727a0a8eb0e74be584f1326233d834", func := "mesta/mestalaw06.EdgeFewest", spec := "edgeFewest", unfollowed := true, recurses := true, apart := false }
def EdgeFewestSaid : Prop := edgeFewestRow.holds Try.pinned (OpenSpec.ofChange edgeFewestSpec)

/-- ITS FALSE NEIGHBOUR: 'it returns false'. Refute it at one input. -/
def edgeFewestWrong : ChangeSpec := { name := "edgeFewest", fn := fun _ => fun
  | [d] => { results := [.lit (.bool false)], args := [d] }
  | _ => none }
def EdgeFewestWrongFalsely : Prop := edgeFewestRow.holds Try.pinned (OpenSpec.ofChange edgeFewestWrong)

/-- 'mestalaw06.EdgeMet': WHATEVER THE INPUT: true; the input reads as it did. -/
def edgeMetSpec : ChangeSpec := { name := "edgeMet", fn := fun _ => fun
  | [d] => { results := [.lit (.bool true)], args := [d] }
  | _ => none }
def edgeMetRow : OpenClaim := { program := "ytgdifckmjdjcpaa", sum := "f7548c5d0661ee2cd20ba06d9b6c2cec1b727a0a8eb0e74be584f1326233d834", func := "mesta/mestalaw06.EdgeMet", spec := "edgeMet", unfollowed := true, recurses := true, apart := false }
def EdgeMetSaid : Prop := edgeMetRow.holds Try.pinned (OpenSpec.ofChange edgeMetSpec)

/-- ITS FALSE NEIGHBOUR: 'it returns false'. Refute it at one input. -/
def edgeMetWrong : ChangeSpec := { name := "edgeMet", fn := fun _ => fun
  | [d] => { results := [.lit (.bool false)], args := [d] }
  | _ => none }
def EdgeMetWrongFalsely : Prop := edgeMetRow.holds Try.pinned (OpenSpec.ofChange edgeMetWrong)

/-- 'mestalaw06.EdgeFromEnd': WHATEVER THE INPUT: true; the input reads as it did. -/
def edgeFromEndSpec : ChangeSpec := { name := "edgeFromEnd", fn := fun _ => fun
  | [d] => { results := [.lit (.bool true)], args := [d] }
  | _ => none }
def edgeFromEndRow : OpenClaim := { program := "ytgdifckmjdjcpaa", sum := "f7548c5d0661ee2cd20ba06d9b6c2cec1b727a0a8eb0e74be584f1326233d834", func := "mesta/mestalaw06.EdgeFromEnd", spec := "edgeFromEnd", unfollowed := true, recurses := true, apart := false }
def EdgeFromEndSaid : Prop := edgeFromEndRow.holds Try.pinned (OpenSpec.ofChange edgeFromEndSpec)

/-- ITS FALSE NEIGHBOUR: 'it returns false'. Refute it at one input. -/
def edgeFromEndWrong : ChangeSpec := { name := "edgeFromEnd", fn := fun _ => fun
  | [d] => { results := [.lit (.bool false)], args := [d] }
  | _ => none }
def EdgeFromEndWrongFalsely : Prop := edgeFromEndRow.holds Try.pinned (OpenSpec.ofChange edgeFromEndWrong)

/-- 'mestalaw06.EdgeMirrored': WHATEVER THE INPUT: true; the input reads as it did. -/
def edgeMirroredSpec : ChangeSpec := { name := "edgeMirrored", fn := fun _ => fun
  | [d] => { results := [.lit (.bool true)], args := [d] }
  | _ => none }
def edgeMirroredRow : OpenClaim := { program := "ytgdifckmjdjcpaa", sum := "f7548c5d0661ee2cd20ba06d9b6c2cec1b727a0a8eb0e74be584f1326233d834", func := "mesta/mestalaw06.EdgeMirrored", spec := "edgeMirrored", unfollowed := true, recurses := true, apart := false }
def EdgeMirroredSaid : Prop := edgeMirroredRow.holds Try.pinned (OpenSpec.ofChange edgeMirroredSpec)

/-- ITS FALSE NEIGHBOUR: 'it returns false'. Refute it at one input. -/
def edgeMirroredWrong : ChangeSpec := { name := "edgeMirrored", fn := fun _ => fun
  | [d] => { results := [.lit (.bool false)], args := [d] }
  | _ => none }
def EdgeMirroredWrongFalsely : Prop := edgeMirroredRow.holds Try.pinned (OpenSpec.ofChange edgeMirroredWrong)

/-- 'mestalaw06.EdgeIdle': WHATEVER THE INPUT: true; the input reads as it did. -/
def edgeIdleSpec : ChangeSpec := { name := "edgeIdle", fn := fun _ => fun
  | [d] => { results := [.lit (.bool true)], args := [d] }
  | _ => none }
def edgeIdleRow : OpenClaim := { program := "ytgdifckmjdjcpaa", sum := "f7548c5d0661ee2cd20ba06d9b6c2cec1b727a0a8eb0e74be584f1326233d834", func := "mesta/mestalaw06.EdgeIdle", spec := "edgeIdle", unfollowed := true, recurses := true, apart := false }
def EdgeIdleSaid : Prop := edgeIdleRow.holds Try.pinned (OpenSpec.ofChange edgeIdleSpec)

/-- ITS FALSE NEIGHBOUR: 'it returns false'. Refute it at one input. -/
def edgeIdleWrong : ChangeSpec := { name := "edgeIdle", fn := fun _ => fun
  | [d] => { results := [.lit (.bool false)], args := [d] }
  | _ => none }
def EdgeIdleWrongFalsely : Prop := edgeIdleRow.holds Try.pinned (OpenSpec.ofChange edgeIdleWrong)

/-- 'mestalaw06.EdgeTaken': WHATEVER THE INPUT: true; the input reads as it did. -/
def edgeTakenSpec : ChangeSpec := { name := "edgeTaken", fn := fun _ => fun
  | [d1, d2, d3, d4, d5, d6] => { results := [.lit (.bool true)], args := [d1, d2, d3, d4, d5, d6] }
  | _ => none }
def edgeTakenRow : OpenClaim := { program := "ytgdifckmjdjcpaa", sum := "f7548c5d0661ee2cd20ba06d9b6c2cec1b727a0a8eb0e74be584f1326233d834", func := "mesta/mestalaw06.EdgeTaken", spec := "edgeTaken", unfollowed := true, recurses := true, apart := false }
def EdgeTakenSaid : Prop := edgeTakenRow.holds Try.pinned (OpenSpec.ofChange edgeTakenSpec)

/-- ITS FALSE NEIGHBOUR: 'it returns false'. Refute it at one input. -/
def edgeTakenWrong : ChangeSpec := { name := "edgeTaken", fn := fun _ => fun
  | [d1, d2, d3, d4, d5, d6] => { results := [.lit (.bool false)], args := [d1, d2, d3, d4, d5, d6] }
  | _ => none }
def EdgeTakenWrongFalsely : Prop := edgeTakenRow.holds Try.pinned (OpenSpec.ofChange edgeTakenWrong)

/-- 'mestalaw06.EdgeSince': WHATEVER THE INPUT: true; the input reads as it did. -/
def edgeSinceSpec : ChangeSpec := { name := "edgeSince", fn := fun _ => fun
  | [d] => { results := [.lit (.bool true)], args := [d] }
  | _ => none }
def edgeSinceRow : OpenClaim := { program := "ytgdifckmjdjcpaa", sum := "f7548c5d0661ee2cd20ba06d9b6c2cec1b727a0a8eb0e74be584f1326233d834", func := "mesta/mestalaw06.EdgeSince", spec := "edgeSince", unfollowed := true, recurses := true, apart := false }
def EdgeSinceSaid : Prop := edgeSinceRow.holds Try.pinned (OpenSpec.ofChange edgeSinceSpec)

/-- ITS FALSE NEIGHBOUR: 'it returns false'. Refute it at one input. -/
def edgeSinceWrong : ChangeSpec := { name := "edgeSince", fn := fun _ => fun
  | [d] => { results := [.lit (.bool false)], args := [d] }
  | _ => none }
def EdgeSinceWrongFalsely : Prop := edgeSinceRow.holds Try.pinned (OpenSpec.ofChange edgeSinceWrong)

/-- 'mestalaw06.EdgeWrong': WHATEVER THE INPUT: true; the input reads as it did. -/
def edgeWrongSpec : ChangeSpec := { name := "edgeWrong", fn := fun _ => fun
  | [d1, d2, d3] => { results := [.lit (.bool true)], args := [d1, d2, d3] }
  | _ => none }
def edgeWrongRow : OpenClaim := { program := "ytgdifckmjdjcpaa", sum := "f7548c5d0661ee2cd20ba06d9b6c2cec1b727a0a8eb0e74be584f1326233d834", func := "mesta/mestalaw06.EdgeWrong", spec := "edgeWrong", unfollowed := true, recurses := true, apart := false }
def EdgeWrongSaid : Prop := edgeWrongRow.holds Try.pinned (OpenSpec.ofChange edgeWrongSpec)

/-- ITS FALSE NEIGHBOUR: 'it returns false'. Refute it at one input. -/
def edgeWrongWrong : ChangeSpec := { name := "edgeWrong", fn := fun _ => fun
  | [d1, d2, d3] => { results := [.lit (.bool false)], args := [d1, d2, d3] }
  | _ => none }
def EdgeWrongWrongFalsely : Prop := edgeWrongRow.holds Try.pinned (OpenSpec.ofChange edgeWrongWrong)

/-- 'mestalaw06.EdgeSettled': WHATEVER THE INPUT: true; the input reads as it did. -/
def edgeSettledSpec : ChangeSpec := { name := "edgeSettled", fn := fun _ => fun
  | [d] => { results := [.lit (.bool true)], args := [d] }
  | _ => none }
def edgeSettledRow : OpenClaim := { program := "ytgdifckmjdjcpaa", sum := "f7548c5d0661ee2cd20ba06d9b6c2cec1b727a0a8eb0e74be584f1326233d834", func := "mesta/mestalaw06.EdgeSettled", spec := "edgeSettled", unfollowed := true, recurses := true, apart := false }
def EdgeSettledSaid : Prop := edgeSettledRow.holds Try.pinned (OpenSpec.ofChange edgeSettledSpec)

/-- ITS FALSE NEIGHBOUR: 'it returns false'. Refute it at one input. -/
def edgeSettledWrong : ChangeSpec := { name := "edgeSettled", fn := fun _ => fun
  | [d] => { results := [.lit (.bool false)], args := [d] }
  | _ => none }
def EdgeSettledWrongFalsely : Prop := edgeSettledRow.holds Try.pinned (OpenSpec.ofChange edgeSettledWrong)

/-- 'mestalaw06.EdgeMore': WHATEVER THE INPUT: true; the input reads as it did. -/
def edgeMoreSpec : ChangeSpec := { name := "edgeMore", fn := fun _ => fun
  | [d] => { results := [.lit (.bool true)], args := [d] }
  | _ => none }
def edgeMoreRow : OpenClaim := { program := "ytgdifckmjdjcpaa", sum := "f7548c5d0661ee2cd20ba06d9b6c2cec1b727a0a8eb0e74be584f1326233d834", func := "mesta/mestalaw06.EdgeMore", spec := "edgeMore", unfollowed := true, recurses := true, apart := false }
def EdgeMoreSaid : Prop := edgeMoreRow.holds Try.pinned (OpenSpec.ofChange edgeMoreSpec)

/-- ITS FALSE NEIGHBOUR: 'it returns false'. Refute it at one input. -/
def edgeMoreWrong : ChangeSpec := { name := "edgeMore", fn := fun _ => fun
  | [d] => { results := [.lit (.bool false)], args := [d] }
  | _ => none }
def EdgeMoreWrongFalsely : Prop := edgeMoreRow.holds Try.pinned (OpenSpec.ofChange edgeMoreWrong)

/-- 'mestalaw06.EdgeAll': WHATEVER THE INPUT: true; the input reads as it did. -/
def edgeAllSpec : ChangeSpec := { name := "edgeAll", fn := fun _ => fun
  | [d] => { results := [.lit (.bool true)], args := [d] }
  | _ => none }
def edgeAllRow : OpenClaim := { program := "ytgdifckmjdjcpaa", sum := "f7548c5d0661ee2cd20ba06d9b6c2cec1b727a0a8eb0e74be584f1326233d834", func := "mesta/mestalaw06.EdgeAll", spec := "edgeAll", unfollowed := true, recurses := true, apart := false }
def EdgeAllSaid : Prop := edgeAllRow.holds Try.pinned (OpenSpec.ofChange edgeAllSpec)

/-- ITS FALSE NEIGHBOUR: 'it returns false'. Refute it at one input. -/
def edgeAllWrong : ChangeSpec := { name := "edgeAll", fn := fun _ => fun
  | [d] => { results := [.lit (.bool false)], args := [d] }
  | _ => none }
def EdgeAllWrongFalsely : Prop := edgeAllRow.holds Try.pinned (OpenSpec.ofChange edgeAllWrong)

/-- 'mestalaw06.EdgeFollows': WHATEVER THE INPUT: true; the input reads as it did. -/
def edgeFollowsSpec : ChangeSpec := { name := "edgeFollows", fn := fun _ => fun
  | [d1, d2, d3, d4, d5] => { results := [.lit (.bool true)], args := [d1, d2, d3, d4, d5] }
  | _ => none }
def edgeFollowsRow : OpenClaim := { program := "ytgdifckmjdjcpaa", sum := "f7548c5d0661ee2cd20ba06d9b6c2cec1b727a0a8eb0e74be584f1326233d834", func := "mesta/mestalaw06.EdgeFollows", spec := "edgeFollows", unfollowed := true, recurses := true, apart := false }
def EdgeFollowsSaid : Prop := edgeFollowsRow.holds Try.pinned (OpenSpec.ofChange edgeFollowsSpec)

/-- ITS FALSE NEIGHBOUR: 'it returns false'. Refute it at one input. -/
def edgeFollowsWrong : ChangeSpec := { name := "edgeFollows", fn := fun _ => fun
  | [d1, d2, d3, d4, d5] => { results := [.lit (.bool false)], args := [d1, d2, d3, d4, d5] }
  | _ => none }
def EdgeFollowsWrongFalsely : Prop := edgeFollowsRow.holds Try.pinned (OpenSpec.ofChange edgeFollowsWrong)

/- THE SECOND FORM. 'bulk': how many values and letters a reading holds, each counted each time it is reached (what is shared counts as often as it is met; a slice's spare places count too). A statement '..UptoSaid' is the law's where the arguments, and the package variables that the reading takes, are together of bulk at most 1048576: NARROWER than '..Said'. Prove '..Said' where nothing that the law and all that it calls make is longer than what came in: it says more and counts as full. Else prove '..UptoSaid'. A law counts once. -/
mutual
def uptoBulk {H : Type} : DataW H → Nat
  | .lit (.string bytes) => bytes.length + 1
  | .lit _ => 1
  | .nil => 1
  | .ptr d => uptoBulk d + 1
  | .slice elems spare => uptoBulkAll elems + uptoBulkAll spare + 1
  | .agg parts => uptoBulkAll parts + 1
  | .iface _ d => uptoBulk d + 1
  | .map entries => uptoBulkEntries entries + 1
  | .held _ => 1
def uptoBulkAll {H : Type} : List (DataW H) → Nat
  | [] => 0
  | d :: r => uptoBulk d + uptoBulkAll r
def uptoBulkEntries {H : Type} : List (Lit × DataW H) → Nat
  | [] => 0
  | x :: r => uptoBulkEntry x + uptoBulkEntries r
def uptoBulkEntry {H : Type} : Lit × DataW H → Nat
  | (.string bytes, d) => bytes.length + uptoBulk d + 1
  | (_, d) => uptoBulk d + 1
 end
def uptoSmall : (H : Type) → List (DataW H) → Bool := fun _ ds => decide (uptoBulkAll ds ≤ 1048576)
def OpenSpec.upto (s : _root_.Go.ChangeSpec) : _root_.Go.OpenSpec := { _root_.Go.OpenSpec.ofChange s with cond := some uptoSmall }

/-- 'mestalaw06.EdgeBounds', WHERE WHAT IT READS IS OF BULK AT MOST 1048576: true; the input reads as it did. -/
def edgeBoundsUptoRow : OpenClaim := { program := "ytgdifckmjdjcpaa", sum := "f7548c5d0661ee2cd20ba06d9b6c2cec1b727a0a8eb0e74be584f1326233d834", func := "mesta/mestalaw06.EdgeBounds", spec := "edgeBounds", unfollowed := true, recurses := true, apart := false, narrowed := true }
def EdgeBoundsUptoSaid : Prop := edgeBoundsUptoRow.holds Try.pinned (OpenSpec.upto edgeBoundsSpec)

/-- 'mestalaw06.EdgeFines', WHERE WHAT IT READS IS OF BULK AT MOST 1048576: true; the input reads as it did. -/
def edgeFinesUptoRow : OpenClaim := { program := "ytgdifckmjdjcpaa", sum := "f7548c5d0661ee2cd20ba06d9b6c2cec1b727a0a8eb0e74be584f1326233d834", func := "mesta/mestalaw06.EdgeFines", spec := "edgeFines", unfollowed := true, recurses := true, apart := false, narrowed := true }
def EdgeFinesUptoSaid : Prop := edgeFinesUptoRow.holds Try.pinned (OpenSpec.upto edgeFinesSpec)

/-- 'mestalaw06.EdgeEnds', WHERE WHAT IT READS IS OF BULK AT MOST 1048576: true; the input reads as it did. -/
def edgeEndsUptoRow : OpenClaim := { program := "ytgdifckmjdjcpaa", sum := "f7548c5d0661ee2cd20ba06d9b6c2cec1b727a0a8eb0e74be584f1326233d834", func := "mesta/mestalaw06.EdgeEnds", spec := "edgeEnds", unfollowed := true, recurses := true, apart := false, narrowed := true }
def EdgeEndsUptoSaid : Prop := edgeEndsUptoRow.holds Try.pinned (OpenSpec.upto edgeEndsSpec)

/-- 'mestalaw06.EdgeClash', WHERE WHAT IT READS IS OF BULK AT MOST 1048576: true; the input reads as it did. -/
def edgeClashUptoRow : OpenClaim := { program := "ytgdifckmjdjcpaa", sum := "f7548c5d0661ee2cd20ba06d9b6c2cec1b727a0a8eb0e74be584f1326233d834", func := "mesta/mestalaw06.EdgeClash", spec := "edgeClash", unfollowed := true, recurses := true, apart := false, narrowed := true }
def EdgeClashUptoSaid : Prop := edgeClashUptoRow.holds Try.pinned (OpenSpec.upto edgeClashSpec)

/-- 'mestalaw06.EdgeFurrows', WHERE WHAT IT READS IS OF BULK AT MOST 1048576: true; the input reads as it did. -/
def edgeFurrowsUptoRow : OpenClaim := { program := "ytgdifckmjdjcpaa", sum := "f7548c5d0661ee2cd20ba06d9b6c2cec1b727a0a8eb0e74be584f1326233d834", func := "mesta/mestalaw06.EdgeFurrows", spec := "edgeFurrows", unfollowed := true, recurses := true, apart := false, narrowed := true }
def EdgeFurrowsUptoSaid : Prop := edgeFurrowsUptoRow.holds Try.pinned (OpenSpec.upto edgeFurrowsSpec)

/-- 'mestalaw06.EdgeFined', WHERE WHAT IT READS IS OF BULK AT MOST 1048576: true; the input reads as it did. -/
def edgeFinedUptoRow : OpenClaim := { program := "ytgdifckmjdjcpaa", sum := "f7548c5d0661ee2cd20ba06d9b6c2cec1b727a0a8eb0e74be584f1326233d834", func := "mesta/mestalaw06.EdgeFined", spec := "edgeFined", unfollowed := true, recurses := true, apart := false, narrowed := true }
def EdgeFinedUptoSaid : Prop := edgeFinedUptoRow.holds Try.pinned (OpenSpec.upto edgeFinedSpec)

/-- 'mestalaw06.EdgeFewest', WHERE WHAT IT READS IS OF BULK AT MOST 1048576: true; the input reads as it did. -/
def edgeFewestUptoRow : OpenClaim := { program := "ytgdifckmjdjcpaa", sum := "f7548c5d0661ee2cd20ba06d9b6c2cec1b727a0a8eb0e74be584f1326233d834", func := "mesta/mestalaw06.EdgeFewest", spec := "edgeFewest", unfollowed := true, recurses := true, apart := false, narrowed := true }
def EdgeFewestUptoSaid : Prop := edgeFewestUptoRow.holds Try.pinned (OpenSpec.upto edgeFewestSpec)

/-- 'mestalaw06.EdgeMet', WHERE WHAT IT READS IS OF BULK AT MOST 1048576: true; the input reads as it did. -/
def edgeMetUptoRow : OpenClaim := { program := "ytgdifckmjdjcpaa", sum := "f7548c5d0661ee2cd20ba06d9b6c2cec1b727a0a8eb0e74be584f1326233d834", func := "mesta/mestalaw06.EdgeMet", spec := "edgeMet", unfollowed := true, recurses := true, apart := false, narrowed := true }
def EdgeMetUptoSaid : Prop := edgeMetUptoRow.holds Try.pinned (OpenSpec.upto edgeMetSpec)

/-- 'mestalaw06.EdgeFromEnd', WHERE WHAT IT READS IS OF BULK AT MOST 1048576: true; the input reads as it did. -/
def edgeFromEndUptoRow : OpenClaim := { program := "ytgdifckmjdjcpaa", sum := "f7548c5d0661ee2cd20ba06d9b6c2cec1b727a0a8eb0e74be584f1326233d834", func := "mesta/mestalaw06.EdgeFromEnd", spec := "edgeFromEnd", unfollowed := true, recurses := true, apart := false, narrowed := true }
def EdgeFromEndUptoSaid : Prop := edgeFromEndUptoRow.holds Try.pinned (OpenSpec.upto edgeFromEndSpec)

/-- 'mestalaw06.EdgeMirrored', WHERE WHAT IT READS IS OF BULK AT MOST 1048576: true; the input reads as it did. -/
def edgeMirroredUptoRow : OpenClaim := { program := "ytgdifckmjdjcpaa", sum := "f7548c5d0661ee2cd20ba06d9b6c2cec1b727a0a8eb0e74be584f1326233d834", func := "mesta/mestalaw06.EdgeMirrored", spec := "edgeMirrored", unfollowed := true, recurses := true, apart := false, narrowed := true }
def EdgeMirroredUptoSaid : Prop := edgeMirroredUptoRow.holds Try.pinned (OpenSpec.upto edgeMirroredSpec)

/-- 'mestalaw06.EdgeIdle', WHERE WHAT IT READS IS OF BULK AT MOST 1048576: true; the input reads as it did. -/
def edgeIdleUptoRow : OpenClaim := { program := "ytgdifckmjdjcpaa", sum := "f7548c5d0661ee2cd20ba06d9b6c2cec1b727a0a8eb0e74be584f1326233d834", func := "mesta/mestalaw06.EdgeIdle", spec := "edgeIdle", unfollowed := true, recurses := true, apart := false, narrowed := true }
def EdgeIdleUptoSaid : Prop := edgeIdleUptoRow.holds Try.pinned (OpenSpec.upto edgeIdleSpec)

/-- 'mestalaw06.EdgeTaken', WHERE WHAT IT READS IS OF BULK AT MOST 1048576: true; the input reads as it did. -/
def edgeTakenUptoRow : OpenClaim := { program := "ytgdifckmjdjcpaa", sum := "f7548c5d0661ee2cd20ba06d9b6c2cec1b727a0a8eb0e74be584f1326233d834", func := "mesta/mestalaw06.EdgeTaken", spec := "edgeTaken", unfollowed := true, recurses := true, apart := false, narrowed := true }
def EdgeTakenUptoSaid : Prop := edgeTakenUptoRow.holds Try.pinned (OpenSpec.upto edgeTakenSpec)

/-- 'mestalaw06.EdgeSince', WHERE WHAT IT READS IS OF BULK AT MOST 1048576: true; the input reads as it did. -/
def edgeSinceUptoRow : OpenClaim := { program := "ytgdifckmjdjcpaa", sum := "f7548c5d0661ee2cd20ba06d9b6c2cec1b727a0a8eb0e74be584f1326233d834", func := "mesta/mestalaw06.EdgeSince", spec := "edgeSince", unfollowed := true, recurses := true, apart := false, narrowed := true }
def EdgeSinceUptoSaid : Prop := edgeSinceUptoRow.holds Try.pinned (OpenSpec.upto edgeSinceSpec)

/-- 'mestalaw06.EdgeWrong', WHERE WHAT IT READS IS OF BULK AT MOST 1048576: true; the input reads as it did. -/
def edgeWrongUptoRow : OpenClaim := { program := "ytgdifckmjdjcpaa", sum := "f7548c5d0661ee2cd20ba06d9b6c2cec1b727a0a8eb0e74be584f1326233d834", func := "mesta/mestalaw06.EdgeWrong", spec := "edgeWrong", unfollowed := true, recurses := true, apart := false, narrowed := true }
def EdgeWrongUptoSaid : Prop := edgeWrongUptoRow.holds Try.pinned (OpenSpec.upto edgeWrongSpec)

/-- 'mestalaw06.EdgeSettled', WHERE WHAT IT READS IS OF BULK AT MOST 1048576: true; the input reads as it did. -/
def edgeSettledUptoRow : OpenClaim := { program := "ytgdifckmjdjcpaa", sum := "f7548c5d0661ee2cd20ba06d9b6c2cec1b727a0a8eb0e74be584f1326233d834", func := "mesta/mestalaw06.EdgeSettled", spec := "edgeSettled", unfollowed := true, recurses := true, apart := false, narrowed := true }
def EdgeSettledUptoSaid : Prop := edgeSettledUptoRow.holds Try.pinned (OpenSpec.upto edgeSettledSpec)

/-- 'mestalaw06.EdgeMore', WHERE WHAT IT READS IS OF BULK AT MOST 1048576: true; the input reads as it did. -/
def edgeMoreUptoRow : OpenClaim := { program := "ytgdifckmjdjcpaa", sum := "f7548c5d0661ee2cd20ba06d9b6c2cec1b727a0a8eb0e74be584f1326233d834", func := "mesta/mestalaw06.EdgeMore", spec := "edgeMore", unfollowed := true, recurses := true, apart := false, narrowed := true }
def EdgeMoreUptoSaid : Prop := edgeMoreUptoRow.holds Try.pinned (OpenSpec.upto edgeMoreSpec)

/-- 'mestalaw06.EdgeAll', WHERE WHAT IT READS IS OF BULK AT MOST 1048576: true; the input reads as it did. -/
def edgeAllUptoRow : OpenClaim := { program := "ytgdifckmjdjcpaa", sum := "f7548c5d0661ee2cd20ba06d9b6c2cec1b727a0a8eb0e74be584f1326233d834", func := "mesta/mestalaw06.EdgeAll", spec := "edgeAll", unfollowed := true, recurses := true, apart := false, narrowed := true }
def EdgeAllUptoSaid : Prop := edgeAllUptoRow.holds Try.pinned (OpenSpec.upto edgeAllSpec)

/-- 'mestalaw06.EdgeFollows', WHERE WHAT IT READS IS OF BULK AT MOST 1048576: true; the input reads as it did. -/
def edgeFollowsUptoRow : OpenClaim := { program := "ytgdifckmjdjcpaa", sum := "f7548c5d0661ee2cd20ba06d9b6c2cec1b727a0a8eb0e74be584f1326233d834", func := "mesta/mestalaw06.EdgeFollows", spec := "edgeFollows", unfollowed := true, recurses := true, apart := false, narrowed := true }
def EdgeFollowsUptoSaid : Prop := edgeFollowsUptoRow.holds Try.pinned (OpenSpec.upto edgeFollowsSpec)

end Rows
end Go.Proofs.Ytgdifckmjdjcpaa
