/-
  No cell of these rows narrows 'for every input' (looked for: loops, veiled, ifaces, maps, wideKeys, modest, calm, conditions, laid).
  DERIVED. THE GIVEN ROWS OF THIS SEAT. 17 by the template 'for every input the law returns true; each argument reads behind the call as it read before'; 0 by the template 'total and deterministic' (their statements: YthchpoabncdicaaTotals.lean).
  GIVEN WITH THE SEED: the statements are not yours to turn. If you find one false, say at which input.
  Laid BY PROGRAM, IN A SANDBOX (cutbox-rows.mjs): the forced cells as the released guide's own fill.sh prints them over the translation 00591f8ef7346f1e… (all of the seat's roots in one cut). By AI agents, Wed Nov 11 2026. No macro, syntax, notation, axiom, sorry.
-/
import Derived.Test.YthchpoabncdicaaChecked
import GoSem.Claim
import GoSem.ClaimJoined
import GoSem.ClaimMapViews
import Derived.JoinedTies
import Derived.KernelRfl
namespace Go.Proofs.Ythchpoabncdicaa
/- THE CELL 'sum', in the pinned program and in every row, IS THE sha256 OF THE DUMP (.gsa) THAT YthchpoabncdicaaProg.lean LOADS. Nothing in Lean hashes anything: it is a label: what it is worth is what the hold of that sum in a sandbox is worth. -/
noncomputable def Try.pinned : Pinned := { name := "ythchpoabncdicaa", sum := "00591f8ef7346f1e278e177acbf00e955313860ef9f62e88deb83ff22ff1c047", checked := Try.checked }
namespace Rows
def none {H : Type} : Left H := { results := [], args := [] }

/-- 'mestalaw08.LotsTrades': WHATEVER THE INPUT: true; the input reads as it did. -/
def lotsTradesSpec : ChangeSpec := { name := "lotsTrades", fn := fun _ => fun
  | [d1, d2, d3, d4, d5] => { results := [.lit (.bool true)], args := [d1, d2, d3, d4, d5] }
  | _ => none }
def lotsTradesRow : OpenClaim := { program := "ythchpoabncdicaa", sum := "00591f8ef7346f1e278e177acbf00e955313860ef9f62e88deb83ff22ff1c047", func := "mesta/mestalaw08.LotsTrades", spec := "lotsTrades", unfollowed := true, recurses := true, plainKeys := false, apart := false }
def LotsTradesSaid : Prop := lotsTradesRow.holds Try.pinned (OpenSpec.ofChange lotsTradesSpec)

/-- ITS FALSE NEIGHBOUR: 'it returns false'. Refute it at one input. -/
def lotsTradesWrong : ChangeSpec := { name := "lotsTrades", fn := fun _ => fun
  | [d1, d2, d3, d4, d5] => { results := [.lit (.bool false)], args := [d1, d2, d3, d4, d5] }
  | _ => none }
def LotsTradesWrongFalsely : Prop := lotsTradesRow.holds Try.pinned (OpenSpec.ofChange lotsTradesWrong)

/-- 'mestalaw08.LotsFair': WHATEVER THE INPUT: true; the input reads as it did. -/
def lotsFairSpec : ChangeSpec := { name := "lotsFair", fn := fun _ => fun
  | [d1, d2] => { results := [.lit (.bool true)], args := [d1, d2] }
  | _ => none }
def lotsFairRow : OpenClaim := { program := "ythchpoabncdicaa", sum := "00591f8ef7346f1e278e177acbf00e955313860ef9f62e88deb83ff22ff1c047", func := "mesta/mestalaw08.LotsFair", spec := "lotsFair", unfollowed := true, recurses := true, plainKeys := false, apart := false }
def LotsFairSaid : Prop := lotsFairRow.holds Try.pinned (OpenSpec.ofChange lotsFairSpec)

/-- ITS FALSE NEIGHBOUR: 'it returns false'. Refute it at one input. -/
def lotsFairWrong : ChangeSpec := { name := "lotsFair", fn := fun _ => fun
  | [d1, d2] => { results := [.lit (.bool false)], args := [d1, d2] }
  | _ => none }
def LotsFairWrongFalsely : Prop := lotsFairRow.holds Try.pinned (OpenSpec.ofChange lotsFairWrong)

/-- 'mestalaw08.LotsLast': WHATEVER THE INPUT: true; the input reads as it did. -/
def lotsLastSpec : ChangeSpec := { name := "lotsLast", fn := fun _ => fun
  | [d] => { results := [.lit (.bool true)], args := [d] }
  | _ => none }
def lotsLastRow : OpenClaim := { program := "ythchpoabncdicaa", sum := "00591f8ef7346f1e278e177acbf00e955313860ef9f62e88deb83ff22ff1c047", func := "mesta/mestalaw08.LotsLast", spec := "lotsLast", unfollowed := true, recurses := true, plainKeys := false, apart := false }
def LotsLastSaid : Prop := lotsLastRow.holds Try.pinned (OpenSpec.ofChange lotsLastSpec)

/-- ITS FALSE NEIGHBOUR: 'it returns false'. Refute it at one input. -/
def lotsLastWrong : ChangeSpec := { name := "lotsLast", fn := fun _ => fun
  | [d] => { results := [.lit (.bool false)], args := [d] }
  | _ => none }
def LotsLastWrongFalsely : Prop := lotsLastRow.holds Try.pinned (OpenSpec.ofChange lotsLastWrong)

/-- 'mestalaw08.LotsMerged': WHATEVER THE INPUT: true; the input reads as it did. -/
def lotsMergedSpec : ChangeSpec := { name := "lotsMerged", fn := fun _ => fun
  | [d] => { results := [.lit (.bool true)], args := [d] }
  | _ => none }
def lotsMergedRow : OpenClaim := { program := "ythchpoabncdicaa", sum := "00591f8ef7346f1e278e177acbf00e955313860ef9f62e88deb83ff22ff1c047", func := "mesta/mestalaw08.LotsMerged", spec := "lotsMerged", unfollowed := true, recurses := true, plainKeys := false, apart := false }
def LotsMergedSaid : Prop := lotsMergedRow.holds Try.pinned (OpenSpec.ofChange lotsMergedSpec)

/-- ITS FALSE NEIGHBOUR: 'it returns false'. Refute it at one input. -/
def lotsMergedWrong : ChangeSpec := { name := "lotsMerged", fn := fun _ => fun
  | [d] => { results := [.lit (.bool false)], args := [d] }
  | _ => none }
def LotsMergedWrongFalsely : Prop := lotsMergedRow.holds Try.pinned (OpenSpec.ofChange lotsMergedWrong)

/-- 'mestalaw08.LotsPareto': WHATEVER THE INPUT: true; the input reads as it did. -/
def lotsParetoSpec : ChangeSpec := { name := "lotsPareto", fn := fun _ => fun
  | [d] => { results := [.lit (.bool true)], args := [d] }
  | _ => none }
def lotsParetoRow : OpenClaim := { program := "ythchpoabncdicaa", sum := "00591f8ef7346f1e278e177acbf00e955313860ef9f62e88deb83ff22ff1c047", func := "mesta/mestalaw08.LotsPareto", spec := "lotsPareto", unfollowed := true, recurses := true, plainKeys := false, apart := false }
def LotsParetoSaid : Prop := lotsParetoRow.holds Try.pinned (OpenSpec.ofChange lotsParetoSpec)

/-- ITS FALSE NEIGHBOUR: 'it returns false'. Refute it at one input. -/
def lotsParetoWrong : ChangeSpec := { name := "lotsPareto", fn := fun _ => fun
  | [d] => { results := [.lit (.bool false)], args := [d] }
  | _ => none }
def LotsParetoWrongFalsely : Prop := lotsParetoRow.holds Try.pinned (OpenSpec.ofChange lotsParetoWrong)

/-- 'mestalaw08.LotsCore': WHATEVER THE INPUT: true; the input reads as it did. -/
def lotsCoreSpec : ChangeSpec := { name := "lotsCore", fn := fun _ => fun
  | [d] => { results := [.lit (.bool true)], args := [d] }
  | _ => none }
def lotsCoreRow : OpenClaim := { program := "ythchpoabncdicaa", sum := "00591f8ef7346f1e278e177acbf00e955313860ef9f62e88deb83ff22ff1c047", func := "mesta/mestalaw08.LotsCore", spec := "lotsCore", unfollowed := true, recurses := true, plainKeys := false, apart := false }
def LotsCoreSaid : Prop := lotsCoreRow.holds Try.pinned (OpenSpec.ofChange lotsCoreSpec)

/-- ITS FALSE NEIGHBOUR: 'it returns false'. Refute it at one input. -/
def lotsCoreWrong : ChangeSpec := { name := "lotsCore", fn := fun _ => fun
  | [d] => { results := [.lit (.bool false)], args := [d] }
  | _ => none }
def LotsCoreWrongFalsely : Prop := lotsCoreRow.holds Try.pinned (OpenSpec.ofChange lotsCoreWrong)

/-- 'mestalaw08.LotsHonest': WHATEVER THE INPUT: true; the input reads as it did. -/
def lotsHonestSpec : ChangeSpec := { name := "lotsHonest", fn := fun _ => fun
  | [d] => { results := [.lit (.bool true)], args := [d] }
  | _ => none }
def lotsHonestRow : OpenClaim := { program := "ythchpoabncdicaa", sum := "00591f8ef7346f1e278e177acbf00e955313860ef9f62e88deb83ff22ff1c047", func := "mesta/mestalaw08.LotsHonest", spec := "lotsHonest", unfollowed := true, recurses := true, plainKeys := false, apart := false }
def LotsHonestSaid : Prop := lotsHonestRow.holds Try.pinned (OpenSpec.ofChange lotsHonestSpec)

/-- ITS FALSE NEIGHBOUR: 'it returns false'. Refute it at one input. -/
def lotsHonestWrong : ChangeSpec := { name := "lotsHonest", fn := fun _ => fun
  | [d] => { results := [.lit (.bool false)], args := [d] }
  | _ => none }
def LotsHonestWrongFalsely : Prop := lotsHonestRow.holds Try.pinned (OpenSpec.ofChange lotsHonestWrong)

/-- 'mestalaw08.LotsSwaps': WHATEVER THE INPUT: true; the input reads as it did. -/
def lotsSwapsSpec : ChangeSpec := { name := "lotsSwaps", fn := fun _ => fun
  | [d] => { results := [.lit (.bool true)], args := [d] }
  | _ => none }
def lotsSwapsRow : OpenClaim := { program := "ythchpoabncdicaa", sum := "00591f8ef7346f1e278e177acbf00e955313860ef9f62e88deb83ff22ff1c047", func := "mesta/mestalaw08.LotsSwaps", spec := "lotsSwaps", unfollowed := true, recurses := true, plainKeys := false, apart := false }
def LotsSwapsSaid : Prop := lotsSwapsRow.holds Try.pinned (OpenSpec.ofChange lotsSwapsSpec)

/-- ITS FALSE NEIGHBOUR: 'it returns false'. Refute it at one input. -/
def lotsSwapsWrong : ChangeSpec := { name := "lotsSwaps", fn := fun _ => fun
  | [d] => { results := [.lit (.bool false)], args := [d] }
  | _ => none }
def LotsSwapsWrongFalsely : Prop := lotsSwapsRow.holds Try.pinned (OpenSpec.ofChange lotsSwapsWrong)

/-- 'mestalaw08.LotsCycle': WHATEVER THE INPUT: true; the input reads as it did. -/
def lotsCycleSpec : ChangeSpec := { name := "lotsCycle", fn := fun _ => fun
  | [d] => { results := [.lit (.bool true)], args := [d] }
  | _ => none }
def lotsCycleRow : OpenClaim := { program := "ythchpoabncdicaa", sum := "00591f8ef7346f1e278e177acbf00e955313860ef9f62e88deb83ff22ff1c047", func := "mesta/mestalaw08.LotsCycle", spec := "lotsCycle", unfollowed := true, recurses := true, plainKeys := false, apart := false }
def LotsCycleSaid : Prop := lotsCycleRow.holds Try.pinned (OpenSpec.ofChange lotsCycleSpec)

/-- ITS FALSE NEIGHBOUR: 'it returns false'. Refute it at one input. -/
def lotsCycleWrong : ChangeSpec := { name := "lotsCycle", fn := fun _ => fun
  | [d] => { results := [.lit (.bool false)], args := [d] }
  | _ => none }
def LotsCycleWrongFalsely : Prop := lotsCycleRow.holds Try.pinned (OpenSpec.ofChange lotsCycleWrong)

/-- 'mestalaw08.LotsNext': WHATEVER THE INPUT: true; the input reads as it did. -/
def lotsNextSpec : ChangeSpec := { name := "lotsNext", fn := fun _ => fun
  | [d] => { results := [.lit (.bool true)], args := [d] }
  | _ => none }
def lotsNextRow : OpenClaim := { program := "ythchpoabncdicaa", sum := "00591f8ef7346f1e278e177acbf00e955313860ef9f62e88deb83ff22ff1c047", func := "mesta/mestalaw08.LotsNext", spec := "lotsNext", unfollowed := true, recurses := true, plainKeys := false, apart := false }
def LotsNextSaid : Prop := lotsNextRow.holds Try.pinned (OpenSpec.ofChange lotsNextSpec)

/-- ITS FALSE NEIGHBOUR: 'it returns false'. Refute it at one input. -/
def lotsNextWrong : ChangeSpec := { name := "lotsNext", fn := fun _ => fun
  | [d] => { results := [.lit (.bool false)], args := [d] }
  | _ => none }
def LotsNextWrongFalsely : Prop := lotsNextRow.holds Try.pinned (OpenSpec.ofChange lotsNextWrong)

/-- 'mestatop.TopFair': WHATEVER THE INPUT: true; the input reads as it did. -/
def topFairSpec : ChangeSpec := { name := "topFair", fn := fun _ => fun
  | [d] => { results := [.lit (.bool true)], args := [d] }
  | _ => none }
def topFairRow : OpenClaim := { program := "ythchpoabncdicaa", sum := "00591f8ef7346f1e278e177acbf00e955313860ef9f62e88deb83ff22ff1c047", func := "mesta/mestatop.TopFair", spec := "topFair", unfollowed := true, recurses := true, plainKeys := false, apart := false }
def TopFairSaid : Prop := topFairRow.holds Try.pinned (OpenSpec.ofChange topFairSpec)

/-- ITS FALSE NEIGHBOUR: 'it returns false'. Refute it at one input. -/
def topFairWrong : ChangeSpec := { name := "topFair", fn := fun _ => fun
  | [d] => { results := [.lit (.bool false)], args := [d] }
  | _ => none }
def TopFairWrongFalsely : Prop := topFairRow.holds Try.pinned (OpenSpec.ofChange topFairWrong)

/-- 'mestalaw08.LotsLate': WHATEVER THE INPUT: true; the input reads as it did. -/
def lotsLateSpec : ChangeSpec := { name := "lotsLate", fn := fun _ => fun
  | [d] => { results := [.lit (.bool true)], args := [d] }
  | _ => none }
def lotsLateRow : OpenClaim := { program := "ythchpoabncdicaa", sum := "00591f8ef7346f1e278e177acbf00e955313860ef9f62e88deb83ff22ff1c047", func := "mesta/mestalaw08.LotsLate", spec := "lotsLate", unfollowed := true, recurses := true, plainKeys := false, apart := false }
def LotsLateSaid : Prop := lotsLateRow.holds Try.pinned (OpenSpec.ofChange lotsLateSpec)

/-- ITS FALSE NEIGHBOUR: 'it returns false'. Refute it at one input. -/
def lotsLateWrong : ChangeSpec := { name := "lotsLate", fn := fun _ => fun
  | [d] => { results := [.lit (.bool false)], args := [d] }
  | _ => none }
def LotsLateWrongFalsely : Prop := lotsLateRow.holds Try.pinned (OpenSpec.ofChange lotsLateWrong)

/-- 'mestalaw08.LotsDraws': WHATEVER THE INPUT: true; the input reads as it did. -/
def lotsDrawsSpec : ChangeSpec := { name := "lotsDraws", fn := fun _ => fun
  | [d1, d2, d3, d4] => { results := [.lit (.bool true)], args := [d1, d2, d3, d4] }
  | _ => none }
def lotsDrawsRow : OpenClaim := { program := "ythchpoabncdicaa", sum := "00591f8ef7346f1e278e177acbf00e955313860ef9f62e88deb83ff22ff1c047", func := "mesta/mestalaw08.LotsDraws", spec := "lotsDraws", unfollowed := true, recurses := true, plainKeys := false, apart := false }
def LotsDrawsSaid : Prop := lotsDrawsRow.holds Try.pinned (OpenSpec.ofChange lotsDrawsSpec)

/-- ITS FALSE NEIGHBOUR: 'it returns false'. Refute it at one input. -/
def lotsDrawsWrong : ChangeSpec := { name := "lotsDraws", fn := fun _ => fun
  | [d1, d2, d3, d4] => { results := [.lit (.bool false)], args := [d1, d2, d3, d4] }
  | _ => none }
def LotsDrawsWrongFalsely : Prop := lotsDrawsRow.holds Try.pinned (OpenSpec.ofChange lotsDrawsWrong)

/-- 'mestalaw08.LotsAllots': WHATEVER THE INPUT: true; the input reads as it did. -/
def lotsAllotsSpec : ChangeSpec := { name := "lotsAllots", fn := fun _ => fun
  | [d1, d2, d3, d4, d5, d6] => { results := [.lit (.bool true)], args := [d1, d2, d3, d4, d5, d6] }
  | _ => none }
def lotsAllotsRow : OpenClaim := { program := "ythchpoabncdicaa", sum := "00591f8ef7346f1e278e177acbf00e955313860ef9f62e88deb83ff22ff1c047", func := "mesta/mestalaw08.LotsAllots", spec := "lotsAllots", unfollowed := true, recurses := true, plainKeys := false, apart := false }
def LotsAllotsSaid : Prop := lotsAllotsRow.holds Try.pinned (OpenSpec.ofChange lotsAllotsSpec)

/-- ITS FALSE NEIGHBOUR: 'it returns false'. Refute it at one input. -/
def lotsAllotsWrong : ChangeSpec := { name := "lotsAllots", fn := fun _ => fun
  | [d1, d2, d3, d4, d5, d6] => { results := [.lit (.bool false)], args := [d1, d2, d3, d4, d5, d6] }
  | _ => none }
def LotsAllotsWrongFalsely : Prop := lotsAllotsRow.holds Try.pinned (OpenSpec.ofChange lotsAllotsWrong)

/-- 'mestalaw08.LotsGroups': WHATEVER THE INPUT: true; the input reads as it did. -/
def lotsGroupsSpec : ChangeSpec := { name := "lotsGroups", fn := fun _ => fun
  | [d] => { results := [.lit (.bool true)], args := [d] }
  | _ => none }
def lotsGroupsRow : OpenClaim := { program := "ythchpoabncdicaa", sum := "00591f8ef7346f1e278e177acbf00e955313860ef9f62e88deb83ff22ff1c047", func := "mesta/mestalaw08.LotsGroups", spec := "lotsGroups", unfollowed := true, recurses := true, plainKeys := false, apart := false }
def LotsGroupsSaid : Prop := lotsGroupsRow.holds Try.pinned (OpenSpec.ofChange lotsGroupsSpec)

/-- ITS FALSE NEIGHBOUR: 'it returns false'. Refute it at one input. -/
def lotsGroupsWrong : ChangeSpec := { name := "lotsGroups", fn := fun _ => fun
  | [d] => { results := [.lit (.bool false)], args := [d] }
  | _ => none }
def LotsGroupsWrongFalsely : Prop := lotsGroupsRow.holds Try.pinned (OpenSpec.ofChange lotsGroupsWrong)

/-- 'mestalaw08.LotsCalm': WHATEVER THE INPUT: true; the input reads as it did. -/
def lotsCalmSpec : ChangeSpec := { name := "lotsCalm", fn := fun _ => fun
  | [d] => { results := [.lit (.bool true)], args := [d] }
  | _ => none }
def lotsCalmRow : OpenClaim := { program := "ythchpoabncdicaa", sum := "00591f8ef7346f1e278e177acbf00e955313860ef9f62e88deb83ff22ff1c047", func := "mesta/mestalaw08.LotsCalm", spec := "lotsCalm", unfollowed := true, recurses := true, plainKeys := false, apart := false }
def LotsCalmSaid : Prop := lotsCalmRow.holds Try.pinned (OpenSpec.ofChange lotsCalmSpec)

/-- ITS FALSE NEIGHBOUR: 'it returns false'. Refute it at one input. -/
def lotsCalmWrong : ChangeSpec := { name := "lotsCalm", fn := fun _ => fun
  | [d] => { results := [.lit (.bool false)], args := [d] }
  | _ => none }
def LotsCalmWrongFalsely : Prop := lotsCalmRow.holds Try.pinned (OpenSpec.ofChange lotsCalmWrong)

/-- 'mestalaw08.LotsEnvies': WHATEVER THE INPUT: true; the input reads as it did. -/
def lotsEnviesSpec : ChangeSpec := { name := "lotsEnvies", fn := fun _ => fun
  | [d1, d2, d3] => { results := [.lit (.bool true)], args := [d1, d2, d3] }
  | _ => none }
def lotsEnviesRow : OpenClaim := { program := "ythchpoabncdicaa", sum := "00591f8ef7346f1e278e177acbf00e955313860ef9f62e88deb83ff22ff1c047", func := "mesta/mestalaw08.LotsEnvies", spec := "lotsEnvies", unfollowed := true, recurses := true, plainKeys := false, apart := false }
def LotsEnviesSaid : Prop := lotsEnviesRow.holds Try.pinned (OpenSpec.ofChange lotsEnviesSpec)

/-- ITS FALSE NEIGHBOUR: 'it returns false'. Refute it at one input. -/
def lotsEnviesWrong : ChangeSpec := { name := "lotsEnvies", fn := fun _ => fun
  | [d1, d2, d3] => { results := [.lit (.bool false)], args := [d1, d2, d3] }
  | _ => none }
def LotsEnviesWrongFalsely : Prop := lotsEnviesRow.holds Try.pinned (OpenSpec.ofChange lotsEnviesWrong)

/- THE SECOND FORM. 'bulk': how many values and letters a reading holds, each counted each time it is reached (what is shared counts as often as it is met; a slice's spare places count too). A statement '..UptoSaid' is the law's where the arguments, and the package variables that the reading takes, are together of bulk at most 1048576: NARROWER than '..Said'. Prove '..Said' where nothing that the law and all that it calls make is longer than what came in: it says more and counts as full. Else prove '..UptoSaid'. A law counts once. -/
mutual
def uptoBulk {H : Type} : DataW H → Nat
  | .lit (.string bytes) => bytes.length + 1
  | .lit _ => 1
  | .nil => 1
  | .ptr d => uptoBulk d + 1
  | .slice elems spare => uptoBulkAll elems + uptoBulkAll spare + 1
  | .agg parts => uptoBulkAll parts + 1
  | .iface _ d => uptoBulk d + 1
  | .map entries => uptoBulkEntries entries + 1
  | .held _ => 1
def uptoBulkAll {H : Type} : List (DataW H) → Nat
  | [] => 0
  | d :: r => uptoBulk d + uptoBulkAll r
def uptoBulkEntries {H : Type} : List (Lit × DataW H) → Nat
  | [] => 0
  | x :: r => uptoBulkEntry x + uptoBulkEntries r
def uptoBulkEntry {H : Type} : Lit × DataW H → Nat
  | (.string bytes, d) => bytes.length + uptoBulk d + 1
  | (_, d) => uptoBulk d + 1
 end
def uptoSmall : (H : Type) → List (DataW H) → Bool := fun _ ds => decide (uptoBulkAll ds ≤ 1048576)
def OpenSpec.upto (s : _root_.Go.ChangeSpec) : _root_.Go.OpenSpec := { _root_.Go.OpenSpec.ofChange s with cond := some uptoSmall }

/-- 'mestalaw08.LotsTrades', WHERE WHAT IT READS IS OF BULK AT MOST 1048576: true; the input reads as it did. -/
def lotsTradesUptoRow : OpenClaim := { program := "ythchpoabncdicaa", sum := "00591f8ef7346f1e278e177acbf00e955313860ef9f62e88deb83ff22ff1c047", func := "mesta/mestalaw08.LotsTrades", spec := "lotsTrades", unfollowed := true, recurses := true, plainKeys := false, apart := false, narrowed := true }
def LotsTradesUptoSaid : Prop := lotsTradesUptoRow.holds Try.pinned (OpenSpec.upto lotsTradesSpec)

/-- 'mestalaw08.LotsFair', WHERE WHAT IT READS IS OF BULK AT MOST 1048576: true; the input reads as it did. -/
def lotsFairUptoRow : OpenClaim := { program := "ythchpoabncdicaa", sum := "00591f8ef7346f1e278e177acbf00e955313860ef9f62e88deb83ff22ff1c047", func := "mesta/mestalaw08.LotsFair", spec := "lotsFair", unfollowed := true, recurses := true, plainKeys := false, apart := false, narrowed := true }
def LotsFairUptoSaid : Prop := lotsFairUptoRow.holds Try.pinned (OpenSpec.upto lotsFairSpec)

/-- 'mestalaw08.LotsLast', WHERE WHAT IT READS IS OF BULK AT MOST 1048576: true; the input reads as it did. -/
def lotsLastUptoRow : OpenClaim := { program := "ythchpoabncdicaa", sum := "00591f8ef7346f1e278e177acbf00e955313860ef9f62e88deb83ff22ff1c047", func := "mesta/mestalaw08.LotsLast", spec := "lotsLast", unfollowed := true, recurses := true, plainKeys := false, apart := false, narrowed := true }
def LotsLastUptoSaid : Prop := lotsLastUptoRow.holds Try.pinned (OpenSpec.upto lotsLastSpec)

/-- 'mestalaw08.LotsMerged', WHERE WHAT IT READS IS OF BULK AT MOST 1048576: true; the input reads as it did. -/
def lotsMergedUptoRow : OpenClaim := { program := "ythchpoabncdicaa", sum := "00591f8ef7346f1e278e177acbf00e955313860ef9f62e88deb83ff22ff1c047", func := "mesta/mestalaw08.LotsMerged", spec := "lotsMerged", unfollowed := true, recurses := true, plainKeys := false, apart := false, narrowed := true }
def LotsMergedUptoSaid : Prop := lotsMergedUptoRow.holds Try.pinned (OpenSpec.upto lotsMergedSpec)

/-- 'mestalaw08.LotsPareto', WHERE WHAT IT READS IS OF BULK AT MOST 1048576: true; the input reads as it did. -/
def lotsParetoUptoRow : OpenClaim := { program := "ythchpoabncdicaa", sum := "00591f8ef7346f1e278e177acbf00e955313860ef9f62e88deb83ff22ff1c047", func := "mesta/mestalaw08.LotsPareto", spec := "lotsPareto", unfollowed := true, recurses := true, plainKeys := false, apart := false, narrowed := true }
def LotsParetoUptoSaid : Prop := lotsParetoUptoRow.holds Try.pinned (OpenSpec.upto lotsParetoSpec)

/-- 'mestalaw08.LotsCore', WHERE WHAT IT READS IS OF BULK AT MOST 1048576: true; the input reads as it did. -/
def lotsCoreUptoRow : OpenClaim := { program := "ythchpoabncdicaa", sum := "00591f8ef7346f1e278e177acbf00e955313860ef9f62e88deb83ff22ff1c047", func := "mesta/mestalaw08.LotsCore", spec := "lotsCore", unfollowed := true, recurses := true, plainKeys := false, apart := false, narrowed := true }
def LotsCoreUptoSaid : Prop := lotsCoreUptoRow.holds Try.pinned (OpenSpec.upto lotsCoreSpec)

/-- 'mestalaw08.LotsHonest', WHERE WHAT IT READS IS OF BULK AT MOST 1048576: true; the input reads as it did. -/
def lotsHonestUptoRow : OpenClaim := { program := "ythchpoabncdicaa", sum := "00591f8ef7346f1e278e177acbf00e955313860ef9f62e88deb83ff22ff1c047", func := "mesta/mestalaw08.LotsHonest", spec := "lotsHonest", unfollowed := true, recurses := true, plainKeys := false, apart := false, narrowed := true }
def LotsHonestUptoSaid : Prop := lotsHonestUptoRow.holds Try.pinned (OpenSpec.upto lotsHonestSpec)

/-- 'mestalaw08.LotsSwaps', WHERE WHAT IT READS IS OF BULK AT MOST 1048576: true; the input reads as it did. -/
def lotsSwapsUptoRow : OpenClaim := { program := "ythchpoabncdicaa", sum := "00591f8ef7346f1e278e177acbf00e955313860ef9f62e88deb83ff22ff1c047", func := "mesta/mestalaw08.LotsSwaps", spec := "lotsSwaps", unfollowed := true, recurses := true, plainKeys := false, apart := false, narrowed := true }
def LotsSwapsUptoSaid : Prop := lotsSwapsUptoRow.holds Try.pinned (OpenSpec.upto lotsSwapsSpec)

/-- 'mestalaw08.LotsCycle', WHERE WHAT IT READS IS OF BULK AT MOST 1048576: true; the input reads as it did. -/
def lotsCycleUptoRow : OpenClaim := { program := "ythchpoabncdicaa", sum := "00591f8ef7346f1e278e177acbf00e955313860ef9f62e88deb83ff22ff1c047", func := "mesta/mestalaw08.LotsCycle", spec := "lotsCycle", unfollowed := true, recurses := true, plainKeys := false, apart := false, narrowed := true }
def LotsCycleUptoSaid : Prop := lotsCycleUptoRow.holds Try.pinned (OpenSpec.upto lotsCycleSpec)

/-- 'mestalaw08.LotsNext', WHERE WHAT IT READS IS OF BULK AT MOST 1048576: true; the input reads as it did. -/
def lotsNextUptoRow : OpenClaim := { program := "ythchpoabncdicaa", sum := "00591f8ef7346f1e278e177acbf00e955313860ef9f62e88deb83ff22ff1c047", func := "mesta/mestalaw08.LotsNext", spec := "lotsNext", unfollowed := true, recurses := true, plainKeys := false, apart := false, narrowed := true }
def LotsNextUptoSaid : Prop := lotsNextUptoRow.holds Try.pinned (OpenSpec.upto lotsNextSpec)

/-- 'mestatop.TopFair', WHERE WHAT IT READS IS OF BULK AT MOST 1048576: true; the input reads as it did. -/
def topFairUptoRow : OpenClaim := { program := "ythchpoabncdicaa", sum := "00591f8ef7346f1e278e177acbf00e955313860ef9f62e88deb83ff22ff1c047", func := "mesta/mestatop.TopFair", spec := "topFair", unfollowed := true, recurses := true, plainKeys := false, apart := false, narrowed := true }
def TopFairUptoSaid : Prop := topFairUptoRow.holds Try.pinned (OpenSpec.upto topFairSpec)

/-- 'mestalaw08.LotsLate', WHERE WHAT IT READS IS OF BULK AT MOST 1048576: true; the input reads as it did. -/
def lotsLateUptoRow : OpenClaim := { program := "ythchpoabncdicaa", sum := "00591f8ef7346f1e278e177acbf00e955313860ef9f62e88deb83ff22ff1c047", func := "mesta/mestalaw08.LotsLate", spec := "lotsLate", unfollowed := true, recurses := true, plainKeys := false, apart := false, narrowed := true }
def LotsLateUptoSaid : Prop := lotsLateUptoRow.holds Try.pinned (OpenSpec.upto lotsLateSpec)

/-- 'mestalaw08.LotsDraws', WHERE WHAT IT READS IS OF BULK AT MOST 1048576: true; the input reads as it did. -/
def lotsDrawsUptoRow : OpenClaim := { program := "ythchpoabncdicaa", sum := "00591f8ef7346f1e278e177acbf00e955313860ef9f62e88deb83ff22ff1c047", func := "mesta/mestalaw08.LotsDraws", spec := "lotsDraws", unfollowed := true, recurses := true, plainKeys := false, apart := false, narrowed := true }
def LotsDrawsUptoSaid : Prop := lotsDrawsUptoRow.holds Try.pinned (OpenSpec.upto lotsDrawsSpec)

/-- 'mestalaw08.LotsAllots', WHERE WHAT IT READS IS OF BULK AT MOST 1048576: true; the input reads as it did. -/
def lotsAllotsUptoRow : OpenClaim := { program := "ythchpoabncdicaa", sum := "00591f8ef7346f1e278e177acbf00e955313860ef9f62e88deb83ff22ff1c047", func := "mesta/mestalaw08.LotsAllots", spec := "lotsAllots", unfollowed := true, recurses := true, plainKeys := false, apart := false, narrowed := true }
def LotsAllotsUptoSaid : Prop := lotsAllotsUptoRow.holds Try.pinned (OpenSpec.upto lotsAllotsSpec)

/-- 'mestalaw08.LotsGroups', WHERE WHAT IT READS IS OF BULK AT MOST 1048576: true; the input reads as it did. -/
def lotsGroupsUptoRow : OpenClaim := { program := "ythchpoabncdicaa", sum := "00591f8ef7346f1e278e177acbf00e955313860ef9f62e88deb83ff22ff1c047", func := "mesta/mestalaw08.LotsGroups", spec := "lotsGroups", unfollowed := true, recurses := true, plainKeys := false, apart := false, narrowed := true }
def LotsGroupsUptoSaid : Prop := lotsGroupsUptoRow.holds Try.pinned (OpenSpec.upto lotsGroupsSpec)

/-- 'mestalaw08.LotsCalm', WHERE WHAT IT READS IS OF BULK AT MOST 1048576: true; the input reads as it did. -/
def lotsCalmUptoRow : OpenClaim := { program := "ythchpoabncdicaa", sum := "00591f8ef7346f1e278e177acbf00e955313860ef9f62e88deb83ff22ff1c047", func := "mesta/mestalaw08.LotsCalm", spec := "lotsCalm", unfollowed := true, recurses := true, plainKeys := false, apart := false, narrowed := true }
def LotsCalmUptoSaid : Prop := lotsCalmUptoRow.holds Try.pinned (OpenSpec.upto lotsCalmSpec)

/-- 'mestalaw08.LotsEnvies', WHERE WHAT IT READS IS OF BULK AT MOST 1048576: true; the input reads as it did. -/
def lotsEnviesUptoRow : OpenClaim := { program := "ythchpoabncdicaa", sum := "00591f8ef7346f1e278e177acbf00e955313860ef9f62e88deb83ff22ff1c047", func := "mesta/mestalaw08.LotsEnvies", spec := "lotsEnvies", unfollowed := true, recurses := true, plainKeys := false, apart := false, narrowed := true }
def LotsEnviesUptoSaid : Prop := lotsEnviesUptoRow.holds Try.pinned (OpenSpec.upto lotsEnviesSpec)

end Rows
end Go.Proofs.Ythchpoabncdicaa
