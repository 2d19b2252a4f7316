/-
  No cell of these rows narrows 'for every input' (looked for: loops, veiled, ifaces, maps, wideKeys, modest, calm, conditions, laid).
  DERIVED. THE GIVEN ROWS OF THIS SEAT. 15 by the template 'for every input the law returns true; each argument reads behind the call as it read before'; 0 by the template 'total and deterministic' (their statements: YtlkpkenbfaiinaaTotals.lean).
  GIVEN WITH THE SEED: the statements are not yours to turn. If you find one false, say at which input.
  Laid BY PROGRAM, IN A SANDBOX (cutbox-rows.mjs): the forced cells as the released guide's own fill.sh prints them over the translation 43a93abffb7c6042… (all of the seat's roots in one cut). By AI agents, Wed Nov 11 2026. No macro, syntax, notation, axiom, sorry.
-/
import Derived.Test.YtlkpkenbfaiinaaChecked
import GoSem.Claim
import GoSem.ClaimJoined
import GoSem.ClaimMapViews
import Derived.JoinedTies
import Derived.KernelRfl
namespace Go.Proofs.Ytlkpkenbfaiinaa
/- THE CELL 'sum', in the pinned program and in every row, IS THE sha256 OF THE DUMP (.gsa) THAT YtlkpkenbfaiinaaProg.lean LOADS. Nothing in Lean hashes anything: it is a label: what it is worth is what the hold of that sum in a sandbox is worth. -/
noncomputable def Try.pinned : Pinned := { name := "ytlkpkenbfaiinaa", sum := "43a93abffb7c604235c0cbae732b6f937af42c63a24c8ed81caa642a37270d5f", checked := Try.checked }
namespace Rows
def none {H : Type} : Left H := { results := [], args := [] }

/-- 'laws.FnExactMayShare': WHATEVER THE INPUT: true; the input reads as it did. -/
def fnExactMayShareSpec : ChangeSpec := { name := "fnExactMayShare", fn := fun _ => fun
  | [d] => { results := [.lit (.bool true)], args := [d] }
  | _ => none }
def fnExactMayShareRow : OpenClaim := { program := "ytlkpkenbfaiinaa", sum := "43a93abffb7c604235c0cbae732b6f937af42c63a24c8ed81caa642a37270d5f", func := "loop.example/g01390/laws.FnExactMayShare", spec := "fnExactMayShare", unfollowed := true, recurses := true, apart := false }
def FnExactMayShareSaid : Prop := fnExactMayShareRow.holds Try.pinned (OpenSpec.ofChange fnExactMayShareSpec)

/-- ITS FALSE NEIGHBOUR: 'it returns false'. Refute it at one input. -/
def fnExactMayShareWrong : ChangeSpec := { name := "fnExactMayShare", fn := fun _ => fun
  | [d] => { results := [.lit (.bool false)], args := [d] }
  | _ => none }
def FnExactMayShareWrongFalsely : Prop := fnExactMayShareRow.holds Try.pinned (OpenSpec.ofChange fnExactMayShareWrong)

/-- 'laws.FnExactCheckHolds': WHATEVER THE INPUT: true; the input reads as it did. -/
def fnExactCheckHoldsSpec : ChangeSpec := { name := "fnExactCheckHolds", fn := fun _ => fun
  | [d1, d2] => { results := [.lit (.bool true)], args := [d1, d2] }
  | _ => none }
def fnExactCheckHoldsRow : OpenClaim := { program := "ytlkpkenbfaiinaa", sum := "43a93abffb7c604235c0cbae732b6f937af42c63a24c8ed81caa642a37270d5f", func := "loop.example/g01390/laws.FnExactCheckHolds", spec := "fnExactCheckHolds", unfollowed := true, recurses := true, apart := false }
def FnExactCheckHoldsSaid : Prop := fnExactCheckHoldsRow.holds Try.pinned (OpenSpec.ofChange fnExactCheckHoldsSpec)

/-- ITS FALSE NEIGHBOUR: 'it returns false'. Refute it at one input. -/
def fnExactCheckHoldsWrong : ChangeSpec := { name := "fnExactCheckHolds", fn := fun _ => fun
  | [d1, d2] => { results := [.lit (.bool false)], args := [d1, d2] }
  | _ => none }
def FnExactCheckHoldsWrongFalsely : Prop := fnExactCheckHoldsRow.holds Try.pinned (OpenSpec.ofChange fnExactCheckHoldsWrong)

/-- 'laws.FnExactGreedyHolds': WHATEVER THE INPUT: true; the input reads as it did. -/
def fnExactGreedyHoldsSpec : ChangeSpec := { name := "fnExactGreedyHolds", fn := fun _ => fun
  | [d] => { results := [.lit (.bool true)], args := [d] }
  | _ => none }
def fnExactGreedyHoldsRow : OpenClaim := { program := "ytlkpkenbfaiinaa", sum := "43a93abffb7c604235c0cbae732b6f937af42c63a24c8ed81caa642a37270d5f", func := "loop.example/g01390/laws.FnExactGreedyHolds", spec := "fnExactGreedyHolds", unfollowed := true, recurses := true, apart := false }
def FnExactGreedyHoldsSaid : Prop := fnExactGreedyHoldsRow.holds Try.pinned (OpenSpec.ofChange fnExactGreedyHoldsSpec)

/-- ITS FALSE NEIGHBOUR: 'it returns false'. Refute it at one input. -/
def fnExactGreedyHoldsWrong : ChangeSpec := { name := "fnExactGreedyHolds", fn := fun _ => fun
  | [d] => { results := [.lit (.bool false)], args := [d] }
  | _ => none }
def FnExactGreedyHoldsWrongFalsely : Prop := fnExactGreedyHoldsRow.holds Try.pinned (OpenSpec.ofChange fnExactGreedyHoldsWrong)

/-- 'laws.FnExactMeanLook': WHATEVER THE INPUT: true; the input reads as it did. -/
def fnExactMeanLookSpec : ChangeSpec := { name := "fnExactMeanLook", fn := fun _ => fun
  | [d] => { results := [.lit (.bool true)], args := [d] }
  | _ => none }
def fnExactMeanLookRow : OpenClaim := { program := "ytlkpkenbfaiinaa", sum := "43a93abffb7c604235c0cbae732b6f937af42c63a24c8ed81caa642a37270d5f", func := "loop.example/g01390/laws.FnExactMeanLook", spec := "fnExactMeanLook", unfollowed := true, recurses := true, apart := false }
def FnExactMeanLookSaid : Prop := fnExactMeanLookRow.holds Try.pinned (OpenSpec.ofChange fnExactMeanLookSpec)

/-- ITS FALSE NEIGHBOUR: 'it returns false'. Refute it at one input. -/
def fnExactMeanLookWrong : ChangeSpec := { name := "fnExactMeanLook", fn := fun _ => fun
  | [d] => { results := [.lit (.bool false)], args := [d] }
  | _ => none }
def FnExactMeanLookWrongFalsely : Prop := fnExactMeanLookRow.holds Try.pinned (OpenSpec.ofChange fnExactMeanLookWrong)

/-- 'laws.FnExactNearestLook': WHATEVER THE INPUT: true; the input reads as it did. -/
def fnExactNearestLookSpec : ChangeSpec := { name := "fnExactNearestLook", fn := fun _ => fun
  | [d1, d2] => { results := [.lit (.bool true)], args := [d1, d2] }
  | _ => none }
def fnExactNearestLookRow : OpenClaim := { program := "ytlkpkenbfaiinaa", sum := "43a93abffb7c604235c0cbae732b6f937af42c63a24c8ed81caa642a37270d5f", func := "loop.example/g01390/laws.FnExactNearestLook", spec := "fnExactNearestLook", unfollowed := true, recurses := true, apart := false }
def FnExactNearestLookSaid : Prop := fnExactNearestLookRow.holds Try.pinned (OpenSpec.ofChange fnExactNearestLookSpec)

/-- ITS FALSE NEIGHBOUR: 'it returns false'. Refute it at one input. -/
def fnExactNearestLookWrong : ChangeSpec := { name := "fnExactNearestLook", fn := fun _ => fun
  | [d1, d2] => { results := [.lit (.bool false)], args := [d1, d2] }
  | _ => none }
def FnExactNearestLookWrongFalsely : Prop := fnExactNearestLookRow.holds Try.pinned (OpenSpec.ofChange fnExactNearestLookWrong)

/-- 'laws.FnExactSortByLooks': WHATEVER THE INPUT: true; the input reads as it did. -/
def fnExactSortByLooksSpec : ChangeSpec := { name := "fnExactSortByLooks", fn := fun _ => fun
  | [d1, d2] => { results := [.lit (.bool true)], args := [d1, d2] }
  | _ => none }
def fnExactSortByLooksRow : OpenClaim := { program := "ytlkpkenbfaiinaa", sum := "43a93abffb7c604235c0cbae732b6f937af42c63a24c8ed81caa642a37270d5f", func := "loop.example/g01390/laws.FnExactSortByLooks", spec := "fnExactSortByLooks", unfollowed := true, recurses := true, apart := false }
def FnExactSortByLooksSaid : Prop := fnExactSortByLooksRow.holds Try.pinned (OpenSpec.ofChange fnExactSortByLooksSpec)

/-- ITS FALSE NEIGHBOUR: 'it returns false'. Refute it at one input. -/
def fnExactSortByLooksWrong : ChangeSpec := { name := "fnExactSortByLooks", fn := fun _ => fun
  | [d1, d2] => { results := [.lit (.bool false)], args := [d1, d2] }
  | _ => none }
def FnExactSortByLooksWrongFalsely : Prop := fnExactSortByLooksRow.holds Try.pinned (OpenSpec.ofChange fnExactSortByLooksWrong)

/-- 'laws.FnExactMoveMarks': WHATEVER THE INPUT: true; the input reads as it did. -/
def fnExactMoveMarksSpec : ChangeSpec := { name := "fnExactMoveMarks", fn := fun _ => fun
  | [d1, d2] => { results := [.lit (.bool true)], args := [d1, d2] }
  | _ => none }
def fnExactMoveMarksRow : OpenClaim := { program := "ytlkpkenbfaiinaa", sum := "43a93abffb7c604235c0cbae732b6f937af42c63a24c8ed81caa642a37270d5f", func := "loop.example/g01390/laws.FnExactMoveMarks", spec := "fnExactMoveMarks", unfollowed := true, recurses := true, apart := false }
def FnExactMoveMarksSaid : Prop := fnExactMoveMarksRow.holds Try.pinned (OpenSpec.ofChange fnExactMoveMarksSpec)

/-- ITS FALSE NEIGHBOUR: 'it returns false'. Refute it at one input. -/
def fnExactMoveMarksWrong : ChangeSpec := { name := "fnExactMoveMarks", fn := fun _ => fun
  | [d1, d2] => { results := [.lit (.bool false)], args := [d1, d2] }
  | _ => none }
def FnExactMoveMarksWrongFalsely : Prop := fnExactMoveMarksRow.holds Try.pinned (OpenSpec.ofChange fnExactMoveMarksWrong)

/-- 'laws.FnExactPileSum': WHATEVER THE INPUT: true; the input reads as it did. -/
def fnExactPileSumSpec : ChangeSpec := { name := "fnExactPileSum", fn := fun _ => fun
  | [d] => { results := [.lit (.bool true)], args := [d] }
  | _ => none }
def fnExactPileSumRow : OpenClaim := { program := "ytlkpkenbfaiinaa", sum := "43a93abffb7c604235c0cbae732b6f937af42c63a24c8ed81caa642a37270d5f", func := "loop.example/g01390/laws.FnExactPileSum", spec := "fnExactPileSum", unfollowed := true, recurses := true, apart := false }
def FnExactPileSumSaid : Prop := fnExactPileSumRow.holds Try.pinned (OpenSpec.ofChange fnExactPileSumSpec)

/-- ITS FALSE NEIGHBOUR: 'it returns false'. Refute it at one input. -/
def fnExactPileSumWrong : ChangeSpec := { name := "fnExactPileSum", fn := fun _ => fun
  | [d] => { results := [.lit (.bool false)], args := [d] }
  | _ => none }
def FnExactPileSumWrongFalsely : Prop := fnExactPileSumRow.holds Try.pinned (OpenSpec.ofChange fnExactPileSumWrong)

/-- 'laws.FnExactReadScale': WHATEVER THE INPUT: true; the input reads as it did. -/
def fnExactReadScaleSpec : ChangeSpec := { name := "fnExactReadScale", fn := fun _ => fun
  | [d1, d2] => { results := [.lit (.bool true)], args := [d1, d2] }
  | _ => none }
def fnExactReadScaleRow : OpenClaim := { program := "ytlkpkenbfaiinaa", sum := "43a93abffb7c604235c0cbae732b6f937af42c63a24c8ed81caa642a37270d5f", func := "loop.example/g01390/laws.FnExactReadScale", spec := "fnExactReadScale", inPlace := ["math.archFloor", "math.Float64bits", "math.Float64frombits", "math.archTrunc"], apart := false }
def FnExactReadScaleSaid : Prop := fnExactReadScaleRow.holds Try.pinned (OpenSpec.ofChange fnExactReadScaleSpec)

/-- ITS FALSE NEIGHBOUR: 'it returns false'. Refute it at one input. -/
def fnExactReadScaleWrong : ChangeSpec := { name := "fnExactReadScale", fn := fun _ => fun
  | [d1, d2] => { results := [.lit (.bool false)], args := [d1, d2] }
  | _ => none }
def FnExactReadScaleWrongFalsely : Prop := fnExactReadScaleRow.holds Try.pinned (OpenSpec.ofChange fnExactReadScaleWrong)

/-- 'laws.FnExactErrorOf': WHATEVER THE INPUT: true; the input reads as it did. -/
def fnExactErrorOfSpec : ChangeSpec := { name := "fnExactErrorOf", fn := fun _ => fun
  | [d1, d2] => { results := [.lit (.bool true)], args := [d1, d2] }
  | _ => none }
def fnExactErrorOfRow : OpenClaim := { program := "ytlkpkenbfaiinaa", sum := "43a93abffb7c604235c0cbae732b6f937af42c63a24c8ed81caa642a37270d5f", func := "loop.example/g01390/laws.FnExactErrorOf", spec := "fnExactErrorOf", inPlace := ["math.archFloor", "math.Float64bits", "math.Float64frombits", "math.archTrunc"], apart := false }
def FnExactErrorOfSaid : Prop := fnExactErrorOfRow.holds Try.pinned (OpenSpec.ofChange fnExactErrorOfSpec)

/-- ITS FALSE NEIGHBOUR: 'it returns false'. Refute it at one input. -/
def fnExactErrorOfWrong : ChangeSpec := { name := "fnExactErrorOf", fn := fun _ => fun
  | [d1, d2] => { results := [.lit (.bool false)], args := [d1, d2] }
  | _ => none }
def FnExactErrorOfWrongFalsely : Prop := fnExactErrorOfRow.holds Try.pinned (OpenSpec.ofChange fnExactErrorOfWrong)

/-- 'laws.FnExactExcessOf': WHATEVER THE INPUT: true; the input reads as it did. -/
def fnExactExcessOfSpec : ChangeSpec := { name := "fnExactExcessOf", fn := fun _ => fun
  | [d1, d2, d3] => { results := [.lit (.bool true)], args := [d1, d2, d3] }
  | _ => none }
def fnExactExcessOfRow : OpenClaim := { program := "ytlkpkenbfaiinaa", sum := "43a93abffb7c604235c0cbae732b6f937af42c63a24c8ed81caa642a37270d5f", func := "loop.example/g01390/laws.FnExactExcessOf", spec := "fnExactExcessOf", unfollowed := true, recurses := true, apart := false }
def FnExactExcessOfSaid : Prop := fnExactExcessOfRow.holds Try.pinned (OpenSpec.ofChange fnExactExcessOfSpec)

/-- ITS FALSE NEIGHBOUR: 'it returns false'. Refute it at one input. -/
def fnExactExcessOfWrong : ChangeSpec := { name := "fnExactExcessOf", fn := fun _ => fun
  | [d1, d2, d3] => { results := [.lit (.bool false)], args := [d1, d2, d3] }
  | _ => none }
def FnExactExcessOfWrongFalsely : Prop := fnExactExcessOfRow.holds Try.pinned (OpenSpec.ofChange fnExactExcessOfWrong)

/-- 'laws.FnExactReadAll': WHATEVER THE INPUT: true; the input reads as it did. -/
def fnExactReadAllSpec : ChangeSpec := { name := "fnExactReadAll", fn := fun _ => fun
  | [d1, d2] => { results := [.lit (.bool true)], args := [d1, d2] }
  | _ => none }
def fnExactReadAllRow : OpenClaim := { program := "ytlkpkenbfaiinaa", sum := "43a93abffb7c604235c0cbae732b6f937af42c63a24c8ed81caa642a37270d5f", func := "loop.example/g01390/laws.FnExactReadAll", spec := "fnExactReadAll", inPlace := ["math.archFloor", "math.Float64bits", "math.Float64frombits", "math.archTrunc"], unfollowed := true, recurses := true, apart := false }
def FnExactReadAllSaid : Prop := fnExactReadAllRow.holds Try.pinned (OpenSpec.ofChange fnExactReadAllSpec)

/-- ITS FALSE NEIGHBOUR: 'it returns false'. Refute it at one input. -/
def fnExactReadAllWrong : ChangeSpec := { name := "fnExactReadAll", fn := fun _ => fun
  | [d1, d2] => { results := [.lit (.bool false)], args := [d1, d2] }
  | _ => none }
def FnExactReadAllWrongFalsely : Prop := fnExactReadAllRow.holds Try.pinned (OpenSpec.ofChange fnExactReadAllWrong)

/-- 'laws.FnExactSumBothWays': WHATEVER THE INPUT: true; the input reads as it did. -/
def fnExactSumBothWaysSpec : ChangeSpec := { name := "fnExactSumBothWays", fn := fun _ => fun
  | [d1, d2] => { results := [.lit (.bool true)], args := [d1, d2] }
  | _ => none }
def fnExactSumBothWaysRow : OpenClaim := { program := "ytlkpkenbfaiinaa", sum := "43a93abffb7c604235c0cbae732b6f937af42c63a24c8ed81caa642a37270d5f", func := "loop.example/g01390/laws.FnExactSumBothWays", spec := "fnExactSumBothWays", inPlace := ["math.archFloor", "math.Float64bits", "math.Float64frombits", "math.archTrunc"], unfollowed := true, recurses := true, apart := false }
def FnExactSumBothWaysSaid : Prop := fnExactSumBothWaysRow.holds Try.pinned (OpenSpec.ofChange fnExactSumBothWaysSpec)

/-- ITS FALSE NEIGHBOUR: 'it returns false'. Refute it at one input. -/
def fnExactSumBothWaysWrong : ChangeSpec := { name := "fnExactSumBothWays", fn := fun _ => fun
  | [d1, d2] => { results := [.lit (.bool false)], args := [d1, d2] }
  | _ => none }
def FnExactSumBothWaysWrongFalsely : Prop := fnExactSumBothWaysRow.holds Try.pinned (OpenSpec.ofChange fnExactSumBothWaysWrong)

/-- 'laws.FnExactQueueOf': WHATEVER THE INPUT: true; the input reads as it did. -/
def fnExactQueueOfSpec : ChangeSpec := { name := "fnExactQueueOf", fn := fun _ => fun
  | [d] => { results := [.lit (.bool true)], args := [d] }
  | _ => none }
def fnExactQueueOfRow : OpenClaim := { program := "ytlkpkenbfaiinaa", sum := "43a93abffb7c604235c0cbae732b6f937af42c63a24c8ed81caa642a37270d5f", func := "loop.example/g01390/laws.FnExactQueueOf", spec := "fnExactQueueOf", inPlace := ["math.Float32bits"], unfollowed := true, recurses := true, apart := false }
def FnExactQueueOfSaid : Prop := fnExactQueueOfRow.holds Try.pinned (OpenSpec.ofChange fnExactQueueOfSpec)

/-- ITS FALSE NEIGHBOUR: 'it returns false'. Refute it at one input. -/
def fnExactQueueOfWrong : ChangeSpec := { name := "fnExactQueueOf", fn := fun _ => fun
  | [d] => { results := [.lit (.bool false)], args := [d] }
  | _ => none }
def FnExactQueueOfWrongFalsely : Prop := fnExactQueueOfRow.holds Try.pinned (OpenSpec.ofChange fnExactQueueOfWrong)

/-- 'laws.FnExactFillGreedy': WHATEVER THE INPUT: true; the input reads as it did. -/
def fnExactFillGreedySpec : ChangeSpec := { name := "fnExactFillGreedy", fn := fun _ => fun
  | [d1, d2] => { results := [.lit (.bool true)], args := [d1, d2] }
  | _ => none }
def fnExactFillGreedyRow : OpenClaim := { program := "ytlkpkenbfaiinaa", sum := "43a93abffb7c604235c0cbae732b6f937af42c63a24c8ed81caa642a37270d5f", func := "loop.example/g01390/laws.FnExactFillGreedy", spec := "fnExactFillGreedy", unfollowed := true, recurses := true, apart := false }
def FnExactFillGreedySaid : Prop := fnExactFillGreedyRow.holds Try.pinned (OpenSpec.ofChange fnExactFillGreedySpec)

/-- ITS FALSE NEIGHBOUR: 'it returns false'. Refute it at one input. -/
def fnExactFillGreedyWrong : ChangeSpec := { name := "fnExactFillGreedy", fn := fun _ => fun
  | [d1, d2] => { results := [.lit (.bool false)], args := [d1, d2] }
  | _ => none }
def FnExactFillGreedyWrongFalsely : Prop := fnExactFillGreedyRow.holds Try.pinned (OpenSpec.ofChange fnExactFillGreedyWrong)

/- THE SECOND FORM. 'bulk': how many values and letters a reading holds, each counted each time it is reached (what is shared counts as often as it is met; a slice's spare places count too). A statement '..UptoSaid' is the law's where the arguments, and the package variables that the reading takes, are together of bulk at most 1048576: NARROWER than '..Said'. Prove '..Said' where nothing that the law and all that it calls make is longer than what came in: it says more and counts as full. Else prove '..UptoSaid'. A law counts once. -/
mutual
def uptoBulk {H : Type} : DataW H → Nat
  | .lit (.string bytes) => bytes.length + 1
  | .lit _ => 1
  | .nil => 1
  | .ptr d => uptoBulk d + 1
  | .slice elems spare => uptoBulkAll elems + uptoBulkAll spare + 1
  | .agg parts => uptoBulkAll parts + 1
  | .iface _ d => uptoBulk d + 1
  | .map entries => uptoBulkEntries entries + 1
  | .held _ => 1
def uptoBulkAll {H : Type} : List (DataW H) → Nat
  | [] => 0
  | d :: r => uptoBulk d + uptoBulkAll r
def uptoBulkEntries {H : Type} : List (Lit × DataW H) → Nat
  | [] => 0
  | x :: r => uptoBulkEntry x + uptoBulkEntries r
def uptoBulkEntry {H : Type} : Lit × DataW H → Nat
  | (.string bytes, d) => bytes.length + uptoBulk d + 1
  | (_, d) => uptoBulk d + 1
 end
def uptoSmall : (H : Type) → List (DataW H) → Bool := fun _ ds => decide (uptoBulkAll ds ≤ 1048576)
def OpenSpec.upto (s : _root_.Go.ChangeSpec) : _root_.Go.OpenSpec := { _root_.Go.OpenSpec.ofChange s with cond := some uptoSmall }

/-- 'laws.FnExactMayShare', WHERE WHAT IT READS IS OF BULK AT MOST 1048576: true; the input reads as it did. -/
def fnExactMayShareUptoRow : OpenClaim := { program := "ytlkpkenbfaiinaa", sum := "43a93abffb7c604235c0cbae732b6f937af42c63a24c8ed81caa642a37270d5f", func := "loop.example/g01390/laws.FnExactMayShare", spec := "fnExactMayShare", unfollowed := true, recurses := true, apart := false, narrowed := true }
def FnExactMayShareUptoSaid : Prop := fnExactMayShareUptoRow.holds Try.pinned (OpenSpec.upto fnExactMayShareSpec)

/-- 'laws.FnExactCheckHolds', WHERE WHAT IT READS IS OF BULK AT MOST 1048576: true; the input reads as it did. -/
def fnExactCheckHoldsUptoRow : OpenClaim := { program := "ytlkpkenbfaiinaa", sum := "43a93abffb7c604235c0cbae732b6f937af42c63a24c8ed81caa642a37270d5f", func := "loop.example/g01390/laws.FnExactCheckHolds", spec := "fnExactCheckHolds", unfollowed := true, recurses := true, apart := false, narrowed := true }
def FnExactCheckHoldsUptoSaid : Prop := fnExactCheckHoldsUptoRow.holds Try.pinned (OpenSpec.upto fnExactCheckHoldsSpec)

/-- 'laws.FnExactGreedyHolds', WHERE WHAT IT READS IS OF BULK AT MOST 1048576: true; the input reads as it did. -/
def fnExactGreedyHoldsUptoRow : OpenClaim := { program := "ytlkpkenbfaiinaa", sum := "43a93abffb7c604235c0cbae732b6f937af42c63a24c8ed81caa642a37270d5f", func := "loop.example/g01390/laws.FnExactGreedyHolds", spec := "fnExactGreedyHolds", unfollowed := true, recurses := true, apart := false, narrowed := true }
def FnExactGreedyHoldsUptoSaid : Prop := fnExactGreedyHoldsUptoRow.holds Try.pinned (OpenSpec.upto fnExactGreedyHoldsSpec)

/-- 'laws.FnExactMeanLook', WHERE WHAT IT READS IS OF BULK AT MOST 1048576: true; the input reads as it did. -/
def fnExactMeanLookUptoRow : OpenClaim := { program := "ytlkpkenbfaiinaa", sum := "43a93abffb7c604235c0cbae732b6f937af42c63a24c8ed81caa642a37270d5f", func := "loop.example/g01390/laws.FnExactMeanLook", spec := "fnExactMeanLook", unfollowed := true, recurses := true, apart := false, narrowed := true }
def FnExactMeanLookUptoSaid : Prop := fnExactMeanLookUptoRow.holds Try.pinned (OpenSpec.upto fnExactMeanLookSpec)

/-- 'laws.FnExactNearestLook', WHERE WHAT IT READS IS OF BULK AT MOST 1048576: true; the input reads as it did. -/
def fnExactNearestLookUptoRow : OpenClaim := { program := "ytlkpkenbfaiinaa", sum := "43a93abffb7c604235c0cbae732b6f937af42c63a24c8ed81caa642a37270d5f", func := "loop.example/g01390/laws.FnExactNearestLook", spec := "fnExactNearestLook", unfollowed := true, recurses := true, apart := false, narrowed := true }
def FnExactNearestLookUptoSaid : Prop := fnExactNearestLookUptoRow.holds Try.pinned (OpenSpec.upto fnExactNearestLookSpec)

/-- 'laws.FnExactSortByLooks', WHERE WHAT IT READS IS OF BULK AT MOST 1048576: true; the input reads as it did. -/
def fnExactSortByLooksUptoRow : OpenClaim := { program := "ytlkpkenbfaiinaa", sum := "43a93abffb7c604235c0cbae732b6f937af42c63a24c8ed81caa642a37270d5f", func := "loop.example/g01390/laws.FnExactSortByLooks", spec := "fnExactSortByLooks", unfollowed := true, recurses := true, apart := false, narrowed := true }
def FnExactSortByLooksUptoSaid : Prop := fnExactSortByLooksUptoRow.holds Try.pinned (OpenSpec.upto fnExactSortByLooksSpec)

/-- 'laws.FnExactMoveMarks', WHERE WHAT IT READS IS OF BULK AT MOST 1048576: true; the input reads as it did. -/
def fnExactMoveMarksUptoRow : OpenClaim := { program := "ytlkpkenbfaiinaa", sum := "43a93abffb7c604235c0cbae732b6f937af42c63a24c8ed81caa642a37270d5f", func := "loop.example/g01390/laws.FnExactMoveMarks", spec := "fnExactMoveMarks", unfollowed := true, recurses := true, apart := false, narrowed := true }
def FnExactMoveMarksUptoSaid : Prop := fnExactMoveMarksUptoRow.holds Try.pinned (OpenSpec.upto fnExactMoveMarksSpec)

/-- 'laws.FnExactPileSum', WHERE WHAT IT READS IS OF BULK AT MOST 1048576: true; the input reads as it did. -/
def fnExactPileSumUptoRow : OpenClaim := { program := "ytlkpkenbfaiinaa", sum := "43a93abffb7c604235c0cbae732b6f937af42c63a24c8ed81caa642a37270d5f", func := "loop.example/g01390/laws.FnExactPileSum", spec := "fnExactPileSum", unfollowed := true, recurses := true, apart := false, narrowed := true }
def FnExactPileSumUptoSaid : Prop := fnExactPileSumUptoRow.holds Try.pinned (OpenSpec.upto fnExactPileSumSpec)

/-- 'laws.FnExactReadScale', WHERE WHAT IT READS IS OF BULK AT MOST 1048576: true; the input reads as it did. -/
def fnExactReadScaleUptoRow : OpenClaim := { program := "ytlkpkenbfaiinaa", sum := "43a93abffb7c604235c0cbae732b6f937af42c63a24c8ed81caa642a37270d5f", func := "loop.example/g01390/laws.FnExactReadScale", spec := "fnExactReadScale", inPlace := ["math.archFloor", "math.Float64bits", "math.Float64frombits", "math.archTrunc"], apart := false, narrowed := true }
def FnExactReadScaleUptoSaid : Prop := fnExactReadScaleUptoRow.holds Try.pinned (OpenSpec.upto fnExactReadScaleSpec)

/-- 'laws.FnExactErrorOf', WHERE WHAT IT READS IS OF BULK AT MOST 1048576: true; the input reads as it did. -/
def fnExactErrorOfUptoRow : OpenClaim := { program := "ytlkpkenbfaiinaa", sum := "43a93abffb7c604235c0cbae732b6f937af42c63a24c8ed81caa642a37270d5f", func := "loop.example/g01390/laws.FnExactErrorOf", spec := "fnExactErrorOf", inPlace := ["math.archFloor", "math.Float64bits", "math.Float64frombits", "math.archTrunc"], apart := false, narrowed := true }
def FnExactErrorOfUptoSaid : Prop := fnExactErrorOfUptoRow.holds Try.pinned (OpenSpec.upto fnExactErrorOfSpec)

/-- 'laws.FnExactExcessOf', WHERE WHAT IT READS IS OF BULK AT MOST 1048576: true; the input reads as it did. -/
def fnExactExcessOfUptoRow : OpenClaim := { program := "ytlkpkenbfaiinaa", sum := "43a93abffb7c604235c0cbae732b6f937af42c63a24c8ed81caa642a37270d5f", func := "loop.example/g01390/laws.FnExactExcessOf", spec := "fnExactExcessOf", unfollowed := true, recurses := true, apart := false, narrowed := true }
def FnExactExcessOfUptoSaid : Prop := fnExactExcessOfUptoRow.holds Try.pinned (OpenSpec.upto fnExactExcessOfSpec)

/-- 'laws.FnExactReadAll', WHERE WHAT IT READS IS OF BULK AT MOST 1048576: true; the input reads as it did. -/
def fnExactReadAllUptoRow : OpenClaim := { program := "ytlkpkenbfaiinaa", sum := "43a93abffb7c604235c0cbae732b6f937af42c63a24c8ed81caa642a37270d5f", func := "loop.example/g01390/laws.FnExactReadAll", spec := "fnExactReadAll", inPlace := ["math.archFloor", "math.Float64bits", "math.Float64frombits", "math.archTrunc"], unfollowed := true, recurses := true, apart := false, narrowed := true }
def FnExactReadAllUptoSaid : Prop := fnExactReadAllUptoRow.holds Try.pinned (OpenSpec.upto fnExactReadAllSpec)

/-- 'laws.FnExactSumBothWays', WHERE WHAT IT READS IS OF BULK AT MOST 1048576: true; the input reads as it did. -/
def fnExactSumBothWaysUptoRow : OpenClaim := { program := "ytlkpkenbfaiinaa", sum := "43a93abffb7c604235c0cbae732b6f937af42c63a24c8ed81caa642a37270d5f", func := "loop.example/g01390/laws.FnExactSumBothWays", spec := "fnExactSumBothWays", inPlace := ["math.archFloor", "math.Float64bits", "math.Float64frombits", "math.archTrunc"], unfollowed := true, recurses := true, apart := false, narrowed := true }
def FnExactSumBothWaysUptoSaid : Prop := fnExactSumBothWaysUptoRow.holds Try.pinned (OpenSpec.upto fnExactSumBothWaysSpec)

/-- 'laws.FnExactQueueOf', WHERE WHAT IT READS IS OF BULK AT MOST 1048576: true; the input reads as it did. -/
def fnExactQueueOfUptoRow : OpenClaim := { program := "ytlkpkenbfaiinaa", sum := "43a93abffb7c604235c0cbae732b6f937af42c63a24c8ed81caa642a37270d5f", func := "loop.example/g01390/laws.FnExactQueueOf", spec := "fnExactQueueOf", inPlace := ["math.Float32bits"], unfollowed := true, recurses := true, apart := false, narrowed := true }
def FnExactQueueOfUptoSaid : Prop := fnExactQueueOfUptoRow.holds Try.pinned (OpenSpec.upto fnExactQueueOfSpec)

/-- 'laws.FnExactFillGreedy', WHERE WHAT IT READS IS OF BULK AT MOST 1048576: true; the input reads as it did. -/
def fnExactFillGreedyUptoRow : OpenClaim := { program := "ytlkpkenbfaiinaa", sum := "43a93abffb7c604235c0cbae732b6f937af42c63a24c8ed81caa642a37270d5f", func := "loop.example/g01390/laws.FnExactFillGreedy", spec := "fnExactFillGreedy", unfollowed := true, recurses := true, apart := false, narrowed := true }
def FnExactFillGreedyUptoSaid : Prop := fnExactFillGreedyUptoRow.holds Try.pinned (OpenSpec.upto fnExactFillGreedySpec)

end Rows
end Go.Proofs.Ytlkpkenbfaiinaa
