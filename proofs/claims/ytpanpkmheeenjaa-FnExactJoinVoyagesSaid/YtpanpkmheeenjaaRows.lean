/-
  No cell of these rows narrows 'for every input' (looked for: loops, veiled, ifaces, maps, wideKeys, modest, calm, conditions, laid).
  DERIVED. THE GIVEN ROWS OF THIS SEAT. 14 by the template 'for every input the law returns true; each argument reads behind the call as it read before'; 0 by the template 'total and deterministic' (their statements: YtpanpkmheeenjaaTotals.lean).
  GIVEN WITH THE SEED: the statements are not yours to turn. If you find one false, say at which input.
  Laid BY PROGRAM, IN A SANDBOX (cutbox-rows.mjs): the forced cells as the released guide's own fill.sh prints them over the translation 0cfaf46a1b134b46… (all of the seat's roots in one cut). By AI agents, Wed Nov 11 2026. No macro, syntax, notation, axiom, sorry.
-/
import Derived.Test.YtpanpkmheeenjaaChecked
import GoSem.Claim
import GoSem.ClaimJoined
import GoSem.ClaimMapViews
import Derived.JoinedTies
import Derived.KernelRfl
namespace Go.Proofs.Ytpanpkmheeenjaa
/- THE CELL 'sum', in the pinned program and in every row, IS THE sha256 OF THE DUMP (.gsa) THAT YtpanpkmheeenjaaProg.lean LOADS. Nothing in Lean hashes anything: it is a label: what it is worth is what the hold of that sum in a sandbox is worth. -/
noncomputable def Try.pinned : Pinned := { name := "ytpanpkmheeenjaa", sum := "0cfaf46a1b134b46c4b79224707b6db380879c3f377e245bccdb1fbf59da188e", checked := Try.checked }
namespace Rows
def none {H : Type} : Left H := { results := [], args := [] }

/-- 'laws.FnExactSameVoyage': WHATEVER THE INPUT: true; the input reads as it did. -/
def fnExactSameVoyageSpec : ChangeSpec := { name := "fnExactSameVoyage", fn := fun _ => fun
  | [d1, d2] => { results := [.lit (.bool true)], args := [d1, d2] }
  | _ => none }
def fnExactSameVoyageRow : OpenClaim := { program := "ytpanpkmheeenjaa", sum := "0cfaf46a1b134b46c4b79224707b6db380879c3f377e245bccdb1fbf59da188e", func := "loop.example/g01390/laws.FnExactSameVoyage", spec := "fnExactSameVoyage", inPlace := ["math.Float32bits"], unfollowed := true, recurses := true, apart := false }
def FnExactSameVoyageSaid : Prop := fnExactSameVoyageRow.holds Try.pinned (OpenSpec.ofChange fnExactSameVoyageSpec)

/-- ITS FALSE NEIGHBOUR: 'it returns false'. Refute it at one input. -/
def fnExactSameVoyageWrong : ChangeSpec := { name := "fnExactSameVoyage", fn := fun _ => fun
  | [d1, d2] => { results := [.lit (.bool false)], args := [d1, d2] }
  | _ => none }
def FnExactSameVoyageWrongFalsely : Prop := fnExactSameVoyageRow.holds Try.pinned (OpenSpec.ofChange fnExactSameVoyageWrong)

/-- 'laws.FnExactValidVoyage': WHATEVER THE INPUT: true; the input reads as it did. -/
def fnExactValidVoyageSpec : ChangeSpec := { name := "fnExactValidVoyage", fn := fun _ => fun
  | [d] => { results := [.lit (.bool true)], args := [d] }
  | _ => none }
def fnExactValidVoyageRow : OpenClaim := { program := "ytpanpkmheeenjaa", sum := "0cfaf46a1b134b46c4b79224707b6db380879c3f377e245bccdb1fbf59da188e", func := "loop.example/g01390/laws.FnExactValidVoyage", spec := "fnExactValidVoyage", inPlace := ["math.Float32bits"], unfollowed := true, recurses := true, apart := false }
def FnExactValidVoyageSaid : Prop := fnExactValidVoyageRow.holds Try.pinned (OpenSpec.ofChange fnExactValidVoyageSpec)

/-- ITS FALSE NEIGHBOUR: 'it returns false'. Refute it at one input. -/
def fnExactValidVoyageWrong : ChangeSpec := { name := "fnExactValidVoyage", fn := fun _ => fun
  | [d] => { results := [.lit (.bool false)], args := [d] }
  | _ => none }
def FnExactValidVoyageWrongFalsely : Prop := fnExactValidVoyageRow.holds Try.pinned (OpenSpec.ofChange fnExactValidVoyageWrong)

/-- 'laws.FnExactInsideOn': WHATEVER THE INPUT: true; the input reads as it did. -/
def fnExactInsideOnSpec : ChangeSpec := { name := "fnExactInsideOn", fn := fun _ => fun
  | [d1, d2, d3] => { results := [.lit (.bool true)], args := [d1, d2, d3] }
  | _ => none }
def fnExactInsideOnRow : OpenClaim := { program := "ytpanpkmheeenjaa", sum := "0cfaf46a1b134b46c4b79224707b6db380879c3f377e245bccdb1fbf59da188e", func := "loop.example/g01390/laws.FnExactInsideOn", spec := "fnExactInsideOn", inPlace := ["math.Float32bits"], unfollowed := true, recurses := true, apart := false }
def FnExactInsideOnSaid : Prop := fnExactInsideOnRow.holds Try.pinned (OpenSpec.ofChange fnExactInsideOnSpec)

/-- ITS FALSE NEIGHBOUR: 'it returns false'. Refute it at one input. -/
def fnExactInsideOnWrong : ChangeSpec := { name := "fnExactInsideOn", fn := fun _ => fun
  | [d1, d2, d3] => { results := [.lit (.bool false)], args := [d1, d2, d3] }
  | _ => none }
def FnExactInsideOnWrongFalsely : Prop := fnExactInsideOnRow.holds Try.pinned (OpenSpec.ofChange fnExactInsideOnWrong)

/-- 'laws.FnExactWarmestDay': WHATEVER THE INPUT: true; the input reads as it did. -/
def fnExactWarmestDaySpec : ChangeSpec := { name := "fnExactWarmestDay", fn := fun _ => fun
  | [d] => { results := [.lit (.bool true)], args := [d] }
  | _ => none }
def fnExactWarmestDayRow : OpenClaim := { program := "ytpanpkmheeenjaa", sum := "0cfaf46a1b134b46c4b79224707b6db380879c3f377e245bccdb1fbf59da188e", func := "loop.example/g01390/laws.FnExactWarmestDay", spec := "fnExactWarmestDay", inPlace := ["math.Float32bits"], unfollowed := true, recurses := true, apart := false }
def FnExactWarmestDaySaid : Prop := fnExactWarmestDayRow.holds Try.pinned (OpenSpec.ofChange fnExactWarmestDaySpec)

/-- ITS FALSE NEIGHBOUR: 'it returns false'. Refute it at one input. -/
def fnExactWarmestDayWrong : ChangeSpec := { name := "fnExactWarmestDay", fn := fun _ => fun
  | [d] => { results := [.lit (.bool false)], args := [d] }
  | _ => none }
def FnExactWarmestDayWrongFalsely : Prop := fnExactWarmestDayRow.holds Try.pinned (OpenSpec.ofChange fnExactWarmestDayWrong)

/-- 'laws.FnExactReadyBy': WHATEVER THE INPUT: true; the input reads as it did. -/
def fnExactReadyBySpec : ChangeSpec := { name := "fnExactReadyBy", fn := fun _ => fun
  | [d1, d2, d3, d4, d5] => { results := [.lit (.bool true)], args := [d1, d2, d3, d4, d5] }
  | _ => none }
def fnExactReadyByRow : OpenClaim := { program := "ytpanpkmheeenjaa", sum := "0cfaf46a1b134b46c4b79224707b6db380879c3f377e245bccdb1fbf59da188e", func := "loop.example/g01390/laws.FnExactReadyBy", spec := "fnExactReadyBy", inPlace := ["math.Float32bits"], unfollowed := true, recurses := true, apart := false }
def FnExactReadyBySaid : Prop := fnExactReadyByRow.holds Try.pinned (OpenSpec.ofChange fnExactReadyBySpec)

/-- ITS FALSE NEIGHBOUR: 'it returns false'. Refute it at one input. -/
def fnExactReadyByWrong : ChangeSpec := { name := "fnExactReadyBy", fn := fun _ => fun
  | [d1, d2, d3, d4, d5] => { results := [.lit (.bool false)], args := [d1, d2, d3, d4, d5] }
  | _ => none }
def FnExactReadyByWrongFalsely : Prop := fnExactReadyByRow.holds Try.pinned (OpenSpec.ofChange fnExactReadyByWrong)

/-- 'laws.FnExactRipeAtEnd': WHATEVER THE INPUT: true; the input reads as it did. -/
def fnExactRipeAtEndSpec : ChangeSpec := { name := "fnExactRipeAtEnd", fn := fun _ => fun
  | [d1, d2, d3, d4] => { results := [.lit (.bool true)], args := [d1, d2, d3, d4] }
  | _ => none }
def fnExactRipeAtEndRow : OpenClaim := { program := "ytpanpkmheeenjaa", sum := "0cfaf46a1b134b46c4b79224707b6db380879c3f377e245bccdb1fbf59da188e", func := "loop.example/g01390/laws.FnExactRipeAtEnd", spec := "fnExactRipeAtEnd", inPlace := ["math.Float32bits"], unfollowed := true, recurses := true, apart := false }
def FnExactRipeAtEndSaid : Prop := fnExactRipeAtEndRow.holds Try.pinned (OpenSpec.ofChange fnExactRipeAtEndSpec)

/-- ITS FALSE NEIGHBOUR: 'it returns false'. Refute it at one input. -/
def fnExactRipeAtEndWrong : ChangeSpec := { name := "fnExactRipeAtEnd", fn := fun _ => fun
  | [d1, d2, d3, d4] => { results := [.lit (.bool false)], args := [d1, d2, d3, d4] }
  | _ => none }
def FnExactRipeAtEndWrongFalsely : Prop := fnExactRipeAtEndRow.holds Try.pinned (OpenSpec.ofChange fnExactRipeAtEndWrong)

/-- 'laws.FnExactLoadFrom': WHATEVER THE INPUT: true; the input reads as it did. -/
def fnExactLoadFromSpec : ChangeSpec := { name := "fnExactLoadFrom", fn := fun _ => fun
  | [d1, d2, d3, d4, d5] => { results := [.lit (.bool true)], args := [d1, d2, d3, d4, d5] }
  | _ => none }
def fnExactLoadFromRow : OpenClaim := { program := "ytpanpkmheeenjaa", sum := "0cfaf46a1b134b46c4b79224707b6db380879c3f377e245bccdb1fbf59da188e", func := "loop.example/g01390/laws.FnExactLoadFrom", spec := "fnExactLoadFrom", inPlace := ["math.Float32bits"], unfollowed := true, recurses := true, apart := false }
def FnExactLoadFromSaid : Prop := fnExactLoadFromRow.holds Try.pinned (OpenSpec.ofChange fnExactLoadFromSpec)

/-- ITS FALSE NEIGHBOUR: 'it returns false'. Refute it at one input. -/
def fnExactLoadFromWrong : ChangeSpec := { name := "fnExactLoadFrom", fn := fun _ => fun
  | [d1, d2, d3, d4, d5] => { results := [.lit (.bool false)], args := [d1, d2, d3, d4, d5] }
  | _ => none }
def FnExactLoadFromWrongFalsely : Prop := fnExactLoadFromRow.holds Try.pinned (OpenSpec.ofChange fnExactLoadFromWrong)

/-- 'laws.FnExactJoinVoyages': WHATEVER THE INPUT: true; the input reads as it did. -/
def fnExactJoinVoyagesSpec : ChangeSpec := { name := "fnExactJoinVoyages", fn := fun _ => fun
  | [d1, d2] => { results := [.lit (.bool true)], args := [d1, d2] }
  | _ => none }
def fnExactJoinVoyagesRow : OpenClaim := { program := "ytpanpkmheeenjaa", sum := "0cfaf46a1b134b46c4b79224707b6db380879c3f377e245bccdb1fbf59da188e", func := "loop.example/g01390/laws.FnExactJoinVoyages", spec := "fnExactJoinVoyages", inPlace := ["math.Float32bits"], unfollowed := true, recurses := true, apart := false }
def FnExactJoinVoyagesSaid : Prop := fnExactJoinVoyagesRow.holds Try.pinned (OpenSpec.ofChange fnExactJoinVoyagesSpec)

/-- ITS FALSE NEIGHBOUR: 'it returns false'. Refute it at one input. -/
def fnExactJoinVoyagesWrong : ChangeSpec := { name := "fnExactJoinVoyages", fn := fun _ => fun
  | [d1, d2] => { results := [.lit (.bool false)], args := [d1, d2] }
  | _ => none }
def FnExactJoinVoyagesWrongFalsely : Prop := fnExactJoinVoyagesRow.holds Try.pinned (OpenSpec.ofChange fnExactJoinVoyagesWrong)

/-- 'laws.FnExactCourseOf': WHATEVER THE INPUT: true; the input reads as it did. -/
def fnExactCourseOfSpec : ChangeSpec := { name := "fnExactCourseOf", fn := fun _ => fun
  | [d1, d2, d3, d4] => { results := [.lit (.bool true)], args := [d1, d2, d3, d4] }
  | _ => none }
def fnExactCourseOfRow : OpenClaim := { program := "ytpanpkmheeenjaa", sum := "0cfaf46a1b134b46c4b79224707b6db380879c3f377e245bccdb1fbf59da188e", func := "loop.example/g01390/laws.FnExactCourseOf", spec := "fnExactCourseOf", inPlace := ["math.Float32bits"], unfollowed := true, recurses := true, apart := false }
def FnExactCourseOfSaid : Prop := fnExactCourseOfRow.holds Try.pinned (OpenSpec.ofChange fnExactCourseOfSpec)

/-- ITS FALSE NEIGHBOUR: 'it returns false'. Refute it at one input. -/
def fnExactCourseOfWrong : ChangeSpec := { name := "fnExactCourseOf", fn := fun _ => fun
  | [d1, d2, d3, d4] => { results := [.lit (.bool false)], args := [d1, d2, d3, d4] }
  | _ => none }
def FnExactCourseOfWrongFalsely : Prop := fnExactCourseOfRow.holds Try.pinned (OpenSpec.ofChange fnExactCourseOfWrong)

/-- 'laws.FnExactCoolFor': WHATEVER THE INPUT: true; the input reads as it did. -/
def fnExactCoolForSpec : ChangeSpec := { name := "fnExactCoolFor", fn := fun _ => fun
  | [d1, d2, d3, d4] => { results := [.lit (.bool true)], args := [d1, d2, d3, d4] }
  | _ => none }
def fnExactCoolForRow : OpenClaim := { program := "ytpanpkmheeenjaa", sum := "0cfaf46a1b134b46c4b79224707b6db380879c3f377e245bccdb1fbf59da188e", func := "loop.example/g01390/laws.FnExactCoolFor", spec := "fnExactCoolFor", inPlace := ["math.Float32bits"], unfollowed := true, recurses := true, apart := false }
def FnExactCoolForSaid : Prop := fnExactCoolForRow.holds Try.pinned (OpenSpec.ofChange fnExactCoolForSpec)

/-- ITS FALSE NEIGHBOUR: 'it returns false'. Refute it at one input. -/
def fnExactCoolForWrong : ChangeSpec := { name := "fnExactCoolFor", fn := fun _ => fun
  | [d1, d2, d3, d4] => { results := [.lit (.bool false)], args := [d1, d2, d3, d4] }
  | _ => none }
def FnExactCoolForWrongFalsely : Prop := fnExactCoolForRow.holds Try.pinned (OpenSpec.ofChange fnExactCoolForWrong)

/-- 'laws.FnExactGasFor': WHATEVER THE INPUT: true; the input reads as it did. -/
def fnExactGasForSpec : ChangeSpec := { name := "fnExactGasFor", fn := fun _ => fun
  | [d1, d2, d3, d4] => { results := [.lit (.bool true)], args := [d1, d2, d3, d4] }
  | _ => none }
def fnExactGasForRow : OpenClaim := { program := "ytpanpkmheeenjaa", sum := "0cfaf46a1b134b46c4b79224707b6db380879c3f377e245bccdb1fbf59da188e", func := "loop.example/g01390/laws.FnExactGasFor", spec := "fnExactGasFor", inPlace := ["math.Float32bits"], unfollowed := true, recurses := true, apart := false }
def FnExactGasForSaid : Prop := fnExactGasForRow.holds Try.pinned (OpenSpec.ofChange fnExactGasForSpec)

/-- ITS FALSE NEIGHBOUR: 'it returns false'. Refute it at one input. -/
def fnExactGasForWrong : ChangeSpec := { name := "fnExactGasFor", fn := fun _ => fun
  | [d1, d2, d3, d4] => { results := [.lit (.bool false)], args := [d1, d2, d3, d4] }
  | _ => none }
def FnExactGasForWrongFalsely : Prop := fnExactGasForRow.holds Try.pinned (OpenSpec.ofChange fnExactGasForWrong)

/-- 'laws.FnExactArriveAll': WHATEVER THE INPUT: true; the input reads as it did. -/
def fnExactArriveAllSpec : ChangeSpec := { name := "fnExactArriveAll", fn := fun _ => fun
  | [d1, d2, d3, d4] => { results := [.lit (.bool true)], args := [d1, d2, d3, d4] }
  | _ => none }
def fnExactArriveAllRow : OpenClaim := { program := "ytpanpkmheeenjaa", sum := "0cfaf46a1b134b46c4b79224707b6db380879c3f377e245bccdb1fbf59da188e", func := "loop.example/g01390/laws.FnExactArriveAll", spec := "fnExactArriveAll", inPlace := ["math.Float32bits"], unfollowed := true, recurses := true, apart := false }
def FnExactArriveAllSaid : Prop := fnExactArriveAllRow.holds Try.pinned (OpenSpec.ofChange fnExactArriveAllSpec)

/-- ITS FALSE NEIGHBOUR: 'it returns false'. Refute it at one input. -/
def fnExactArriveAllWrong : ChangeSpec := { name := "fnExactArriveAll", fn := fun _ => fun
  | [d1, d2, d3, d4] => { results := [.lit (.bool false)], args := [d1, d2, d3, d4] }
  | _ => none }
def FnExactArriveAllWrongFalsely : Prop := fnExactArriveAllRow.holds Try.pinned (OpenSpec.ofChange fnExactArriveAllWrong)

/-- 'laws.FnExactEarlyAndLate': WHATEVER THE INPUT: true; the input reads as it did. -/
def fnExactEarlyAndLateSpec : ChangeSpec := { name := "fnExactEarlyAndLate", fn := fun _ => fun
  | [d1, d2, d3, d4, d5, d6] => { results := [.lit (.bool true)], args := [d1, d2, d3, d4, d5, d6] }
  | _ => none }
def fnExactEarlyAndLateRow : OpenClaim := { program := "ytpanpkmheeenjaa", sum := "0cfaf46a1b134b46c4b79224707b6db380879c3f377e245bccdb1fbf59da188e", func := "loop.example/g01390/laws.FnExactEarlyAndLate", spec := "fnExactEarlyAndLate", inPlace := ["math.Float32bits"], unfollowed := true, recurses := true, apart := false }
def FnExactEarlyAndLateSaid : Prop := fnExactEarlyAndLateRow.holds Try.pinned (OpenSpec.ofChange fnExactEarlyAndLateSpec)

/-- ITS FALSE NEIGHBOUR: 'it returns false'. Refute it at one input. -/
def fnExactEarlyAndLateWrong : ChangeSpec := { name := "fnExactEarlyAndLate", fn := fun _ => fun
  | [d1, d2, d3, d4, d5, d6] => { results := [.lit (.bool false)], args := [d1, d2, d3, d4, d5, d6] }
  | _ => none }
def FnExactEarlyAndLateWrongFalsely : Prop := fnExactEarlyAndLateRow.holds Try.pinned (OpenSpec.ofChange fnExactEarlyAndLateWrong)

/-- 'laws.FnExactBestCool': WHATEVER THE INPUT: true; the input reads as it did. -/
def fnExactBestCoolSpec : ChangeSpec := { name := "fnExactBestCool", fn := fun _ => fun
  | [d1, d2, d3, d4, d5, d6] => { results := [.lit (.bool true)], args := [d1, d2, d3, d4, d5, d6] }
  | _ => none }
def fnExactBestCoolRow : OpenClaim := { program := "ytpanpkmheeenjaa", sum := "0cfaf46a1b134b46c4b79224707b6db380879c3f377e245bccdb1fbf59da188e", func := "loop.example/g01390/laws.FnExactBestCool", spec := "fnExactBestCool", inPlace := ["math.Float32bits"], unfollowed := true, recurses := true, apart := false }
def FnExactBestCoolSaid : Prop := fnExactBestCoolRow.holds Try.pinned (OpenSpec.ofChange fnExactBestCoolSpec)

/-- ITS FALSE NEIGHBOUR: 'it returns false'. Refute it at one input. -/
def fnExactBestCoolWrong : ChangeSpec := { name := "fnExactBestCool", fn := fun _ => fun
  | [d1, d2, d3, d4, d5, d6] => { results := [.lit (.bool false)], args := [d1, d2, d3, d4, d5, d6] }
  | _ => none }
def FnExactBestCoolWrongFalsely : Prop := fnExactBestCoolRow.holds Try.pinned (OpenSpec.ofChange fnExactBestCoolWrong)

/- THE SECOND FORM. 'bulk': how many values and letters a reading holds, each counted each time it is reached (what is shared counts as often as it is met; a slice's spare places count too). A statement '..UptoSaid' is the law's where the arguments, and the package variables that the reading takes, are together of bulk at most 1048576: NARROWER than '..Said'. Prove '..Said' where nothing that the law and all that it calls make is longer than what came in: it says more and counts as full. Else prove '..UptoSaid'. A law counts once. -/
mutual
def uptoBulk {H : Type} : DataW H → Nat
  | .lit (.string bytes) => bytes.length + 1
  | .lit _ => 1
  | .nil => 1
  | .ptr d => uptoBulk d + 1
  | .slice elems spare => uptoBulkAll elems + uptoBulkAll spare + 1
  | .agg parts => uptoBulkAll parts + 1
  | .iface _ d => uptoBulk d + 1
  | .map entries => uptoBulkEntries entries + 1
  | .held _ => 1
def uptoBulkAll {H : Type} : List (DataW H) → Nat
  | [] => 0
  | d :: r => uptoBulk d + uptoBulkAll r
def uptoBulkEntries {H : Type} : List (Lit × DataW H) → Nat
  | [] => 0
  | x :: r => uptoBulkEntry x + uptoBulkEntries r
def uptoBulkEntry {H : Type} : Lit × DataW H → Nat
  | (.string bytes, d) => bytes.length + uptoBulk d + 1
  | (_, d) => uptoBulk d + 1
 end
def uptoSmall : (H : Type) → List (DataW H) → Bool := fun _ ds => decide (uptoBulkAll ds ≤ 1048576)
def OpenSpec.upto (s : _root_.Go.ChangeSpec) : _root_.Go.OpenSpec := { _root_.Go.OpenSpec.ofChange s with cond := some uptoSmall }

/-- 'laws.FnExactSameVoyage', WHERE WHAT IT READS IS OF BULK AT MOST 1048576: true; the input reads as it did. -/
def fnExactSameVoyageUptoRow : OpenClaim := { program := "ytpanpkmheeenjaa", sum := "0cfaf46a1b134b46c4b79224707b6db380879c3f377e245bccdb1fbf59da188e", func := "loop.example/g01390/laws.FnExactSameVoyage", spec := "fnExactSameVoyage", inPlace := ["math.Float32bits"], unfollowed := true, recurses := true, apart := false, narrowed := true }
def FnExactSameVoyageUptoSaid : Prop := fnExactSameVoyageUptoRow.holds Try.pinned (OpenSpec.upto fnExactSameVoyageSpec)

/-- 'laws.FnExactValidVoyage', WHERE WHAT IT READS IS OF BULK AT MOST 1048576: true; the input reads as it did. -/
def fnExactValidVoyageUptoRow : OpenClaim := { program := "ytpanpkmheeenjaa", sum := "0cfaf46a1b134b46c4b79224707b6db380879c3f377e245bccdb1fbf59da188e", func := "loop.example/g01390/laws.FnExactValidVoyage", spec := "fnExactValidVoyage", inPlace := ["math.Float32bits"], unfollowed := true, recurses := true, apart := false, narrowed := true }
def FnExactValidVoyageUptoSaid : Prop := fnExactValidVoyageUptoRow.holds Try.pinned (OpenSpec.upto fnExactValidVoyageSpec)

/-- 'laws.FnExactInsideOn', WHERE WHAT IT READS IS OF BULK AT MOST 1048576: true; the input reads as it did. -/
def fnExactInsideOnUptoRow : OpenClaim := { program := "ytpanpkmheeenjaa", sum := "0cfaf46a1b134b46c4b79224707b6db380879c3f377e245bccdb1fbf59da188e", func := "loop.example/g01390/laws.FnExactInsideOn", spec := "fnExactInsideOn", inPlace := ["math.Float32bits"], unfollowed := true, recurses := true, apart := false, narrowed := true }
def FnExactInsideOnUptoSaid : Prop := fnExactInsideOnUptoRow.holds Try.pinned (OpenSpec.upto fnExactInsideOnSpec)

/-- 'laws.FnExactWarmestDay', WHERE WHAT IT READS IS OF BULK AT MOST 1048576: true; the input reads as it did. -/
def fnExactWarmestDayUptoRow : OpenClaim := { program := "ytpanpkmheeenjaa", sum := "0cfaf46a1b134b46c4b79224707b6db380879c3f377e245bccdb1fbf59da188e", func := "loop.example/g01390/laws.FnExactWarmestDay", spec := "fnExactWarmestDay", inPlace := ["math.Float32bits"], unfollowed := true, recurses := true, apart := false, narrowed := true }
def FnExactWarmestDayUptoSaid : Prop := fnExactWarmestDayUptoRow.holds Try.pinned (OpenSpec.upto fnExactWarmestDaySpec)

/-- 'laws.FnExactReadyBy', WHERE WHAT IT READS IS OF BULK AT MOST 1048576: true; the input reads as it did. -/
def fnExactReadyByUptoRow : OpenClaim := { program := "ytpanpkmheeenjaa", sum := "0cfaf46a1b134b46c4b79224707b6db380879c3f377e245bccdb1fbf59da188e", func := "loop.example/g01390/laws.FnExactReadyBy", spec := "fnExactReadyBy", inPlace := ["math.Float32bits"], unfollowed := true, recurses := true, apart := false, narrowed := true }
def FnExactReadyByUptoSaid : Prop := fnExactReadyByUptoRow.holds Try.pinned (OpenSpec.upto fnExactReadyBySpec)

/-- 'laws.FnExactRipeAtEnd', WHERE WHAT IT READS IS OF BULK AT MOST 1048576: true; the input reads as it did. -/
def fnExactRipeAtEndUptoRow : OpenClaim := { program := "ytpanpkmheeenjaa", sum := "0cfaf46a1b134b46c4b79224707b6db380879c3f377e245bccdb1fbf59da188e", func := "loop.example/g01390/laws.FnExactRipeAtEnd", spec := "fnExactRipeAtEnd", inPlace := ["math.Float32bits"], unfollowed := true, recurses := true, apart := false, narrowed := true }
def FnExactRipeAtEndUptoSaid : Prop := fnExactRipeAtEndUptoRow.holds Try.pinned (OpenSpec.upto fnExactRipeAtEndSpec)

/-- 'laws.FnExactLoadFrom', WHERE WHAT IT READS IS OF BULK AT MOST 1048576: true; the input reads as it did. -/
def fnExactLoadFromUptoRow : OpenClaim := { program := "ytpanpkmheeenjaa", sum := "0cfaf46a1b134b46c4b79224707b6db380879c3f377e245bccdb1fbf59da188e", func := "loop.example/g01390/laws.FnExactLoadFrom", spec := "fnExactLoadFrom", inPlace := ["math.Float32bits"], unfollowed := true, recurses := true, apart := false, narrowed := true }
def FnExactLoadFromUptoSaid : Prop := fnExactLoadFromUptoRow.holds Try.pinned (OpenSpec.upto fnExactLoadFromSpec)

/-- 'laws.FnExactJoinVoyages', WHERE WHAT IT READS IS OF BULK AT MOST 1048576: true; the input reads as it did. -/
def fnExactJoinVoyagesUptoRow : OpenClaim := { program := "ytpanpkmheeenjaa", sum := "0cfaf46a1b134b46c4b79224707b6db380879c3f377e245bccdb1fbf59da188e", func := "loop.example/g01390/laws.FnExactJoinVoyages", spec := "fnExactJoinVoyages", inPlace := ["math.Float32bits"], unfollowed := true, recurses := true, apart := false, narrowed := true }
def FnExactJoinVoyagesUptoSaid : Prop := fnExactJoinVoyagesUptoRow.holds Try.pinned (OpenSpec.upto fnExactJoinVoyagesSpec)

/-- 'laws.FnExactCourseOf', WHERE WHAT IT READS IS OF BULK AT MOST 1048576: true; the input reads as it did. -/
def fnExactCourseOfUptoRow : OpenClaim := { program := "ytpanpkmheeenjaa", sum := "0cfaf46a1b134b46c4b79224707b6db380879c3f377e245bccdb1fbf59da188e", func := "loop.example/g01390/laws.FnExactCourseOf", spec := "fnExactCourseOf", inPlace := ["math.Float32bits"], unfollowed := true, recurses := true, apart := false, narrowed := true }
def FnExactCourseOfUptoSaid : Prop := fnExactCourseOfUptoRow.holds Try.pinned (OpenSpec.upto fnExactCourseOfSpec)

/-- 'laws.FnExactCoolFor', WHERE WHAT IT READS IS OF BULK AT MOST 1048576: true; the input reads as it did. -/
def fnExactCoolForUptoRow : OpenClaim := { program := "ytpanpkmheeenjaa", sum := "0cfaf46a1b134b46c4b79224707b6db380879c3f377e245bccdb1fbf59da188e", func := "loop.example/g01390/laws.FnExactCoolFor", spec := "fnExactCoolFor", inPlace := ["math.Float32bits"], unfollowed := true, recurses := true, apart := false, narrowed := true }
def FnExactCoolForUptoSaid : Prop := fnExactCoolForUptoRow.holds Try.pinned (OpenSpec.upto fnExactCoolForSpec)

/-- 'laws.FnExactGasFor', WHERE WHAT IT READS IS OF BULK AT MOST 1048576: true; the input reads as it did. -/
def fnExactGasForUptoRow : OpenClaim := { program := "ytpanpkmheeenjaa", sum := "0cfaf46a1b134b46c4b79224707b6db380879c3f377e245bccdb1fbf59da188e", func := "loop.example/g01390/laws.FnExactGasFor", spec := "fnExactGasFor", inPlace := ["math.Float32bits"], unfollowed := true, recurses := true, apart := false, narrowed := true }
def FnExactGasForUptoSaid : Prop := fnExactGasForUptoRow.holds Try.pinned (OpenSpec.upto fnExactGasForSpec)

/-- 'laws.FnExactArriveAll', WHERE WHAT IT READS IS OF BULK AT MOST 1048576: true; the input reads as it did. -/
def fnExactArriveAllUptoRow : OpenClaim := { program := "ytpanpkmheeenjaa", sum := "0cfaf46a1b134b46c4b79224707b6db380879c3f377e245bccdb1fbf59da188e", func := "loop.example/g01390/laws.FnExactArriveAll", spec := "fnExactArriveAll", inPlace := ["math.Float32bits"], unfollowed := true, recurses := true, apart := false, narrowed := true }
def FnExactArriveAllUptoSaid : Prop := fnExactArriveAllUptoRow.holds Try.pinned (OpenSpec.upto fnExactArriveAllSpec)

/-- 'laws.FnExactEarlyAndLate', WHERE WHAT IT READS IS OF BULK AT MOST 1048576: true; the input reads as it did. -/
def fnExactEarlyAndLateUptoRow : OpenClaim := { program := "ytpanpkmheeenjaa", sum := "0cfaf46a1b134b46c4b79224707b6db380879c3f377e245bccdb1fbf59da188e", func := "loop.example/g01390/laws.FnExactEarlyAndLate", spec := "fnExactEarlyAndLate", inPlace := ["math.Float32bits"], unfollowed := true, recurses := true, apart := false, narrowed := true }
def FnExactEarlyAndLateUptoSaid : Prop := fnExactEarlyAndLateUptoRow.holds Try.pinned (OpenSpec.upto fnExactEarlyAndLateSpec)

/-- 'laws.FnExactBestCool', WHERE WHAT IT READS IS OF BULK AT MOST 1048576: true; the input reads as it did. -/
def fnExactBestCoolUptoRow : OpenClaim := { program := "ytpanpkmheeenjaa", sum := "0cfaf46a1b134b46c4b79224707b6db380879c3f377e245bccdb1fbf59da188e", func := "loop.example/g01390/laws.FnExactBestCool", spec := "fnExactBestCool", inPlace := ["math.Float32bits"], unfollowed := true, recurses := true, apart := false, narrowed := true }
def FnExactBestCoolUptoSaid : Prop := fnExactBestCoolUptoRow.holds Try.pinned (OpenSpec.upto fnExactBestCoolSpec)

end Rows
end Go.Proofs.Ytpanpkmheeenjaa
