/-
  No cell of these rows narrows 'for every input' (looked for: loops, veiled, ifaces, maps, wideKeys, modest, calm, conditions, laid).
  DERIVED. THE GIVEN ROWS OF THIS SEAT. 6 by the template 'for every input the law returns true; each argument reads behind the call as it read before'; 0 by the template 'total and deterministic' (their statements: YtahmalmekclpeaaTotals.lean).
  GIVEN WITH THE SEED: the statements are not yours to turn. If you find one false, say at which input.
  Laid BY PROGRAM, IN A SANDBOX (cutbox-rows.mjs): the forced cells as the released guide's own fill.sh prints them over the translation 962f64d9ec092b24… (all of the seat's roots in one cut). By AI agents, Wed Nov 11 2026. No macro, syntax, notation, axiom, sorry.
-/
import Derived.Test.YtahmalmekclpeaaChecked
import GoSem.Claim
import GoSem.ClaimJoined
import GoSem.ClaimMapViews
import Derived.JoinedTies
import Derived.KernelRfl
namespace Go.Proofs.Ytahmalmekclpeaa
/- THE CELL 'sum', in the pinned program and in every row, IS THE sha256 OF THE DUMP (.gsa) THAT YtahmalmekclpeaaProg.lean LOADS. Nothing in Lean hashes anything: it is a label: what it is worth is what the hold of that sum in a sandbox is worth. -/
noncomputable def Try.pinned : Pinned := { name := "ytahmalmekclpeaa", sum := "962f64d9ec092b24b59f9d1cf6cc14e00e49751a821faa0421b0e85890c89605", checked := Try.checked }
namespace Rows
def none {H : Type} : Left H := { results := [], args := [] }

/-- 'laws.FnExactValidGood': WHATEVER THE INPUT: true; the input reads as it did. -/
def fnExactValidGoodSpec : ChangeSpec := { name := "fnExactValidGood", fn := fun _ => fun
  | [d] => { results := [.lit (.bool true)], args := [d] }
  | _ => none }
def fnExactValidGoodRow : OpenClaim := { program := "ytahmalmekclpeaa", sum := "962f64d9ec092b24b59f9d1cf6cc14e00e49751a821faa0421b0e85890c89605", func := "loop.example/g01390/laws.FnExactValidGood", spec := "fnExactValidGood", unfollowed := true, recurses := true, apart := false }
def FnExactValidGoodSaid : Prop := fnExactValidGoodRow.holds Try.pinned (OpenSpec.ofChange fnExactValidGoodSpec)

/-- ITS FALSE NEIGHBOUR: 'it returns false'. Refute it at one input. -/
def fnExactValidGoodWrong : ChangeSpec := { name := "fnExactValidGood", fn := fun _ => fun
  | [d] => { results := [.lit (.bool false)], args := [d] }
  | _ => none }
def FnExactValidGoodWrongFalsely : Prop := fnExactValidGoodRow.holds Try.pinned (OpenSpec.ofChange fnExactValidGoodWrong)

/-- 'laws.FnExactMayShare': WHATEVER THE INPUT: true; the input reads as it did. -/
def fnExactMayShareSpec : ChangeSpec := { name := "fnExactMayShare", fn := fun _ => fun
  | [d] => { results := [.lit (.bool true)], args := [d] }
  | _ => none }
def fnExactMayShareRow : OpenClaim := { program := "ytahmalmekclpeaa", sum := "962f64d9ec092b24b59f9d1cf6cc14e00e49751a821faa0421b0e85890c89605", func := "loop.example/g01390/laws.FnExactMayShare", spec := "fnExactMayShare", unfollowed := true, recurses := true, apart := false }
def FnExactMayShareSaid : Prop := fnExactMayShareRow.holds Try.pinned (OpenSpec.ofChange fnExactMayShareSpec)

/-- ITS FALSE NEIGHBOUR: 'it returns false'. Refute it at one input. -/
def fnExactMayShareWrong : ChangeSpec := { name := "fnExactMayShare", fn := fun _ => fun
  | [d] => { results := [.lit (.bool false)], args := [d] }
  | _ => none }
def FnExactMayShareWrongFalsely : Prop := fnExactMayShareRow.holds Try.pinned (OpenSpec.ofChange fnExactMayShareWrong)

/-- 'laws.FnExactCheckHolds': WHATEVER THE INPUT: true; the input reads as it did. -/
def fnExactCheckHoldsSpec : ChangeSpec := { name := "fnExactCheckHolds", fn := fun _ => fun
  | [d1, d2] => { results := [.lit (.bool true)], args := [d1, d2] }
  | _ => none }
def fnExactCheckHoldsRow : OpenClaim := { program := "ytahmalmekclpeaa", sum := "962f64d9ec092b24b59f9d1cf6cc14e00e49751a821faa0421b0e85890c89605", func := "loop.example/g01390/laws.FnExactCheckHolds", spec := "fnExactCheckHolds", unfollowed := true, recurses := true, apart := false }
def FnExactCheckHoldsSaid : Prop := fnExactCheckHoldsRow.holds Try.pinned (OpenSpec.ofChange fnExactCheckHoldsSpec)

/-- ITS FALSE NEIGHBOUR: 'it returns false'. Refute it at one input. -/
def fnExactCheckHoldsWrong : ChangeSpec := { name := "fnExactCheckHolds", fn := fun _ => fun
  | [d1, d2] => { results := [.lit (.bool false)], args := [d1, d2] }
  | _ => none }
def FnExactCheckHoldsWrongFalsely : Prop := fnExactCheckHoldsRow.holds Try.pinned (OpenSpec.ofChange fnExactCheckHoldsWrong)

/-- 'laws.FnExactGreedyHolds': WHATEVER THE INPUT: true; the input reads as it did. -/
def fnExactGreedyHoldsSpec : ChangeSpec := { name := "fnExactGreedyHolds", fn := fun _ => fun
  | [d] => { results := [.lit (.bool true)], args := [d] }
  | _ => none }
def fnExactGreedyHoldsRow : OpenClaim := { program := "ytahmalmekclpeaa", sum := "962f64d9ec092b24b59f9d1cf6cc14e00e49751a821faa0421b0e85890c89605", func := "loop.example/g01390/laws.FnExactGreedyHolds", spec := "fnExactGreedyHolds", unfollowed := true, recurses := true, apart := false }
def FnExactGreedyHoldsSaid : Prop := fnExactGreedyHoldsRow.holds Try.pinned (OpenSpec.ofChange fnExactGreedyHoldsSpec)

/-- ITS FALSE NEIGHBOUR: 'it returns false'. Refute it at one input. -/
def fnExactGreedyHoldsWrong : ChangeSpec := { name := "fnExactGreedyHolds", fn := fun _ => fun
  | [d] => { results := [.lit (.bool false)], args := [d] }
  | _ => none }
def FnExactGreedyHoldsWrongFalsely : Prop := fnExactGreedyHoldsRow.holds Try.pinned (OpenSpec.ofChange fnExactGreedyHoldsWrong)

/-- 'laws.FnExactFewestHolds': WHATEVER THE INPUT: true; the input reads as it did. -/
def fnExactFewestHoldsSpec : ChangeSpec := { name := "fnExactFewestHolds", fn := fun _ => fun
  | [d] => { results := [.lit (.bool true)], args := [d] }
  | _ => none }
def fnExactFewestHoldsRow : OpenClaim := { program := "ytahmalmekclpeaa", sum := "962f64d9ec092b24b59f9d1cf6cc14e00e49751a821faa0421b0e85890c89605", func := "loop.example/g01390/laws.FnExactFewestHolds", spec := "fnExactFewestHolds", unfollowed := true, recurses := true, apart := false }
def FnExactFewestHoldsSaid : Prop := fnExactFewestHoldsRow.holds Try.pinned (OpenSpec.ofChange fnExactFewestHoldsSpec)

/-- ITS FALSE NEIGHBOUR: 'it returns false'. Refute it at one input. -/
def fnExactFewestHoldsWrong : ChangeSpec := { name := "fnExactFewestHolds", fn := fun _ => fun
  | [d] => { results := [.lit (.bool false)], args := [d] }
  | _ => none }
def FnExactFewestHoldsWrongFalsely : Prop := fnExactFewestHoldsRow.holds Try.pinned (OpenSpec.ofChange fnExactFewestHoldsWrong)

/-- 'laws.FnHolds': WHATEVER THE INPUT: true; the input reads as it did. -/
def fnHoldsSpec : ChangeSpec := { name := "fnHolds", fn := fun _ => fun
  | [d1, d2] => { results := [.lit (.bool true)], args := [d1, d2] }
  | _ => none }
def fnHoldsRow : OpenClaim := { program := "ytahmalmekclpeaa", sum := "962f64d9ec092b24b59f9d1cf6cc14e00e49751a821faa0421b0e85890c89605", func := "loop.example/g01390/laws.FnHolds", spec := "fnHolds", unfollowed := true, recurses := true, apart := false }
def FnHoldsSaid : Prop := fnHoldsRow.holds Try.pinned (OpenSpec.ofChange fnHoldsSpec)

/-- ITS FALSE NEIGHBOUR: 'it returns false'. Refute it at one input. -/
def fnHoldsWrong : ChangeSpec := { name := "fnHolds", fn := fun _ => fun
  | [d1, d2] => { results := [.lit (.bool false)], args := [d1, d2] }
  | _ => none }
def FnHoldsWrongFalsely : Prop := fnHoldsRow.holds Try.pinned (OpenSpec.ofChange fnHoldsWrong)

/- THE SECOND FORM. 'bulk': how many values and letters a reading holds, each counted each time it is reached (what is shared counts as often as it is met; a slice's spare places count too). A statement '..UptoSaid' is the law's where the arguments, and the package variables that the reading takes, are together of bulk at most 1048576: NARROWER than '..Said'. Prove '..Said' where nothing that the law and all that it calls make is longer than what came in: it says more and counts as full. Else prove '..UptoSaid'. A law counts once. -/
mutual
def uptoBulk {H : Type} : DataW H → Nat
  | .lit (.string bytes) => bytes.length + 1
  | .lit _ => 1
  | .nil => 1
  | .ptr d => uptoBulk d + 1
  | .slice elems spare => uptoBulkAll elems + uptoBulkAll spare + 1
  | .agg parts => uptoBulkAll parts + 1
  | .iface _ d => uptoBulk d + 1
  | .map entries => uptoBulkEntries entries + 1
  | .held _ => 1
def uptoBulkAll {H : Type} : List (DataW H) → Nat
  | [] => 0
  | d :: r => uptoBulk d + uptoBulkAll r
def uptoBulkEntries {H : Type} : List (Lit × DataW H) → Nat
  | [] => 0
  | x :: r => uptoBulkEntry x + uptoBulkEntries r
def uptoBulkEntry {H : Type} : Lit × DataW H → Nat
  | (.string bytes, d) => bytes.length + uptoBulk d + 1
  | (_, d) => uptoBulk d + 1
 end
def uptoSmall : (H : Type) → List (DataW H) → Bool := fun _ ds => decide (uptoBulkAll ds ≤ 1048576)
def OpenSpec.upto (s : _root_.Go.ChangeSpec) : _root_.Go.OpenSpec := { _root_.Go.OpenSpec.ofChange s with cond := some uptoSmall }

/-- 'laws.FnExactValidGood', WHERE WHAT IT READS IS OF BULK AT MOST 1048576: true; the input reads as it did. -/
def fnExactValidGoodUptoRow : OpenClaim := { program := "ytahmalmekclpeaa", sum := "962f64d9ec092b24b59f9d1cf6cc14e00e49751a821faa0421b0e85890c89605", func := "loop.example/g01390/laws.FnExactValidGood", spec := "fnExactValidGood", unfollowed := true, recurses := true, apart := false, narrowed := true }
def FnExactValidGoodUptoSaid : Prop := fnExactValidGoodUptoRow.holds Try.pinned (OpenSpec.upto fnExactValidGoodSpec)

/-- 'laws.FnExactMayShare', WHERE WHAT IT READS IS OF BULK AT MOST 1048576: true; the input reads as it did. -/
def fnExactMayShareUptoRow : OpenClaim := { program := "ytahmalmekclpeaa", sum := "962f64d9ec092b24b59f9d1cf6cc14e00e49751a821faa0421b0e85890c89605", func := "loop.example/g01390/laws.FnExactMayShare", spec := "fnExactMayShare", unfollowed := true, recurses := true, apart := false, narrowed := true }
def FnExactMayShareUptoSaid : Prop := fnExactMayShareUptoRow.holds Try.pinned (OpenSpec.upto fnExactMayShareSpec)

/-- 'laws.FnExactCheckHolds', WHERE WHAT IT READS IS OF BULK AT MOST 1048576: true; the input reads as it did. -/
def fnExactCheckHoldsUptoRow : OpenClaim := { program := "ytahmalmekclpeaa", sum := "962f64d9ec092b24b59f9d1cf6cc14e00e49751a821faa0421b0e85890c89605", func := "loop.example/g01390/laws.FnExactCheckHolds", spec := "fnExactCheckHolds", unfollowed := true, recurses := true, apart := false, narrowed := true }
def FnExactCheckHoldsUptoSaid : Prop := fnExactCheckHoldsUptoRow.holds Try.pinned (OpenSpec.upto fnExactCheckHoldsSpec)

/-- 'laws.FnExactGreedyHolds', WHERE WHAT IT READS IS OF BULK AT MOST 1048576: true; the input reads as it did. -/
def fnExactGreedyHoldsUptoRow : OpenClaim := { program := "ytahmalmekclpeaa", sum := "962f64d9ec092b24b59f9d1cf6cc14e00e49751a821faa0421b0e85890c89605", func := "loop.example/g01390/laws.FnExactGreedyHolds", spec := "fnExactGreedyHolds", unfollowed := true, recurses := true, apart := false, narrowed := true }
def FnExactGreedyHoldsUptoSaid : Prop := fnExactGreedyHoldsUptoRow.holds Try.pinned (OpenSpec.upto fnExactGreedyHoldsSpec)

/-- 'laws.FnExactFewestHolds', WHERE WHAT IT READS IS OF BULK AT MOST 1048576: true; the input reads as it did. -/
def fnExactFewestHoldsUptoRow : OpenClaim := { program := "ytahmalmekclpeaa", sum := "962f64d9ec092b24b59f9d1cf6cc14e00e49751a821faa0421b0e85890c89605", func := "loop.example/g01390/laws.FnExactFewestHolds", spec := "fnExactFewestHolds", unfollowed := true, recurses := true, apart := false, narrowed := true }
def FnExactFewestHoldsUptoSaid : Prop := fnExactFewestHoldsUptoRow.holds Try.pinned (OpenSpec.upto fnExactFewestHoldsSpec)

/-- 'laws.FnHolds', WHERE WHAT IT READS IS OF BULK AT MOST 1048576: true; the input reads as it did. -/
def fnHoldsUptoRow : OpenClaim := { program := "ytahmalmekclpeaa", sum := "962f64d9ec092b24b59f9d1cf6cc14e00e49751a821faa0421b0e85890c89605", func := "loop.example/g01390/laws.FnHolds", spec := "fnHolds", unfollowed := true, recurses := true, apart := false, narrowed := true }
def FnHoldsUptoSaid : Prop := fnHoldsUptoRow.holds Try.pinned (OpenSpec.upto fnHoldsSpec)

end Rows
end Go.Proofs.Ytahmalmekclpeaa
