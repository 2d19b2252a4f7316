/-
  No cell of these rows narrows 'for every input' (looked for: loops, veiled, ifaces, maps, wideKeys, modest, calm, conditions, laid).
  DERIVED. THE GIVEN ROWS OF THIS SEAT. 10 by the template 'for every input the law returns true; each argument reads behind the call as it read before'; 0 by the template 'total and deterministic' (their statements: YtpimiljhocjceaaTotals.lean).
  GIVEN WITH THE SEED: the statements are not yours to turn. If you find one false, say at which input.
  Laid BY PROGRAM, IN A SANDBOX (cutbox-rows.mjs): the forced cells as the released guide's own fill.sh prints them over the translation 78abd59bc8501d03… (all of the seat's roots in one cut). By AI agents, Wed Nov 11 2026. No macro, syntax, notation, axiom, sorry.
-/
import Derived.Test.YtpimiljhocjceaaChecked
import GoSem.Claim
import GoSem.ClaimJoined
import GoSem.ClaimMapViews
import Derived.JoinedTies
import Derived.KernelRfl
namespace Go.Proofs.Ytpimiljhocjceaa
/- THE CELL 'sum', in the pinned program and in every row, IS THE sha256 OF THE DUMP (.gsa) THAT YtpimiljhocjceaaProg.lean LOADS. Nothing in Lean hashes anything: it is a label: what it is worth is what the hold of that sum in a sandbox is worth. -/
noncomputable def Try.pinned : Pinned := { name := "ytpimiljhocjceaa", sum := "78abd59bc8501d0360f6144927a986b7135f505aad3e8a088f212f59f2a056dc", checked := Try.checked }
namespace Rows
def none {H : Type} : Left H := { results := [], args := [] }

/-- 'laws.FnExactValidOrder': WHATEVER THE INPUT: true; the input reads as it did. -/
def fnExactValidOrderSpec : ChangeSpec := { name := "fnExactValidOrder", fn := fun _ => fun
  | [d] => { results := [.lit (.bool true)], args := [d] }
  | _ => none }
def fnExactValidOrderRow : OpenClaim := { program := "ytpimiljhocjceaa", sum := "78abd59bc8501d0360f6144927a986b7135f505aad3e8a088f212f59f2a056dc", func := "loop.example/g01390/laws.FnExactValidOrder", spec := "fnExactValidOrder", apart := false }
def FnExactValidOrderSaid : Prop := fnExactValidOrderRow.holds Try.pinned (OpenSpec.ofChange fnExactValidOrderSpec)

/-- ITS FALSE NEIGHBOUR: 'it returns false'. Refute it at one input. -/
def fnExactValidOrderWrong : ChangeSpec := { name := "fnExactValidOrder", fn := fun _ => fun
  | [d] => { results := [.lit (.bool false)], args := [d] }
  | _ => none }
def FnExactValidOrderWrongFalsely : Prop := fnExactValidOrderRow.holds Try.pinned (OpenSpec.ofChange fnExactValidOrderWrong)

/-- 'laws.FnExactSameOrder': WHATEVER THE INPUT: true; the input reads as it did. -/
def fnExactSameOrderSpec : ChangeSpec := { name := "fnExactSameOrder", fn := fun _ => fun
  | [d1, d2] => { results := [.lit (.bool true)], args := [d1, d2] }
  | _ => none }
def fnExactSameOrderRow : OpenClaim := { program := "ytpimiljhocjceaa", sum := "78abd59bc8501d0360f6144927a986b7135f505aad3e8a088f212f59f2a056dc", func := "loop.example/g01390/laws.FnExactSameOrder", spec := "fnExactSameOrder", inPlace := ["math.Float32bits"], apart := false }
def FnExactSameOrderSaid : Prop := fnExactSameOrderRow.holds Try.pinned (OpenSpec.ofChange fnExactSameOrderSpec)

/-- ITS FALSE NEIGHBOUR: 'it returns false'. Refute it at one input. -/
def fnExactSameOrderWrong : ChangeSpec := { name := "fnExactSameOrder", fn := fun _ => fun
  | [d1, d2] => { results := [.lit (.bool false)], args := [d1, d2] }
  | _ => none }
def FnExactSameOrderWrongFalsely : Prop := fnExactSameOrderRow.holds Try.pinned (OpenSpec.ofChange fnExactSameOrderWrong)

/-- 'laws.FnExactValidPrices': WHATEVER THE INPUT: true; the input reads as it did. -/
def fnExactValidPricesSpec : ChangeSpec := { name := "fnExactValidPrices", fn := fun _ => fun
  | [d] => { results := [.lit (.bool true)], args := [d] }
  | _ => none }
def fnExactValidPricesRow : OpenClaim := { program := "ytpimiljhocjceaa", sum := "78abd59bc8501d0360f6144927a986b7135f505aad3e8a088f212f59f2a056dc", func := "loop.example/g01390/laws.FnExactValidPrices", spec := "fnExactValidPrices", unfollowed := true, recurses := true, apart := false }
def FnExactValidPricesSaid : Prop := fnExactValidPricesRow.holds Try.pinned (OpenSpec.ofChange fnExactValidPricesSpec)

/-- ITS FALSE NEIGHBOUR: 'it returns false'. Refute it at one input. -/
def fnExactValidPricesWrong : ChangeSpec := { name := "fnExactValidPrices", fn := fun _ => fun
  | [d] => { results := [.lit (.bool false)], args := [d] }
  | _ => none }
def FnExactValidPricesWrongFalsely : Prop := fnExactValidPricesRow.holds Try.pinned (OpenSpec.ofChange fnExactValidPricesWrong)

/-- 'laws.FnExactLossOf': WHATEVER THE INPUT: true; the input reads as it did. -/
def fnExactLossOfSpec : ChangeSpec := { name := "fnExactLossOf", fn := fun _ => fun
  | [d1, d2, d3] => { results := [.lit (.bool true)], args := [d1, d2, d3] }
  | _ => none }
def fnExactLossOfRow : OpenClaim := { program := "ytpimiljhocjceaa", sum := "78abd59bc8501d0360f6144927a986b7135f505aad3e8a088f212f59f2a056dc", func := "loop.example/g01390/laws.FnExactLossOf", spec := "fnExactLossOf", inPlace := ["math.Float32bits"], unfollowed := true, recurses := true, apart := false }
def FnExactLossOfSaid : Prop := fnExactLossOfRow.holds Try.pinned (OpenSpec.ofChange fnExactLossOfSpec)

/-- ITS FALSE NEIGHBOUR: 'it returns false'. Refute it at one input. -/
def fnExactLossOfWrong : ChangeSpec := { name := "fnExactLossOf", fn := fun _ => fun
  | [d1, d2, d3] => { results := [.lit (.bool false)], args := [d1, d2, d3] }
  | _ => none }
def FnExactLossOfWrongFalsely : Prop := fnExactLossOfRow.holds Try.pinned (OpenSpec.ofChange fnExactLossOfWrong)

/-- 'laws.FnExactQueueOf': WHATEVER THE INPUT: true; the input reads as it did. -/
def fnExactQueueOfSpec : ChangeSpec := { name := "fnExactQueueOf", fn := fun _ => fun
  | [d] => { results := [.lit (.bool true)], args := [d] }
  | _ => none }
def fnExactQueueOfRow : OpenClaim := { program := "ytpimiljhocjceaa", sum := "78abd59bc8501d0360f6144927a986b7135f505aad3e8a088f212f59f2a056dc", func := "loop.example/g01390/laws.FnExactQueueOf", spec := "fnExactQueueOf", inPlace := ["math.Float32bits"], unfollowed := true, recurses := true, apart := false }
def FnExactQueueOfSaid : Prop := fnExactQueueOfRow.holds Try.pinned (OpenSpec.ofChange fnExactQueueOfSpec)

/-- ITS FALSE NEIGHBOUR: 'it returns false'. Refute it at one input. -/
def fnExactQueueOfWrong : ChangeSpec := { name := "fnExactQueueOf", fn := fun _ => fun
  | [d] => { results := [.lit (.bool false)], args := [d] }
  | _ => none }
def FnExactQueueOfWrongFalsely : Prop := fnExactQueueOfRow.holds Try.pinned (OpenSpec.ofChange fnExactQueueOfWrong)

/-- 'laws.FnExactGreenestFirst': WHATEVER THE INPUT: true; the input reads as it did. -/
def fnExactGreenestFirstSpec : ChangeSpec := { name := "fnExactGreenestFirst", fn := fun _ => fun
  | [d1, d2] => { results := [.lit (.bool true)], args := [d1, d2] }
  | _ => none }
def fnExactGreenestFirstRow : OpenClaim := { program := "ytpimiljhocjceaa", sum := "78abd59bc8501d0360f6144927a986b7135f505aad3e8a088f212f59f2a056dc", func := "loop.example/g01390/laws.FnExactGreenestFirst", spec := "fnExactGreenestFirst", inPlace := ["math.Float32bits"], unfollowed := true, recurses := true, apart := false }
def FnExactGreenestFirstSaid : Prop := fnExactGreenestFirstRow.holds Try.pinned (OpenSpec.ofChange fnExactGreenestFirstSpec)

/-- ITS FALSE NEIGHBOUR: 'it returns false'. Refute it at one input. -/
def fnExactGreenestFirstWrong : ChangeSpec := { name := "fnExactGreenestFirst", fn := fun _ => fun
  | [d1, d2] => { results := [.lit (.bool false)], args := [d1, d2] }
  | _ => none }
def FnExactGreenestFirstWrongFalsely : Prop := fnExactGreenestFirstRow.holds Try.pinned (OpenSpec.ofChange fnExactGreenestFirstWrong)

/-- 'laws.FnExactRipestFirst': WHATEVER THE INPUT: true; the input reads as it did. -/
def fnExactRipestFirstSpec : ChangeSpec := { name := "fnExactRipestFirst", fn := fun _ => fun
  | [d1, d2] => { results := [.lit (.bool true)], args := [d1, d2] }
  | _ => none }
def fnExactRipestFirstRow : OpenClaim := { program := "ytpimiljhocjceaa", sum := "78abd59bc8501d0360f6144927a986b7135f505aad3e8a088f212f59f2a056dc", func := "loop.example/g01390/laws.FnExactRipestFirst", spec := "fnExactRipestFirst", inPlace := ["math.Float32bits"], unfollowed := true, recurses := true, apart := false }
def FnExactRipestFirstSaid : Prop := fnExactRipestFirstRow.holds Try.pinned (OpenSpec.ofChange fnExactRipestFirstSpec)

/-- ITS FALSE NEIGHBOUR: 'it returns false'. Refute it at one input. -/
def fnExactRipestFirstWrong : ChangeSpec := { name := "fnExactRipestFirst", fn := fun _ => fun
  | [d1, d2] => { results := [.lit (.bool false)], args := [d1, d2] }
  | _ => none }
def FnExactRipestFirstWrongFalsely : Prop := fnExactRipestFirstRow.holds Try.pinned (OpenSpec.ofChange fnExactRipestFirstWrong)

/-- 'laws.FnExactServeAll': WHATEVER THE INPUT: true; the input reads as it did. -/
def fnExactServeAllSpec : ChangeSpec := { name := "fnExactServeAll", fn := fun _ => fun
  | [d1, d2] => { results := [.lit (.bool true)], args := [d1, d2] }
  | _ => none }
def fnExactServeAllRow : OpenClaim := { program := "ytpimiljhocjceaa", sum := "78abd59bc8501d0360f6144927a986b7135f505aad3e8a088f212f59f2a056dc", func := "loop.example/g01390/laws.FnExactServeAll", spec := "fnExactServeAll", inPlace := ["math.Float32bits"], unfollowed := true, recurses := true, apart := false }
def FnExactServeAllSaid : Prop := fnExactServeAllRow.holds Try.pinned (OpenSpec.ofChange fnExactServeAllSpec)

/-- ITS FALSE NEIGHBOUR: 'it returns false'. Refute it at one input. -/
def fnExactServeAllWrong : ChangeSpec := { name := "fnExactServeAll", fn := fun _ => fun
  | [d1, d2] => { results := [.lit (.bool false)], args := [d1, d2] }
  | _ => none }
def FnExactServeAllWrongFalsely : Prop := fnExactServeAllRow.holds Try.pinned (OpenSpec.ofChange fnExactServeAllWrong)

/-- 'laws.FnExactCanServe': WHATEVER THE INPUT: true; the input reads as it did. -/
def fnExactCanServeSpec : ChangeSpec := { name := "fnExactCanServe", fn := fun _ => fun
  | [d1, d2, d3] => { results := [.lit (.bool true)], args := [d1, d2, d3] }
  | _ => none }
def fnExactCanServeRow : OpenClaim := { program := "ytpimiljhocjceaa", sum := "78abd59bc8501d0360f6144927a986b7135f505aad3e8a088f212f59f2a056dc", func := "loop.example/g01390/laws.FnExactCanServe", spec := "fnExactCanServe", inPlace := ["math.Float32bits"], unfollowed := true, recurses := true, apart := false }
def FnExactCanServeSaid : Prop := fnExactCanServeRow.holds Try.pinned (OpenSpec.ofChange fnExactCanServeSpec)

/-- ITS FALSE NEIGHBOUR: 'it returns false'. Refute it at one input. -/
def fnExactCanServeWrong : ChangeSpec := { name := "fnExactCanServe", fn := fun _ => fun
  | [d1, d2, d3] => { results := [.lit (.bool false)], args := [d1, d2, d3] }
  | _ => none }
def FnExactCanServeWrongFalsely : Prop := fnExactCanServeRow.holds Try.pinned (OpenSpec.ofChange fnExactCanServeWrong)

/-- 'laws.FnExactMostMoney': WHATEVER THE INPUT: true; the input reads as it did. -/
def fnExactMostMoneySpec : ChangeSpec := { name := "fnExactMostMoney", fn := fun _ => fun
  | [d1, d2] => { results := [.lit (.bool true)], args := [d1, d2] }
  | _ => none }
def fnExactMostMoneyRow : OpenClaim := { program := "ytpimiljhocjceaa", sum := "78abd59bc8501d0360f6144927a986b7135f505aad3e8a088f212f59f2a056dc", func := "loop.example/g01390/laws.FnExactMostMoney", spec := "fnExactMostMoney", inPlace := ["math.Float32bits"], unfollowed := true, recurses := true, apart := false }
def FnExactMostMoneySaid : Prop := fnExactMostMoneyRow.holds Try.pinned (OpenSpec.ofChange fnExactMostMoneySpec)

/-- ITS FALSE NEIGHBOUR: 'it returns false'. Refute it at one input. -/
def fnExactMostMoneyWrong : ChangeSpec := { name := "fnExactMostMoney", fn := fun _ => fun
  | [d1, d2] => { results := [.lit (.bool false)], args := [d1, d2] }
  | _ => none }
def FnExactMostMoneyWrongFalsely : Prop := fnExactMostMoneyRow.holds Try.pinned (OpenSpec.ofChange fnExactMostMoneyWrong)

/- THE SECOND FORM. 'bulk': how many values and letters a reading holds, each counted each time it is reached (what is shared counts as often as it is met; a slice's spare places count too). A statement '..UptoSaid' is the law's where the arguments, and the package variables that the reading takes, are together of bulk at most 1048576: NARROWER than '..Said'. Prove '..Said' where nothing that the law and all that it calls make is longer than what came in: it says more and counts as full. Else prove '..UptoSaid'. A law counts once. -/
mutual
def uptoBulk {H : Type} : DataW H → Nat
  | .lit (.string bytes) => bytes.length + 1
  | .lit _ => 1
  | .nil => 1
  | .ptr d => uptoBulk d + 1
  | .slice elems spare => uptoBulkAll elems + uptoBulkAll spare + 1
  | .agg parts => uptoBulkAll parts + 1
  | .iface _ d => uptoBulk d + 1
  | .map entries => uptoBulkEntries entries + 1
  | .held _ => 1
def uptoBulkAll {H : Type} : List (DataW H) → Nat
  | [] => 0
  | d :: r => uptoBulk d + uptoBulkAll r
def uptoBulkEntries {H : Type} : List (Lit × DataW H) → Nat
  | [] => 0
  | x :: r => uptoBulkEntry x + uptoBulkEntries r
def uptoBulkEntry {H : Type} : Lit × DataW H → Nat
  | (.string bytes, d) => bytes.length + uptoBulk d + 1
  | (_, d) => uptoBulk d + 1
 end
def uptoSmall : (H : Type) → List (DataW H) → Bool := fun _ ds => decide (uptoBulkAll ds ≤ 1048576)
def OpenSpec.upto (s : _root_.Go.ChangeSpec) : _root_.Go.OpenSpec := { _root_.Go.OpenSpec.ofChange s with cond := some uptoSmall }

/-- 'laws.FnExactValidOrder', WHERE WHAT IT READS IS OF BULK AT MOST 1048576: true; the input reads as it did. -/
def fnExactValidOrderUptoRow : OpenClaim := { program := "ytpimiljhocjceaa", sum := "78abd59bc8501d0360f6144927a986b7135f505aad3e8a088f212f59f2a056dc", func := "loop.example/g01390/laws.FnExactValidOrder", spec := "fnExactValidOrder", apart := false, narrowed := true }
def FnExactValidOrderUptoSaid : Prop := fnExactValidOrderUptoRow.holds Try.pinned (OpenSpec.upto fnExactValidOrderSpec)

/-- 'laws.FnExactSameOrder', WHERE WHAT IT READS IS OF BULK AT MOST 1048576: true; the input reads as it did. -/
def fnExactSameOrderUptoRow : OpenClaim := { program := "ytpimiljhocjceaa", sum := "78abd59bc8501d0360f6144927a986b7135f505aad3e8a088f212f59f2a056dc", func := "loop.example/g01390/laws.FnExactSameOrder", spec := "fnExactSameOrder", inPlace := ["math.Float32bits"], apart := false, narrowed := true }
def FnExactSameOrderUptoSaid : Prop := fnExactSameOrderUptoRow.holds Try.pinned (OpenSpec.upto fnExactSameOrderSpec)

/-- 'laws.FnExactValidPrices', WHERE WHAT IT READS IS OF BULK AT MOST 1048576: true; the input reads as it did. -/
def fnExactValidPricesUptoRow : OpenClaim := { program := "ytpimiljhocjceaa", sum := "78abd59bc8501d0360f6144927a986b7135f505aad3e8a088f212f59f2a056dc", func := "loop.example/g01390/laws.FnExactValidPrices", spec := "fnExactValidPrices", unfollowed := true, recurses := true, apart := false, narrowed := true }
def FnExactValidPricesUptoSaid : Prop := fnExactValidPricesUptoRow.holds Try.pinned (OpenSpec.upto fnExactValidPricesSpec)

/-- 'laws.FnExactLossOf', WHERE WHAT IT READS IS OF BULK AT MOST 1048576: true; the input reads as it did. -/
def fnExactLossOfUptoRow : OpenClaim := { program := "ytpimiljhocjceaa", sum := "78abd59bc8501d0360f6144927a986b7135f505aad3e8a088f212f59f2a056dc", func := "loop.example/g01390/laws.FnExactLossOf", spec := "fnExactLossOf", inPlace := ["math.Float32bits"], unfollowed := true, recurses := true, apart := false, narrowed := true }
def FnExactLossOfUptoSaid : Prop := fnExactLossOfUptoRow.holds Try.pinned (OpenSpec.upto fnExactLossOfSpec)

/-- 'laws.FnExactQueueOf', WHERE WHAT IT READS IS OF BULK AT MOST 1048576: true; the input reads as it did. -/
def fnExactQueueOfUptoRow : OpenClaim := { program := "ytpimiljhocjceaa", sum := "78abd59bc8501d0360f6144927a986b7135f505aad3e8a088f212f59f2a056dc", func := "loop.example/g01390/laws.FnExactQueueOf", spec := "fnExactQueueOf", inPlace := ["math.Float32bits"], unfollowed := true, recurses := true, apart := false, narrowed := true }
def FnExactQueueOfUptoSaid : Prop := fnExactQueueOfUptoRow.holds Try.pinned (OpenSpec.upto fnExactQueueOfSpec)

/-- 'laws.FnExactGreenestFirst', WHERE WHAT IT READS IS OF BULK AT MOST 1048576: true; the input reads as it did. -/
def fnExactGreenestFirstUptoRow : OpenClaim := { program := "ytpimiljhocjceaa", sum := "78abd59bc8501d0360f6144927a986b7135f505aad3e8a088f212f59f2a056dc", func := "loop.example/g01390/laws.FnExactGreenestFirst", spec := "fnExactGreenestFirst", inPlace := ["math.Float32bits"], unfollowed := true, recurses := true, apart := false, narrowed := true }
def FnExactGreenestFirstUptoSaid : Prop := fnExactGreenestFirstUptoRow.holds Try.pinned (OpenSpec.upto fnExactGreenestFirstSpec)

/-- 'laws.FnExactRipestFirst', WHERE WHAT IT READS IS OF BULK AT MOST 1048576: true; the input reads as it did. -/
def fnExactRipestFirstUptoRow : OpenClaim := { program := "ytpimiljhocjceaa", sum := "78abd59bc8501d0360f6144927a986b7135f505aad3e8a088f212f59f2a056dc", func := "loop.example/g01390/laws.FnExactRipestFirst", spec := "fnExactRipestFirst", inPlace := ["math.Float32bits"], unfollowed := true, recurses := true, apart := false, narrowed := true }
def FnExactRipestFirstUptoSaid : Prop := fnExactRipestFirstUptoRow.holds Try.pinned (OpenSpec.upto fnExactRipestFirstSpec)

/-- 'laws.FnExactServeAll', WHERE WHAT IT READS IS OF BULK AT MOST 1048576: true; the input reads as it did. -/
def fnExactServeAllUptoRow : OpenClaim := { program := "ytpimiljhocjceaa", sum := "78abd59bc8501d0360f6144927a986b7135f505aad3e8a088f212f59f2a056dc", func := "loop.example/g01390/laws.FnExactServeAll", spec := "fnExactServeAll", inPlace := ["math.Float32bits"], unfollowed := true, recurses := true, apart := false, narrowed := true }
def FnExactServeAllUptoSaid : Prop := fnExactServeAllUptoRow.holds Try.pinned (OpenSpec.upto fnExactServeAllSpec)

/-- 'laws.FnExactCanServe', WHERE WHAT IT READS IS OF BULK AT MOST 1048576: true; the input reads as it did. -/
def fnExactCanServeUptoRow : OpenClaim := { program := "ytpimiljhocjceaa", sum := "78abd59bc8501d0360f6144927a986b7135f505aad3e8a088f212f59f2a056dc", func := "loop.example/g01390/laws.FnExactCanServe", spec := "fnExactCanServe", inPlace := ["math.Float32bits"], unfollowed := true, recurses := true, apart := false, narrowed := true }
def FnExactCanServeUptoSaid : Prop := fnExactCanServeUptoRow.holds Try.pinned (OpenSpec.upto fnExactCanServeSpec)

/-- 'laws.FnExactMostMoney', WHERE WHAT IT READS IS OF BULK AT MOST 1048576: true; the input reads as it did. -/
def fnExactMostMoneyUptoRow : OpenClaim := { program := "ytpimiljhocjceaa", sum := "78abd59bc8501d0360f6144927a986b7135f505aad3e8a088f212f59f2a056dc", func := "loop.example/g01390/laws.FnExactMostMoney", spec := "fnExactMostMoney", inPlace := ["math.Float32bits"], unfollowed := true, recurses := true, apart := false, narrowed := true }
def FnExactMostMoneyUptoSaid : Prop := fnExactMostMoneyUptoRow.holds Try.pinned (OpenSpec.upto fnExactMostMoneySpec)

end Rows
end Go.Proofs.Ytpimiljhocjceaa
