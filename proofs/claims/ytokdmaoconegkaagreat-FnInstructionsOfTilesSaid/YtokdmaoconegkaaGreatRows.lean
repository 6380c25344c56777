/-
  No cell of these rows narrows 'for every input' (looked for: loops, veiled, ifaces, maps, wideKeys, modest, calm, conditions, laid).
  DERIVED. THE GIVEN ROWS OF THIS SEAT. 3 by the template 'for every input the law returns true; each argument reads behind the call as it read before'; 0 by the template 'total and deterministic' (their statements: YtokdmaoconegkaaGreatTotals.lean).
  GIVEN WITH THE SEED: the statements are not yours to turn. If you find one false, say at which input.
  Laid BY PROGRAM, IN A SANDBOX (cutbox-rows.mjs): the forced cells as the released guide's own fill.sh prints them over the translation e1e3dc6f9fd52ef6… (all of the seat's roots in one cut). By AI agents, Wed Nov 11 2026. No macro, syntax, notation, axiom, sorry.
-/
import Derived.Test.YtokdmaoconegkaaGreatChecked
import GoSem.Claim
import GoSem.ClaimJoined
import GoSem.ClaimMapViews
import Derived.JoinedTies
import Derived.KernelRfl
namespace Go.Proofs.YtokdmaoconegkaaGreat
/- THE CELL 'sum', in the pinned program and in every row, IS THE sha256 OF THE DUMP (.gsa) THAT YtokdmaoconegkaaGreatProg.lean LOADS. Nothing in Lean hashes anything: it is a label: what it is worth is what the hold of that sum in a sandbox is worth. -/
noncomputable def Tryz.pinned : Pinned := { name := "ytokdmaoconegkaagreat", sum := "e1e3dc6f9fd52ef6cd3dcbf05ad930096a19c98522c88121680101e69ca8a800", checked := Tryz.checked }
namespace Rows
def none {H : Type} : Left H := { results := [], args := [] }

/-- 'laws.FnFairPrices': WHATEVER THE INPUT: true; the input reads as it did. -/
def fnFairPricesSpec : ChangeSpec := { name := "fnFairPrices", fn := fun _ => fun
  | [d1, d2] => { results := [.lit (.bool true)], args := [d1, d2] }
  | _ => none }
def fnFairPricesRow : OpenClaim := { program := "ytokdmaoconegkaagreat", sum := "e1e3dc6f9fd52ef6cd3dcbf05ad930096a19c98522c88121680101e69ca8a800", func := "loop.example/g01127/laws.FnFairPrices", spec := "fnFairPrices", unfollowed := true, recurses := true, apart := false }
def FnFairPricesSaid : Prop := fnFairPricesRow.holds Tryz.pinned (OpenSpec.ofChange fnFairPricesSpec)

/-- ITS FALSE NEIGHBOUR: 'it returns false'. Refute it at one input. -/
def fnFairPricesWrong : ChangeSpec := { name := "fnFairPrices", fn := fun _ => fun
  | [d1, d2] => { results := [.lit (.bool false)], args := [d1, d2] }
  | _ => none }
def FnFairPricesWrongFalsely : Prop := fnFairPricesRow.holds Tryz.pinned (OpenSpec.ofChange fnFairPricesWrong)

/-- 'laws.FnRewritingKeepsValues': WHATEVER THE INPUT: true; the input reads as it did. -/
def fnRewritingKeepsValuesSpec : ChangeSpec := { name := "fnRewritingKeepsValues", fn := fun _ => fun
  | [d1, d2] => { results := [.lit (.bool true)], args := [d1, d2] }
  | _ => none }
def fnRewritingKeepsValuesRow : OpenClaim := { program := "ytokdmaoconegkaagreat", sum := "e1e3dc6f9fd52ef6cd3dcbf05ad930096a19c98522c88121680101e69ca8a800", func := "loop.example/g01127/laws.FnRewritingKeepsValues", spec := "fnRewritingKeepsValues", unfollowed := true, recurses := true, apart := false }
def FnRewritingKeepsValuesSaid : Prop := fnRewritingKeepsValuesRow.holds Tryz.pinned (OpenSpec.ofChange fnRewritingKeepsValuesSpec)

/-- ITS FALSE NEIGHBOUR: 'it returns false'. Refute it at one input. -/
def fnRewritingKeepsValuesWrong : ChangeSpec := { name := "fnRewritingKeepsValues", fn := fun _ => fun
  | [d1, d2] => { results := [.lit (.bool false)], args := [d1, d2] }
  | _ => none }
def FnRewritingKeepsValuesWrongFalsely : Prop := fnRewritingKeepsValuesRow.holds Tryz.pinned (OpenSpec.ofChange fnRewritingKeepsValuesWrong)

/-- 'laws.FnInstructionsOfTiles': WHATEVER THE INPUT: true; the input reads as it did. -/
def fnInstructionsOfTilesSpec : ChangeSpec := { name := "fnInstructionsOfTiles", fn := fun _ => fun
  | [d1, d2] => { results := [.lit (.bool true)], args := [d1, d2] }
  | _ => none }
def fnInstructionsOfTilesRow : OpenClaim := { program := "ytokdmaoconegkaagreat", sum := "e1e3dc6f9fd52ef6cd3dcbf05ad930096a19c98522c88121680101e69ca8a800", func := "loop.example/g01127/laws.FnInstructionsOfTiles", spec := "fnInstructionsOfTiles", unfollowed := true, recurses := true, apart := false }
def FnInstructionsOfTilesSaid : Prop := fnInstructionsOfTilesRow.holds Tryz.pinned (OpenSpec.ofChange fnInstructionsOfTilesSpec)

/-- ITS FALSE NEIGHBOUR: 'it returns false'. Refute it at one input. -/
def fnInstructionsOfTilesWrong : ChangeSpec := { name := "fnInstructionsOfTiles", fn := fun _ => fun
  | [d1, d2] => { results := [.lit (.bool false)], args := [d1, d2] }
  | _ => none }
def FnInstructionsOfTilesWrongFalsely : Prop := fnInstructionsOfTilesRow.holds Tryz.pinned (OpenSpec.ofChange fnInstructionsOfTilesWrong)

/- THE SECOND FORM. 'bulk': how many values and letters a reading holds, each counted each time it is reached (what is shared counts as often as it is met; a slice's spare places count too). A statement '..UptoSaid' is the law's where the arguments, and the package variables that the reading takes, are together of bulk at most 1048576: NARROWER than '..Said'. Prove '..Said' where nothing that the law and all that it calls make is longer than what came in: it says more and counts as full. Else prove '..UptoSaid'. A law counts once. -/
mutual
def uptoBulk {H : Type} : DataW H → Nat
  | .lit (.string bytes) => bytes.length + 1
  | .lit _ => 1
  | .nil => 1
  | .ptr d => uptoBulk d + 1
  | .slice elems spare => uptoBulkAll elems + uptoBulkAll spare + 1
  | .agg parts => uptoBulkAll parts + 1
  | .iface _ d => uptoBulk d + 1
  | .map entries => uptoBulkEntries entries + 1
  | .held _ => 1
def uptoBulkAll {H : Type} : List (DataW H) → Nat
  | [] => 0
  | d :: r => uptoBulk d + uptoBulkAll r
def uptoBulkEntries {H : Type} : List (Lit × DataW H) → Nat
  | [] => 0
  | x :: r => uptoBulkEntry x + uptoBulkEntries r
def uptoBulkEntry {H : Type} : Lit × DataW H → Nat
  | (.string bytes, d) => bytes.length + uptoBulk d + 1
  | (_, d) => uptoBulk d + 1
 end
def uptoSmall : (H : Type) → List (DataW H) → Bool := fun _ ds => decide (uptoBulkAll ds ≤ 1048576)
def OpenSpec.upto (s : _root_.Go.ChangeSpec) : _root_.Go.OpenSpec := { _root_.Go.OpenSpec.ofChange s with cond := some uptoSmall }

/-- 'laws.FnFairPrices', WHERE WHAT IT READS IS OF BULK AT MOST 1048576: true; the input reads as it did. -/
def fnFairPricesUptoRow : OpenClaim := { program := "ytokdmaoconegkaagreat", sum := "e1e3dc6f9fd52ef6cd3dcbf05ad930096a19c98522c88121680101e69ca8a800", func := "loop.example/g01127/laws.FnFairPrices", spec := "fnFairPrices", unfollowed := true, recurses := true, apart := false, narrowed := true }
def FnFairPricesUptoSaid : Prop := fnFairPricesUptoRow.holds Tryz.pinned (OpenSpec.upto fnFairPricesSpec)

/-- 'laws.FnRewritingKeepsValues', WHERE WHAT IT READS IS OF BULK AT MOST 1048576: true; the input reads as it did. -/
def fnRewritingKeepsValuesUptoRow : OpenClaim := { program := "ytokdmaoconegkaagreat", sum := "e1e3dc6f9fd52ef6cd3dcbf05ad930096a19c98522c88121680101e69ca8a800", func := "loop.example/g01127/laws.FnRewritingKeepsValues", spec := "fnRewritingKeepsValues", unfollowed := true, recurses := true, apart := false, narrowed := true }
def FnRewritingKeepsValuesUptoSaid : Prop := fnRewritingKeepsValuesUptoRow.holds Tryz.pinned (OpenSpec.upto fnRewritingKeepsValuesSpec)

/-- 'laws.FnInstructionsOfTiles', WHERE WHAT IT READS IS OF BULK AT MOST 1048576: true; the input reads as it did. -/
def fnInstructionsOfTilesUptoRow : OpenClaim := { program := "ytokdmaoconegkaagreat", sum := "e1e3dc6f9fd52ef6cd3dcbf05ad930096a19c98522c88121680101e69ca8a800", func := "loop.example/g01127/laws.FnInstructionsOfTiles", spec := "fnInstructionsOfTiles", unfollowed := true, recurses := true, apart := false, narrowed := true }
def FnInstructionsOfTilesUptoSaid : Prop := fnInstructionsOfTilesUptoRow.holds Tryz.pinned (OpenSpec.upto fnInstructionsOfTilesSpec)

end Rows
end Go.Proofs.YtokdmaoconegkaaGreat
