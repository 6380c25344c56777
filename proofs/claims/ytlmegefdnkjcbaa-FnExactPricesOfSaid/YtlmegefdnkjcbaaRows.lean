/-
  No cell of these rows narrows 'for every input' (looked for: loops, veiled, ifaces, maps, wideKeys, modest, calm, conditions, laid).
  DERIVED. THE GIVEN ROWS OF THIS SEAT. 12 by the template 'for every input the law returns true; each argument reads behind the call as it read before'; 0 by the template 'total and deterministic' (their statements: YtlmegefdnkjcbaaTotals.lean).
  GIVEN WITH THE SEED: the statements are not yours to turn. If you find one false, say at which input.
  Laid BY PROGRAM, IN A SANDBOX (cutbox-rows.mjs): the forced cells as the released guide's own fill.sh prints them over the translation c560a8ae59a0b125… (all of the seat's roots in one cut). By AI agents, Wed Nov 11 2026. No macro, syntax, notation, axiom, sorry.
-/
import Derived.Test.YtlmegefdnkjcbaaChecked
import GoSem.Claim
import GoSem.ClaimJoined
import GoSem.ClaimMapViews
import Derived.JoinedTies
import Derived.KernelRfl
namespace Go.Proofs.Ytlmegefdnkjcbaa
/- THE CELL 'sum', in the pinned program and in every row, IS THE sha256 OF THE DUMP (.gsa) THAT YtlmegefdnkjcbaaProg.lean LOADS. Nothing in Lean hashes anything: it is a label: what it is worth is what the hold of that sum in a sandbox is worth. -/
noncomputable def Try.pinned : Pinned := { name := "ytlmegefdnkjcbaa", sum := "c560a8ae59a0b1259301ff12489d0b6c3fe3134147143d99d222f853295860f1", checked := Try.checked }
namespace Rows
def none {H : Type} : Left H := { results := [], args := [] }

/-- 'laws.FnExactTileCost': WHATEVER THE INPUT: true; the input reads as it did. -/
def fnExactTileCostSpec : ChangeSpec := { name := "fnExactTileCost", fn := fun _ => fun
  | [d1, d2, d3] => { results := [.lit (.bool true)], args := [d1, d2, d3] }
  | _ => none }
def fnExactTileCostRow : OpenClaim := { program := "ytlmegefdnkjcbaa", sum := "c560a8ae59a0b1259301ff12489d0b6c3fe3134147143d99d222f853295860f1", func := "loop.example/g01127/laws.FnExactTileCost", spec := "fnExactTileCost", unfollowed := true, recurses := true, apart := false }
def FnExactTileCostSaid : Prop := fnExactTileCostRow.holds Try.pinned (OpenSpec.ofChange fnExactTileCostSpec)

/-- ITS FALSE NEIGHBOUR: 'it returns false'. Refute it at one input. -/
def fnExactTileCostWrong : ChangeSpec := { name := "fnExactTileCost", fn := fun _ => fun
  | [d1, d2, d3] => { results := [.lit (.bool false)], args := [d1, d2, d3] }
  | _ => none }
def FnExactTileCostWrongFalsely : Prop := fnExactTileCostRow.holds Try.pinned (OpenSpec.ofChange fnExactTileCostWrong)

/-- 'laws.FnExactTileInner': WHATEVER THE INPUT: true; the input reads as it did. -/
def fnExactTileInnerSpec : ChangeSpec := { name := "fnExactTileInner", fn := fun _ => fun
  | [d1, d2, d3] => { results := [.lit (.bool true)], args := [d1, d2, d3] }
  | _ => none }
def fnExactTileInnerRow : OpenClaim := { program := "ytlmegefdnkjcbaa", sum := "c560a8ae59a0b1259301ff12489d0b6c3fe3134147143d99d222f853295860f1", func := "loop.example/g01127/laws.FnExactTileInner", spec := "fnExactTileInner", unfollowed := true, recurses := true, apart := false }
def FnExactTileInnerSaid : Prop := fnExactTileInnerRow.holds Try.pinned (OpenSpec.ofChange fnExactTileInnerSpec)

/-- ITS FALSE NEIGHBOUR: 'it returns false'. Refute it at one input. -/
def fnExactTileInnerWrong : ChangeSpec := { name := "fnExactTileInner", fn := fun _ => fun
  | [d1, d2, d3] => { results := [.lit (.bool false)], args := [d1, d2, d3] }
  | _ => none }
def FnExactTileInnerWrongFalsely : Prop := fnExactTileInnerRow.holds Try.pinned (OpenSpec.ofChange fnExactTileInnerWrong)

/-- 'laws.FnExactTileParts': WHATEVER THE INPUT: true; the input reads as it did. -/
def fnExactTilePartsSpec : ChangeSpec := { name := "fnExactTileParts", fn := fun _ => fun
  | [d1, d2, d3] => { results := [.lit (.bool true)], args := [d1, d2, d3] }
  | _ => none }
def fnExactTilePartsRow : OpenClaim := { program := "ytlmegefdnkjcbaa", sum := "c560a8ae59a0b1259301ff12489d0b6c3fe3134147143d99d222f853295860f1", func := "loop.example/g01127/laws.FnExactTileParts", spec := "fnExactTileParts", unfollowed := true, recurses := true, apart := false }
def FnExactTilePartsSaid : Prop := fnExactTilePartsRow.holds Try.pinned (OpenSpec.ofChange fnExactTilePartsSpec)

/-- ITS FALSE NEIGHBOUR: 'it returns false'. Refute it at one input. -/
def fnExactTilePartsWrong : ChangeSpec := { name := "fnExactTileParts", fn := fun _ => fun
  | [d1, d2, d3] => { results := [.lit (.bool false)], args := [d1, d2, d3] }
  | _ => none }
def FnExactTilePartsWrongFalsely : Prop := fnExactTilePartsRow.holds Try.pinned (OpenSpec.ofChange fnExactTilePartsWrong)

/-- 'laws.FnExactTilesAt': WHATEVER THE INPUT: true; the input reads as it did. -/
def fnExactTilesAtSpec : ChangeSpec := { name := "fnExactTilesAt", fn := fun _ => fun
  | [d1, d2] => { results := [.lit (.bool true)], args := [d1, d2] }
  | _ => none }
def fnExactTilesAtRow : OpenClaim := { program := "ytlmegefdnkjcbaa", sum := "c560a8ae59a0b1259301ff12489d0b6c3fe3134147143d99d222f853295860f1", func := "loop.example/g01127/laws.FnExactTilesAt", spec := "fnExactTilesAt", unfollowed := true, recurses := true, apart := false }
def FnExactTilesAtSaid : Prop := fnExactTilesAtRow.holds Try.pinned (OpenSpec.ofChange fnExactTilesAtSpec)

/-- ITS FALSE NEIGHBOUR: 'it returns false'. Refute it at one input. -/
def fnExactTilesAtWrong : ChangeSpec := { name := "fnExactTilesAt", fn := fun _ => fun
  | [d1, d2] => { results := [.lit (.bool false)], args := [d1, d2] }
  | _ => none }
def FnExactTilesAtWrongFalsely : Prop := fnExactTilesAtRow.holds Try.pinned (OpenSpec.ofChange fnExactTilesAtWrong)

/-- 'laws.FnExactUnfairAt': WHATEVER THE INPUT: true; the input reads as it did. -/
def fnExactUnfairAtSpec : ChangeSpec := { name := "fnExactUnfairAt", fn := fun _ => fun
  | [d1, d2] => { results := [.lit (.bool true)], args := [d1, d2] }
  | _ => none }
def fnExactUnfairAtRow : OpenClaim := { program := "ytlmegefdnkjcbaa", sum := "c560a8ae59a0b1259301ff12489d0b6c3fe3134147143d99d222f853295860f1", func := "loop.example/g01127/laws.FnExactUnfairAt", spec := "fnExactUnfairAt", unfollowed := true, recurses := true, apart := false }
def FnExactUnfairAtSaid : Prop := fnExactUnfairAtRow.holds Try.pinned (OpenSpec.ofChange fnExactUnfairAtSpec)

/-- ITS FALSE NEIGHBOUR: 'it returns false'. Refute it at one input. -/
def fnExactUnfairAtWrong : ChangeSpec := { name := "fnExactUnfairAt", fn := fun _ => fun
  | [d1, d2] => { results := [.lit (.bool false)], args := [d1, d2] }
  | _ => none }
def FnExactUnfairAtWrongFalsely : Prop := fnExactUnfairAtRow.holds Try.pinned (OpenSpec.ofChange fnExactUnfairAtWrong)

/-- 'laws.FnExactAreFair': WHATEVER THE INPUT: true; the input reads as it did. -/
def fnExactAreFairSpec : ChangeSpec := { name := "fnExactAreFair", fn := fun _ => fun
  | [d1, d2] => { results := [.lit (.bool true)], args := [d1, d2] }
  | _ => none }
def fnExactAreFairRow : OpenClaim := { program := "ytlmegefdnkjcbaa", sum := "c560a8ae59a0b1259301ff12489d0b6c3fe3134147143d99d222f853295860f1", func := "loop.example/g01127/laws.FnExactAreFair", spec := "fnExactAreFair", unfollowed := true, recurses := true, apart := false }
def FnExactAreFairSaid : Prop := fnExactAreFairRow.holds Try.pinned (OpenSpec.ofChange fnExactAreFairSpec)

/-- ITS FALSE NEIGHBOUR: 'it returns false'. Refute it at one input. -/
def fnExactAreFairWrong : ChangeSpec := { name := "fnExactAreFair", fn := fun _ => fun
  | [d1, d2] => { results := [.lit (.bool false)], args := [d1, d2] }
  | _ => none }
def FnExactAreFairWrongFalsely : Prop := fnExactAreFairRow.holds Try.pinned (OpenSpec.ofChange fnExactAreFairWrong)

/-- 'laws.FnExactPricesOf': WHATEVER THE INPUT: true; the input reads as it did. -/
def fnExactPricesOfSpec : ChangeSpec := { name := "fnExactPricesOf", fn := fun _ => fun
  | [d] => { results := [.lit (.bool true)], args := [d] }
  | _ => none }
def fnExactPricesOfRow : OpenClaim := { program := "ytlmegefdnkjcbaa", sum := "c560a8ae59a0b1259301ff12489d0b6c3fe3134147143d99d222f853295860f1", func := "loop.example/g01127/laws.FnExactPricesOf", spec := "fnExactPricesOf", unfollowed := true, recurses := true, apart := false }
def FnExactPricesOfSaid : Prop := fnExactPricesOfRow.holds Try.pinned (OpenSpec.ofChange fnExactPricesOfSpec)

/-- ITS FALSE NEIGHBOUR: 'it returns false'. Refute it at one input. -/
def fnExactPricesOfWrong : ChangeSpec := { name := "fnExactPricesOf", fn := fun _ => fun
  | [d] => { results := [.lit (.bool false)], args := [d] }
  | _ => none }
def FnExactPricesOfWrongFalsely : Prop := fnExactPricesOfRow.holds Try.pinned (OpenSpec.ofChange fnExactPricesOfWrong)

/-- 'laws.FnExactIsCover': WHATEVER THE INPUT: true; the input reads as it did. -/
def fnExactIsCoverSpec : ChangeSpec := { name := "fnExactIsCover", fn := fun _ => fun
  | [d1, d2] => { results := [.lit (.bool true)], args := [d1, d2] }
  | _ => none }
def fnExactIsCoverRow : OpenClaim := { program := "ytlmegefdnkjcbaa", sum := "c560a8ae59a0b1259301ff12489d0b6c3fe3134147143d99d222f853295860f1", func := "loop.example/g01127/laws.FnExactIsCover", spec := "fnExactIsCover", unfollowed := true, recurses := true, apart := false }
def FnExactIsCoverSaid : Prop := fnExactIsCoverRow.holds Try.pinned (OpenSpec.ofChange fnExactIsCoverSpec)

/-- ITS FALSE NEIGHBOUR: 'it returns false'. Refute it at one input. -/
def fnExactIsCoverWrong : ChangeSpec := { name := "fnExactIsCover", fn := fun _ => fun
  | [d1, d2] => { results := [.lit (.bool false)], args := [d1, d2] }
  | _ => none }
def FnExactIsCoverWrongFalsely : Prop := fnExactIsCoverRow.holds Try.pinned (OpenSpec.ofChange fnExactIsCoverWrong)

/-- 'laws.FnExactCoverCost': WHATEVER THE INPUT: true; the input reads as it did. -/
def fnExactCoverCostSpec : ChangeSpec := { name := "fnExactCoverCost", fn := fun _ => fun
  | [d1, d2] => { results := [.lit (.bool true)], args := [d1, d2] }
  | _ => none }
def fnExactCoverCostRow : OpenClaim := { program := "ytlmegefdnkjcbaa", sum := "c560a8ae59a0b1259301ff12489d0b6c3fe3134147143d99d222f853295860f1", func := "loop.example/g01127/laws.FnExactCoverCost", spec := "fnExactCoverCost", unfollowed := true, recurses := true, apart := false }
def FnExactCoverCostSaid : Prop := fnExactCoverCostRow.holds Try.pinned (OpenSpec.ofChange fnExactCoverCostSpec)

/-- ITS FALSE NEIGHBOUR: 'it returns false'. Refute it at one input. -/
def fnExactCoverCostWrong : ChangeSpec := { name := "fnExactCoverCost", fn := fun _ => fun
  | [d1, d2] => { results := [.lit (.bool false)], args := [d1, d2] }
  | _ => none }
def FnExactCoverCostWrongFalsely : Prop := fnExactCoverCostRow.holds Try.pinned (OpenSpec.ofChange fnExactCoverCostWrong)

/-- 'laws.FnExactCountCovers': WHATEVER THE INPUT: true; the input reads as it did. -/
def fnExactCountCoversSpec : ChangeSpec := { name := "fnExactCountCovers", fn := fun _ => fun
  | [d] => { results := [.lit (.bool true)], args := [d] }
  | _ => none }
def fnExactCountCoversRow : OpenClaim := { program := "ytlmegefdnkjcbaa", sum := "c560a8ae59a0b1259301ff12489d0b6c3fe3134147143d99d222f853295860f1", func := "loop.example/g01127/laws.FnExactCountCovers", spec := "fnExactCountCovers", unfollowed := true, recurses := true, apart := false }
def FnExactCountCoversSaid : Prop := fnExactCountCoversRow.holds Try.pinned (OpenSpec.ofChange fnExactCountCoversSpec)

/-- ITS FALSE NEIGHBOUR: 'it returns false'. Refute it at one input. -/
def fnExactCountCoversWrong : ChangeSpec := { name := "fnExactCountCovers", fn := fun _ => fun
  | [d] => { results := [.lit (.bool false)], args := [d] }
  | _ => none }
def FnExactCountCoversWrongFalsely : Prop := fnExactCountCoversRow.holds Try.pinned (OpenSpec.ofChange fnExactCountCoversWrong)

/-- 'laws.FnExactLargestCover': WHATEVER THE INPUT: true; the input reads as it did. -/
def fnExactLargestCoverSpec : ChangeSpec := { name := "fnExactLargestCover", fn := fun _ => fun
  | [d] => { results := [.lit (.bool true)], args := [d] }
  | _ => none }
def fnExactLargestCoverRow : OpenClaim := { program := "ytlmegefdnkjcbaa", sum := "c560a8ae59a0b1259301ff12489d0b6c3fe3134147143d99d222f853295860f1", func := "loop.example/g01127/laws.FnExactLargestCover", spec := "fnExactLargestCover", unfollowed := true, recurses := true, apart := false }
def FnExactLargestCoverSaid : Prop := fnExactLargestCoverRow.holds Try.pinned (OpenSpec.ofChange fnExactLargestCoverSpec)

/-- ITS FALSE NEIGHBOUR: 'it returns false'. Refute it at one input. -/
def fnExactLargestCoverWrong : ChangeSpec := { name := "fnExactLargestCover", fn := fun _ => fun
  | [d] => { results := [.lit (.bool false)], args := [d] }
  | _ => none }
def FnExactLargestCoverWrongFalsely : Prop := fnExactLargestCoverRow.holds Try.pinned (OpenSpec.ofChange fnExactLargestCoverWrong)

/-- 'laws.FnExactTileUses': WHATEVER THE INPUT: true; the input reads as it did. -/
def fnExactTileUsesSpec : ChangeSpec := { name := "fnExactTileUses", fn := fun _ => fun
  | [d1, d2] => { results := [.lit (.bool true)], args := [d1, d2] }
  | _ => none }
def fnExactTileUsesRow : OpenClaim := { program := "ytlmegefdnkjcbaa", sum := "c560a8ae59a0b1259301ff12489d0b6c3fe3134147143d99d222f853295860f1", func := "loop.example/g01127/laws.FnExactTileUses", spec := "fnExactTileUses", unfollowed := true, recurses := true, apart := false }
def FnExactTileUsesSaid : Prop := fnExactTileUsesRow.holds Try.pinned (OpenSpec.ofChange fnExactTileUsesSpec)

/-- ITS FALSE NEIGHBOUR: 'it returns false'. Refute it at one input. -/
def fnExactTileUsesWrong : ChangeSpec := { name := "fnExactTileUses", fn := fun _ => fun
  | [d1, d2] => { results := [.lit (.bool false)], args := [d1, d2] }
  | _ => none }
def FnExactTileUsesWrongFalsely : Prop := fnExactTileUsesRow.holds Try.pinned (OpenSpec.ofChange fnExactTileUsesWrong)

/- THE SECOND FORM. 'bulk': how many values and letters a reading holds, each counted each time it is reached (what is shared counts as often as it is met; a slice's spare places count too). A statement '..UptoSaid' is the law's where the arguments, and the package variables that the reading takes, are together of bulk at most 1048576: NARROWER than '..Said'. Prove '..Said' where nothing that the law and all that it calls make is longer than what came in: it says more and counts as full. Else prove '..UptoSaid'. A law counts once. -/
mutual
def uptoBulk {H : Type} : DataW H → Nat
  | .lit (.string bytes) => bytes.length + 1
  | .lit _ => 1
  | .nil => 1
  | .ptr d => uptoBulk d + 1
  | .slice elems spare => uptoBulkAll elems + uptoBulkAll spare + 1
  | .agg parts => uptoBulkAll parts + 1
  | .iface _ d => uptoBulk d + 1
  | .map entries => uptoBulkEntries entries + 1
  | .held _ => 1
def uptoBulkAll {H : Type} : List (DataW H) → Nat
  | [] => 0
  | d :: r => uptoBulk d + uptoBulkAll r
def uptoBulkEntries {H : Type} : List (Lit × DataW H) → Nat
  | [] => 0
  | x :: r => uptoBulkEntry x + uptoBulkEntries r
def uptoBulkEntry {H : Type} : Lit × DataW H → Nat
  | (.string bytes, d) => bytes.length + uptoBulk d + 1
  | (_, d) => uptoBulk d + 1
 end
def uptoSmall : (H : Type) → List (DataW H) → Bool := fun _ ds => decide (uptoBulkAll ds ≤ 1048576)
def OpenSpec.upto (s : _root_.Go.ChangeSpec) : _root_.Go.OpenSpec := { _root_.Go.OpenSpec.ofChange s with cond := some uptoSmall }

/-- 'laws.FnExactTileCost', WHERE WHAT IT READS IS OF BULK AT MOST 1048576: true; the input reads as it did. -/
def fnExactTileCostUptoRow : OpenClaim := { program := "ytlmegefdnkjcbaa", sum := "c560a8ae59a0b1259301ff12489d0b6c3fe3134147143d99d222f853295860f1", func := "loop.example/g01127/laws.FnExactTileCost", spec := "fnExactTileCost", unfollowed := true, recurses := true, apart := false, narrowed := true }
def FnExactTileCostUptoSaid : Prop := fnExactTileCostUptoRow.holds Try.pinned (OpenSpec.upto fnExactTileCostSpec)

/-- 'laws.FnExactTileInner', WHERE WHAT IT READS IS OF BULK AT MOST 1048576: true; the input reads as it did. -/
def fnExactTileInnerUptoRow : OpenClaim := { program := "ytlmegefdnkjcbaa", sum := "c560a8ae59a0b1259301ff12489d0b6c3fe3134147143d99d222f853295860f1", func := "loop.example/g01127/laws.FnExactTileInner", spec := "fnExactTileInner", unfollowed := true, recurses := true, apart := false, narrowed := true }
def FnExactTileInnerUptoSaid : Prop := fnExactTileInnerUptoRow.holds Try.pinned (OpenSpec.upto fnExactTileInnerSpec)

/-- 'laws.FnExactTileParts', WHERE WHAT IT READS IS OF BULK AT MOST 1048576: true; the input reads as it did. -/
def fnExactTilePartsUptoRow : OpenClaim := { program := "ytlmegefdnkjcbaa", sum := "c560a8ae59a0b1259301ff12489d0b6c3fe3134147143d99d222f853295860f1", func := "loop.example/g01127/laws.FnExactTileParts", spec := "fnExactTileParts", unfollowed := true, recurses := true, apart := false, narrowed := true }
def FnExactTilePartsUptoSaid : Prop := fnExactTilePartsUptoRow.holds Try.pinned (OpenSpec.upto fnExactTilePartsSpec)

/-- 'laws.FnExactTilesAt', WHERE WHAT IT READS IS OF BULK AT MOST 1048576: true; the input reads as it did. -/
def fnExactTilesAtUptoRow : OpenClaim := { program := "ytlmegefdnkjcbaa", sum := "c560a8ae59a0b1259301ff12489d0b6c3fe3134147143d99d222f853295860f1", func := "loop.example/g01127/laws.FnExactTilesAt", spec := "fnExactTilesAt", unfollowed := true, recurses := true, apart := false, narrowed := true }
def FnExactTilesAtUptoSaid : Prop := fnExactTilesAtUptoRow.holds Try.pinned (OpenSpec.upto fnExactTilesAtSpec)

/-- 'laws.FnExactUnfairAt', WHERE WHAT IT READS IS OF BULK AT MOST 1048576: true; the input reads as it did. -/
def fnExactUnfairAtUptoRow : OpenClaim := { program := "ytlmegefdnkjcbaa", sum := "c560a8ae59a0b1259301ff12489d0b6c3fe3134147143d99d222f853295860f1", func := "loop.example/g01127/laws.FnExactUnfairAt", spec := "fnExactUnfairAt", unfollowed := true, recurses := true, apart := false, narrowed := true }
def FnExactUnfairAtUptoSaid : Prop := fnExactUnfairAtUptoRow.holds Try.pinned (OpenSpec.upto fnExactUnfairAtSpec)

/-- 'laws.FnExactAreFair', WHERE WHAT IT READS IS OF BULK AT MOST 1048576: true; the input reads as it did. -/
def fnExactAreFairUptoRow : OpenClaim := { program := "ytlmegefdnkjcbaa", sum := "c560a8ae59a0b1259301ff12489d0b6c3fe3134147143d99d222f853295860f1", func := "loop.example/g01127/laws.FnExactAreFair", spec := "fnExactAreFair", unfollowed := true, recurses := true, apart := false, narrowed := true }
def FnExactAreFairUptoSaid : Prop := fnExactAreFairUptoRow.holds Try.pinned (OpenSpec.upto fnExactAreFairSpec)

/-- 'laws.FnExactPricesOf', WHERE WHAT IT READS IS OF BULK AT MOST 1048576: true; the input reads as it did. -/
def fnExactPricesOfUptoRow : OpenClaim := { program := "ytlmegefdnkjcbaa", sum := "c560a8ae59a0b1259301ff12489d0b6c3fe3134147143d99d222f853295860f1", func := "loop.example/g01127/laws.FnExactPricesOf", spec := "fnExactPricesOf", unfollowed := true, recurses := true, apart := false, narrowed := true }
def FnExactPricesOfUptoSaid : Prop := fnExactPricesOfUptoRow.holds Try.pinned (OpenSpec.upto fnExactPricesOfSpec)

/-- 'laws.FnExactIsCover', WHERE WHAT IT READS IS OF BULK AT MOST 1048576: true; the input reads as it did. -/
def fnExactIsCoverUptoRow : OpenClaim := { program := "ytlmegefdnkjcbaa", sum := "c560a8ae59a0b1259301ff12489d0b6c3fe3134147143d99d222f853295860f1", func := "loop.example/g01127/laws.FnExactIsCover", spec := "fnExactIsCover", unfollowed := true, recurses := true, apart := false, narrowed := true }
def FnExactIsCoverUptoSaid : Prop := fnExactIsCoverUptoRow.holds Try.pinned (OpenSpec.upto fnExactIsCoverSpec)

/-- 'laws.FnExactCoverCost', WHERE WHAT IT READS IS OF BULK AT MOST 1048576: true; the input reads as it did. -/
def fnExactCoverCostUptoRow : OpenClaim := { program := "ytlmegefdnkjcbaa", sum := "c560a8ae59a0b1259301ff12489d0b6c3fe3134147143d99d222f853295860f1", func := "loop.example/g01127/laws.FnExactCoverCost", spec := "fnExactCoverCost", unfollowed := true, recurses := true, apart := false, narrowed := true }
def FnExactCoverCostUptoSaid : Prop := fnExactCoverCostUptoRow.holds Try.pinned (OpenSpec.upto fnExactCoverCostSpec)

/-- 'laws.FnExactCountCovers', WHERE WHAT IT READS IS OF BULK AT MOST 1048576: true; the input reads as it did. -/
def fnExactCountCoversUptoRow : OpenClaim := { program := "ytlmegefdnkjcbaa", sum := "c560a8ae59a0b1259301ff12489d0b6c3fe3134147143d99d222f853295860f1", func := "loop.example/g01127/laws.FnExactCountCovers", spec := "fnExactCountCovers", unfollowed := true, recurses := true, apart := false, narrowed := true }
def FnExactCountCoversUptoSaid : Prop := fnExactCountCoversUptoRow.holds Try.pinned (OpenSpec.upto fnExactCountCoversSpec)

/-- 'laws.FnExactLargestCover', WHERE WHAT IT READS IS OF BULK AT MOST 1048576: true; the input reads as it did. -/
def fnExactLargestCoverUptoRow : OpenClaim := { program := "ytlmegefdnkjcbaa", sum := "c560a8ae59a0b1259301ff12489d0b6c3fe3134147143d99d222f853295860f1", func := "loop.example/g01127/laws.FnExactLargestCover", spec := "fnExactLargestCover", unfollowed := true, recurses := true, apart := false, narrowed := true }
def FnExactLargestCoverUptoSaid : Prop := fnExactLargestCoverUptoRow.holds Try.pinned (OpenSpec.upto fnExactLargestCoverSpec)

/-- 'laws.FnExactTileUses', WHERE WHAT IT READS IS OF BULK AT MOST 1048576: true; the input reads as it did. -/
def fnExactTileUsesUptoRow : OpenClaim := { program := "ytlmegefdnkjcbaa", sum := "c560a8ae59a0b1259301ff12489d0b6c3fe3134147143d99d222f853295860f1", func := "loop.example/g01127/laws.FnExactTileUses", spec := "fnExactTileUses", unfollowed := true, recurses := true, apart := false, narrowed := true }
def FnExactTileUsesUptoSaid : Prop := fnExactTileUsesUptoRow.holds Try.pinned (OpenSpec.upto fnExactTileUsesSpec)

end Rows
end Go.Proofs.Ytlmegefdnkjcbaa
