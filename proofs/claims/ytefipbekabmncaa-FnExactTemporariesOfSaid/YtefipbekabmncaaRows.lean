/-
  No cell of these rows narrows 'for every input' (looked for: loops, veiled, ifaces, maps, wideKeys, modest, calm, conditions, laid).
  DERIVED. THE GIVEN ROWS OF THIS SEAT. 11 by the template 'for every input the law returns true; each argument reads behind the call as it read before'; 0 by the template 'total and deterministic' (their statements: YtefipbekabmncaaTotals.lean).
  GIVEN WITH THE SEED: the statements are not yours to turn. If you find one false, say at which input.
  Laid BY PROGRAM, IN A SANDBOX (cutbox-rows.mjs): the forced cells as the released guide's own fill.sh prints them over the translation a06559bab3543d4e… (all of the seat's roots in one cut). By AI agents, Wed Nov 11 2026. No macro, syntax, notation, axiom, sorry.
-/
import Derived.Test.YtefipbekabmncaaChecked
import GoSem.Claim
import GoSem.ClaimJoined
import GoSem.ClaimMapViews
import Derived.JoinedTies
import Derived.KernelRfl
namespace Go.Proofs.Ytefipbekabmncaa
/- THE CELL 'sum', in the pinned program and in every row, IS THE sha256 OF THE DUMP (.gsa) THAT YtefipbekabmncaaProg.lean LOADS. Nothing in Lean hashes anything: it is a label: what it is worth is what the hold of that sum in a sandbox is worth. -/
noncomputable def Try.pinned : Pinned := { name := "ytefipbekabmncaa", sum := "a06559bab3543d4e8fda49bff0f11cf947c223f4ac985847190fce7851d4ba7b", checked := Try.checked }
namespace Rows
def none {H : Type} : Left H := { results := [], args := [] }

/-- 'laws.FnExactFitsSide': WHATEVER THE INPUT: true; the input reads as it did. -/
def fnExactFitsSideSpec : ChangeSpec := { name := "fnExactFitsSide", fn := fun _ => fun
  | [d1, d2] => { results := [.lit (.bool true)], args := [d1, d2] }
  | _ => none }
def fnExactFitsSideRow : OpenClaim := { program := "ytefipbekabmncaa", sum := "a06559bab3543d4e8fda49bff0f11cf947c223f4ac985847190fce7851d4ba7b", func := "loop.example/g01127/laws.FnExactFitsSide", spec := "fnExactFitsSide", apart := false }
def FnExactFitsSideSaid : Prop := fnExactFitsSideRow.holds Try.pinned (OpenSpec.ofChange fnExactFitsSideSpec)

/-- ITS FALSE NEIGHBOUR: 'it returns false'. Refute it at one input. -/
def fnExactFitsSideWrong : ChangeSpec := { name := "fnExactFitsSide", fn := fun _ => fun
  | [d1, d2] => { results := [.lit (.bool false)], args := [d1, d2] }
  | _ => none }
def FnExactFitsSideWrongFalsely : Prop := fnExactFitsSideRow.holds Try.pinned (OpenSpec.ofChange fnExactFitsSideWrong)

/-- 'laws.FnExactTemporariesOf': WHATEVER THE INPUT: true; the input reads as it did. -/
def fnExactTemporariesOfSpec : ChangeSpec := { name := "fnExactTemporariesOf", fn := fun _ => fun
  | [d] => { results := [.lit (.bool true)], args := [d] }
  | _ => none }
def fnExactTemporariesOfRow : OpenClaim := { program := "ytefipbekabmncaa", sum := "a06559bab3543d4e8fda49bff0f11cf947c223f4ac985847190fce7851d4ba7b", func := "loop.example/g01127/laws.FnExactTemporariesOf", spec := "fnExactTemporariesOf", unfollowed := true, recurses := true, apart := false }
def FnExactTemporariesOfSaid : Prop := fnExactTemporariesOfRow.holds Try.pinned (OpenSpec.ofChange fnExactTemporariesOfSpec)

/-- ITS FALSE NEIGHBOUR: 'it returns false'. Refute it at one input. -/
def fnExactTemporariesOfWrong : ChangeSpec := { name := "fnExactTemporariesOf", fn := fun _ => fun
  | [d] => { results := [.lit (.bool false)], args := [d] }
  | _ => none }
def FnExactTemporariesOfWrongFalsely : Prop := fnExactTemporariesOfRow.holds Try.pinned (OpenSpec.ofChange fnExactTemporariesOfWrong)

/-- 'laws.FnExactIsChoice': WHATEVER THE INPUT: true; the input reads as it did. -/
def fnExactIsChoiceSpec : ChangeSpec := { name := "fnExactIsChoice", fn := fun _ => fun
  | [d] => { results := [.lit (.bool true)], args := [d] }
  | _ => none }
def fnExactIsChoiceRow : OpenClaim := { program := "ytefipbekabmncaa", sum := "a06559bab3543d4e8fda49bff0f11cf947c223f4ac985847190fce7851d4ba7b", func := "loop.example/g01127/laws.FnExactIsChoice", spec := "fnExactIsChoice", apart := false }
def FnExactIsChoiceSaid : Prop := fnExactIsChoiceRow.holds Try.pinned (OpenSpec.ofChange fnExactIsChoiceSpec)

/-- ITS FALSE NEIGHBOUR: 'it returns false'. Refute it at one input. -/
def fnExactIsChoiceWrong : ChangeSpec := { name := "fnExactIsChoice", fn := fun _ => fun
  | [d] => { results := [.lit (.bool false)], args := [d] }
  | _ => none }
def FnExactIsChoiceWrongFalsely : Prop := fnExactIsChoiceRow.holds Try.pinned (OpenSpec.ofChange fnExactIsChoiceWrong)

/-- 'laws.FnExactCostOfExpr': WHATEVER THE INPUT: true; the input reads as it did. -/
def fnExactCostOfExprSpec : ChangeSpec := { name := "fnExactCostOfExpr", fn := fun _ => fun
  | [d] => { results := [.lit (.bool true)], args := [d] }
  | _ => none }
def fnExactCostOfExprRow : OpenClaim := { program := "ytefipbekabmncaa", sum := "a06559bab3543d4e8fda49bff0f11cf947c223f4ac985847190fce7851d4ba7b", func := "loop.example/g01127/laws.FnExactCostOfExpr", spec := "fnExactCostOfExpr", apart := false }
def FnExactCostOfExprSaid : Prop := fnExactCostOfExprRow.holds Try.pinned (OpenSpec.ofChange fnExactCostOfExprSpec)

/-- ITS FALSE NEIGHBOUR: 'it returns false'. Refute it at one input. -/
def fnExactCostOfExprWrong : ChangeSpec := { name := "fnExactCostOfExpr", fn := fun _ => fun
  | [d] => { results := [.lit (.bool false)], args := [d] }
  | _ => none }
def FnExactCostOfExprWrongFalsely : Prop := fnExactCostOfExprRow.holds Try.pinned (OpenSpec.ofChange fnExactCostOfExprWrong)

/-- 'laws.FnExactIsRule': WHATEVER THE INPUT: true; the input reads as it did. -/
def fnExactIsRuleSpec : ChangeSpec := { name := "fnExactIsRule", fn := fun _ => fun
  | [d] => { results := [.lit (.bool true)], args := [d] }
  | _ => none }
def fnExactIsRuleRow : OpenClaim := { program := "ytefipbekabmncaa", sum := "a06559bab3543d4e8fda49bff0f11cf947c223f4ac985847190fce7851d4ba7b", func := "loop.example/g01127/laws.FnExactIsRule", spec := "fnExactIsRule", unfollowed := true, recurses := true, apart := false }
def FnExactIsRuleSaid : Prop := fnExactIsRuleRow.holds Try.pinned (OpenSpec.ofChange fnExactIsRuleSpec)

/-- ITS FALSE NEIGHBOUR: 'it returns false'. Refute it at one input. -/
def fnExactIsRuleWrong : ChangeSpec := { name := "fnExactIsRule", fn := fun _ => fun
  | [d] => { results := [.lit (.bool false)], args := [d] }
  | _ => none }
def FnExactIsRuleWrongFalsely : Prop := fnExactIsRuleRow.holds Try.pinned (OpenSpec.ofChange fnExactIsRuleWrong)

/-- 'laws.FnExactIsFalling': WHATEVER THE INPUT: true; the input reads as it did. -/
def fnExactIsFallingSpec : ChangeSpec := { name := "fnExactIsFalling", fn := fun _ => fun
  | [d] => { results := [.lit (.bool true)], args := [d] }
  | _ => none }
def fnExactIsFallingRow : OpenClaim := { program := "ytefipbekabmncaa", sum := "a06559bab3543d4e8fda49bff0f11cf947c223f4ac985847190fce7851d4ba7b", func := "loop.example/g01127/laws.FnExactIsFalling", spec := "fnExactIsFalling", unfollowed := true, recurses := true, apart := false }
def FnExactIsFallingSaid : Prop := fnExactIsFallingRow.holds Try.pinned (OpenSpec.ofChange fnExactIsFallingSpec)

/-- ITS FALSE NEIGHBOUR: 'it returns false'. Refute it at one input. -/
def fnExactIsFallingWrong : ChangeSpec := { name := "fnExactIsFalling", fn := fun _ => fun
  | [d] => { results := [.lit (.bool false)], args := [d] }
  | _ => none }
def FnExactIsFallingWrongFalsely : Prop := fnExactIsFallingRow.holds Try.pinned (OpenSpec.ofChange fnExactIsFallingWrong)

/-- 'laws.FnExactMatchAt': WHATEVER THE INPUT: true; the input reads as it did. -/
def fnExactMatchAtSpec : ChangeSpec := { name := "fnExactMatchAt", fn := fun _ => fun
  | [d1, d2, d3] => { results := [.lit (.bool true)], args := [d1, d2, d3] }
  | _ => none }
def fnExactMatchAtRow : OpenClaim := { program := "ytefipbekabmncaa", sum := "a06559bab3543d4e8fda49bff0f11cf947c223f4ac985847190fce7851d4ba7b", func := "loop.example/g01127/laws.FnExactMatchAt", spec := "fnExactMatchAt", unfollowed := true, recurses := true, apart := false }
def FnExactMatchAtSaid : Prop := fnExactMatchAtRow.holds Try.pinned (OpenSpec.ofChange fnExactMatchAtSpec)

/-- ITS FALSE NEIGHBOUR: 'it returns false'. Refute it at one input. -/
def fnExactMatchAtWrong : ChangeSpec := { name := "fnExactMatchAt", fn := fun _ => fun
  | [d1, d2, d3] => { results := [.lit (.bool false)], args := [d1, d2, d3] }
  | _ => none }
def FnExactMatchAtWrongFalsely : Prop := fnExactMatchAtRow.holds Try.pinned (OpenSpec.ofChange fnExactMatchAtWrong)

/-- 'laws.FnExactPlacesOf': WHATEVER THE INPUT: true; the input reads as it did. -/
def fnExactPlacesOfSpec : ChangeSpec := { name := "fnExactPlacesOf", fn := fun _ => fun
  | [d1, d2] => { results := [.lit (.bool true)], args := [d1, d2] }
  | _ => none }
def fnExactPlacesOfRow : OpenClaim := { program := "ytefipbekabmncaa", sum := "a06559bab3543d4e8fda49bff0f11cf947c223f4ac985847190fce7851d4ba7b", func := "loop.example/g01127/laws.FnExactPlacesOf", spec := "fnExactPlacesOf", unfollowed := true, recurses := true, apart := false }
def FnExactPlacesOfSaid : Prop := fnExactPlacesOfRow.holds Try.pinned (OpenSpec.ofChange fnExactPlacesOfSpec)

/-- ITS FALSE NEIGHBOUR: 'it returns false'. Refute it at one input. -/
def fnExactPlacesOfWrong : ChangeSpec := { name := "fnExactPlacesOf", fn := fun _ => fun
  | [d1, d2] => { results := [.lit (.bool false)], args := [d1, d2] }
  | _ => none }
def FnExactPlacesOfWrongFalsely : Prop := fnExactPlacesOfRow.holds Try.pinned (OpenSpec.ofChange fnExactPlacesOfWrong)

/-- 'laws.FnExactDifferenceOf': WHATEVER THE INPUT: true; the input reads as it did. -/
def fnExactDifferenceOfSpec : ChangeSpec := { name := "fnExactDifferenceOf", fn := fun _ => fun
  | [d1, d2, d3] => { results := [.lit (.bool true)], args := [d1, d2, d3] }
  | _ => none }
def fnExactDifferenceOfRow : OpenClaim := { program := "ytefipbekabmncaa", sum := "a06559bab3543d4e8fda49bff0f11cf947c223f4ac985847190fce7851d4ba7b", func := "loop.example/g01127/laws.FnExactDifferenceOf", spec := "fnExactDifferenceOf", unfollowed := true, recurses := true, apart := false }
def FnExactDifferenceOfSaid : Prop := fnExactDifferenceOfRow.holds Try.pinned (OpenSpec.ofChange fnExactDifferenceOfSpec)

/-- ITS FALSE NEIGHBOUR: 'it returns false'. Refute it at one input. -/
def fnExactDifferenceOfWrong : ChangeSpec := { name := "fnExactDifferenceOf", fn := fun _ => fun
  | [d1, d2, d3] => { results := [.lit (.bool false)], args := [d1, d2, d3] }
  | _ => none }
def FnExactDifferenceOfWrongFalsely : Prop := fnExactDifferenceOfRow.holds Try.pinned (OpenSpec.ofChange fnExactDifferenceOfWrong)

/-- 'laws.FnExactComputesExpr': WHATEVER THE INPUT: true; the input reads as it did. -/
def fnExactComputesExprSpec : ChangeSpec := { name := "fnExactComputesExpr", fn := fun _ => fun
  | [d1, d2, d3] => { results := [.lit (.bool true)], args := [d1, d2, d3] }
  | _ => none }
def fnExactComputesExprRow : OpenClaim := { program := "ytefipbekabmncaa", sum := "a06559bab3543d4e8fda49bff0f11cf947c223f4ac985847190fce7851d4ba7b", func := "loop.example/g01127/laws.FnExactComputesExpr", spec := "fnExactComputesExpr", unfollowed := true, recurses := true, apart := false }
def FnExactComputesExprSaid : Prop := fnExactComputesExprRow.holds Try.pinned (OpenSpec.ofChange fnExactComputesExprSpec)

/-- ITS FALSE NEIGHBOUR: 'it returns false'. Refute it at one input. -/
def fnExactComputesExprWrong : ChangeSpec := { name := "fnExactComputesExpr", fn := fun _ => fun
  | [d1, d2, d3] => { results := [.lit (.bool false)], args := [d1, d2, d3] }
  | _ => none }
def FnExactComputesExprWrongFalsely : Prop := fnExactComputesExprRow.holds Try.pinned (OpenSpec.ofChange fnExactComputesExprWrong)

/-- 'laws.FnExactCountRefuting': WHATEVER THE INPUT: true; the input reads as it did. -/
def fnExactCountRefutingSpec : ChangeSpec := { name := "fnExactCountRefuting", fn := fun _ => fun
  | [d] => { results := [.lit (.bool true)], args := [d] }
  | _ => none }
def fnExactCountRefutingRow : OpenClaim := { program := "ytefipbekabmncaa", sum := "a06559bab3543d4e8fda49bff0f11cf947c223f4ac985847190fce7851d4ba7b", func := "loop.example/g01127/laws.FnExactCountRefuting", spec := "fnExactCountRefuting", unfollowed := true, recurses := true, apart := false }
def FnExactCountRefutingSaid : Prop := fnExactCountRefutingRow.holds Try.pinned (OpenSpec.ofChange fnExactCountRefutingSpec)

/-- ITS FALSE NEIGHBOUR: 'it returns false'. Refute it at one input. -/
def fnExactCountRefutingWrong : ChangeSpec := { name := "fnExactCountRefuting", fn := fun _ => fun
  | [d] => { results := [.lit (.bool false)], args := [d] }
  | _ => none }
def FnExactCountRefutingWrongFalsely : Prop := fnExactCountRefutingRow.holds Try.pinned (OpenSpec.ofChange fnExactCountRefutingWrong)

/- THE SECOND FORM. 'bulk': how many values and letters a reading holds, each counted each time it is reached (what is shared counts as often as it is met; a slice's spare places count too). A statement '..UptoSaid' is the law's where the arguments, and the package variables that the reading takes, are together of bulk at most 1048576: NARROWER than '..Said'. Prove '..Said' where nothing that the law and all that it calls make is longer than what came in: it says more and counts as full. Else prove '..UptoSaid'. A law counts once. -/
mutual
def uptoBulk {H : Type} : DataW H → Nat
  | .lit (.string bytes) => bytes.length + 1
  | .lit _ => 1
  | .nil => 1
  | .ptr d => uptoBulk d + 1
  | .slice elems spare => uptoBulkAll elems + uptoBulkAll spare + 1
  | .agg parts => uptoBulkAll parts + 1
  | .iface _ d => uptoBulk d + 1
  | .map entries => uptoBulkEntries entries + 1
  | .held _ => 1
def uptoBulkAll {H : Type} : List (DataW H) → Nat
  | [] => 0
  | d :: r => uptoBulk d + uptoBulkAll r
def uptoBulkEntries {H : Type} : List (Lit × DataW H) → Nat
  | [] => 0
  | x :: r => uptoBulkEntry x + uptoBulkEntries r
def uptoBulkEntry {H : Type} : Lit × DataW H → Nat
  | (.string bytes, d) => bytes.length + uptoBulk d + 1
  | (_, d) => uptoBulk d + 1
 end
def uptoSmall : (H : Type) → List (DataW H) → Bool := fun _ ds => decide (uptoBulkAll ds ≤ 1048576)
def OpenSpec.upto (s : _root_.Go.ChangeSpec) : _root_.Go.OpenSpec := { _root_.Go.OpenSpec.ofChange s with cond := some uptoSmall }

/-- 'laws.FnExactFitsSide', WHERE WHAT IT READS IS OF BULK AT MOST 1048576: true; the input reads as it did. -/
def fnExactFitsSideUptoRow : OpenClaim := { program := "ytefipbekabmncaa", sum := "a06559bab3543d4e8fda49bff0f11cf947c223f4ac985847190fce7851d4ba7b", func := "loop.example/g01127/laws.FnExactFitsSide", spec := "fnExactFitsSide", apart := false, narrowed := true }
def FnExactFitsSideUptoSaid : Prop := fnExactFitsSideUptoRow.holds Try.pinned (OpenSpec.upto fnExactFitsSideSpec)

/-- 'laws.FnExactTemporariesOf', WHERE WHAT IT READS IS OF BULK AT MOST 1048576: true; the input reads as it did. -/
def fnExactTemporariesOfUptoRow : OpenClaim := { program := "ytefipbekabmncaa", sum := "a06559bab3543d4e8fda49bff0f11cf947c223f4ac985847190fce7851d4ba7b", func := "loop.example/g01127/laws.FnExactTemporariesOf", spec := "fnExactTemporariesOf", unfollowed := true, recurses := true, apart := false, narrowed := true }
def FnExactTemporariesOfUptoSaid : Prop := fnExactTemporariesOfUptoRow.holds Try.pinned (OpenSpec.upto fnExactTemporariesOfSpec)

/-- 'laws.FnExactIsChoice', WHERE WHAT IT READS IS OF BULK AT MOST 1048576: true; the input reads as it did. -/
def fnExactIsChoiceUptoRow : OpenClaim := { program := "ytefipbekabmncaa", sum := "a06559bab3543d4e8fda49bff0f11cf947c223f4ac985847190fce7851d4ba7b", func := "loop.example/g01127/laws.FnExactIsChoice", spec := "fnExactIsChoice", apart := false, narrowed := true }
def FnExactIsChoiceUptoSaid : Prop := fnExactIsChoiceUptoRow.holds Try.pinned (OpenSpec.upto fnExactIsChoiceSpec)

/-- 'laws.FnExactCostOfExpr', WHERE WHAT IT READS IS OF BULK AT MOST 1048576: true; the input reads as it did. -/
def fnExactCostOfExprUptoRow : OpenClaim := { program := "ytefipbekabmncaa", sum := "a06559bab3543d4e8fda49bff0f11cf947c223f4ac985847190fce7851d4ba7b", func := "loop.example/g01127/laws.FnExactCostOfExpr", spec := "fnExactCostOfExpr", apart := false, narrowed := true }
def FnExactCostOfExprUptoSaid : Prop := fnExactCostOfExprUptoRow.holds Try.pinned (OpenSpec.upto fnExactCostOfExprSpec)

/-- 'laws.FnExactIsRule', WHERE WHAT IT READS IS OF BULK AT MOST 1048576: true; the input reads as it did. -/
def fnExactIsRuleUptoRow : OpenClaim := { program := "ytefipbekabmncaa", sum := "a06559bab3543d4e8fda49bff0f11cf947c223f4ac985847190fce7851d4ba7b", func := "loop.example/g01127/laws.FnExactIsRule", spec := "fnExactIsRule", unfollowed := true, recurses := true, apart := false, narrowed := true }
def FnExactIsRuleUptoSaid : Prop := fnExactIsRuleUptoRow.holds Try.pinned (OpenSpec.upto fnExactIsRuleSpec)

/-- 'laws.FnExactIsFalling', WHERE WHAT IT READS IS OF BULK AT MOST 1048576: true; the input reads as it did. -/
def fnExactIsFallingUptoRow : OpenClaim := { program := "ytefipbekabmncaa", sum := "a06559bab3543d4e8fda49bff0f11cf947c223f4ac985847190fce7851d4ba7b", func := "loop.example/g01127/laws.FnExactIsFalling", spec := "fnExactIsFalling", unfollowed := true, recurses := true, apart := false, narrowed := true }
def FnExactIsFallingUptoSaid : Prop := fnExactIsFallingUptoRow.holds Try.pinned (OpenSpec.upto fnExactIsFallingSpec)

/-- 'laws.FnExactMatchAt', WHERE WHAT IT READS IS OF BULK AT MOST 1048576: true; the input reads as it did. -/
def fnExactMatchAtUptoRow : OpenClaim := { program := "ytefipbekabmncaa", sum := "a06559bab3543d4e8fda49bff0f11cf947c223f4ac985847190fce7851d4ba7b", func := "loop.example/g01127/laws.FnExactMatchAt", spec := "fnExactMatchAt", unfollowed := true, recurses := true, apart := false, narrowed := true }
def FnExactMatchAtUptoSaid : Prop := fnExactMatchAtUptoRow.holds Try.pinned (OpenSpec.upto fnExactMatchAtSpec)

/-- 'laws.FnExactPlacesOf', WHERE WHAT IT READS IS OF BULK AT MOST 1048576: true; the input reads as it did. -/
def fnExactPlacesOfUptoRow : OpenClaim := { program := "ytefipbekabmncaa", sum := "a06559bab3543d4e8fda49bff0f11cf947c223f4ac985847190fce7851d4ba7b", func := "loop.example/g01127/laws.FnExactPlacesOf", spec := "fnExactPlacesOf", unfollowed := true, recurses := true, apart := false, narrowed := true }
def FnExactPlacesOfUptoSaid : Prop := fnExactPlacesOfUptoRow.holds Try.pinned (OpenSpec.upto fnExactPlacesOfSpec)

/-- 'laws.FnExactDifferenceOf', WHERE WHAT IT READS IS OF BULK AT MOST 1048576: true; the input reads as it did. -/
def fnExactDifferenceOfUptoRow : OpenClaim := { program := "ytefipbekabmncaa", sum := "a06559bab3543d4e8fda49bff0f11cf947c223f4ac985847190fce7851d4ba7b", func := "loop.example/g01127/laws.FnExactDifferenceOf", spec := "fnExactDifferenceOf", unfollowed := true, recurses := true, apart := false, narrowed := true }
def FnExactDifferenceOfUptoSaid : Prop := fnExactDifferenceOfUptoRow.holds Try.pinned (OpenSpec.upto fnExactDifferenceOfSpec)

/-- 'laws.FnExactComputesExpr', WHERE WHAT IT READS IS OF BULK AT MOST 1048576: true; the input reads as it did. -/
def fnExactComputesExprUptoRow : OpenClaim := { program := "ytefipbekabmncaa", sum := "a06559bab3543d4e8fda49bff0f11cf947c223f4ac985847190fce7851d4ba7b", func := "loop.example/g01127/laws.FnExactComputesExpr", spec := "fnExactComputesExpr", unfollowed := true, recurses := true, apart := false, narrowed := true }
def FnExactComputesExprUptoSaid : Prop := fnExactComputesExprUptoRow.holds Try.pinned (OpenSpec.upto fnExactComputesExprSpec)

/-- 'laws.FnExactCountRefuting', WHERE WHAT IT READS IS OF BULK AT MOST 1048576: true; the input reads as it did. -/
def fnExactCountRefutingUptoRow : OpenClaim := { program := "ytefipbekabmncaa", sum := "a06559bab3543d4e8fda49bff0f11cf947c223f4ac985847190fce7851d4ba7b", func := "loop.example/g01127/laws.FnExactCountRefuting", spec := "fnExactCountRefuting", unfollowed := true, recurses := true, apart := false, narrowed := true }
def FnExactCountRefutingUptoSaid : Prop := fnExactCountRefutingUptoRow.holds Try.pinned (OpenSpec.upto fnExactCountRefutingSpec)

end Rows
end Go.Proofs.Ytefipbekabmncaa
