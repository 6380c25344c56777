/-
  No cell of these rows narrows 'for every input' (looked for: loops, veiled, ifaces, maps, wideKeys, modest, calm, conditions, laid).
  DERIVED. THE GIVEN ROWS OF THIS SEAT. 10 by the template 'for every input the law returns true; each argument reads behind the call as it read before'; 0 by the template 'total and deterministic' (their statements: YtpnikfhgnlfenaaTotals.lean).
  GIVEN WITH THE SEED: the statements are not yours to turn. If you find one false, say at which input.
  Laid BY PROGRAM, IN A SANDBOX (cutbox-rows.mjs): the forced cells as the released guide's own fill.sh prints them over the translation 0663ffd5b629adc1… (all of the seat's roots in one cut). By AI agents, Wed Nov 11 2026. No macro, syntax, notation, axiom, sorry.
-/
import Derived.Test.YtpnikfhgnlfenaaChecked
import GoSem.Claim
import GoSem.ClaimJoined
import GoSem.ClaimMapViews
import Derived.JoinedTies
import Derived.KernelRfl
namespace Go.Proofs.Ytpnikfhgnlfenaa
/- THE CELL 'sum', in the pinned program and in every row, IS THE sha256 OF THE DUMP (.gsa) THAT YtpnikfhgnlfenaaProg.lean LOADS. Nothing in Lean hashes anything: it is a label: what it is worth is what the hold of that sum in a sandbox is worth. -/
noncomputable def Try.pinned : Pinned := { name := "ytpnikfhgnlfenaa", sum := "0663ffd5b629adc12d9bee852caf651b5f704b4827744d60ab1dc8653c26d5ee", checked := Try.checked }
namespace Rows
def none {H : Type} : Left H := { results := [], args := [] }

/-- 'laws.FnExactIsCover': WHATEVER THE INPUT: true; the input reads as it did. -/
def fnExactIsCoverSpec : ChangeSpec := { name := "fnExactIsCover", fn := fun _ => fun
  | [d1, d2] => { results := [.lit (.bool true)], args := [d1, d2] }
  | _ => none }
def fnExactIsCoverRow : OpenClaim := { program := "ytpnikfhgnlfenaa", sum := "0663ffd5b629adc12d9bee852caf651b5f704b4827744d60ab1dc8653c26d5ee", func := "loop.example/g01127/laws.FnExactIsCover", spec := "fnExactIsCover", unfollowed := true, recurses := true, apart := false }
def FnExactIsCoverSaid : Prop := fnExactIsCoverRow.holds Try.pinned (OpenSpec.ofChange fnExactIsCoverSpec)

/-- ITS FALSE NEIGHBOUR: 'it returns false'. Refute it at one input. -/
def fnExactIsCoverWrong : ChangeSpec := { name := "fnExactIsCover", fn := fun _ => fun
  | [d1, d2] => { results := [.lit (.bool false)], args := [d1, d2] }
  | _ => none }
def FnExactIsCoverWrongFalsely : Prop := fnExactIsCoverRow.holds Try.pinned (OpenSpec.ofChange fnExactIsCoverWrong)

/-- 'laws.FnExactCoverCost': WHATEVER THE INPUT: true; the input reads as it did. -/
def fnExactCoverCostSpec : ChangeSpec := { name := "fnExactCoverCost", fn := fun _ => fun
  | [d1, d2] => { results := [.lit (.bool true)], args := [d1, d2] }
  | _ => none }
def fnExactCoverCostRow : OpenClaim := { program := "ytpnikfhgnlfenaa", sum := "0663ffd5b629adc12d9bee852caf651b5f704b4827744d60ab1dc8653c26d5ee", func := "loop.example/g01127/laws.FnExactCoverCost", spec := "fnExactCoverCost", unfollowed := true, recurses := true, apart := false }
def FnExactCoverCostSaid : Prop := fnExactCoverCostRow.holds Try.pinned (OpenSpec.ofChange fnExactCoverCostSpec)

/-- ITS FALSE NEIGHBOUR: 'it returns false'. Refute it at one input. -/
def fnExactCoverCostWrong : ChangeSpec := { name := "fnExactCoverCost", fn := fun _ => fun
  | [d1, d2] => { results := [.lit (.bool false)], args := [d1, d2] }
  | _ => none }
def FnExactCoverCostWrongFalsely : Prop := fnExactCoverCostRow.holds Try.pinned (OpenSpec.ofChange fnExactCoverCostWrong)

/-- 'laws.FnExactTileUses': WHATEVER THE INPUT: true; the input reads as it did. -/
def fnExactTileUsesSpec : ChangeSpec := { name := "fnExactTileUses", fn := fun _ => fun
  | [d1, d2] => { results := [.lit (.bool true)], args := [d1, d2] }
  | _ => none }
def fnExactTileUsesRow : OpenClaim := { program := "ytpnikfhgnlfenaa", sum := "0663ffd5b629adc12d9bee852caf651b5f704b4827744d60ab1dc8653c26d5ee", func := "loop.example/g01127/laws.FnExactTileUses", spec := "fnExactTileUses", unfollowed := true, recurses := true, apart := false }
def FnExactTileUsesSaid : Prop := fnExactTileUsesRow.holds Try.pinned (OpenSpec.ofChange fnExactTileUsesSpec)

/-- ITS FALSE NEIGHBOUR: 'it returns false'. Refute it at one input. -/
def fnExactTileUsesWrong : ChangeSpec := { name := "fnExactTileUses", fn := fun _ => fun
  | [d1, d2] => { results := [.lit (.bool false)], args := [d1, d2] }
  | _ => none }
def FnExactTileUsesWrongFalsely : Prop := fnExactTileUsesRow.holds Try.pinned (OpenSpec.ofChange fnExactTileUsesWrong)

/-- 'laws.FnExactLargestCover': WHATEVER THE INPUT: true; the input reads as it did. -/
def fnExactLargestCoverSpec : ChangeSpec := { name := "fnExactLargestCover", fn := fun _ => fun
  | [d] => { results := [.lit (.bool true)], args := [d] }
  | _ => none }
def fnExactLargestCoverRow : OpenClaim := { program := "ytpnikfhgnlfenaa", sum := "0663ffd5b629adc12d9bee852caf651b5f704b4827744d60ab1dc8653c26d5ee", func := "loop.example/g01127/laws.FnExactLargestCover", spec := "fnExactLargestCover", unfollowed := true, recurses := true, apart := false }
def FnExactLargestCoverSaid : Prop := fnExactLargestCoverRow.holds Try.pinned (OpenSpec.ofChange fnExactLargestCoverSpec)

/-- ITS FALSE NEIGHBOUR: 'it returns false'. Refute it at one input. -/
def fnExactLargestCoverWrong : ChangeSpec := { name := "fnExactLargestCover", fn := fun _ => fun
  | [d] => { results := [.lit (.bool false)], args := [d] }
  | _ => none }
def FnExactLargestCoverWrongFalsely : Prop := fnExactLargestCoverRow.holds Try.pinned (OpenSpec.ofChange fnExactLargestCoverWrong)

/-- 'laws.FnExactBestCover': WHATEVER THE INPUT: true; the input reads as it did. -/
def fnExactBestCoverSpec : ChangeSpec := { name := "fnExactBestCover", fn := fun _ => fun
  | [d] => { results := [.lit (.bool true)], args := [d] }
  | _ => none }
def fnExactBestCoverRow : OpenClaim := { program := "ytpnikfhgnlfenaa", sum := "0663ffd5b629adc12d9bee852caf651b5f704b4827744d60ab1dc8653c26d5ee", func := "loop.example/g01127/laws.FnExactBestCover", spec := "fnExactBestCover", unfollowed := true, recurses := true, apart := false }
def FnExactBestCoverSaid : Prop := fnExactBestCoverRow.holds Try.pinned (OpenSpec.ofChange fnExactBestCoverSpec)

/-- ITS FALSE NEIGHBOUR: 'it returns false'. Refute it at one input. -/
def fnExactBestCoverWrong : ChangeSpec := { name := "fnExactBestCover", fn := fun _ => fun
  | [d] => { results := [.lit (.bool false)], args := [d] }
  | _ => none }
def FnExactBestCoverWrongFalsely : Prop := fnExactBestCoverRow.holds Try.pinned (OpenSpec.ofChange fnExactBestCoverWrong)

/-- 'laws.FnExactSavedBy': WHATEVER THE INPUT: true; the input reads as it did. -/
def fnExactSavedBySpec : ChangeSpec := { name := "fnExactSavedBy", fn := fun _ => fun
  | [d] => { results := [.lit (.bool true)], args := [d] }
  | _ => none }
def fnExactSavedByRow : OpenClaim := { program := "ytpnikfhgnlfenaa", sum := "0663ffd5b629adc12d9bee852caf651b5f704b4827744d60ab1dc8653c26d5ee", func := "loop.example/g01127/laws.FnExactSavedBy", spec := "fnExactSavedBy", unfollowed := true, recurses := true, apart := false }
def FnExactSavedBySaid : Prop := fnExactSavedByRow.holds Try.pinned (OpenSpec.ofChange fnExactSavedBySpec)

/-- ITS FALSE NEIGHBOUR: 'it returns false'. Refute it at one input. -/
def fnExactSavedByWrong : ChangeSpec := { name := "fnExactSavedBy", fn := fun _ => fun
  | [d] => { results := [.lit (.bool false)], args := [d] }
  | _ => none }
def FnExactSavedByWrongFalsely : Prop := fnExactSavedByRow.holds Try.pinned (OpenSpec.ofChange fnExactSavedByWrong)

/-- 'laws.FnExactLeftNeed': WHATEVER THE INPUT: true; the input reads as it did. -/
def fnExactLeftNeedSpec : ChangeSpec := { name := "fnExactLeftNeed", fn := fun _ => fun
  | [d1, d2] => { results := [.lit (.bool true)], args := [d1, d2] }
  | _ => none }
def fnExactLeftNeedRow : OpenClaim := { program := "ytpnikfhgnlfenaa", sum := "0663ffd5b629adc12d9bee852caf651b5f704b4827744d60ab1dc8653c26d5ee", func := "loop.example/g01127/laws.FnExactLeftNeed", spec := "fnExactLeftNeed", unfollowed := true, recurses := true, apart := false }
def FnExactLeftNeedSaid : Prop := fnExactLeftNeedRow.holds Try.pinned (OpenSpec.ofChange fnExactLeftNeedSpec)

/-- ITS FALSE NEIGHBOUR: 'it returns false'. Refute it at one input. -/
def fnExactLeftNeedWrong : ChangeSpec := { name := "fnExactLeftNeed", fn := fun _ => fun
  | [d1, d2] => { results := [.lit (.bool false)], args := [d1, d2] }
  | _ => none }
def FnExactLeftNeedWrongFalsely : Prop := fnExactLeftNeedRow.holds Try.pinned (OpenSpec.ofChange fnExactLeftNeedWrong)

/-- 'laws.FnExactNeedOf': WHATEVER THE INPUT: true; the input reads as it did. -/
def fnExactNeedOfSpec : ChangeSpec := { name := "fnExactNeedOf", fn := fun _ => fun
  | [d1, d2] => { results := [.lit (.bool true)], args := [d1, d2] }
  | _ => none }
def fnExactNeedOfRow : OpenClaim := { program := "ytpnikfhgnlfenaa", sum := "0663ffd5b629adc12d9bee852caf651b5f704b4827744d60ab1dc8653c26d5ee", func := "loop.example/g01127/laws.FnExactNeedOf", spec := "fnExactNeedOf", unfollowed := true, recurses := true, apart := false }
def FnExactNeedOfSaid : Prop := fnExactNeedOfRow.holds Try.pinned (OpenSpec.ofChange fnExactNeedOfSpec)

/-- ITS FALSE NEIGHBOUR: 'it returns false'. Refute it at one input. -/
def fnExactNeedOfWrong : ChangeSpec := { name := "fnExactNeedOf", fn := fun _ => fun
  | [d1, d2] => { results := [.lit (.bool false)], args := [d1, d2] }
  | _ => none }
def FnExactNeedOfWrongFalsely : Prop := fnExactNeedOfRow.holds Try.pinned (OpenSpec.ofChange fnExactNeedOfWrong)

/-- 'laws.FnExactNeedsOf': WHATEVER THE INPUT: true; the input reads as it did. -/
def fnExactNeedsOfSpec : ChangeSpec := { name := "fnExactNeedsOf", fn := fun _ => fun
  | [d1, d2] => { results := [.lit (.bool true)], args := [d1, d2] }
  | _ => none }
def fnExactNeedsOfRow : OpenClaim := { program := "ytpnikfhgnlfenaa", sum := "0663ffd5b629adc12d9bee852caf651b5f704b4827744d60ab1dc8653c26d5ee", func := "loop.example/g01127/laws.FnExactNeedsOf", spec := "fnExactNeedsOf", unfollowed := true, recurses := true, apart := false }
def FnExactNeedsOfSaid : Prop := fnExactNeedsOfRow.holds Try.pinned (OpenSpec.ofChange fnExactNeedsOfSpec)

/-- ITS FALSE NEIGHBOUR: 'it returns false'. Refute it at one input. -/
def fnExactNeedsOfWrong : ChangeSpec := { name := "fnExactNeedsOf", fn := fun _ => fun
  | [d1, d2] => { results := [.lit (.bool false)], args := [d1, d2] }
  | _ => none }
def FnExactNeedsOfWrongFalsely : Prop := fnExactNeedsOfRow.holds Try.pinned (OpenSpec.ofChange fnExactNeedsOfWrong)

/-- 'laws.FnExactInstrOfTile': WHATEVER THE INPUT: true; the input reads as it did. -/
def fnExactInstrOfTileSpec : ChangeSpec := { name := "fnExactInstrOfTile", fn := fun _ => fun
  | [d1, d2, d3, d4, d5] => { results := [.lit (.bool true)], args := [d1, d2, d3, d4, d5] }
  | _ => none }
def fnExactInstrOfTileRow : OpenClaim := { program := "ytpnikfhgnlfenaa", sum := "0663ffd5b629adc12d9bee852caf651b5f704b4827744d60ab1dc8653c26d5ee", func := "loop.example/g01127/laws.FnExactInstrOfTile", spec := "fnExactInstrOfTile", unfollowed := true, recurses := true, apart := false }
def FnExactInstrOfTileSaid : Prop := fnExactInstrOfTileRow.holds Try.pinned (OpenSpec.ofChange fnExactInstrOfTileSpec)

/-- ITS FALSE NEIGHBOUR: 'it returns false'. Refute it at one input. -/
def fnExactInstrOfTileWrong : ChangeSpec := { name := "fnExactInstrOfTile", fn := fun _ => fun
  | [d1, d2, d3, d4, d5] => { results := [.lit (.bool false)], args := [d1, d2, d3, d4, d5] }
  | _ => none }
def FnExactInstrOfTileWrongFalsely : Prop := fnExactInstrOfTileRow.holds Try.pinned (OpenSpec.ofChange fnExactInstrOfTileWrong)

/- THE SECOND FORM. 'bulk': how many values and letters a reading holds, each counted each time it is reached (what is shared counts as often as it is met; a slice's spare places count too). A statement '..UptoSaid' is the law's where the arguments, and the package variables that the reading takes, are together of bulk at most 1048576: NARROWER than '..Said'. Prove '..Said' where nothing that the law and all that it calls make is longer than what came in: it says more and counts as full. Else prove '..UptoSaid'. A law counts once. -/
mutual
def uptoBulk {H : Type} : DataW H → Nat
  | .lit (.string bytes) => bytes.length + 1
  | .lit _ => 1
  | .nil => 1
  | .ptr d => uptoBulk d + 1
  | .slice elems spare => uptoBulkAll elems + uptoBulkAll spare + 1
  | .agg parts => uptoBulkAll parts + 1
  | .iface _ d => uptoBulk d + 1
  | .map entries => uptoBulkEntries entries + 1
  | .held _ => 1
def uptoBulkAll {H : Type} : List (DataW H) → Nat
  | [] => 0
  | d :: r => uptoBulk d + uptoBulkAll r
def uptoBulkEntries {H : Type} : List (Lit × DataW H) → Nat
  | [] => 0
  | x :: r => uptoBulkEntry x + uptoBulkEntries r
def uptoBulkEntry {H : Type} : Lit × DataW H → Nat
  | (.string bytes, d) => bytes.length + uptoBulk d + 1
  | (_, d) => uptoBulk d + 1
 end
def uptoSmall : (H : Type) → List (DataW H) → Bool := fun _ ds => decide (uptoBulkAll ds ≤ 1048576)
def OpenSpec.upto (s : _root_.Go.ChangeSpec) : _root_.Go.OpenSpec := { _root_.Go.OpenSpec.ofChange s with cond := some uptoSmall }

/-- 'laws.FnExactIsCover', WHERE WHAT IT READS IS OF BULK AT MOST 1048576: true; the input reads as it did. -/
def fnExactIsCoverUptoRow : OpenClaim := { program := "ytpnikfhgnlfenaa", sum := "0663ffd5b629adc12d9bee852caf651b5f704b4827744d60ab1dc8653c26d5ee", func := "loop.example/g01127/laws.FnExactIsCover", spec := "fnExactIsCover", unfollowed := true, recurses := true, apart := false, narrowed := true }
def FnExactIsCoverUptoSaid : Prop := fnExactIsCoverUptoRow.holds Try.pinned (OpenSpec.upto fnExactIsCoverSpec)

/-- 'laws.FnExactCoverCost', WHERE WHAT IT READS IS OF BULK AT MOST 1048576: true; the input reads as it did. -/
def fnExactCoverCostUptoRow : OpenClaim := { program := "ytpnikfhgnlfenaa", sum := "0663ffd5b629adc12d9bee852caf651b5f704b4827744d60ab1dc8653c26d5ee", func := "loop.example/g01127/laws.FnExactCoverCost", spec := "fnExactCoverCost", unfollowed := true, recurses := true, apart := false, narrowed := true }
def FnExactCoverCostUptoSaid : Prop := fnExactCoverCostUptoRow.holds Try.pinned (OpenSpec.upto fnExactCoverCostSpec)

/-- 'laws.FnExactTileUses', WHERE WHAT IT READS IS OF BULK AT MOST 1048576: true; the input reads as it did. -/
def fnExactTileUsesUptoRow : OpenClaim := { program := "ytpnikfhgnlfenaa", sum := "0663ffd5b629adc12d9bee852caf651b5f704b4827744d60ab1dc8653c26d5ee", func := "loop.example/g01127/laws.FnExactTileUses", spec := "fnExactTileUses", unfollowed := true, recurses := true, apart := false, narrowed := true }
def FnExactTileUsesUptoSaid : Prop := fnExactTileUsesUptoRow.holds Try.pinned (OpenSpec.upto fnExactTileUsesSpec)

/-- 'laws.FnExactLargestCover', WHERE WHAT IT READS IS OF BULK AT MOST 1048576: true; the input reads as it did. -/
def fnExactLargestCoverUptoRow : OpenClaim := { program := "ytpnikfhgnlfenaa", sum := "0663ffd5b629adc12d9bee852caf651b5f704b4827744d60ab1dc8653c26d5ee", func := "loop.example/g01127/laws.FnExactLargestCover", spec := "fnExactLargestCover", unfollowed := true, recurses := true, apart := false, narrowed := true }
def FnExactLargestCoverUptoSaid : Prop := fnExactLargestCoverUptoRow.holds Try.pinned (OpenSpec.upto fnExactLargestCoverSpec)

/-- 'laws.FnExactBestCover', WHERE WHAT IT READS IS OF BULK AT MOST 1048576: true; the input reads as it did. -/
def fnExactBestCoverUptoRow : OpenClaim := { program := "ytpnikfhgnlfenaa", sum := "0663ffd5b629adc12d9bee852caf651b5f704b4827744d60ab1dc8653c26d5ee", func := "loop.example/g01127/laws.FnExactBestCover", spec := "fnExactBestCover", unfollowed := true, recurses := true, apart := false, narrowed := true }
def FnExactBestCoverUptoSaid : Prop := fnExactBestCoverUptoRow.holds Try.pinned (OpenSpec.upto fnExactBestCoverSpec)

/-- 'laws.FnExactSavedBy', WHERE WHAT IT READS IS OF BULK AT MOST 1048576: true; the input reads as it did. -/
def fnExactSavedByUptoRow : OpenClaim := { program := "ytpnikfhgnlfenaa", sum := "0663ffd5b629adc12d9bee852caf651b5f704b4827744d60ab1dc8653c26d5ee", func := "loop.example/g01127/laws.FnExactSavedBy", spec := "fnExactSavedBy", unfollowed := true, recurses := true, apart := false, narrowed := true }
def FnExactSavedByUptoSaid : Prop := fnExactSavedByUptoRow.holds Try.pinned (OpenSpec.upto fnExactSavedBySpec)

/-- 'laws.FnExactLeftNeed', WHERE WHAT IT READS IS OF BULK AT MOST 1048576: true; the input reads as it did. -/
def fnExactLeftNeedUptoRow : OpenClaim := { program := "ytpnikfhgnlfenaa", sum := "0663ffd5b629adc12d9bee852caf651b5f704b4827744d60ab1dc8653c26d5ee", func := "loop.example/g01127/laws.FnExactLeftNeed", spec := "fnExactLeftNeed", unfollowed := true, recurses := true, apart := false, narrowed := true }
def FnExactLeftNeedUptoSaid : Prop := fnExactLeftNeedUptoRow.holds Try.pinned (OpenSpec.upto fnExactLeftNeedSpec)

/-- 'laws.FnExactNeedOf', WHERE WHAT IT READS IS OF BULK AT MOST 1048576: true; the input reads as it did. -/
def fnExactNeedOfUptoRow : OpenClaim := { program := "ytpnikfhgnlfenaa", sum := "0663ffd5b629adc12d9bee852caf651b5f704b4827744d60ab1dc8653c26d5ee", func := "loop.example/g01127/laws.FnExactNeedOf", spec := "fnExactNeedOf", unfollowed := true, recurses := true, apart := false, narrowed := true }
def FnExactNeedOfUptoSaid : Prop := fnExactNeedOfUptoRow.holds Try.pinned (OpenSpec.upto fnExactNeedOfSpec)

/-- 'laws.FnExactNeedsOf', WHERE WHAT IT READS IS OF BULK AT MOST 1048576: true; the input reads as it did. -/
def fnExactNeedsOfUptoRow : OpenClaim := { program := "ytpnikfhgnlfenaa", sum := "0663ffd5b629adc12d9bee852caf651b5f704b4827744d60ab1dc8653c26d5ee", func := "loop.example/g01127/laws.FnExactNeedsOf", spec := "fnExactNeedsOf", unfollowed := true, recurses := true, apart := false, narrowed := true }
def FnExactNeedsOfUptoSaid : Prop := fnExactNeedsOfUptoRow.holds Try.pinned (OpenSpec.upto fnExactNeedsOfSpec)

/-- 'laws.FnExactInstrOfTile', WHERE WHAT IT READS IS OF BULK AT MOST 1048576: true; the input reads as it did. -/
def fnExactInstrOfTileUptoRow : OpenClaim := { program := "ytpnikfhgnlfenaa", sum := "0663ffd5b629adc12d9bee852caf651b5f704b4827744d60ab1dc8653c26d5ee", func := "loop.example/g01127/laws.FnExactInstrOfTile", spec := "fnExactInstrOfTile", unfollowed := true, recurses := true, apart := false, narrowed := true }
def FnExactInstrOfTileUptoSaid : Prop := fnExactInstrOfTileUptoRow.holds Try.pinned (OpenSpec.upto fnExactInstrOfTileSpec)

end Rows
end Go.Proofs.Ytpnikfhgnlfenaa
