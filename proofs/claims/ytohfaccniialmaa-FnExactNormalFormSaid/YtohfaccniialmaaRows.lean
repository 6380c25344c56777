/-
  No cell of these rows narrows 'for every input' (looked for: loops, veiled, ifaces, maps, wideKeys, modest, calm, conditions, laid).
  DERIVED. THE GIVEN ROWS OF THIS SEAT. 10 by the template 'for every input the law returns true; each argument reads behind the call as it read before'; 0 by the template 'total and deterministic' (their statements: YtohfaccniialmaaTotals.lean).
  GIVEN WITH THE SEED: the statements are not yours to turn. If you find one false, say at which input.
  Laid BY PROGRAM, IN A SANDBOX (cutbox-rows.mjs): the forced cells as the released guide's own fill.sh prints them over the translation 65cb40575ed487fa… (all of the seat's roots in one cut). By AI agents, Wed Nov 11 2026. No macro, syntax, notation, axiom, sorry.
-/
import Derived.Test.YtohfaccniialmaaChecked
import GoSem.Claim
import GoSem.ClaimJoined
import GoSem.ClaimMapViews
import Derived.JoinedTies
import Derived.KernelRfl
namespace Go.Proofs.Ytohfaccniialmaa
/- THE CELL 'sum', in the pinned program and in every row, IS THE sha256 OF THE DUMP (.gsa) THAT YtohfaccniialmaaProg.lean LOADS. Nothing in Lean hashes anything: it is a label: what it is worth is what the hold of that sum in a sandbox is worth. -/
noncomputable def Try.pinned : Pinned := { name := "ytohfaccniialmaa", sum := "65cb40575ed487faafe194dbcd82bfac61d3a85ade7c930d6721d229c1d9fda4", checked := Try.checked }
namespace Rows
def none {H : Type} : Left H := { results := [], args := [] }

/-- 'laws.FnExactIsRule': WHATEVER THE INPUT: true; the input reads as it did. -/
def fnExactIsRuleSpec : ChangeSpec := { name := "fnExactIsRule", fn := fun _ => fun
  | [d] => { results := [.lit (.bool true)], args := [d] }
  | _ => none }
def fnExactIsRuleRow : OpenClaim := { program := "ytohfaccniialmaa", sum := "65cb40575ed487faafe194dbcd82bfac61d3a85ade7c930d6721d229c1d9fda4", func := "loop.example/g01127/laws.FnExactIsRule", spec := "fnExactIsRule", unfollowed := true, recurses := true, apart := false }
def FnExactIsRuleSaid : Prop := fnExactIsRuleRow.holds Try.pinned (OpenSpec.ofChange fnExactIsRuleSpec)

/-- ITS FALSE NEIGHBOUR: 'it returns false'. Refute it at one input. -/
def fnExactIsRuleWrong : ChangeSpec := { name := "fnExactIsRule", fn := fun _ => fun
  | [d] => { results := [.lit (.bool false)], args := [d] }
  | _ => none }
def FnExactIsRuleWrongFalsely : Prop := fnExactIsRuleRow.holds Try.pinned (OpenSpec.ofChange fnExactIsRuleWrong)

/-- 'laws.FnExactIsFalling': WHATEVER THE INPUT: true; the input reads as it did. -/
def fnExactIsFallingSpec : ChangeSpec := { name := "fnExactIsFalling", fn := fun _ => fun
  | [d] => { results := [.lit (.bool true)], args := [d] }
  | _ => none }
def fnExactIsFallingRow : OpenClaim := { program := "ytohfaccniialmaa", sum := "65cb40575ed487faafe194dbcd82bfac61d3a85ade7c930d6721d229c1d9fda4", func := "loop.example/g01127/laws.FnExactIsFalling", spec := "fnExactIsFalling", unfollowed := true, recurses := true, apart := false }
def FnExactIsFallingSaid : Prop := fnExactIsFallingRow.holds Try.pinned (OpenSpec.ofChange fnExactIsFallingSpec)

/-- ITS FALSE NEIGHBOUR: 'it returns false'. Refute it at one input. -/
def fnExactIsFallingWrong : ChangeSpec := { name := "fnExactIsFalling", fn := fun _ => fun
  | [d] => { results := [.lit (.bool false)], args := [d] }
  | _ => none }
def FnExactIsFallingWrongFalsely : Prop := fnExactIsFallingRow.holds Try.pinned (OpenSpec.ofChange fnExactIsFallingWrong)

/-- 'laws.FnExactMatchAt': WHATEVER THE INPUT: true; the input reads as it did. -/
def fnExactMatchAtSpec : ChangeSpec := { name := "fnExactMatchAt", fn := fun _ => fun
  | [d1, d2, d3] => { results := [.lit (.bool true)], args := [d1, d2, d3] }
  | _ => none }
def fnExactMatchAtRow : OpenClaim := { program := "ytohfaccniialmaa", sum := "65cb40575ed487faafe194dbcd82bfac61d3a85ade7c930d6721d229c1d9fda4", func := "loop.example/g01127/laws.FnExactMatchAt", spec := "fnExactMatchAt", unfollowed := true, recurses := true, apart := false }
def FnExactMatchAtSaid : Prop := fnExactMatchAtRow.holds Try.pinned (OpenSpec.ofChange fnExactMatchAtSpec)

/-- ITS FALSE NEIGHBOUR: 'it returns false'. Refute it at one input. -/
def fnExactMatchAtWrong : ChangeSpec := { name := "fnExactMatchAt", fn := fun _ => fun
  | [d1, d2, d3] => { results := [.lit (.bool false)], args := [d1, d2, d3] }
  | _ => none }
def FnExactMatchAtWrongFalsely : Prop := fnExactMatchAtRow.holds Try.pinned (OpenSpec.ofChange fnExactMatchAtWrong)

/-- 'laws.FnExactPlacesOf': WHATEVER THE INPUT: true; the input reads as it did. -/
def fnExactPlacesOfSpec : ChangeSpec := { name := "fnExactPlacesOf", fn := fun _ => fun
  | [d1, d2] => { results := [.lit (.bool true)], args := [d1, d2] }
  | _ => none }
def fnExactPlacesOfRow : OpenClaim := { program := "ytohfaccniialmaa", sum := "65cb40575ed487faafe194dbcd82bfac61d3a85ade7c930d6721d229c1d9fda4", func := "loop.example/g01127/laws.FnExactPlacesOf", spec := "fnExactPlacesOf", unfollowed := true, recurses := true, apart := false }
def FnExactPlacesOfSaid : Prop := fnExactPlacesOfRow.holds Try.pinned (OpenSpec.ofChange fnExactPlacesOfSpec)

/-- ITS FALSE NEIGHBOUR: 'it returns false'. Refute it at one input. -/
def fnExactPlacesOfWrong : ChangeSpec := { name := "fnExactPlacesOf", fn := fun _ => fun
  | [d1, d2] => { results := [.lit (.bool false)], args := [d1, d2] }
  | _ => none }
def FnExactPlacesOfWrongFalsely : Prop := fnExactPlacesOfRow.holds Try.pinned (OpenSpec.ofChange fnExactPlacesOfWrong)

/-- 'laws.FnExactCountRefuting': WHATEVER THE INPUT: true; the input reads as it did. -/
def fnExactCountRefutingSpec : ChangeSpec := { name := "fnExactCountRefuting", fn := fun _ => fun
  | [d] => { results := [.lit (.bool true)], args := [d] }
  | _ => none }
def fnExactCountRefutingRow : OpenClaim := { program := "ytohfaccniialmaa", sum := "65cb40575ed487faafe194dbcd82bfac61d3a85ade7c930d6721d229c1d9fda4", func := "loop.example/g01127/laws.FnExactCountRefuting", spec := "fnExactCountRefuting", unfollowed := true, recurses := true, apart := false }
def FnExactCountRefutingSaid : Prop := fnExactCountRefutingRow.holds Try.pinned (OpenSpec.ofChange fnExactCountRefutingSpec)

/-- ITS FALSE NEIGHBOUR: 'it returns false'. Refute it at one input. -/
def fnExactCountRefutingWrong : ChangeSpec := { name := "fnExactCountRefuting", fn := fun _ => fun
  | [d] => { results := [.lit (.bool false)], args := [d] }
  | _ => none }
def FnExactCountRefutingWrongFalsely : Prop := fnExactCountRefutingRow.holds Try.pinned (OpenSpec.ofChange fnExactCountRefutingWrong)

/-- 'laws.FnExactProveRule': WHATEVER THE INPUT: true; the input reads as it did. -/
def fnExactProveRuleSpec : ChangeSpec := { name := "fnExactProveRule", fn := fun _ => fun
  | [d] => { results := [.lit (.bool true)], args := [d] }
  | _ => none }
def fnExactProveRuleRow : OpenClaim := { program := "ytohfaccniialmaa", sum := "65cb40575ed487faafe194dbcd82bfac61d3a85ade7c930d6721d229c1d9fda4", func := "loop.example/g01127/laws.FnExactProveRule", spec := "fnExactProveRule", unfollowed := true, recurses := true, apart := false }
def FnExactProveRuleSaid : Prop := fnExactProveRuleRow.holds Try.pinned (OpenSpec.ofChange fnExactProveRuleSpec)

/-- ITS FALSE NEIGHBOUR: 'it returns false'. Refute it at one input. -/
def fnExactProveRuleWrong : ChangeSpec := { name := "fnExactProveRule", fn := fun _ => fun
  | [d] => { results := [.lit (.bool false)], args := [d] }
  | _ => none }
def FnExactProveRuleWrongFalsely : Prop := fnExactProveRuleRow.holds Try.pinned (OpenSpec.ofChange fnExactProveRuleWrong)

/-- 'laws.FnExactRefuteRule': WHATEVER THE INPUT: true; the input reads as it did. -/
def fnExactRefuteRuleSpec : ChangeSpec := { name := "fnExactRefuteRule", fn := fun _ => fun
  | [d] => { results := [.lit (.bool true)], args := [d] }
  | _ => none }
def fnExactRefuteRuleRow : OpenClaim := { program := "ytohfaccniialmaa", sum := "65cb40575ed487faafe194dbcd82bfac61d3a85ade7c930d6721d229c1d9fda4", func := "loop.example/g01127/laws.FnExactRefuteRule", spec := "fnExactRefuteRule", unfollowed := true, recurses := true, apart := false }
def FnExactRefuteRuleSaid : Prop := fnExactRefuteRuleRow.holds Try.pinned (OpenSpec.ofChange fnExactRefuteRuleSpec)

/-- ITS FALSE NEIGHBOUR: 'it returns false'. Refute it at one input. -/
def fnExactRefuteRuleWrong : ChangeSpec := { name := "fnExactRefuteRule", fn := fun _ => fun
  | [d] => { results := [.lit (.bool false)], args := [d] }
  | _ => none }
def FnExactRefuteRuleWrongFalsely : Prop := fnExactRefuteRuleRow.holds Try.pinned (OpenSpec.ofChange fnExactRefuteRuleWrong)

/-- 'laws.FnExactRewriteAt': WHATEVER THE INPUT: true; the input reads as it did. -/
def fnExactRewriteAtSpec : ChangeSpec := { name := "fnExactRewriteAt", fn := fun _ => fun
  | [d1, d2, d3] => { results := [.lit (.bool true)], args := [d1, d2, d3] }
  | _ => none }
def fnExactRewriteAtRow : OpenClaim := { program := "ytohfaccniialmaa", sum := "65cb40575ed487faafe194dbcd82bfac61d3a85ade7c930d6721d229c1d9fda4", func := "loop.example/g01127/laws.FnExactRewriteAt", spec := "fnExactRewriteAt", unfollowed := true, recurses := true, apart := false }
def FnExactRewriteAtSaid : Prop := fnExactRewriteAtRow.holds Try.pinned (OpenSpec.ofChange fnExactRewriteAtSpec)

/-- ITS FALSE NEIGHBOUR: 'it returns false'. Refute it at one input. -/
def fnExactRewriteAtWrong : ChangeSpec := { name := "fnExactRewriteAt", fn := fun _ => fun
  | [d1, d2, d3] => { results := [.lit (.bool false)], args := [d1, d2, d3] }
  | _ => none }
def FnExactRewriteAtWrongFalsely : Prop := fnExactRewriteAtRow.holds Try.pinned (OpenSpec.ofChange fnExactRewriteAtWrong)

/-- 'laws.FnExactRewriteOnce': WHATEVER THE INPUT: true; the input reads as it did. -/
def fnExactRewriteOnceSpec : ChangeSpec := { name := "fnExactRewriteOnce", fn := fun _ => fun
  | [d1, d2] => { results := [.lit (.bool true)], args := [d1, d2] }
  | _ => none }
def fnExactRewriteOnceRow : OpenClaim := { program := "ytohfaccniialmaa", sum := "65cb40575ed487faafe194dbcd82bfac61d3a85ade7c930d6721d229c1d9fda4", func := "loop.example/g01127/laws.FnExactRewriteOnce", spec := "fnExactRewriteOnce", unfollowed := true, recurses := true, apart := false }
def FnExactRewriteOnceSaid : Prop := fnExactRewriteOnceRow.holds Try.pinned (OpenSpec.ofChange fnExactRewriteOnceSpec)

/-- ITS FALSE NEIGHBOUR: 'it returns false'. Refute it at one input. -/
def fnExactRewriteOnceWrong : ChangeSpec := { name := "fnExactRewriteOnce", fn := fun _ => fun
  | [d1, d2] => { results := [.lit (.bool false)], args := [d1, d2] }
  | _ => none }
def FnExactRewriteOnceWrongFalsely : Prop := fnExactRewriteOnceRow.holds Try.pinned (OpenSpec.ofChange fnExactRewriteOnceWrong)

/-- 'laws.FnExactNormalForm': WHATEVER THE INPUT: true; the input reads as it did. -/
def fnExactNormalFormSpec : ChangeSpec := { name := "fnExactNormalForm", fn := fun _ => fun
  | [d1, d2] => { results := [.lit (.bool true)], args := [d1, d2] }
  | _ => none }
def fnExactNormalFormRow : OpenClaim := { program := "ytohfaccniialmaa", sum := "65cb40575ed487faafe194dbcd82bfac61d3a85ade7c930d6721d229c1d9fda4", func := "loop.example/g01127/laws.FnExactNormalForm", spec := "fnExactNormalForm", unfollowed := true, recurses := true, apart := false }
def FnExactNormalFormSaid : Prop := fnExactNormalFormRow.holds Try.pinned (OpenSpec.ofChange fnExactNormalFormSpec)

/-- ITS FALSE NEIGHBOUR: 'it returns false'. Refute it at one input. -/
def fnExactNormalFormWrong : ChangeSpec := { name := "fnExactNormalForm", fn := fun _ => fun
  | [d1, d2] => { results := [.lit (.bool false)], args := [d1, d2] }
  | _ => none }
def FnExactNormalFormWrongFalsely : Prop := fnExactNormalFormRow.holds Try.pinned (OpenSpec.ofChange fnExactNormalFormWrong)

/- THE SECOND FORM. 'bulk': how many values and letters a reading holds, each counted each time it is reached (what is shared counts as often as it is met; a slice's spare places count too). A statement '..UptoSaid' is the law's where the arguments, and the package variables that the reading takes, are together of bulk at most 1048576: NARROWER than '..Said'. Prove '..Said' where nothing that the law and all that it calls make is longer than what came in: it says more and counts as full. Else prove '..UptoSaid'. A law counts once. -/
mutual
def uptoBulk {H : Type} : DataW H → Nat
  | .lit (.string bytes) => bytes.length + 1
  | .lit _ => 1
  | .nil => 1
  | .ptr d => uptoBulk d + 1
  | .slice elems spare => uptoBulkAll elems + uptoBulkAll spare + 1
  | .agg parts => uptoBulkAll parts + 1
  | .iface _ d => uptoBulk d + 1
  | .map entries => uptoBulkEntries entries + 1
  | .held _ => 1
def uptoBulkAll {H : Type} : List (DataW H) → Nat
  | [] => 0
  | d :: r => uptoBulk d + uptoBulkAll r
def uptoBulkEntries {H : Type} : List (Lit × DataW H) → Nat
  | [] => 0
  | x :: r => uptoBulkEntry x + uptoBulkEntries r
def uptoBulkEntry {H : Type} : Lit × DataW H → Nat
  | (.string bytes, d) => bytes.length + uptoBulk d + 1
  | (_, d) => uptoBulk d + 1
 end
def uptoSmall : (H : Type) → List (DataW H) → Bool := fun _ ds => decide (uptoBulkAll ds ≤ 1048576)
def OpenSpec.upto (s : _root_.Go.ChangeSpec) : _root_.Go.OpenSpec := { _root_.Go.OpenSpec.ofChange s with cond := some uptoSmall }

/-- 'laws.FnExactIsRule', WHERE WHAT IT READS IS OF BULK AT MOST 1048576: true; the input reads as it did. -/
def fnExactIsRuleUptoRow : OpenClaim := { program := "ytohfaccniialmaa", sum := "65cb40575ed487faafe194dbcd82bfac61d3a85ade7c930d6721d229c1d9fda4", func := "loop.example/g01127/laws.FnExactIsRule", spec := "fnExactIsRule", unfollowed := true, recurses := true, apart := false, narrowed := true }
def FnExactIsRuleUptoSaid : Prop := fnExactIsRuleUptoRow.holds Try.pinned (OpenSpec.upto fnExactIsRuleSpec)

/-- 'laws.FnExactIsFalling', WHERE WHAT IT READS IS OF BULK AT MOST 1048576: true; the input reads as it did. -/
def fnExactIsFallingUptoRow : OpenClaim := { program := "ytohfaccniialmaa", sum := "65cb40575ed487faafe194dbcd82bfac61d3a85ade7c930d6721d229c1d9fda4", func := "loop.example/g01127/laws.FnExactIsFalling", spec := "fnExactIsFalling", unfollowed := true, recurses := true, apart := false, narrowed := true }
def FnExactIsFallingUptoSaid : Prop := fnExactIsFallingUptoRow.holds Try.pinned (OpenSpec.upto fnExactIsFallingSpec)

/-- 'laws.FnExactMatchAt', WHERE WHAT IT READS IS OF BULK AT MOST 1048576: true; the input reads as it did. -/
def fnExactMatchAtUptoRow : OpenClaim := { program := "ytohfaccniialmaa", sum := "65cb40575ed487faafe194dbcd82bfac61d3a85ade7c930d6721d229c1d9fda4", func := "loop.example/g01127/laws.FnExactMatchAt", spec := "fnExactMatchAt", unfollowed := true, recurses := true, apart := false, narrowed := true }
def FnExactMatchAtUptoSaid : Prop := fnExactMatchAtUptoRow.holds Try.pinned (OpenSpec.upto fnExactMatchAtSpec)

/-- 'laws.FnExactPlacesOf', WHERE WHAT IT READS IS OF BULK AT MOST 1048576: true; the input reads as it did. -/
def fnExactPlacesOfUptoRow : OpenClaim := { program := "ytohfaccniialmaa", sum := "65cb40575ed487faafe194dbcd82bfac61d3a85ade7c930d6721d229c1d9fda4", func := "loop.example/g01127/laws.FnExactPlacesOf", spec := "fnExactPlacesOf", unfollowed := true, recurses := true, apart := false, narrowed := true }
def FnExactPlacesOfUptoSaid : Prop := fnExactPlacesOfUptoRow.holds Try.pinned (OpenSpec.upto fnExactPlacesOfSpec)

/-- 'laws.FnExactCountRefuting', WHERE WHAT IT READS IS OF BULK AT MOST 1048576: true; the input reads as it did. -/
def fnExactCountRefutingUptoRow : OpenClaim := { program := "ytohfaccniialmaa", sum := "65cb40575ed487faafe194dbcd82bfac61d3a85ade7c930d6721d229c1d9fda4", func := "loop.example/g01127/laws.FnExactCountRefuting", spec := "fnExactCountRefuting", unfollowed := true, recurses := true, apart := false, narrowed := true }
def FnExactCountRefutingUptoSaid : Prop := fnExactCountRefutingUptoRow.holds Try.pinned (OpenSpec.upto fnExactCountRefutingSpec)

/-- 'laws.FnExactProveRule', WHERE WHAT IT READS IS OF BULK AT MOST 1048576: true; the input reads as it did. -/
def fnExactProveRuleUptoRow : OpenClaim := { program := "ytohfaccniialmaa", sum := "65cb40575ed487faafe194dbcd82bfac61d3a85ade7c930d6721d229c1d9fda4", func := "loop.example/g01127/laws.FnExactProveRule", spec := "fnExactProveRule", unfollowed := true, recurses := true, apart := false, narrowed := true }
def FnExactProveRuleUptoSaid : Prop := fnExactProveRuleUptoRow.holds Try.pinned (OpenSpec.upto fnExactProveRuleSpec)

/-- 'laws.FnExactRefuteRule', WHERE WHAT IT READS IS OF BULK AT MOST 1048576: true; the input reads as it did. -/
def fnExactRefuteRuleUptoRow : OpenClaim := { program := "ytohfaccniialmaa", sum := "65cb40575ed487faafe194dbcd82bfac61d3a85ade7c930d6721d229c1d9fda4", func := "loop.example/g01127/laws.FnExactRefuteRule", spec := "fnExactRefuteRule", unfollowed := true, recurses := true, apart := false, narrowed := true }
def FnExactRefuteRuleUptoSaid : Prop := fnExactRefuteRuleUptoRow.holds Try.pinned (OpenSpec.upto fnExactRefuteRuleSpec)

/-- 'laws.FnExactRewriteAt', WHERE WHAT IT READS IS OF BULK AT MOST 1048576: true; the input reads as it did. -/
def fnExactRewriteAtUptoRow : OpenClaim := { program := "ytohfaccniialmaa", sum := "65cb40575ed487faafe194dbcd82bfac61d3a85ade7c930d6721d229c1d9fda4", func := "loop.example/g01127/laws.FnExactRewriteAt", spec := "fnExactRewriteAt", unfollowed := true, recurses := true, apart := false, narrowed := true }
def FnExactRewriteAtUptoSaid : Prop := fnExactRewriteAtUptoRow.holds Try.pinned (OpenSpec.upto fnExactRewriteAtSpec)

/-- 'laws.FnExactRewriteOnce', WHERE WHAT IT READS IS OF BULK AT MOST 1048576: true; the input reads as it did. -/
def fnExactRewriteOnceUptoRow : OpenClaim := { program := "ytohfaccniialmaa", sum := "65cb40575ed487faafe194dbcd82bfac61d3a85ade7c930d6721d229c1d9fda4", func := "loop.example/g01127/laws.FnExactRewriteOnce", spec := "fnExactRewriteOnce", unfollowed := true, recurses := true, apart := false, narrowed := true }
def FnExactRewriteOnceUptoSaid : Prop := fnExactRewriteOnceUptoRow.holds Try.pinned (OpenSpec.upto fnExactRewriteOnceSpec)

/-- 'laws.FnExactNormalForm', WHERE WHAT IT READS IS OF BULK AT MOST 1048576: true; the input reads as it did. -/
def fnExactNormalFormUptoRow : OpenClaim := { program := "ytohfaccniialmaa", sum := "65cb40575ed487faafe194dbcd82bfac61d3a85ade7c930d6721d229c1d9fda4", func := "loop.example/g01127/laws.FnExactNormalForm", spec := "fnExactNormalForm", unfollowed := true, recurses := true, apart := false, narrowed := true }
def FnExactNormalFormUptoSaid : Prop := fnExactNormalFormUptoRow.holds Try.pinned (OpenSpec.upto fnExactNormalFormSpec)

end Rows
end Go.Proofs.Ytohfaccniialmaa
