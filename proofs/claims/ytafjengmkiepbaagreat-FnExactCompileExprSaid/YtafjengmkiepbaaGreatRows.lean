/-
  No cell of these rows narrows 'for every input' (looked for: loops, veiled, ifaces, maps, wideKeys, modest, calm, conditions, laid).
  DERIVED. THE GIVEN ROWS OF THIS SEAT. 5 by the template 'for every input the law returns true; each argument reads behind the call as it read before'; 0 by the template 'total and deterministic' (their statements: YtafjengmkiepbaaGreatTotals.lean).
  GIVEN WITH THE SEED: the statements are not yours to turn. If you find one false, say at which input.
  Laid BY PROGRAM, IN A SANDBOX (cutbox-rows.mjs): the forced cells as the released guide's own fill.sh prints them over the translation ea966c649bffeb53… (all of the seat's roots in one cut). By AI agents, Wed Nov 11 2026. No macro, syntax, notation, axiom, sorry.
-/
import Derived.Test.YtafjengmkiepbaaGreatChecked
import GoSem.Claim
import GoSem.ClaimJoined
import GoSem.ClaimMapViews
import Derived.JoinedTies
import Derived.KernelRfl
namespace Go.Proofs.YtafjengmkiepbaaGreat
/- THE CELL 'sum', in the pinned program and in every row, IS THE sha256 OF THE DUMP (.gsa) THAT YtafjengmkiepbaaGreatProg.lean LOADS. Nothing in Lean hashes anything: it is a label: what it is worth is what the hold of that sum in a sandbox is worth. -/
noncomputable def Tryz.pinned : Pinned := { name := "ytafjengmkiepbaagreat", sum := "ea966c649bffeb53bf3457a61a27bec0846782d55dd0900bc29cbaf5ff3471b6", checked := Tryz.checked }
namespace Rows
def none {H : Type} : Left H := { results := [], args := [] }

/-- 'laws.FnExactOrderOf': WHATEVER THE INPUT: true; the input reads as it did. -/
def fnExactOrderOfSpec : ChangeSpec := { name := "fnExactOrderOf", fn := fun _ => fun
  | [d1, d2] => { results := [.lit (.bool true)], args := [d1, d2] }
  | _ => none }
def fnExactOrderOfRow : OpenClaim := { program := "ytafjengmkiepbaagreat", sum := "ea966c649bffeb53bf3457a61a27bec0846782d55dd0900bc29cbaf5ff3471b6", func := "loop.example/g01127/laws.FnExactOrderOf", spec := "fnExactOrderOf", unfollowed := true, recurses := true, apart := false }
def FnExactOrderOfSaid : Prop := fnExactOrderOfRow.holds Tryz.pinned (OpenSpec.ofChange fnExactOrderOfSpec)

/-- ITS FALSE NEIGHBOUR: 'it returns false'. Refute it at one input. -/
def fnExactOrderOfWrong : ChangeSpec := { name := "fnExactOrderOf", fn := fun _ => fun
  | [d1, d2] => { results := [.lit (.bool false)], args := [d1, d2] }
  | _ => none }
def FnExactOrderOfWrongFalsely : Prop := fnExactOrderOfRow.holds Tryz.pinned (OpenSpec.ofChange fnExactOrderOfWrong)

/-- 'laws.FnExactSelectCode': WHATEVER THE INPUT: true; the input reads as it did. -/
def fnExactSelectCodeSpec : ChangeSpec := { name := "fnExactSelectCode", fn := fun _ => fun
  | [d1, d2] => { results := [.lit (.bool true)], args := [d1, d2] }
  | _ => none }
def fnExactSelectCodeRow : OpenClaim := { program := "ytafjengmkiepbaagreat", sum := "ea966c649bffeb53bf3457a61a27bec0846782d55dd0900bc29cbaf5ff3471b6", func := "loop.example/g01127/laws.FnExactSelectCode", spec := "fnExactSelectCode", unfollowed := true, recurses := true, apart := false }
def FnExactSelectCodeSaid : Prop := fnExactSelectCodeRow.holds Tryz.pinned (OpenSpec.ofChange fnExactSelectCodeSpec)

/-- ITS FALSE NEIGHBOUR: 'it returns false'. Refute it at one input. -/
def fnExactSelectCodeWrong : ChangeSpec := { name := "fnExactSelectCode", fn := fun _ => fun
  | [d1, d2] => { results := [.lit (.bool false)], args := [d1, d2] }
  | _ => none }
def FnExactSelectCodeWrongFalsely : Prop := fnExactSelectCodeRow.holds Tryz.pinned (OpenSpec.ofChange fnExactSelectCodeWrong)

/-- 'laws.FnExactSelectBest': WHATEVER THE INPUT: true; the input reads as it did. -/
def fnExactSelectBestSpec : ChangeSpec := { name := "fnExactSelectBest", fn := fun _ => fun
  | [d] => { results := [.lit (.bool true)], args := [d] }
  | _ => none }
def fnExactSelectBestRow : OpenClaim := { program := "ytafjengmkiepbaagreat", sum := "ea966c649bffeb53bf3457a61a27bec0846782d55dd0900bc29cbaf5ff3471b6", func := "loop.example/g01127/laws.FnExactSelectBest", spec := "fnExactSelectBest", unfollowed := true, recurses := true, apart := false }
def FnExactSelectBestSaid : Prop := fnExactSelectBestRow.holds Tryz.pinned (OpenSpec.ofChange fnExactSelectBestSpec)

/-- ITS FALSE NEIGHBOUR: 'it returns false'. Refute it at one input. -/
def fnExactSelectBestWrong : ChangeSpec := { name := "fnExactSelectBest", fn := fun _ => fun
  | [d] => { results := [.lit (.bool false)], args := [d] }
  | _ => none }
def FnExactSelectBestWrongFalsely : Prop := fnExactSelectBestRow.holds Tryz.pinned (OpenSpec.ofChange fnExactSelectBestWrong)

/-- 'laws.FnExactCompileExpr': WHATEVER THE INPUT: true; the input reads as it did. -/
def fnExactCompileExprSpec : ChangeSpec := { name := "fnExactCompileExpr", fn := fun _ => fun
  | [d] => { results := [.lit (.bool true)], args := [d] }
  | _ => none }
def fnExactCompileExprRow : OpenClaim := { program := "ytafjengmkiepbaagreat", sum := "ea966c649bffeb53bf3457a61a27bec0846782d55dd0900bc29cbaf5ff3471b6", func := "loop.example/g01127/laws.FnExactCompileExpr", spec := "fnExactCompileExpr", unfollowed := true, recurses := true, apart := false }
def FnExactCompileExprSaid : Prop := fnExactCompileExprRow.holds Tryz.pinned (OpenSpec.ofChange fnExactCompileExprSpec)

/-- ITS FALSE NEIGHBOUR: 'it returns false'. Refute it at one input. -/
def fnExactCompileExprWrong : ChangeSpec := { name := "fnExactCompileExpr", fn := fun _ => fun
  | [d] => { results := [.lit (.bool false)], args := [d] }
  | _ => none }
def FnExactCompileExprWrongFalsely : Prop := fnExactCompileExprRow.holds Tryz.pinned (OpenSpec.ofChange fnExactCompileExprWrong)

/-- 'laws.FnDeadCodeGoes': WHATEVER THE INPUT: true; the input reads as it did. -/
def fnDeadCodeGoesSpec : ChangeSpec := { name := "fnDeadCodeGoes", fn := fun _ => fun
  | [d1, d2] => { results := [.lit (.bool true)], args := [d1, d2] }
  | _ => none }
def fnDeadCodeGoesRow : OpenClaim := { program := "ytafjengmkiepbaagreat", sum := "ea966c649bffeb53bf3457a61a27bec0846782d55dd0900bc29cbaf5ff3471b6", func := "loop.example/g01127/laws.FnDeadCodeGoes", spec := "fnDeadCodeGoes", unfollowed := true, recurses := true, apart := false }
def FnDeadCodeGoesSaid : Prop := fnDeadCodeGoesRow.holds Tryz.pinned (OpenSpec.ofChange fnDeadCodeGoesSpec)

/-- ITS FALSE NEIGHBOUR: 'it returns false'. Refute it at one input. -/
def fnDeadCodeGoesWrong : ChangeSpec := { name := "fnDeadCodeGoes", fn := fun _ => fun
  | [d1, d2] => { results := [.lit (.bool false)], args := [d1, d2] }
  | _ => none }
def FnDeadCodeGoesWrongFalsely : Prop := fnDeadCodeGoesRow.holds Tryz.pinned (OpenSpec.ofChange fnDeadCodeGoesWrong)

/- THE SECOND FORM. 'bulk': how many values and letters a reading holds, each counted each time it is reached (what is shared counts as often as it is met; a slice's spare places count too). A statement '..UptoSaid' is the law's where the arguments, and the package variables that the reading takes, are together of bulk at most 1048576: NARROWER than '..Said'. Prove '..Said' where nothing that the law and all that it calls make is longer than what came in: it says more and counts as full. Else prove '..UptoSaid'. A law counts once. -/
mutual
def uptoBulk {H : Type} : DataW H → Nat
  | .lit (.string bytes) => bytes.length + 1
  | .lit _ => 1
  | .nil => 1
  | .ptr d => uptoBulk d + 1
  | .slice elems spare => uptoBulkAll elems + uptoBulkAll spare + 1
  | .agg parts => uptoBulkAll parts + 1
  | .iface _ d => uptoBulk d + 1
  | .map entries => uptoBulkEntries entries + 1
  | .held _ => 1
def uptoBulkAll {H : Type} : List (DataW H) → Nat
  | [] => 0
  | d :: r => uptoBulk d + uptoBulkAll r
def uptoBulkEntries {H : Type} : List (Lit × DataW H) → Nat
  | [] => 0
  | x :: r => uptoBulkEntry x + uptoBulkEntries r
def uptoBulkEntry {H : Type} : Lit × DataW H → Nat
  | (.string bytes, d) => bytes.length + uptoBulk d + 1
  | (_, d) => uptoBulk d + 1
 end
def uptoSmall : (H : Type) → List (DataW H) → Bool := fun _ ds => decide (uptoBulkAll ds ≤ 1048576)
def OpenSpec.upto (s : _root_.Go.ChangeSpec) : _root_.Go.OpenSpec := { _root_.Go.OpenSpec.ofChange s with cond := some uptoSmall }

/-- 'laws.FnExactOrderOf', WHERE WHAT IT READS IS OF BULK AT MOST 1048576: true; the input reads as it did. -/
def fnExactOrderOfUptoRow : OpenClaim := { program := "ytafjengmkiepbaagreat", sum := "ea966c649bffeb53bf3457a61a27bec0846782d55dd0900bc29cbaf5ff3471b6", func := "loop.example/g01127/laws.FnExactOrderOf", spec := "fnExactOrderOf", unfollowed := true, recurses := true, apart := false, narrowed := true }
def FnExactOrderOfUptoSaid : Prop := fnExactOrderOfUptoRow.holds Tryz.pinned (OpenSpec.upto fnExactOrderOfSpec)

/-- 'laws.FnExactSelectCode', WHERE WHAT IT READS IS OF BULK AT MOST 1048576: true; the input reads as it did. -/
def fnExactSelectCodeUptoRow : OpenClaim := { program := "ytafjengmkiepbaagreat", sum := "ea966c649bffeb53bf3457a61a27bec0846782d55dd0900bc29cbaf5ff3471b6", func := "loop.example/g01127/laws.FnExactSelectCode", spec := "fnExactSelectCode", unfollowed := true, recurses := true, apart := false, narrowed := true }
def FnExactSelectCodeUptoSaid : Prop := fnExactSelectCodeUptoRow.holds Tryz.pinned (OpenSpec.upto fnExactSelectCodeSpec)

/-- 'laws.FnExactSelectBest', WHERE WHAT IT READS IS OF BULK AT MOST 1048576: true; the input reads as it did. -/
def fnExactSelectBestUptoRow : OpenClaim := { program := "ytafjengmkiepbaagreat", sum := "ea966c649bffeb53bf3457a61a27bec0846782d55dd0900bc29cbaf5ff3471b6", func := "loop.example/g01127/laws.FnExactSelectBest", spec := "fnExactSelectBest", unfollowed := true, recurses := true, apart := false, narrowed := true }
def FnExactSelectBestUptoSaid : Prop := fnExactSelectBestUptoRow.holds Tryz.pinned (OpenSpec.upto fnExactSelectBestSpec)

/-- 'laws.FnExactCompileExpr', WHERE WHAT IT READS IS OF BULK AT MOST 1048576: true; the input reads as it did. -/
def fnExactCompileExprUptoRow : OpenClaim := { program := "ytafjengmkiepbaagreat", sum := "ea966c649bffeb53bf3457a61a27bec0846782d55dd0900bc29cbaf5ff3471b6", func := "loop.example/g01127/laws.FnExactCompileExpr", spec := "fnExactCompileExpr", unfollowed := true, recurses := true, apart := false, narrowed := true }
def FnExactCompileExprUptoSaid : Prop := fnExactCompileExprUptoRow.holds Tryz.pinned (OpenSpec.upto fnExactCompileExprSpec)

/-- 'laws.FnDeadCodeGoes', WHERE WHAT IT READS IS OF BULK AT MOST 1048576: true; the input reads as it did. -/
def fnDeadCodeGoesUptoRow : OpenClaim := { program := "ytafjengmkiepbaagreat", sum := "ea966c649bffeb53bf3457a61a27bec0846782d55dd0900bc29cbaf5ff3471b6", func := "loop.example/g01127/laws.FnDeadCodeGoes", spec := "fnDeadCodeGoes", unfollowed := true, recurses := true, apart := false, narrowed := true }
def FnDeadCodeGoesUptoSaid : Prop := fnDeadCodeGoesUptoRow.holds Tryz.pinned (OpenSpec.upto fnDeadCodeGoesSpec)

end Rows
end Go.Proofs.YtafjengmkiepbaaGreat
