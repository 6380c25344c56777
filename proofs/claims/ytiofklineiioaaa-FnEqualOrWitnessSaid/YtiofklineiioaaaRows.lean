/-
  No cell of these rows narrows 'for every input' (looked for: loops, veiled, ifaces, maps, wideKeys, modest, calm, conditions, laid).
  DERIVED. THE GIVEN ROWS OF THIS SEAT. 3 by the template 'for every input the law returns true; each argument reads behind the call as it read before'; 0 by the template 'total and deterministic' (their statements: YtiofklineiioaaaTotals.lean).
  GIVEN WITH THE SEED: the statements are not yours to turn. If you find one false, say at which input.
  Laid BY PROGRAM, IN A SANDBOX (cutbox-rows.mjs): the forced cells as the released guide's own fill.sh prints them over the translation 7869d40da746c3a8… (all of the seat's roots in one cut). By AI agents, Wed Nov 11 2026. No macro, syntax, notation, axiom, sorry.
-/
import Derived.Test.YtiofklineiioaaaChecked
import GoSem.Claim
import GoSem.ClaimJoined
import GoSem.ClaimMapViews
import Derived.JoinedTies
import Derived.KernelRfl
namespace Go.Proofs.Ytiofklineiioaaa
/- THE CELL 'sum', in the pinned program and in every row, IS THE sha256 OF THE DUMP (.gsa) THAT YtiofklineiioaaaProg.lean LOADS. Nothing in Lean hashes anything: it is a label: what it is worth is what the hold of that sum in a sandbox is worth. -/
noncomputable def Try.pinned : Pinned := { name := "ytiofklineiioaaa", sum := "7869d40da746c3a82decda15764b35857e65c0f7b089be8fce897056fe77fdf6", checked := Try.checked }
namespace Rows
def none {H : Type} : Left H := { results := [], args := [] }

/-- 'laws.FnInputsThatMatter': WHATEVER THE INPUT: true; the input reads as it did. -/
def fnInputsThatMatterSpec : ChangeSpec := { name := "fnInputsThatMatter", fn := fun _ => fun
  | [d1, d2] => { results := [.lit (.bool true)], args := [d1, d2] }
  | _ => none }
def fnInputsThatMatterRow : OpenClaim := { program := "ytiofklineiioaaa", sum := "7869d40da746c3a82decda15764b35857e65c0f7b089be8fce897056fe77fdf6", func := "loop.example/g01127/laws.FnInputsThatMatter", spec := "fnInputsThatMatter", unfollowed := true, recurses := true, apart := false }
def FnInputsThatMatterSaid : Prop := fnInputsThatMatterRow.holds Try.pinned (OpenSpec.ofChange fnInputsThatMatterSpec)

/-- ITS FALSE NEIGHBOUR: 'it returns false'. Refute it at one input. -/
def fnInputsThatMatterWrong : ChangeSpec := { name := "fnInputsThatMatter", fn := fun _ => fun
  | [d1, d2] => { results := [.lit (.bool false)], args := [d1, d2] }
  | _ => none }
def FnInputsThatMatterWrongFalsely : Prop := fnInputsThatMatterRow.holds Try.pinned (OpenSpec.ofChange fnInputsThatMatterWrong)

/-- 'laws.FnEqualOrWitness': WHATEVER THE INPUT: true; the input reads as it did. -/
def fnEqualOrWitnessSpec : ChangeSpec := { name := "fnEqualOrWitness", fn := fun _ => fun
  | [d1, d2] => { results := [.lit (.bool true)], args := [d1, d2] }
  | _ => none }
def fnEqualOrWitnessRow : OpenClaim := { program := "ytiofklineiioaaa", sum := "7869d40da746c3a82decda15764b35857e65c0f7b089be8fce897056fe77fdf6", func := "loop.example/g01127/laws.FnEqualOrWitness", spec := "fnEqualOrWitness", unfollowed := true, recurses := true, apart := false }
def FnEqualOrWitnessSaid : Prop := fnEqualOrWitnessRow.holds Try.pinned (OpenSpec.ofChange fnEqualOrWitnessSpec)

/-- ITS FALSE NEIGHBOUR: 'it returns false'. Refute it at one input. -/
def fnEqualOrWitnessWrong : ChangeSpec := { name := "fnEqualOrWitness", fn := fun _ => fun
  | [d1, d2] => { results := [.lit (.bool false)], args := [d1, d2] }
  | _ => none }
def FnEqualOrWitnessWrongFalsely : Prop := fnEqualOrWitnessRow.holds Try.pinned (OpenSpec.ofChange fnEqualOrWitnessWrong)

/-- 'laws.FnTilesTold': WHATEVER THE INPUT: true; the input reads as it did. -/
def fnTilesToldSpec : ChangeSpec := { name := "fnTilesTold", fn := fun _ => fun
  | [d1, d2] => { results := [.lit (.bool true)], args := [d1, d2] }
  | _ => none }
def fnTilesToldRow : OpenClaim := { program := "ytiofklineiioaaa", sum := "7869d40da746c3a82decda15764b35857e65c0f7b089be8fce897056fe77fdf6", func := "loop.example/g01127/laws.FnTilesTold", spec := "fnTilesTold", unfollowed := true, recurses := true, apart := false }
def FnTilesToldSaid : Prop := fnTilesToldRow.holds Try.pinned (OpenSpec.ofChange fnTilesToldSpec)

/-- ITS FALSE NEIGHBOUR: 'it returns false'. Refute it at one input. -/
def fnTilesToldWrong : ChangeSpec := { name := "fnTilesTold", fn := fun _ => fun
  | [d1, d2] => { results := [.lit (.bool false)], args := [d1, d2] }
  | _ => none }
def FnTilesToldWrongFalsely : Prop := fnTilesToldRow.holds Try.pinned (OpenSpec.ofChange fnTilesToldWrong)

/- THE SECOND FORM. 'bulk': how many values and letters a reading holds, each counted each time it is reached (what is shared counts as often as it is met; a slice's spare places count too). A statement '..UptoSaid' is the law's where the arguments, and the package variables that the reading takes, are together of bulk at most 1048576: NARROWER than '..Said'. Prove '..Said' where nothing that the law and all that it calls make is longer than what came in: it says more and counts as full. Else prove '..UptoSaid'. A law counts once. -/
mutual
def uptoBulk {H : Type} : DataW H → Nat
  | .lit (.string bytes) => bytes.length + 1
  | .lit _ => 1
  | .nil => 1
  | .ptr d => uptoBulk d + 1
  | .slice elems spare => uptoBulkAll elems + uptoBulkAll spare + 1
  | .agg parts => uptoBulkAll parts + 1
  | .iface _ d => uptoBulk d + 1
  | .map entries => uptoBulkEntries entries + 1
  | .held _ => 1
def uptoBulkAll {H : Type} : List (DataW H) → Nat
  | [] => 0
  | d :: r => uptoBulk d + uptoBulkAll r
def uptoBulkEntries {H : Type} : List (Lit × DataW H) → Nat
  | [] => 0
  | x :: r => uptoBulkEntry x + uptoBulkEntries r
def uptoBulkEntry {H : Type} : Lit × DataW H → Nat
  | (.string bytes, d) => bytes.length + uptoBulk d + 1
  | (_, d) => uptoBulk d + 1
 end
def uptoSmall : (H : Type) → List (DataW H) → Bool := fun _ ds => decide (uptoBulkAll ds ≤ 1048576)
def OpenSpec.upto (s : _root_.Go.ChangeSpec) : _root_.Go.OpenSpec := { _root_.Go.OpenSpec.ofChange s with cond := some uptoSmall }

/-- 'laws.FnInputsThatMatter', WHERE WHAT IT READS IS OF BULK AT MOST 1048576: true; the input reads as it did. -/
def fnInputsThatMatterUptoRow : OpenClaim := { program := "ytiofklineiioaaa", sum := "7869d40da746c3a82decda15764b35857e65c0f7b089be8fce897056fe77fdf6", func := "loop.example/g01127/laws.FnInputsThatMatter", spec := "fnInputsThatMatter", unfollowed := true, recurses := true, apart := false, narrowed := true }
def FnInputsThatMatterUptoSaid : Prop := fnInputsThatMatterUptoRow.holds Try.pinned (OpenSpec.upto fnInputsThatMatterSpec)

/-- 'laws.FnEqualOrWitness', WHERE WHAT IT READS IS OF BULK AT MOST 1048576: true; the input reads as it did. -/
def fnEqualOrWitnessUptoRow : OpenClaim := { program := "ytiofklineiioaaa", sum := "7869d40da746c3a82decda15764b35857e65c0f7b089be8fce897056fe77fdf6", func := "loop.example/g01127/laws.FnEqualOrWitness", spec := "fnEqualOrWitness", unfollowed := true, recurses := true, apart := false, narrowed := true }
def FnEqualOrWitnessUptoSaid : Prop := fnEqualOrWitnessUptoRow.holds Try.pinned (OpenSpec.upto fnEqualOrWitnessSpec)

/-- 'laws.FnTilesTold', WHERE WHAT IT READS IS OF BULK AT MOST 1048576: true; the input reads as it did. -/
def fnTilesToldUptoRow : OpenClaim := { program := "ytiofklineiioaaa", sum := "7869d40da746c3a82decda15764b35857e65c0f7b089be8fce897056fe77fdf6", func := "loop.example/g01127/laws.FnTilesTold", spec := "fnTilesTold", unfollowed := true, recurses := true, apart := false, narrowed := true }
def FnTilesToldUptoSaid : Prop := fnTilesToldUptoRow.holds Try.pinned (OpenSpec.upto fnTilesToldSpec)

end Rows
end Go.Proofs.Ytiofklineiioaaa
