/- FnExactIsChoice: for every input the law returns true, and each argument reads afterwards as it read before. No condition. -/
import Derived.Test.YtefipbekabmncaaRows
import Derived.Test.YtefipbekabmncaaPa10
import Derived.Test.YtefipbekabmncaaQIsChoice
import Derived.Test.YtefipbekabmncaaQRow
import Derived.WalkKit
import Derived.ProofKit
import Derived.OpenShut
import Derived.ShutString
import Derived.ChangeOld
import Derived.Below
import Derived.Lib.SmallJoins
namespace Go.Proofs.Ytefipbekabmncaa.fnExactIsChoice
open Go.ChangeShapes Go.WideShapes Go.ChangeAt Go.RowKit Go.Joins Go.Deep Go.Proofs.Ytefipbekabmncaa.Pa Go.Proofs.YtefipbekabmncaaW.PrintWords
open Go.ChangeMaps (open_string shut_string)
set_option linter.unusedVariables false
set_option linter.unusedSimpArgs false
theorem own : ownKnob Try.prog.godebug = none := by kernel_rfl
theorem laidOut : laidOutB Try.prog = true := by kernel_rfl
section
variable {H : Type} {enc : TypeId × Value → H} {w : World} {base : Nat} {spare : Nat → Bool} {held : Bool}
theorem tr9 : Tr enc Try.prog w base spare held Kd.string (fun s => s.size ≤ maxLen) 9 := Tr.string Try.underlying9
theorem tr3 : Tr enc Try.prog w base spare held (Kd.int .i64) (fun x => (Lit.int .i64 x).wf = true) 3 := Tr.int Try.underlying3
end
set_option maxRecDepth 100000 in
theorem lifted (os : Os) (started : os.Started) (H : Type) (enc : TypeId × Value → H) :
    ReturnsInHanded {} Try.checked os 5 .any (Rows.fnExactIsChoiceSpec.pre6 enc Try.prog Try.f5 Rows.fnExactIsChoiceRow.domain false) (Rows.fnExactIsChoiceSpec.post enc Try.prog Try.f5 false true false false) := by
  refine returnsInHanded_of_change (C := Try.checked) own started (by kernel_rfl) Try.func5
    (ChangeSpec.witness6 (enc := enc) (C := Try.checked) false ⟨#[], #[.agg #[.slice none 0 0, .slice none 0 0]], []⟩ 8 (by kernel_rfl) (by kernel_rfl) (by kernel_rfl) (by kernel_rfl)) ?_
  intro W base args ds gs before hval0 hW hcnd _
  have hval : ∀ (j : Nat) t v, Try.f5.params[j]? = some t → args[j]? = some v → Value.okWide Try.prog W .any base t v := hval0
  have hW' := hW
  obtain ⟨p, q, hA0, hV, rfl, hfz, hnd⟩ := hW
  have hA : DataW.TrodAll enc Try.prog W 0 (fun _ => true) true Try.f5.params.toList args.toList ds p := hA0
  rw [Try.params5] at hA hval
  obtain ⟨v0, vs0, d0, ds0, p0, q0, hargs, rfl, rfl, h0, r0⟩ := trodAll_cons hA
  obtain ⟨rfl, rfl, rfl⟩ := trodAll_nil r0
  obtain rfl : args = #[v0] := by cases args; simp_all
  obtain ⟨rfl, rfl⟩ := trodVars_none hV
  have k0 := h0
  have lt0 : ∀ x ∈ p0, x.block < W.heap.size := by obtain ⟨m, hm⟩ := k0; exact DataW.trod_lt m _ _ _ hm
  obtain ⟨cs0, rfl, hsz0⟩ := okWide_struct Try.underlying36 (hval 0 36 v0 rfl rfl)
  obtain ⟨fuel0, hf0⟩ := h0
  obtain ⟨ys0, m0, _, _, hcl0, hyl0, hfs0⟩ := DataW.trod_struct Try.underlying36 hf0
  have hcc0 : cs0.toList.length = 2 := by simpa [Value.cells] using hcl0.trans (show Try.prog.cellsOf 36 = 2 by kernel_rfl)
  obtain ⟨csl0⟩ := cs0
  obtain ⟨c0_0, c0_1, hcq0⟩ := len2 hcc0
  obtain ⟨y0_0, y0_1, hyq0⟩ := len2 (hyl0.trans (by rfl))
  subst hyq0
  replace hcq0 : csl0 = [c0_0, c0_1] := hcq0
  subst hcq0
  have g0_0 : DataW.trod enc Try.prog W 0 (fun _ => true) true m0 33 (([c0_0, c0_1].drop 0).take (Try.prog.cellsOf 33)) = some y0_0 := hfs0 0 _ rfl
  rw [show Try.prog.cellsOf 33 = 1 from by kernel_rfl] at g0_0
  replace g0_0 : DataW.trod enc Try.prog W 0 (fun _ => true) true m0 33 [c0_0] = some y0_0 := g0_0
  have g0_1 : DataW.trod enc Try.prog W 0 (fun _ => true) true m0 34 (([c0_0, c0_1].drop 1).take (Try.prog.cellsOf 34)) = some y0_1 := hfs0 1 _ rfl
  rw [show Try.prog.cellsOf 34 = 1 from by kernel_rfl] at g0_1
  replace g0_1 : DataW.trod enc Try.prog W 0 (fun _ => true) true m0 34 [c0_1] = some y0_1 := g0_1
  obtain ⟨A0_0, cc0_0, l0_0, e0_0, hc0_0, hr0_0, qa0_0, qb0_0⟩ := Tr.open Try.underlying33 (by kernel_rfl) (tr9 (enc := enc) (w := W)) g0_0
  obtain rfl := (List.cons.inj e0_0).1
  obtain ⟨A0_1, cc0_1, l0_1, e0_1, hc0_1, hr0_1, qa0_1, qb0_1⟩ := Tr.open Try.underlying34 (by kernel_rfl) (tr3 (enc := enc) (w := W)) g0_1
  obtain rfl := (List.cons.inj e0_1).1
  obtain ⟨k, hk⟩ := isChoice_pure l0_0 l0_1 ⟨qa0_0, qb0_0⟩ ⟨qa0_1, qb0_1⟩
  refine (laws_FnExactIsChoice.calls k _ _ l0_0 _ _ l0_1 true W hr0_0 hc0_0 hr0_1 hc0_1 hk).mono fun e W' ⟨he, bel0⟩ => ?_
  subst he
  have bel : Below W.heap.size W W' := bel0
  exact ⟨_, rfl, _, _, _, [], _, [], hW', trodAll_mk1 (shut_bool Try.underlying4 _), (trodAll_cons_mk (Below.trod laidOut (by kernel_rfl) (of_decide_eq_true (by kernel_rfl)) k0 bel lt0) trodAll_mk0), rfl, bel.frame _, fun h => by cases h⟩
theorem over : Rows.fnExactIsChoiceRow.holds Try.pinned (OpenSpec.ofChange Rows.fnExactIsChoiceSpec) :=
  OpenClaim.holds_of_wide 5 Try.f5 rfl rfl rfl rfl rfl rfl rfl ⟨rfl, rfl, rfl, rfl, rfl⟩ rfl rfl rfl rfl rfl (by kernel_rfl) Try.func5 (by kernel_rfl)
    (of_decide_eq_true (by kernel_rfl)) (by unfold Func.isWrapper; first | (rw [if_pos (by decide +kernel)]; kernel_rfl) | (rw [if_neg (by decide +kernel)]; exact ⟨rfl, rfl⟩))
    (fun os started H enc _ => lifted os started H enc)
theorem proved : Rows.FnExactIsChoiceSaid := over
#print axioms proved
end Go.Proofs.Ytefipbekabmncaa.fnExactIsChoice
namespace Go.Proofs.Ytefipbekabmncaa
/-- The row, under a short name, for the claim. -/
theorem fnExactIsChoice_holds : Rows.FnExactIsChoiceSaid := fnExactIsChoice.proved
end Go.Proofs.Ytefipbekabmncaa
