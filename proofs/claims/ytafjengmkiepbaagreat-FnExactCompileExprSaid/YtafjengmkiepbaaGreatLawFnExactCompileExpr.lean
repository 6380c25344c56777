/- FnExactCompileExpr: for every input the law returns true, and each argument reads afterwards as it read before. No condition. -/
import Derived.Test.YtafjengmkiepbaaGreatRows
import Derived.Test.YtafjengmkiepbaaGreatKP1
import Derived.Test.YtafjengmkiepbaaGreatKA2
import Derived.WalkKit
import Derived.ProofKit
import Derived.OpenShut
import Derived.ShutString
import Derived.ChangeOld
import Derived.Below
import Derived.Lib.SmallJoins
namespace Go.Proofs.YtafjengmkiepbaaGreat.fnExactCompileExpr
open Go.ChangeShapes Go.WideShapes Go.ChangeAt Go.RowKit Go.Joins Go.Deep Go.Proofs.YtafjengmkiepbaaGreat.Am
open Go.ChangeMaps (open_string shut_string)
set_option linter.unusedVariables false
set_option linter.unusedSimpArgs false
theorem own : ownKnob Tryz.prog.godebug = none := by kernel_rfl
theorem laidOut : laidOutB Tryz.prog = true := by kernel_rfl
set_option maxRecDepth 100000 in
theorem lifted (os : Os) (started : os.Started) (H : Type) (enc : TypeId × Value → H) :
    ReturnsInHanded {} Tryz.checked os 6 .any (Rows.fnExactCompileExprSpec.pre6 enc Tryz.prog Tryz.f6 Rows.fnExactCompileExprRow.domain false) (Rows.fnExactCompileExprSpec.post enc Tryz.prog Tryz.f6 false true false false) := by
  refine returnsInHanded_of_change (C := Tryz.checked) own started (by kernel_rfl) Tryz.func6
    (ChangeSpec.witness6 (enc := enc) (C := Tryz.checked) false ⟨#[], #[.slice none 0 0], []⟩ 8 (by kernel_rfl) (by kernel_rfl) (by kernel_rfl) (by kernel_rfl)) ?_
  intro W base args ds gs before hval0 hW hcnd _
  have hval : ∀ (j : Nat) t v, Tryz.f6.params[j]? = some t → args[j]? = some v → Value.okWide Tryz.prog W .any base t v := hval0
  have hW' := hW
  obtain ⟨p, q, hA0, hV, rfl, hfz, hnd⟩ := hW
  have hA : DataW.TrodAll enc Tryz.prog W 0 (fun _ => true) true Tryz.f6.params.toList args.toList ds p := hA0
  rw [Tryz.params6] at hA hval
  obtain ⟨v0, vs0, d0, ds0, p0, q0, hargs, rfl, rfl, h0, r0⟩ := trodAll_cons hA
  obtain ⟨rfl, rfl, rfl⟩ := trodAll_nil r0
  obtain rfl : args = #[v0] := by cases args; simp_all
  obtain ⟨rfl, rfl⟩ := trodVars_none hV
  have k0 := h0
  have lt0 : ∀ x ∈ p0, x.block < W.heap.size := by obtain ⟨m, hm⟩ := k0; exact DataW.trod_lt m _ _ _ hm
  obtain ⟨a0, len0, cap0, rfl⟩ := okWide_slice Tryz.underlying22 (hval 0 22 v0 rfl rfl)
  obtain ⟨fuel0, hf0⟩ := h0
  obtain ⟨x0, qx0, vx0⟩ := trod_arg (c := ⟨fun _ => none, fun b => b < W.heap.size⟩) (fun _ h => h) (n := 8) (u := (.sl (.pr .s (.pr (.i .i64) (.pr (.i .i64) (.i .i64)))))) (agg := false) (by kernel_rfl) (by kernel_rfl) (by kernel_rfl) (fun h => nomatch h) (fun _ => ⟨rfl, _, rfl, rfl⟩) hf0
  obtain ⟨k, hk⟩ := compile_pure x0 qx0
  refine (calls_ofL (P := Tryz.prog) (laws_FnExactCompileExpr.calls k x0 hk) rfl rfl (vals_cons vx0 vals_nil)).mono fun e W' ⟨he, bel⟩ => ?_
  subst he
  exact ⟨_, rfl, _, _, _, [], _, [], hW', trodAll_mk1 (shut_bool Tryz.underlying4 _), (trodAll_cons_mk (Below.trod laidOut (by kernel_rfl) (of_decide_eq_true (by kernel_rfl)) k0 bel lt0) trodAll_mk0), rfl, bel.frame _, fun h => by cases h⟩
theorem over : Rows.fnExactCompileExprRow.holds Tryz.pinned (OpenSpec.ofChange Rows.fnExactCompileExprSpec) :=
  OpenClaim.holds_of_wide 6 Tryz.f6 rfl rfl rfl rfl rfl rfl rfl ⟨rfl, rfl, rfl, rfl, rfl⟩ rfl rfl rfl rfl rfl (by kernel_rfl) Tryz.func6 (by kernel_rfl)
    (of_decide_eq_true (by kernel_rfl)) (by unfold Func.isWrapper; first | (rw [if_pos (by decide +kernel)]; kernel_rfl) | (rw [if_neg (by decide +kernel)]; exact ⟨rfl, rfl⟩))
    (fun os started H enc _ => lifted os started H enc)
theorem proved : Rows.FnExactCompileExprSaid := over
#print axioms proved
end Go.Proofs.YtafjengmkiepbaaGreat.fnExactCompileExpr
namespace Go.Proofs.YtafjengmkiepbaaGreat
/-- The row, under a short name, for the claim. -/
theorem fnExactCompileExpr_holds : Rows.FnExactCompileExprSaid := fnExactCompileExpr.proved
end Go.Proofs.YtafjengmkiepbaaGreat
