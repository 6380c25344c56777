/- FnExactSelectCode: for every input the law returns true, and each argument reads afterwards as it read before. No condition. -/
import Derived.Test.YtafjengmkiepbaaGreatRows
import Derived.Test.YtafjengmkiepbaaGreatKP1
import Derived.Test.YtafjengmkiepbaaGreatKA2
import Derived.WalkKit
import Derived.ProofKit
import Derived.OpenShut
import Derived.ShutString
import Derived.ChangeOld
import Derived.Below
import Derived.Lib.SmallJoins
namespace Go.Proofs.YtafjengmkiepbaaGreat.fnExactSelectCode
open Go.ChangeShapes Go.WideShapes Go.ChangeAt Go.RowKit Go.Joins Go.Deep Go.Proofs.YtafjengmkiepbaaGreat.Am
open Go.ChangeMaps (open_string shut_string)
set_option linter.unusedVariables false
set_option linter.unusedSimpArgs false
theorem own : ownKnob Tryz.prog.godebug = none := by kernel_rfl
theorem laidOut : laidOutB Tryz.prog = true := by kernel_rfl
set_option maxRecDepth 100000 in
theorem lifted (os : Os) (started : os.Started) (H : Type) (enc : TypeId × Value → H) :
    ReturnsInHanded {} Tryz.checked os 4 .any (Rows.fnExactSelectCodeSpec.pre6 enc Tryz.prog Tryz.f4 Rows.fnExactSelectCodeRow.domain false) (Rows.fnExactSelectCodeSpec.post enc Tryz.prog Tryz.f4 false true false false) := by
  refine returnsInHanded_of_change (C := Tryz.checked) own started (by kernel_rfl) Tryz.func4
    (ChangeSpec.witness6 (enc := enc) (C := Tryz.checked) false ⟨#[], #[.slice none 0 0, .slice none 0 0], []⟩ 8 (by kernel_rfl) (by kernel_rfl) (by kernel_rfl) (by kernel_rfl)) ?_
  intro W base args ds gs before hval0 hW hcnd _
  have hval : ∀ (j : Nat) t v, Tryz.f4.params[j]? = some t → args[j]? = some v → Value.okWide Tryz.prog W .any base t v := hval0
  have hW' := hW
  obtain ⟨p, q, hA0, hV, rfl, hfz, hnd⟩ := hW
  have hA : DataW.TrodAll enc Tryz.prog W 0 (fun _ => true) true Tryz.f4.params.toList args.toList ds p := hA0
  rw [Tryz.params4] at hA hval
  obtain ⟨v0, vs0, d0, ds0, p0, q0, hargs, rfl, rfl, h0, r0⟩ := trodAll_cons hA
  obtain ⟨v1, vs1, d1, ds1, p1, q1, rfl, rfl, rfl, h1, r1⟩ := trodAll_cons r0
  obtain ⟨rfl, rfl, rfl⟩ := trodAll_nil r1
  obtain rfl : args = #[v0, v1] := by cases args; simp_all
  obtain ⟨rfl, rfl⟩ := trodVars_none hV
  have k0 := h0
  have lt0 : ∀ x ∈ p0, x.block < W.heap.size := by obtain ⟨m, hm⟩ := k0; exact DataW.trod_lt m _ _ _ hm
  obtain ⟨a0, len0, cap0, rfl⟩ := okWide_slice Tryz.underlying22 (hval 0 22 v0 rfl rfl)
  obtain ⟨fuel0, hf0⟩ := h0
  obtain ⟨x0, qx0, vx0⟩ := trod_arg (c := ⟨fun _ => none, fun b => b < W.heap.size⟩) (fun _ h => h) (n := 8) (u := (.sl (.pr .s (.pr (.i .i64) (.pr (.i .i64) (.i .i64)))))) (agg := false) (by kernel_rfl) (by kernel_rfl) (by kernel_rfl) (fun h => nomatch h) (fun _ => ⟨rfl, _, rfl, rfl⟩) hf0
  have k1 := h1
  have lt1 : ∀ x ∈ p1, x.block < W.heap.size := by obtain ⟨m, hm⟩ := k1; exact DataW.trod_lt m _ _ _ hm
  obtain ⟨a1, len1, cap1, rfl⟩ := okWide_slice Tryz.underlying23 (hval 1 23 v1 rfl rfl)
  obtain ⟨fuel1, hf1⟩ := h1
  obtain ⟨x1, qx1, vx1⟩ := trod_arg (c := ⟨fun _ => none, fun b => b < W.heap.size⟩) (fun _ h => h) (n := 8) (u := (.sl (.i .i64))) (agg := false) (by kernel_rfl) (by kernel_rfl) (by kernel_rfl) (fun h => nomatch h) (fun _ => ⟨rfl, _, rfl, rfl⟩) hf1
  obtain ⟨k, hk⟩ := selectCode_pure x0 x1 qx0 qx1
  refine (calls_ofL (P := Tryz.prog) (laws_FnExactSelectCode.calls k x0 x1 hk) rfl rfl (vals_cons vx0 (vals_cons vx1 vals_nil))).mono fun e W' ⟨he, bel⟩ => ?_
  subst he
  exact ⟨_, rfl, _, _, _, [], _, [], hW', trodAll_mk1 (shut_bool Tryz.underlying4 _), (trodAll_cons_mk (Below.trod laidOut (by kernel_rfl) (of_decide_eq_true (by kernel_rfl)) k0 bel lt0) (trodAll_cons_mk (Below.trod laidOut (by kernel_rfl) (of_decide_eq_true (by kernel_rfl)) k1 bel lt1) trodAll_mk0)), rfl, bel.frame _, fun h => by cases h⟩
theorem over : Rows.fnExactSelectCodeRow.holds Tryz.pinned (OpenSpec.ofChange Rows.fnExactSelectCodeSpec) :=
  OpenClaim.holds_of_wide 4 Tryz.f4 rfl rfl rfl rfl rfl rfl rfl ⟨rfl, rfl, rfl, rfl, rfl⟩ rfl rfl rfl rfl rfl (by kernel_rfl) Tryz.func4 (by kernel_rfl)
    (of_decide_eq_true (by kernel_rfl)) (by unfold Func.isWrapper; first | (rw [if_pos (by decide +kernel)]; kernel_rfl) | (rw [if_neg (by decide +kernel)]; exact ⟨rfl, rfl⟩))
    (fun os started H enc _ => lifted os started H enc)
theorem proved : Rows.FnExactSelectCodeSaid := over
#print axioms proved
end Go.Proofs.YtafjengmkiepbaaGreat.fnExactSelectCode
namespace Go.Proofs.YtafjengmkiepbaaGreat
/-- The row, under a short name, for the claim. -/
theorem fnExactSelectCode_holds : Rows.FnExactSelectCodeSaid := fnExactSelectCode.proved
end Go.Proofs.YtafjengmkiepbaaGreat
