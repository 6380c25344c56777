/- FnExactPricesOf: for every input the law returns true, and each argument reads afterwards as it read before. No condition. -/
import Derived.Test.YtlmegefdnkjcbaaRows
import Derived.Test.YtlmegefdnkjcbaaPa24
import Derived.Test.YtlmegefdnkjcbaaQPricesOf
import Derived.Test.YtlmegefdnkjcbaaQRow
import Derived.WalkKit
import Derived.ProofKit
import Derived.OpenShut
import Derived.ShutString
import Derived.ChangeOld
import Derived.Below
import Derived.Lib.SmallJoins
namespace Go.Proofs.Ytlmegefdnkjcbaa.fnExactPricesOf
open Go.ChangeShapes Go.WideShapes Go.ChangeAt Go.RowKit Go.Joins Go.Deep Go.Proofs.Ytlmegefdnkjcbaa.Pa Go.Proofs.YtlmegefdnkjcbaaW.PrintWords
open Go.ChangeMaps (open_string shut_string)
set_option linter.unusedVariables false
set_option linter.unusedSimpArgs false
theorem own : ownKnob Try.prog.godebug = none := by kernel_rfl
theorem laidOut : laidOutB Try.prog = true := by kernel_rfl
section
variable {H : Type} {enc : TypeId × Value → H} {w : World} {base : Nat} {spare : Nat → Bool} {held : Bool}
theorem tr9 : Tr enc Try.prog w base spare held Kd.string (fun s => s.size ≤ maxLen) 9 := Tr.string Try.underlying9
theorem tr3 : Tr enc Try.prog w base spare held (Kd.int .i64) (fun x => (Lit.int .i64 x).wf = true) 3 := Tr.int Try.underlying3
def Q51 (x : S51) : Prop := (x.f0.size ≤ maxLen) ∧ ((Lit.int .i64 x.f1).wf = true) ∧ ((Lit.int .i64 x.f2).wf = true) ∧ ((Lit.int .i64 x.f3).wf = true)
set_option maxRecDepth 100000 in
theorem tr51 : Tr enc Try.prog w base spare held k51 Q51 51 := by
  intro n cs y h
  obtain ⟨ys, m, _, _, hcl, hyl, hf⟩ := DataW.trod_struct Try.underlying51 h
  have hc : cs.length = 4 := hcl.trans (by kernel_rfl)
  match cs, hc, ys, hyl with
  | [c0, c1, c2, c3], _, [y0, y1, y2, y3], _ =>
    have g0 : DataW.trod enc Try.prog w base spare held m 9 (([c0, c1, c2, c3].drop 0).take (Try.prog.cellsOf 9)) = some y0 := hf 0 _ rfl
    rw [show Try.prog.cellsOf 9 = 1 from by kernel_rfl] at g0
    obtain ⟨x0, k0, q0⟩ := tr9 (w := w) (enc := enc) (base := base) (spare := spare) (held := held) m [c0] y0 g0
    have g1 : DataW.trod enc Try.prog w base spare held m 3 (([c0, c1, c2, c3].drop 1).take (Try.prog.cellsOf 3)) = some y1 := hf 1 _ rfl
    rw [show Try.prog.cellsOf 3 = 1 from by kernel_rfl] at g1
    obtain ⟨x1, k1, q1⟩ := tr3 (w := w) (enc := enc) (base := base) (spare := spare) (held := held) m [c1] y1 g1
    have g2 : DataW.trod enc Try.prog w base spare held m 3 (([c0, c1, c2, c3].drop 2).take (Try.prog.cellsOf 3)) = some y2 := hf 2 _ rfl
    rw [show Try.prog.cellsOf 3 = 1 from by kernel_rfl] at g2
    obtain ⟨x2, k2, q2⟩ := tr3 (w := w) (enc := enc) (base := base) (spare := spare) (held := held) m [c2] y2 g2
    have g3 : DataW.trod enc Try.prog w base spare held m 3 (([c0, c1, c2, c3].drop 3).take (Try.prog.cellsOf 3)) = some y3 := hf 3 _ rfl
    rw [show Try.prog.cellsOf 3 = 1 from by kernel_rfl] at g3
    obtain ⟨x3, k3, q3⟩ := tr3 (w := w) (enc := enc) (base := base) (spare := spare) (held := held) m [c3] y3 g3
    obtain rfl : c0 = .string x0 := (List.cons.inj k0).1
    obtain rfl : c1 = .int .i64 x1 := (List.cons.inj k1).1
    obtain rfl : c2 = .int .i64 x2 := (List.cons.inj k2).1
    obtain rfl : c3 = .int .i64 x3 := (List.cons.inj k3).1
    exact ⟨⟨x0, x1, x2, x3⟩, k51_mk w _, ⟨q0, q1, q2, q3⟩⟩
end
set_option maxRecDepth 100000 in
theorem lifted (os : Os) (started : os.Started) (H : Type) (enc : TypeId × Value → H) :
    ReturnsInHanded {} Try.checked os 9 .any (Rows.fnExactPricesOfSpec.pre6 enc Try.prog Try.f9 Rows.fnExactPricesOfRow.domain false) (Rows.fnExactPricesOfSpec.post enc Try.prog Try.f9 false true false false) := by
  refine returnsInHanded_of_change (C := Try.checked) own started (by kernel_rfl) Try.func9
    (ChangeSpec.witness6 (enc := enc) (C := Try.checked) false ⟨#[], #[.slice none 0 0], []⟩ 8 (by kernel_rfl) (by kernel_rfl) (by kernel_rfl) (by kernel_rfl)) ?_
  intro W base args ds gs before hval0 hW hcnd _
  have hval : ∀ (j : Nat) t v, Try.f9.params[j]? = some t → args[j]? = some v → Value.okWide Try.prog W .any base t v := hval0
  have hW' := hW
  obtain ⟨p, q, hA0, hV, rfl, hfz, hnd⟩ := hW
  have hA : DataW.TrodAll enc Try.prog W 0 (fun _ => true) true Try.f9.params.toList args.toList ds p := hA0
  rw [Try.params9] at hA hval
  obtain ⟨v0, vs0, d0, ds0, p0, q0, hargs, rfl, rfl, h0, r0⟩ := trodAll_cons hA
  obtain ⟨rfl, rfl, rfl⟩ := trodAll_nil r0
  obtain rfl : args = #[v0] := by cases args; simp_all
  obtain ⟨rfl, rfl⟩ := trodVars_none hV
  have k0 := h0
  have lt0 : ∀ x ∈ p0, x.block < W.heap.size := by obtain ⟨m, hm⟩ := k0; exact DataW.trod_lt m _ _ _ hm
  obtain ⟨a0, len0, cap0, rfl⟩ := okWide_slice Try.underlying22 (hval 0 22 v0 rfl rfl)
  obtain ⟨fuel0, hf0⟩ := h0
  obtain ⟨A0, c0, l0, e0, hc0, hr0, qa0, qb0⟩ := Tr.open Try.underlying22 (by kernel_rfl) (tr51 (enc := enc) (w := W)) hf0
  simp only [Value.cells, List.cons.injEq, Value.slice.injEq, and_true, List.toList_toArray] at e0
  obtain ⟨rfl, rfl, rfl⟩ := e0
  obtain ⟨k, hk⟩ := pricesOf_pure l0 ⟨qa0, qb0⟩
  refine (laws_FnExactPricesOf.calls k _ _ l0 true W hr0 hc0 hk).mono fun e W' ⟨he, bel0⟩ => ?_
  subst he
  have bel : Below W.heap.size W W' := bel0
  exact ⟨_, rfl, _, _, _, [], _, [], hW', trodAll_mk1 (shut_bool Try.underlying4 _), (trodAll_cons_mk (Below.trod laidOut (by kernel_rfl) (of_decide_eq_true (by kernel_rfl)) k0 bel lt0) trodAll_mk0), rfl, bel.frame _, fun h => by cases h⟩
theorem over : Rows.fnExactPricesOfRow.holds Try.pinned (OpenSpec.ofChange Rows.fnExactPricesOfSpec) :=
  OpenClaim.holds_of_wide 9 Try.f9 rfl rfl rfl rfl rfl rfl rfl ⟨rfl, rfl, rfl, rfl, rfl⟩ rfl rfl rfl rfl rfl (by kernel_rfl) Try.func9 (by kernel_rfl)
    (of_decide_eq_true (by kernel_rfl)) (by unfold Func.isWrapper; first | (rw [if_pos (by decide +kernel)]; kernel_rfl) | (rw [if_neg (by decide +kernel)]; exact ⟨rfl, rfl⟩))
    (fun os started H enc _ => lifted os started H enc)
theorem proved : Rows.FnExactPricesOfSaid := over
#print axioms proved
end Go.Proofs.Ytlmegefdnkjcbaa.fnExactPricesOf
namespace Go.Proofs.Ytlmegefdnkjcbaa
/-- The row, under a short name, for the claim. -/
theorem fnExactPricesOf_holds : Rows.FnExactPricesOfSaid := fnExactPricesOf.proved
end Go.Proofs.Ytlmegefdnkjcbaa
