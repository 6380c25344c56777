/- DifferenceOf of the program and of the reference answer alike: the plain law. -/
import Derived.Test.YtefipbekabmncaaQDiff
import Derived.Test.YtefipbekabmncaaPa12
import Derived.Test.YtefipbekabmncaaPa8
namespace Go.Proofs.Ytefipbekabmncaa.Pa
open Go.RowKit Go.Proofs.YtefipbekabmncaaW.PrintWords Go.Proofs.YtefipbekabmncaaW.PrintLast Go.Proofs.YtefipbekabmncaaW.PrintMore
set_option linter.unusedVariables false
set_option linter.unusedSimpArgs false
theorem differenceOf_pure (l : List S101) (m : List S78) (r : Int) (h : okNodes l) (hm : okInstrs m) (hr : (Lit.int .i64 r).wf = true) : ∃ k, laws_FnExactDifferenceOf.f k l m r = some true := by
  refine Ev.rounds ?_
  unfold laws_FnExactDifferenceOf.f
  obtain ⟨x, hx, hxle, hxlen⟩ := szNodeS_ev l 1048576 (by omega) (by omega) h
  refine Ev.bindB _ hx ?_
  by_cases hn : x < 0
  · exact Ev.pos hn (Ev.now _)
  · have hl := hxlen (by omega)
    have hc := conv_len l
    obtain ⟨y, hy, hyle, hylen⟩ := szInstrS_ev m x (by omega) (by omega) hm
    refine Ev.neg hn (Ev.bindB _ hy ?_)
    by_cases hn2 : y < 0
    · exact Ev.pos hn2 (Ev.now _)
    · have hl2 := hylen (by omega)
      have hc2 := convI_len m
      refine Ev.neg hn2 (Ev.bindB _ (toNodeS_ev l (by omega)) (Ev.bindB _ (toInstrS_ev m (by omega)) (Ev.bindB _ (specDifference_ev _ _ r (by omega) (by omega)) (Ev.bindB _ (toNodeS_ev l (by omega)) (Ev.bindB _ (toInstrS_ev m (by omega)) (Ev.bindB _ (implDifference_ev _ _ r (by omega) (by omega)) (Ev.pos rfl (Ev.pos rfl ?_))))))))
      rw [show ((diffV (conv l) (convI m) r).2.2 != (diffV (conv l) (convI m) r).2.2) = false from by simp]
      refine Ev.step (fun k => by rw [laws_FnExactDifferenceOf.j0]) (Ev.neg (by simp) (Ev.bindB _ (toNodeS_ev l (by omega)) (Ev.bindB _ (eqNodeS_self (conv l) (by omega)) (Ev.pos rfl (Ev.bindB _ (toInstrS_ev m (by omega)) (Ev.bindB _ (eqInstrS_self (convI m) (by omega)) (Ev.pos rfl (Ev.now _))))))))
end Go.Proofs.Ytefipbekabmncaa.Pa
