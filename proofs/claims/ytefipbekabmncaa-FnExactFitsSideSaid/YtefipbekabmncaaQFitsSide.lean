/- FitsSide of the program and of the reference answer alike: the plain law. -/
import Derived.Test.YtefipbekabmncaaQSide
import Derived.Test.YtefipbekabmncaaPa9
namespace Go.Proofs.Ytefipbekabmncaa.Pa
open Go.RowKit Go.Proofs.YtefipbekabmncaaW.PrintWords Go.Proofs.YtefipbekabmncaaW.PrintLast Go.Proofs.YtefipbekabmncaaW.PrintMore
theorem fitsSide_pure (s : ByteArray) (n : Int) (_ : s.size ≤ maxLen) (_ : (Lit.int .i64 n).wf = true) : ∃ k, laws_FnExactFitsSide.f k s n = some true := by
  refine Ev.rounds ?_
  unfold laws_FnExactFitsSide.f
  by_cases h : (s.size : Int) > 1048576
  · exact Ev.pos h (Ev.now _)
  · refine Ev.neg h (Ev.bindB _ (specFitsSide_ev s n) (Ev.bindB _ (implFitsSide_ev s n) (Ev.one ?_)))
    simp
end Go.Proofs.Ytefipbekabmncaa.Pa
