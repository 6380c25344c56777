/- AreFair of the program and of the reference answer alike: the plain law. -/
import Derived.Test.YtlmegefdnkjcbaaQUnfair
import Derived.Test.YtlmegefdnkjcbaaQInts
import Derived.Test.YtlmegefdnkjcbaaQEqI
import Derived.Test.YtlmegefdnkjcbaaQLaw
import Derived.Test.YtlmegefdnkjcbaaPa22
import Derived.Test.YtlmegefdnkjcbaaPa4
import Derived.Test.YtlmegefdnkjcbaaPa9
namespace Go.Proofs.Ytlmegefdnkjcbaa.Pa
open Go.RowKit Go.Proofs.YtlmegefdnkjcbaaW.PrintWords Go.Proofs.YtlmegefdnkjcbaaW.PrintLast Go.Proofs.YtlmegefdnkjcbaaW.PrintMore
set_option linter.unusedVariables false
set_option linter.unusedSimpArgs false
theorem areFair_pure (l : List S51) (ps : List Int) (h : okNodes l) (hq0 : ps.length ≤ maxLen ∧ ∀ x ∈ ps, (Lit.int .i64 x).wf = true) : ∃ k, laws_FnExactAreFair.f k l ps = some true := by
  refine Ev.rounds ?_
  unfold laws_FnExactAreFair.f
  by_cases hb : (ps.length : Int) > 1048576
  · exact Ev.pos hb (Ev.now _)
  refine Ev.neg hb ?_
  obtain ⟨r, hr, hle, hlen⟩ := szNodeS_ev l 1048576 (by omega) (by omega) h
  refine Ev.bindB _ hr ?_
  by_cases hn : r < 0
  · exact Ev.pos hn (Ev.now _)
  have hl := hlen (by omega)
  have hc := conv_len l
  obtain ⟨⟨v0, v1⟩, hs, hi⟩ := areFair_both (conv l) (by omega) ps (by omega)
  refine Ev.neg hn (Ev.bindB _ (toNodeS_ev l (by omega)) (Ev.bindB _ (toIntS_ev ps (by omega)) (Ev.bindB _ (hs) (Ev.bindB _ (toNodeS_ev l (by omega)) (Ev.bindB _ (toIntS_ev ps (by omega)) (Ev.bindB _ (hi) ?_))))))
  refine Ev.neg (by simp) ?_
  simp only [bne_self_eq_false]
  refine Ev.step (fun k => by rw [laws_FnExactAreFair.j0]) ?_
  exact Ev.neg (by simp) (Ev.bindB _ (toNodeS_ev l (by omega)) (Ev.bindB _ (eqNodeS_self (conv l) (by omega)) (Ev.pos rfl (Ev.bindB _ (toIntS_ev ps (by omega)) (Ev.bindB _ (eqIntS_self ps (by omega)) (Ev.pos rfl (Ev.now _)))))))
end Go.Proofs.Ytlmegefdnkjcbaa.Pa
