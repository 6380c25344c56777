/- TileCost of the program and of the reference answer alike: the plain law. -/
import Derived.Test.YtlmegefdnkjcbaaQTold
import Derived.Test.YtlmegefdnkjcbaaQLaw
import Derived.Test.YtlmegefdnkjcbaaPa17
import Derived.Test.YtlmegefdnkjcbaaPa4
import Derived.Test.YtlmegefdnkjcbaaPa9
namespace Go.Proofs.Ytlmegefdnkjcbaa.Pa
open Go.RowKit Go.Proofs.YtlmegefdnkjcbaaW.PrintWords Go.Proofs.YtlmegefdnkjcbaaW.PrintLast Go.Proofs.YtlmegefdnkjcbaaW.PrintMore
set_option linter.unusedVariables false
set_option linter.unusedSimpArgs false
theorem tileCost_both (e : List S54) (hl : e.length ≤ 9223372036854775807) (i t : Int) : ∃ r, Ev (fun k => spec_TileCost.f k e i t) r ∧ Ev (fun k => impl_TileCost.f k e i t) r := by
  unfold spec_TileCost.f impl_TileCost.f
  rcases asked e hl i t with ⟨h1, h2⟩ | ⟨p, q, hg, h0, h3, h1, hs, h2⟩
  · exact ⟨(0, false), Ev.bindB _ h1 (Ev.neg (by simp) (Ev.now _)), Ev.map h2 rfl⟩
  · exact ⟨(costT e i t, true), Ev.bindB _ h1 (Ev.pos rfl (Ev.here _ (cvCost_f hg h0 h3 t) (Ev.now _))), Ev.map h2 rfl⟩
theorem tileCost_pure (l : List S51) (i : Int) (t : Int) (h : okNodes l) (hq0 : (Lit.int .i64 i).wf = true) (hq1 : (Lit.int .i64 t).wf = true) : ∃ k, laws_FnExactTileCost.f k l i t = some true := by
  refine Ev.rounds ?_
  unfold laws_FnExactTileCost.f
  obtain ⟨r, hr, hle, hlen⟩ := szNodeS_ev l 1048576 (by omega) (by omega) h
  refine Ev.bindB _ hr ?_
  by_cases hn : r < 0
  · exact Ev.pos hn (Ev.now _)
  have hl := hlen (by omega)
  have hc := conv_len l
  obtain ⟨⟨v0, v1⟩, hs, hi⟩ := tileCost_both (conv l) (by omega) i t
  refine Ev.neg hn (Ev.bindB _ (toNodeS_ev l (by omega)) (Ev.bindB _ (hs) (Ev.bindB _ (toNodeS_ev l (by omega)) (Ev.bindB _ (hi) ?_))))
  refine Ev.pos rfl ?_
  simp only [bne_self_eq_false]
  refine Ev.step (fun k => by rw [laws_FnExactTileCost.j0]) ?_
  exact Ev.neg (by simp) (Ev.bindB _ (toNodeS_ev l (by omega)) (Ev.bindB _ (eqNodeS_self (conv l) (by omega)) (Ev.pos rfl (Ev.now _))))
end Go.Proofs.Ytlmegefdnkjcbaa.Pa
