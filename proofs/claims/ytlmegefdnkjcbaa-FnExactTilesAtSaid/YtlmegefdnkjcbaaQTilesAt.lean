/- TilesAt of the program and of the reference answer alike: the plain law. -/
import Derived.Test.YtlmegefdnkjcbaaQCover
import Derived.Test.YtlmegefdnkjcbaaQMark
import Derived.Test.YtlmegefdnkjcbaaQLaw
import Derived.Test.YtlmegefdnkjcbaaPa13
import Derived.Test.YtlmegefdnkjcbaaPa20
import Derived.Test.YtlmegefdnkjcbaaPa4
import Derived.Test.YtlmegefdnkjcbaaPa9
namespace Go.Proofs.Ytlmegefdnkjcbaa.Pa
open Go.RowKit Go.Proofs.YtlmegefdnkjcbaaW.PrintWords Go.Proofs.YtlmegefdnkjcbaaW.PrintLast Go.Proofs.YtlmegefdnkjcbaaW.PrintMore
set_option linter.unusedVariables false
set_option linter.unusedSimpArgs false
theorem tilesAtQ_both (e : List S54) (hl : e.length ≤ 9223372036854775807) (i : Int) : ∃ r, Ev (fun k => spec_TilesAt.f k e i) r ∧ Ev (fun k => impl_TilesAt.f k e i) r ∧ r.1.length ≤ 13 := by
  unfold spec_TilesAt.f impl_TilesAt.f
  by_cases h : tree e = true
  · have hg := tree_good h
    have hl2 := good_len hg
    rw [wrap_ok (x := (e.length : Int) - 1) (by omega) (by omega), l1In_f, within_f]
    simp only [Option.bind_some]
    cases hi : inB i 0 ((e.length : Int) - 1) with
    | false => exact ⟨([], false), Ev.bindB _ (cvTree_ev e hl) (Ev.pos h (Ev.neg (by simp) (Ev.now _))), Ev.bindB _ (isTree_ev e hl) (Ev.pos h (Ev.neg (by simp) (Ev.now _))), by simp⟩
    | true =>
      have hi' : 0 ≤ i ∧ i ≤ (e.length : Int) - 1 := by simpa [inB] using hi
      have h1 : i < (e.length : Int) := by omega
      exact ⟨(tilesL e i, true), Ev.bindB _ (cvTree_ev e hl) (Ev.pos h (Ev.pos rfl (Ev.map (cvTiles_ev hg hi'.1 h1) rfl))), Ev.bindB _ (isTree_ev e hl) (Ev.pos h (Ev.pos rfl (Ev.map (tilesAt_ev hg hi'.1 h1) rfl))), tilesTo_len e i 13⟩
  · exact ⟨([], false), Ev.bindB _ (cvTree_ev e hl) (Ev.neg h (Ev.now _)), Ev.bindB _ (isTree_ev e hl) (Ev.neg h (Ev.now _)), by simp⟩
theorem tilesAt_pure (l : List S51) (i : Int) (h : okNodes l) (hq0 : (Lit.int .i64 i).wf = true) : ∃ k, laws_FnExactTilesAt.f k l i = some true := by
  refine Ev.rounds ?_
  unfold laws_FnExactTilesAt.f
  obtain ⟨r, hr, hle, hlen⟩ := szNodeS_ev l 1048576 (by omega) (by omega) h
  refine Ev.bindB _ hr ?_
  by_cases hn : r < 0
  · exact Ev.pos hn (Ev.now _)
  have hl := hlen (by omega)
  have hc := conv_len l
  obtain ⟨⟨v0, v1⟩, hs, hi, hlen2⟩ := tilesAtQ_both (conv l) (by omega) i
  refine Ev.neg hn (Ev.bindB _ (toNodeS_ev l (by omega)) (Ev.bindB _ (hs) (Ev.bindB _ (toNodeS_ev l (by omega)) (Ev.bindB _ (hi) ?_))))
  have hv : v0.length ≤ 1000 := Nat.le_trans hlen2 (by decide)
  refine Ev.bindB _ (eqIntS_self v0 (by omega)) (Ev.pos rfl ?_)
  simp only [bne_self_eq_false]
  refine Ev.step (fun k => by rw [laws_FnExactTilesAt.j0]) ?_
  obtain ⟨m, l', hm, hm0⟩ := markNodeS_ev (conv l) (by omega)
  refine Ev.neg (by simp) (Ev.bindB _ (toNodeS_ev l (by omega)) (Ev.bindB _ (eqNodeS_self (conv l) (by omega)) (Ev.pos rfl (Ev.bindB _ hm (Ev.neg (by show ¬ m < 0; omega) (Ev.bindB _ (eqIntS_self v0 (by omega)) (Ev.pos rfl ?_)))))))
  simp only [bne_self_eq_false]
  refine Ev.step (fun k => by rw [laws_FnExactTilesAt.j1]) ?_
  refine Ev.neg (by simp) (Ev.bindB _ (markIntS_ev v0 (by omega)) (Ev.bindB _ (heldIntS_ev v0.length (by omega)) (Ev.neg (by omega) (Ev.pos rfl ?_))))
  refine (Ev.bindB _ (toNodeS_ev l (by omega)) (Ev.bindB _ (hi) (Ev.bindB _ (eqIntS_self v0 (by omega)) (Ev.pos rfl ?_))))
  simp only [bne_self_eq_false]
  refine Ev.step (fun k => by rw [laws_FnExactTilesAt.j2]) ?_
  exact Ev.neg (by simp) (Ev.bindB _ (heldIntS_ev v0.length (by omega)) (Ev.neg (by omega) (Ev.pos rfl (Ev.now _))))
end Go.Proofs.Ytlmegefdnkjcbaa.Pa
