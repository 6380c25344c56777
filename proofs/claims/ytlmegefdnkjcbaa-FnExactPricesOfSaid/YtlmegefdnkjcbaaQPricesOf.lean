/- PricesOf of the program and of the reference answer alike: the plain law. -/
import Derived.Test.YtlmegefdnkjcbaaQPrices
import Derived.Test.YtlmegefdnkjcbaaQMark
import Derived.Test.YtlmegefdnkjcbaaQLaw
import Derived.Test.YtlmegefdnkjcbaaPa13
import Derived.Test.YtlmegefdnkjcbaaPa23
import Derived.Test.YtlmegefdnkjcbaaPa24
import Derived.Test.YtlmegefdnkjcbaaPa4
import Derived.Test.YtlmegefdnkjcbaaPa9
namespace Go.Proofs.Ytlmegefdnkjcbaa.Pa
open Go.RowKit Go.Proofs.YtlmegefdnkjcbaaW.PrintWords Go.Proofs.YtlmegefdnkjcbaaW.PrintLast Go.Proofs.YtlmegefdnkjcbaaW.PrintMore
set_option linter.unusedVariables false
set_option linter.unusedSimpArgs false
theorem pricesOf_both (e : List S54) (hl : e.length ≤ 9223372036854775807) : ∃ r, Ev (fun k => spec_PricesOf.f k e) r ∧ Ev (fun k => impl_PricesOf.f k e) r ∧ r.1.length ≤ 24 := by
  unfold spec_PricesOf.f impl_PricesOf.f
  by_cases h : tree e = true
  · have hg := tree_good h
    have hl2 := good_len hg
    obtain ⟨r, b, hr, hb, h3, h4⟩ := pricesF_both hg
    exact ⟨(r, true), Ev.bindB _ (cvTree_ev e hl) (Ev.pos h (Ev.map h3 rfl)), Ev.bindB _ (isTree_ev e hl) (Ev.pos h (Ev.map h4 rfl)), by show r.length ≤ 24; omega⟩
  · exact ⟨([], false), Ev.bindB _ (cvTree_ev e hl) (Ev.neg h (Ev.now _)), Ev.bindB _ (isTree_ev e hl) (Ev.neg h (Ev.now _)), by simp⟩
theorem pricesOf_pure (l : List S51) (h : okNodes l) : ∃ k, laws_FnExactPricesOf.f k l = some true := by
  refine Ev.rounds ?_
  unfold laws_FnExactPricesOf.f
  obtain ⟨r, hr, hle, hlen⟩ := szNodeS_ev l 1048576 (by omega) (by omega) h
  refine Ev.bindB _ hr ?_
  by_cases hn : r < 0
  · exact Ev.pos hn (Ev.now _)
  have hl := hlen (by omega)
  have hc := conv_len l
  obtain ⟨⟨v0, v1⟩, hs, hi, hlen2⟩ := pricesOf_both (conv l) (by omega)
  refine Ev.neg hn (Ev.bindB _ (toNodeS_ev l (by omega)) (Ev.bindB _ (hs) (Ev.bindB _ (toNodeS_ev l (by omega)) (Ev.bindB _ (hi) ?_))))
  have hv : v0.length ≤ 1000 := Nat.le_trans hlen2 (by decide)
  refine Ev.bindB _ (eqIntS_self v0 (by omega)) (Ev.pos rfl ?_)
  simp only [bne_self_eq_false]
  refine Ev.step (fun k => by rw [laws_FnExactPricesOf.j0]) ?_
  obtain ⟨m, l', hm, hm0⟩ := markNodeS_ev (conv l) (by omega)
  refine Ev.neg (by simp) (Ev.bindB _ (toNodeS_ev l (by omega)) (Ev.bindB _ (eqNodeS_self (conv l) (by omega)) (Ev.pos rfl (Ev.bindB _ hm (Ev.neg (by show ¬ m < 0; omega) (Ev.bindB _ (eqIntS_self v0 (by omega)) (Ev.pos rfl ?_)))))))
  simp only [bne_self_eq_false]
  refine Ev.step (fun k => by rw [laws_FnExactPricesOf.j1]) ?_
  refine Ev.neg (by simp) (Ev.bindB _ (markIntS_ev v0 (by omega)) (Ev.bindB _ (heldIntS_ev v0.length (by omega)) (Ev.neg (by omega) (Ev.pos rfl ?_))))
  refine (Ev.bindB _ (toNodeS_ev l (by omega)) (Ev.bindB _ (hi) (Ev.bindB _ (eqIntS_self v0 (by omega)) (Ev.pos rfl ?_))))
  simp only [bne_self_eq_false]
  refine Ev.step (fun k => by rw [laws_FnExactPricesOf.j2]) ?_
  exact Ev.neg (by simp) (Ev.bindB _ (heldIntS_ev v0.length (by omega)) (Ev.neg (by omega) (Ev.pos rfl (Ev.now _))))
end Go.Proofs.Ytlmegefdnkjcbaa.Pa
