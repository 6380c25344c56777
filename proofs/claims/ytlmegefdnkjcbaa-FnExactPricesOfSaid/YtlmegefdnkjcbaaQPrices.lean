/- The least costs of all nodes. -/
import Derived.Test.YtlmegefdnkjcbaaQWith
import Derived.Test.YtlmegefdnkjcbaaPa23
namespace Go.Proofs.Ytlmegefdnkjcbaa.Pa
open Go.RowKit Go.Proofs.YtlmegefdnkjcbaaW.PrintWords Go.Proofs.YtlmegefdnkjcbaaW.PrintLast Go.Proofs.YtlmegefdnkjcbaaW.PrintMore
set_option linter.unusedVariables false
set_option linter.unusedSimpArgs false
theorem prices_both {e : List S54} (hg : good e = true) : ∀ d i (ps bs : List Int), ps.length = e.length → bs.length = e.length → i + d = e.length →
    ∃ r b, r.length = e.length ∧ b.length = e.length ∧ Ev (fun k => spec_cvPrices.l0 k e ps (e.length : Int) (i : Int)) r ∧ Ev (fun k => impl_pricesOf.l0 k e ps bs (e.length : Int) (i : Int)) (r, b) := by
  have hl := good_len hg
  intro d
  induction d with
  | zero =>
    intro i ps bs hps hbs hi
    exact ⟨ps, bs, hps, hbs, Ev.step (fun k => by rw [spec_cvPrices.l0]) (Ev.neg (by omega) (Ev.now _)), Ev.step (fun k => by rw [impl_pricesOf.l0]) (Ev.neg (by omega) (Ev.now _))⟩
  | succ d ih =>
    intro i ps bs hps hbs hi
    have hi' : i < e.length := by omega
    have h0 : (0 : Int) ≤ (i : Int) := by omega
    have h1 : (i : Int) < (e.length : Int) := by omega
    have htl : (tilesL e (i : Int)).length ≤ 13 := tilesTo_len e (i : Int) 13
    have inner : ∀ d2 j (ps bs : List Int), ps.length = e.length → bs.length = e.length → j + d2 = (tilesL e (i : Int)).length → ∃ r b, r.length = e.length ∧ b.length = e.length ∧
        Ev (fun k => spec_cvPrices.l1 k e ps (i : Int) (e.length : Int) (i : Int) (tilesL e (i : Int)) ((tilesL e (i : Int)).length : Int) (j : Int)) r ∧
        Ev (fun k => impl_pricesOf.l1 k e ps bs (i : Int) (e.length : Int) (i : Int) (tilesL e (i : Int)) ((tilesL e (i : Int)).length : Int) (j : Int)) (r, b) := by
      intro d2
      induction d2 with
      | zero =>
        intro j ps bs hps hbs hj
        obtain ⟨r, b, hr, hb, hs0, hi0⟩ := ih (i + 1) ps bs hps hbs (by omega)
        refine ⟨r, b, hr, hb, Ev.step (fun k => by rw [spec_cvPrices.l1]) (Ev.neg (by omega) ?_), Ev.step (fun k => by rw [impl_pricesOf.l1]) (Ev.neg (by omega) ?_)⟩
        · rw [next_ok i _ hi' (by omega)]; exact hs0
        · rw [next_ok i _ hi' (by omega)]; exact hi0
      | succ d2 ih2 =>
        intro j ps bs hps hbs hj
        have hj' : j < (tilesL e (i : Int)).length := by omega
        obtain ⟨s, p, q, hw, hti, hto⟩ := with_both hg h0 h1 (List.getElem_mem hj') ps (by omega)
        have go : ∀ ps' bs' : List Int, ps'.length = e.length → bs'.length = e.length → ∃ r b, r.length = e.length ∧ b.length = e.length ∧
            Ev (fun k => spec_cvPrices.l1 k e ps' (i : Int) (e.length : Int) (i : Int) (tilesL e (i : Int)) ((tilesL e (i : Int)).length : Int) (wrap64 ((j : Int) + 1))) r ∧
            Ev (fun k => impl_pricesOf.l1 k e ps' bs' (i : Int) (e.length : Int) (i : Int) (tilesL e (i : Int)) ((tilesL e (i : Int)).length : Int) (wrap64 ((j : Int) + 1))) (r, b) := by
          intro ps' bs' h3 h4
          rw [next_ok j _ hj' (by omega)]
          exact ih2 (j + 1) ps' bs' h3 h4 (by omega)
        by_cases c : (j : Int) = 0
        · obtain ⟨r, b, hr, hb, h3, h4⟩ := go (ps.set i s) (bs.set i (tilesL e (i : Int))[j]) (by rw [List.length_set]; exact hps) (by rw [List.length_set]; exact hbs)
          refine ⟨r, b, hr, hb, Ev.step (fun k => by rw [spec_cvPrices.l1]) (Ev.pos (by omega) (Ev.pos (by omega) (Ev.pos (by omega) ?_))), Ev.step (fun k => by rw [impl_pricesOf.l1]) (Ev.pos (by omega) (Ev.pos (by omega) (Ev.pos (by omega) ?_)))⟩
          · rw [rd_at _ _ hj']; exact Ev.bindB _ hw (Ev.pos c (Ev.pos h0 (Ev.pos (by omega) h3)))
          · rw [rd_at _ _ hj']; exact Ev.bindB _ hti (Ev.bindB _ hto (Ev.pos c (Ev.pos h0 (Ev.pos (by omega) (Ev.pos (by omega) h4)))))
        · by_cases c2 : s < rd ps (i : Int)
          · obtain ⟨r, b, hr, hb, h3, h4⟩ := go (ps.set i s) (bs.set i (tilesL e (i : Int))[j]) (by rw [List.length_set]; exact hps) (by rw [List.length_set]; exact hbs)
            refine ⟨r, b, hr, hb, Ev.step (fun k => by rw [spec_cvPrices.l1]) (Ev.pos (by omega) (Ev.pos (by omega) (Ev.pos (by omega) ?_))), Ev.step (fun k => by rw [impl_pricesOf.l1]) (Ev.pos (by omega) (Ev.pos (by omega) (Ev.pos (by omega) ?_)))⟩
            · rw [rd_at _ _ hj']; exact Ev.bindB _ hw (Ev.neg c (Ev.pos h0 (Ev.pos (by omega) (Ev.pos c2 h3))))
            · rw [rd_at _ _ hj']; exact Ev.bindB _ hti (Ev.bindB _ hto (Ev.neg c (Ev.pos h0 (Ev.pos (by omega) (Ev.pos c2 (Ev.pos (by omega) h4))))))
          · obtain ⟨r, b, hr, hb, h3, h4⟩ := go ps bs hps hbs
            refine ⟨r, b, hr, hb, Ev.step (fun k => by rw [spec_cvPrices.l1]) (Ev.pos (by omega) (Ev.pos (by omega) (Ev.pos (by omega) ?_))), Ev.step (fun k => by rw [impl_pricesOf.l1]) (Ev.pos (by omega) (Ev.pos (by omega) (Ev.pos (by omega) ?_)))⟩
            · rw [rd_at _ _ hj']; exact Ev.bindB _ hw (Ev.neg c (Ev.pos h0 (Ev.pos (by omega) (Ev.neg c2 h3))))
            · rw [rd_at _ _ hj']; exact Ev.bindB _ hti (Ev.bindB _ hto (Ev.neg c (Ev.pos h0 (Ev.pos (by omega) (Ev.neg c2 h4)))))
    obtain ⟨r, b, hr, hb, hr1, hr2⟩ := inner (tilesL e (i : Int)).length 0 ps bs hps hbs (by omega)
    exact ⟨r, b, hr, hb, Ev.step (fun k => by rw [spec_cvPrices.l0]) (Ev.pos (by omega) (Ev.bindB _ (cvTiles_ev hg h0 h1) hr1)), Ev.step (fun k => by rw [impl_pricesOf.l0]) (Ev.pos (by omega) (Ev.bindB _ (tilesAt_ev hg h0 h1) hr2))⟩
theorem pricesF_both {e : List S54} (hg : good e = true) : ∃ r b, r.length = e.length ∧ b.length = e.length ∧ Ev (fun k => spec_cvPrices.f k e) r ∧ Ev (fun k => impl_pricesOf.f k e) (r, b) := by
  have hl := good_len hg
  obtain ⟨r, b, hr, hb, h3, h4⟩ := prices_both hg e.length 0 (List.replicate e.length 0) (List.replicate e.length 0) (by simp) (by simp) (by omega)
  refine ⟨r, b, hr, hb, ?_, ?_⟩
  · unfold spec_cvPrices.f; exact Ev.pos (by omega) (Ev.pos (by omega) h3)
  · unfold impl_pricesOf.f; exact Ev.pos (by omega) (Ev.pos (by omega) h4)
end Go.Proofs.Ytlmegefdnkjcbaa.Pa
