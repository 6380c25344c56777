/- How many covers each node has. -/
import Derived.Test.YtlmegefdnkjcbaaQCover
import Derived.Test.YtlmegefdnkjcbaaPa25
namespace Go.Proofs.Ytlmegefdnkjcbaa.Pa
open Go.RowKit Go.Proofs.YtlmegefdnkjcbaaW.PrintWords Go.Proofs.YtlmegefdnkjcbaaW.PrintLast Go.Proofs.YtlmegefdnkjcbaaW.PrintMore
set_option linter.unusedVariables false
set_option linter.unusedSimpArgs false
theorem counts_both {e : List S54} (hg : good e = true) : ∀ d i (cs : List Int), cs.length = e.length → i + d = e.length →
    ∃ r, r.length = e.length ∧ Ev (fun k => spec_cvCounts.l0 k e cs (e.length : Int) (i : Int)) r ∧ Ev (fun k => impl_countCovers.l0 k e cs (e.length : Int) (i : Int)) (rd r ((e.length : Int) - 1)) := by
  have hl := good_len hg
  intro d
  induction d with
  | zero =>
    intro i cs hcs hi
    refine ⟨cs, hcs, Ev.step (fun k => by rw [spec_cvCounts.l0]) ?_, Ev.step (fun k => by rw [impl_countCovers.l0]) ?_⟩
    · exact Ev.neg (by omega) (Ev.now _)
    · rw [wrap_ok (x := (e.length : Int) - 1) (by omega) (by omega)]
      exact Ev.neg (by omega) (Ev.pos (by omega) (Ev.pos (by omega) (Ev.now _)))
  | succ d ih =>
    intro i cs hcs hi
    have hi' : i < e.length := by omega
    have h0 : (0 : Int) ≤ (i : Int) := by omega
    have h1 : (i : Int) < (e.length : Int) := by omega
    have htl : (tilesL e (i : Int)).length ≤ 13 := tilesTo_len e (i : Int) 13
    have inner : ∀ d2 j (cs : List Int), cs.length = e.length → j + d2 = (tilesL e (i : Int)).length → ∃ r, r.length = e.length ∧
        Ev (fun k => spec_cvCounts.l1 k e cs (i : Int) (e.length : Int) (i : Int) (tilesL e (i : Int)) ((tilesL e (i : Int)).length : Int) (j : Int)) r ∧
        Ev (fun k => impl_countCovers.l1 k e cs (i : Int) (e.length : Int) (i : Int) (tilesL e (i : Int)) ((tilesL e (i : Int)).length : Int) (j : Int)) (rd r ((e.length : Int) - 1)) := by
      intro d2
      induction d2 with
      | zero =>
        intro j cs hcs hj
        obtain ⟨r, hr, hs0, hi0⟩ := ih (i + 1) cs hcs (by omega)
        refine ⟨r, hr, Ev.step (fun k => by rw [spec_cvCounts.l1]) (Ev.neg (by omega) ?_), Ev.step (fun k => by rw [impl_countCovers.l1]) (Ev.neg (by omega) ?_)⟩
        · rw [next_ok i _ hi' (by omega)]; exact hs0
        · rw [next_ok i _ hi' (by omega)]; exact hi0
      | succ d2 ih2 =>
        intro j cs hcs hj
        have hj' : j < (tilesL e (i : Int)).length := by omega
        obtain ⟨p, q, hpq, hts, hti, l1, l2, l3, l4⟩ := tile_both hg h0 h1 (List.getElem_mem hj')
        have prod : ∀ d3 m (x : Int), m + d3 = p.length → ∃ r, r.length = e.length ∧
            Ev (fun k => spec_cvCounts.l2 k e cs (i : Int) x (e.length : Int) (i : Int) (tilesL e (i : Int)) ((tilesL e (i : Int)).length : Int) (j : Int) p (p.length : Int) (m : Int)) r ∧
            Ev (fun k => impl_countCovers.l2 k e cs (i : Int) x (e.length : Int) (i : Int) (tilesL e (i : Int)) ((tilesL e (i : Int)).length : Int) (j : Int) p (p.length : Int) (m : Int)) (rd r ((e.length : Int) - 1)) := by
          intro d3
          induction d3 with
          | zero =>
            intro m x hm
            obtain ⟨r, hr, h3, h4⟩ := ih2 (j + 1) (cs.set i (wrap64 (rd cs (i : Int) + x))) (by rw [List.length_set]; exact hcs) (by omega)
            refine ⟨r, hr, Ev.step (fun k => by rw [spec_cvCounts.l2]) (Ev.neg (by omega) (Ev.pos h0 (Ev.pos (by omega) ?_))), Ev.step (fun k => by rw [impl_countCovers.l2]) (Ev.neg (by omega) (Ev.pos h0 (Ev.pos (by omega) ?_)))⟩
            · rw [next_ok j _ hj' (by omega)]; exact h3
            · rw [next_ok j _ hj' (by omega)]; exact h4
          | succ d3 ih3 =>
            intro m x hm
            have hm' : m < p.length := by omega
            have hx := l3 _ (List.getElem_mem hm')
            obtain ⟨r, hr, h3, h4⟩ := ih3 (m + 1) (wrap64 (x * rd cs p[m])) (by omega)
            refine ⟨r, hr, Ev.step (fun k => by rw [spec_cvCounts.l2]) (Ev.pos (by omega) (Ev.pos (by omega) (Ev.pos (by omega) ?_))), Ev.step (fun k => by rw [impl_countCovers.l2]) (Ev.pos (by omega) (Ev.pos (by omega) (Ev.pos (by omega) ?_)))⟩
            · rw [rd_at _ _ hm', next_ok m _ hm' (by omega)]; exact Ev.pos hx.1 (Ev.pos (by omega) h3)
            · rw [rd_at _ _ hm', next_ok m _ hm' (by omega)]; exact Ev.pos hx.1 (Ev.pos (by omega) h4)
        obtain ⟨r, hr, h3, h4⟩ := prod p.length 0 1 (by omega)
        refine ⟨r, hr, Ev.step (fun k => by rw [spec_cvCounts.l1]) (Ev.pos (by omega) (Ev.pos (by omega) (Ev.pos (by omega) ?_))), Ev.step (fun k => by rw [impl_countCovers.l1]) (Ev.pos (by omega) (Ev.pos (by omega) (Ev.pos (by omega) ?_)))⟩
        · rw [rd_at _ _ hj']; exact Ev.bindB _ hts h3
        · rw [rd_at _ _ hj']; exact Ev.bindB _ hti h4
    obtain ⟨r, hr, hr1, hr2⟩ := inner (tilesL e (i : Int)).length 0 cs hcs (by omega)
    exact ⟨r, hr, Ev.step (fun k => by rw [spec_cvCounts.l0]) (Ev.pos (by omega) (Ev.bindB _ (cvTiles_ev hg h0 h1) hr1)), Ev.step (fun k => by rw [impl_countCovers.l0]) (Ev.pos (by omega) (Ev.bindB _ (tilesAt_ev hg h0 h1) hr2))⟩
theorem countCovers_both (e : List S54) (hl : e.length ≤ 9223372036854775807) : ∃ r, Ev (fun k => spec_CountCovers.f k e) r ∧ Ev (fun k => impl_CountCovers.f k e) r := by
  unfold spec_CountCovers.f impl_CountCovers.f
  by_cases h : tree e = true
  · have hg := tree_good h
    have hl2 := good_len hg
    obtain ⟨r, hr, h3, h4⟩ := counts_both hg e.length 0 (List.replicate e.length 0) (by simp) (by omega)
    have h3' : Ev (fun k => spec_cvCounts.f k e) r := by unfold spec_cvCounts.f; exact Ev.pos (by omega) (Ev.pos (by omega) h3)
    have h4' : Ev (fun k => impl_countCovers.f k e) (rd r ((e.length : Int) - 1)) := by unfold impl_countCovers.f; exact Ev.pos (by omega) (Ev.pos (by omega) h4)
    refine ⟨(rd r ((e.length : Int) - 1), true), Ev.bindB _ (cvTree_ev e hl) (Ev.pos h (Ev.bindB _ h3' ?_)), Ev.bindB _ (isTree_ev e hl) (Ev.pos h (Ev.map h4' rfl))⟩
    rw [wrap_ok (x := (e.length : Int) - 1) (by omega) (by omega)]
    exact Ev.pos (by omega) (Ev.pos (by omega) (Ev.now _))
  · exact ⟨(0, false), Ev.bindB _ (cvTree_ev e hl) (Ev.neg h (Ev.now _)), Ev.bindB _ (isTree_ev e hl) (Ev.neg h (Ev.now _))⟩
end Go.Proofs.Ytlmegefdnkjcbaa.Pa
