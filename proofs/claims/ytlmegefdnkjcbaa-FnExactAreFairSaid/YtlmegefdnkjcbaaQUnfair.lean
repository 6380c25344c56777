/- Prices that are fair, and where they are not. -/
import Derived.Test.YtlmegefdnkjcbaaQWith
import Derived.Test.YtlmegefdnkjcbaaPa16
import Derived.Test.YtlmegefdnkjcbaaPa21
import Derived.Test.YtlmegefdnkjcbaaPa22
namespace Go.Proofs.Ytlmegefdnkjcbaa.Pa
open Go.RowKit Go.Proofs.YtlmegefdnkjcbaaW.PrintWords Go.Proofs.YtlmegefdnkjcbaaW.PrintLast Go.Proofs.YtlmegefdnkjcbaaW.PrintMore
set_option linter.unusedVariables false
set_option linter.unusedSimpArgs false
theorem idxPrices_loop (l : List Int) (hl : l.length ≤ 9223372036854775000) : ∀ (d : Nat) (i : Nat), i + d = l.length →
    ∃ r : Int, Ev (fun k => slices_IndexFunc_int_int__impl_arePrices_1.l0 k l (l.length : Int) (i : Int)) r ∧ (0 ≤ r ↔ ((l.drop i).any fun x => !inB x 0 1000) = true) := by
  have hf : ∀ x : Int, impl_arePrices_1.f x = some (!inB x 0 1000) := fun x => by unfold impl_arePrices_1.f; rw [within_f]; rfl
  intro d
  induction d with
  | zero =>
    intro i h
    refine ⟨-1, Ev.step (fun k => by rw [slices_IndexFunc_int_int__impl_arePrices_1.l0]) (Ev.neg (by omega) (Ev.now _)), ?_⟩
    rw [List.drop_eq_nil_of_le (by omega)]; simp
  | succ d ih =>
    intro i h
    have hi : i < l.length := by omega
    by_cases c : (!inB l[i] 0 1000) = true
    · refine ⟨i, Ev.step (fun k => by rw [slices_IndexFunc_int_int__impl_arePrices_1.l0]) (Ev.pos (by omega) (Ev.pos (by omega) (Ev.pos (by omega) ?_))), ?_⟩
      · rw [rd_at _ _ hi]; exact Ev.here _ (hf _) (Ev.pos c (Ev.now _))
      rw [drop_at _ _ hi, List.any_cons, c]; simp
    · obtain ⟨r, hev, hiff⟩ := ih (i + 1) (by omega)
      refine ⟨r, Ev.step (fun k => by rw [slices_IndexFunc_int_int__impl_arePrices_1.l0]) (Ev.pos (by omega) (Ev.pos (by omega) (Ev.pos (by omega) ?_))), ?_⟩
      · rw [rd_at _ _ hi, next_ok i _ hi hl]; exact Ev.here _ (hf _) (Ev.neg c hev)
      rw [hiff, drop_at _ _ hi, List.any_cons]; simp [c]
def pricedB (e : List S54) (prices : List Int) : Bool := decide (prices.length = e.length) && prices.all fun x => inB x 0 1000
theorem cvPriced_ev (e : List S54) (prices : List Int) (hl : prices.length ≤ 9223372036854775000) : Ev (fun k => spec_cvPriced.f k e prices) (pricedB e prices) := by
  unfold spec_cvPriced.f pricedB
  by_cases h : prices.length = e.length
  · exact Ev.pos (by omega) (Ev.map (f := id) (l1All_ev prices 0 1000 hl) (by simp [h]))
  · exact Ev.neg (by omega) (Ev.ret (by simp [h]))
theorem arePrices_ev (e : List S54) (prices : List Int) (hl : prices.length ≤ 9223372036854775000) : Ev (fun k => impl_arePrices.f k e prices) (pricedB e prices) := by
  unfold impl_arePrices.f pricedB
  by_cases h : prices.length = e.length
  · obtain ⟨r, hev, hiff⟩ := idxPrices_loop prices hl prices.length 0 (by omega)
    refine Ev.pos (by omega) (Ev.map (f := fun b => !b) (a := decide (r ≥ 0)) ?_ ?_)
    · unfold slices_ContainsFunc_int_int__impl_arePrices_1.f
      exact Ev.map (f := fun r : Int => decide (r ≥ 0)) (a := r) hev rfl
    · have hany : decide (r ≥ 0) = prices.any fun x => !inB x 0 1000 := by
        rw [Bool.eq_iff_iff, decide_eq_true_iff]; exact hiff
      rw [hany, h]
      simp [List.all_eq_not_any_not]
  · exact Ev.neg (by omega) (Ev.ret (by simp [h]))
theorem unfair_both {e : List S54} (hg : good e = true) (prices : List Int) (hp : prices.length = e.length) : ∀ d i, i + d = e.length →
    ∃ r, Ev (fun k => spec_cvUnfair.l0 k e prices (e.length : Int) (i : Int)) r ∧ Ev (fun k => impl_unfair.l0 k e prices (e.length : Int) (i : Int)) r := by
  have hl := good_len hg
  intro d
  induction d with
  | zero =>
    intro i hi
    exact ⟨(0, 0, false), Ev.step (fun k => by rw [spec_cvUnfair.l0]) (Ev.neg (by omega) (Ev.now _)), Ev.step (fun k => by rw [impl_unfair.l0]) (Ev.neg (by omega) (Ev.now _))⟩
  | succ d ih =>
    intro i hi
    have hi' : i < e.length := by omega
    obtain ⟨r0, hs0, hi0⟩ := ih (i + 1) (by omega)
    have h0 : (0 : Int) ≤ (i : Int) := by omega
    have h1 : (i : Int) < (e.length : Int) := by omega
    have htl : (tilesL e (i : Int)).length ≤ 13 := tilesTo_len e (i : Int) 13
    have inner : ∀ d2 j, j + d2 = (tilesL e (i : Int)).length → ∃ r, Ev (fun k => spec_cvUnfair.l1 k e prices (i : Int) (e.length : Int) (i : Int) (tilesL e (i : Int)) ((tilesL e (i : Int)).length : Int) (j : Int)) r ∧
        Ev (fun k => impl_unfair.l1 k e prices (i : Int) (e.length : Int) (i : Int) (tilesL e (i : Int)) ((tilesL e (i : Int)).length : Int) (j : Int)) r := by
      intro d2
      induction d2 with
      | zero =>
        intro j hj
        refine ⟨r0, Ev.step (fun k => by rw [spec_cvUnfair.l1]) (Ev.neg (by omega) ?_), Ev.step (fun k => by rw [impl_unfair.l1]) (Ev.neg (by omega) ?_)⟩
        · rw [next_ok i _ hi' (by omega)]; exact hs0
        · rw [next_ok i _ hi' (by omega)]; exact hi0
      | succ d2 ih2 =>
        intro j hj
        have hj' : j < (tilesL e (i : Int)).length := by omega
        have hjl : (tilesL e (i : Int)).length ≤ 13 := htl
        obtain ⟨s, p, q, hw, hti, hto⟩ := with_both hg h0 h1 (List.getElem_mem hj') prices (by omega)
        obtain ⟨r, hr1, hr2⟩ := ih2 (j + 1) (by omega)
        by_cases c : rd prices (i : Int) > s
        · refine ⟨((i : Int), (tilesL e (i : Int))[j], true), Ev.step (fun k => by rw [spec_cvUnfair.l1]) (Ev.pos (by omega) (Ev.pos (by omega) (Ev.pos (by omega) (Ev.pos h0 (Ev.pos (by omega) ?_))))), Ev.step (fun k => by rw [impl_unfair.l1]) (Ev.pos (by omega) (Ev.pos (by omega) (Ev.pos (by omega) ?_)))⟩
          · rw [rd_at _ _ hj']; exact Ev.bindB _ hw (Ev.pos c (Ev.now _))
          · rw [rd_at _ _ hj']; exact Ev.bindB _ hti (Ev.pos h0 (Ev.pos (by omega) (Ev.bindB _ hto (Ev.pos c (Ev.now _)))))
        · refine ⟨r, Ev.step (fun k => by rw [spec_cvUnfair.l1]) (Ev.pos (by omega) (Ev.pos (by omega) (Ev.pos (by omega) (Ev.pos h0 (Ev.pos (by omega) ?_))))), Ev.step (fun k => by rw [impl_unfair.l1]) (Ev.pos (by omega) (Ev.pos (by omega) (Ev.pos (by omega) ?_)))⟩
          · rw [rd_at _ _ hj', next_ok j _ hj' (by omega)]; exact Ev.bindB _ hw (Ev.neg c hr1)
          · rw [rd_at _ _ hj', next_ok j _ hj' (by omega)]; exact Ev.bindB _ hti (Ev.pos h0 (Ev.pos (by omega) (Ev.bindB _ hto (Ev.neg c hr2))))
    obtain ⟨r, hr1, hr2⟩ := inner (tilesL e (i : Int)).length 0 (by omega)
    refine ⟨r, Ev.step (fun k => by rw [spec_cvUnfair.l0]) (Ev.pos (by omega) (Ev.bindB _ (cvTiles_ev hg h0 h1) hr1)), Ev.step (fun k => by rw [impl_unfair.l0]) (Ev.pos (by omega) (Ev.bindB _ (tilesAt_ev hg h0 h1) hr2))⟩
theorem pricedB_len {e : List S54} {prices : List Int} (h : pricedB e prices = true) : prices.length = e.length := by
  simp [pricedB] at h; exact h.1
theorem unfairAt_both (e : List S54) (hl : e.length ≤ 9223372036854775807) (prices : List Int) (hp : prices.length ≤ 9223372036854775000) : ∃ r, Ev (fun k => spec_UnfairAt.f k e prices) r ∧ Ev (fun k => impl_UnfairAt.f k e prices) r := by
  unfold spec_UnfairAt.f impl_UnfairAt.f
  by_cases h : tree e = true
  · by_cases h2 : pricedB e prices = true
    · obtain ⟨r, h3, h4⟩ := unfair_both (tree_good h) prices (pricedB_len h2) e.length 0 (by omega)
      exact ⟨(r.1, r.2.1, r.2.2), Ev.bindB _ (cvTree_ev e hl) (Ev.pos h (Ev.bindB _ (cvPriced_ev e prices hp) (Ev.pos h2 (Ev.map (a := r) h3 rfl)))), Ev.bindB _ (isTree_ev e hl) (Ev.pos h (Ev.bindB _ (arePrices_ev e prices hp) (Ev.pos h2 (Ev.map (a := r) h4 rfl))))⟩
    · exact ⟨(0, 0, false), Ev.bindB _ (cvTree_ev e hl) (Ev.pos h (Ev.bindB _ (cvPriced_ev e prices hp) (Ev.neg h2 (Ev.now _)))), Ev.bindB _ (isTree_ev e hl) (Ev.pos h (Ev.bindB _ (arePrices_ev e prices hp) (Ev.neg h2 (Ev.now _))))⟩
  · exact ⟨(0, 0, false), Ev.bindB _ (cvTree_ev e hl) (Ev.neg h (Ev.now _)), Ev.bindB _ (isTree_ev e hl) (Ev.neg h (Ev.now _))⟩
theorem areFair_both (e : List S54) (hl : e.length ≤ 9223372036854775807) (prices : List Int) (hp : prices.length ≤ 9223372036854775000) : ∃ r, Ev (fun k => spec_AreFair.f k e prices) r ∧ Ev (fun k => impl_AreFair.f k e prices) r := by
  unfold spec_AreFair.f impl_AreFair.f
  by_cases h : tree e = true
  · by_cases h2 : pricedB e prices = true
    · obtain ⟨r, h3, h4⟩ := unfair_both (tree_good h) prices (pricedB_len h2) e.length 0 (by omega)
      exact ⟨(!r.2.2, true), Ev.bindB _ (cvTree_ev e hl) (Ev.pos h (Ev.bindB _ (cvPriced_ev e prices hp) (Ev.pos h2 (Ev.map (a := r) h3 rfl)))), Ev.bindB _ (isTree_ev e hl) (Ev.pos h (Ev.bindB _ (arePrices_ev e prices hp) (Ev.pos h2 (Ev.map (a := r) h4 rfl))))⟩
    · exact ⟨(false, true), Ev.bindB _ (cvTree_ev e hl) (Ev.pos h (Ev.bindB _ (cvPriced_ev e prices hp) (Ev.neg h2 (Ev.now _)))), Ev.bindB _ (isTree_ev e hl) (Ev.pos h (Ev.bindB _ (arePrices_ev e prices hp) (Ev.neg h2 (Ev.now _))))⟩
  · exact ⟨(false, false), Ev.bindB _ (cvTree_ev e hl) (Ev.neg h (Ev.now _)), Ev.bindB _ (isTree_ev e hl) (Ev.neg h (Ev.now _))⟩
end Go.Proofs.Ytlmegefdnkjcbaa.Pa
