/- The costs of tiles with the prices of their parts. -/
import Derived.Test.YtlmegefdnkjcbaaQCover
import Derived.Test.YtlmegefdnkjcbaaPa15
namespace Go.Proofs.Ytlmegefdnkjcbaa.Pa
open Go.RowKit Go.Proofs.YtlmegefdnkjcbaaW.PrintWords Go.Proofs.YtlmegefdnkjcbaaW.PrintLast Go.Proofs.YtlmegefdnkjcbaaW.PrintMore
set_option linter.unusedVariables false
set_option linter.unusedSectionVars false
set_option linter.unusedSimpArgs false
def sumP (prices : List Int) (acc : Int) (parts : List Int) : Int := parts.foldl (fun a p => wrap64 (a + rd prices p)) acc
theorem withS_loop (prices : List Int) (acc : Int) (parts : List Int) (hp : ∀ p ∈ parts, 0 ≤ p ∧ p < prices.length) (hl : parts.length ≤ 1000) :
    Ev (fun k => spec_cvWith.l0 k prices acc parts (parts.length : Int) 0) (sumP prices acc parts) := by
  have key := Ev.loop parts.length (fun k j => spec_cvWith.l0 k prices (sumP prices acc (parts.take j)) parts (parts.length : Int) (j : Int)) (fun _ => sumP prices acc parts) ?_ ?_ 0 (by omega)
  · simpa [sumP] using key
  · exact Ev.step (fun k => by rw [spec_cvWith.l0]) (Ev.neg (by omega) (Ev.ret (by rw [List.take_of_length_le (Nat.le_refl _)])))
  · intro j hj ih
    have h2 := hp _ (List.getElem_mem hj)
    refine Ev.step (fun k => by rw [spec_cvWith.l0]) (Ev.pos (by omega) (Ev.pos (by omega) (Ev.pos (by omega) ?_)))
    rw [rd_at _ _ hj, next_ok j _ hj (by omega)]
    unfold sumP at ih ⊢
    rw [take_fold _ parts _ j hj] at ih
    exact Ev.pos h2.1 (Ev.pos h2.2 ih)
theorem total_ev (prices : List Int) (acc : Int) (parts inner : List Int) (hp : ∀ p ∈ parts, 0 ≤ p ∧ p < prices.length) (hl : parts.length ≤ 1000) :
    Ev (fun k => impl_tile_total.f k parts inner acc prices) (sumP prices acc parts) := by
  unfold impl_tile_total.f
  have key := Ev.loop parts.length (fun k j => impl_tile_total.l0 k prices (sumP prices acc (parts.take j)) parts (parts.length : Int) (j : Int)) (fun _ => sumP prices acc parts) ?_ ?_ 0 (by omega)
  · simpa [sumP] using key
  · exact Ev.step (fun k => by rw [impl_tile_total.l0]) (Ev.neg (by omega) (Ev.ret (by rw [List.take_of_length_le (Nat.le_refl _)])))
  · intro j hj ih
    have h2 := hp _ (List.getElem_mem hj)
    refine Ev.step (fun k => by rw [impl_tile_total.l0]) (Ev.pos (by omega) (Ev.pos (by omega) (Ev.pos (by omega) ?_)))
    rw [rd_at _ _ hj, next_ok j _ hj (by omega)]
    unfold sumP at ih ⊢
    rw [take_fold _ parts _ j hj] at ih
    exact Ev.pos h2.1 (Ev.pos h2.2 ih)
section
variable {e : List S54} {i : Int} (hg : good e = true) (h0 : 0 ≤ i) (h1 : i < e.length)
include hg h0 h1
theorem with_both {t : Int} (ht : t ∈ tilesL e i) (prices : List Int) (hp : e.length ≤ prices.length) : ∃ (s : Int) (p q : List Int), Ev (fun k => spec_cvWith.f k e i t prices) s ∧ Ev (fun k => impl_tileAt.f k e i t) (p, q, costT e i t, true) ∧ Ev (fun k => impl_tile_total.f k p q (costT e i t) prices) s := by
  obtain ⟨p, q, hpq, hs, hi, l1, l2, l3, l4⟩ := tile_both hg h0 h1 ht
  refine ⟨sumP prices (costT e i t) p, p, q, ?_, hi, total_ev prices _ p q (fun x hx => ⟨(l3 x hx).1, by have := (l3 x hx).2; omega⟩) (by omega)⟩
  unfold spec_cvWith.f
  exact Ev.here _ (cvCost_f hg h0 h1 t) (Ev.bindB _ hs (withS_loop prices _ p (fun x hx => ⟨(l3 x hx).1, by have := (l3 x hx).2; omega⟩) (by omega)))
end
end Go.Proofs.Ytlmegefdnkjcbaa.Pa
