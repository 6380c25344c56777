/- All tiles of a node. -/
import Derived.Test.YtlmegefdnkjcbaaQParts
import Derived.Test.YtlmegefdnkjcbaaPa11
namespace Go.Proofs.Ytlmegefdnkjcbaa.Pa
open Go.RowKit Go.Proofs.YtlmegefdnkjcbaaW.PrintWords Go.Proofs.YtlmegefdnkjcbaaW.PrintLast Go.Proofs.YtlmegefdnkjcbaaW.PrintMore
set_option linter.unusedVariables false
set_option linter.unusedSectionVars false
set_option linter.unusedSimpArgs false
/-- the tiles with numbers below j that are told for a node -/
def tilesTo (e : List S54) (i : Int) (j : Nat) : List Int := ((List.range j).map Int.ofNat).filter fun t => (tileM e i t).isSome
def tilesL (e : List S54) (i : Int) : List Int := tilesTo e i 13
theorem tilesTo_succ (e : List S54) (i : Int) (j : Nat) : tilesTo e i (j + 1) = tilesTo e i j ++ if (tileM e i (j : Int)).isSome = true then [(j : Int)] else [] := by
  unfold tilesTo
  rw [List.range_succ, List.map_append, List.filter_append]
  congr 1
  simp only [List.map_cons, List.map_nil, List.filter_cons, List.filter_nil]
  rfl
theorem tilesTo_len (e : List S54) (i : Int) (j : Nat) : (tilesTo e i j).length ≤ j := by
  unfold tilesTo
  exact Nat.le_trans (List.length_filter_le _ _) (by simp)
theorem tilesL_mem {e : List S54} {i t : Int} (h : t ∈ tilesL e i) : 0 ≤ t ∧ t ≤ 12 ∧ (tileM e i t).isSome = true := by
  unfold tilesL tilesTo at h
  rw [List.mem_filter] at h
  obtain ⟨h1, h2⟩ := h
  rw [List.mem_map] at h1
  obtain ⟨a, ha, rfl⟩ := h1
  rw [List.mem_range] at ha
  refine ⟨Int.natCast_nonneg a, ?_, h2⟩
  show ((a : Nat) : Int) ≤ 12
  omega
section
variable {e : List S54} {i : Int} (hg : good e = true) (h0 : 0 ≤ i) (h1 : i < e.length)
include hg h0 h1
theorem cvTiles_ev : Ev (fun k => spec_cvTiles.f k e i) (tilesL e i) := by
  unfold spec_cvTiles.f
  have key := Ev.loop 13 (fun k j => spec_cvTiles.l0 k e i (tilesTo e i j) (j : Int)) (fun _ => tilesL e i) ?_ ?_ 0 (by omega)
  · simpa [tilesTo] using key
  · refine Ev.step (fun k => by rw [spec_cvTiles.l0]) ?_
    exact Ev.neg (by omega) (Ev.now _)
  · intro j hj ih
    have hl := tilesTo_len e i j
    refine Ev.step (fun k => by rw [spec_cvTiles.l0]) (Ev.pos (by omega) (Ev.bindB _ (cvTile_ev hg h0 h1 (j : Int) (by omega) (by omega)) ?_))
    rw [next_ok j 13 hj (by omega)]
    rw [tilesTo_succ] at ih
    cases c : tileM e i (j : Int) with
    | none =>
      rw [c] at ih
      exact Ev.neg (by simp [told]) (by simpa using ih)
    | some pq =>
      rw [c] at ih
      exact Ev.pos (by simp [told]) (Ev.pos (by omega) (by simpa using ih))
theorem tilesAt_ev : Ev (fun k => impl_tilesAt.f k e i) (tilesL e i) := by
  unfold impl_tilesAt.f
  have key := Ev.loop 13 (fun k j => impl_tilesAt.l0 k e i (tilesTo e i j) (j : Int)) (fun _ => tilesL e i) ?_ ?_ 0 (by omega)
  · simpa [tilesTo] using key
  · refine Ev.step (fun k => by rw [impl_tilesAt.l0]) ?_
    exact Ev.neg (by omega) (Ev.now _)
  · intro j hj ih
    have hl := tilesTo_len e i j
    obtain ⟨r, hr, hf⟩ := tileAt_ev hg h0 h1 (j : Int) (by omega) (by omega)
    refine Ev.step (fun k => by rw [impl_tilesAt.l0]) (Ev.pos (by omega) (Ev.bindB _ hr ?_))
    rw [next_ok j 13 hj (by omega), hf.1]
    rw [tilesTo_succ] at ih
    cases c : tileM e i (j : Int) with
    | none =>
      rw [c] at ih
      exact Ev.neg (by simp) (by simpa using ih)
    | some pq =>
      rw [c] at ih
      exact Ev.pos (by simp) (Ev.pos (by omega) (by simpa using ih))
/-- a tile that is told: what both sides make of it -/
theorem tile_both {t : Int} (ht : t ∈ tilesL e i) : ∃ p q, tileM e i t = some (p, q) ∧ Ev (fun k => spec_cvTile.f k e i t) (p, q, true) ∧ Ev (fun k => impl_tileAt.f k e i t) (p, q, costT e i t, true) ∧ p.length ≤ 2 ∧ q.length ≤ 2 ∧ (∀ x ∈ p, 0 ≤ x ∧ x < i) ∧ (∀ x ∈ q, 0 ≤ x ∧ x < i) := by
  obtain ⟨a, b, c⟩ := tilesL_mem ht
  obtain ⟨⟨p, q⟩, hpq⟩ := Option.isSome_iff_exists.1 c
  obtain ⟨r, hr, hf⟩ := tileAt_ev hg h0 h1 t a b
  obtain ⟨l1, l2, l3, l4⟩ := parts_in hg h0 h1 hpq
  have hs := cvTile_ev hg h0 h1 t a b
  rw [hpq] at hs
  obtain ⟨f1, f2, f3⟩ := hf.2 p q hpq
  have f0 := hf.1
  rw [hpq] at f0
  obtain ⟨r1, r2, r3, r4⟩ := r
  simp only [Option.isSome_some] at f0 f1 f2 f3
  subst f0 f1 f2 f3
  exact ⟨_, _, hpq, hs, hr, l1, l2, l3, l4⟩
end
end Go.Proofs.Ytlmegefdnkjcbaa.Pa
