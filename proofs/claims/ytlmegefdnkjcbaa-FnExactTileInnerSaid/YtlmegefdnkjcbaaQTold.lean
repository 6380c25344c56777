/- What is asked of one tile, or of all tiles at a node. -/
import Derived.Test.YtlmegefdnkjcbaaQParts
import Derived.Test.YtlmegefdnkjcbaaPa14
namespace Go.Proofs.Ytlmegefdnkjcbaa.Pa
open Go.RowKit Go.Proofs.YtlmegefdnkjcbaaW.PrintWords Go.Proofs.YtlmegefdnkjcbaaW.PrintLast Go.Proofs.YtlmegefdnkjcbaaW.PrintMore
set_option linter.unusedVariables false
set_option linter.unusedSimpArgs false
theorem told_fail (e : List S54) (i t : Int) : Ev (fun k => impl_toldTile.j0 k e i t true) (([] : List Int), ([] : List Int), (0 : Int), false) := by
  refine Ev.step (fun k => by rw [impl_toldTile.j0]) ?_
  exact Ev.pos rfl (Ev.now _)
/-- a tile is asked for: it is told on both sides, or on none -/
theorem asked (e : List S54) (hl : e.length ≤ 9223372036854775807) (i t : Int) :
    (Ev (fun k => spec_cvAt.f k e i t) false ∧ Ev (fun k => impl_toldTile.f k e i t) (([] : List Int), ([] : List Int), (0 : Int), false)) ∨
    (∃ p q, good e = true ∧ 0 ≤ i ∧ i < e.length ∧ Ev (fun k => spec_cvAt.f k e i t) true ∧ Ev (fun k => spec_cvTile.f k e i t) (p, q, true) ∧ Ev (fun k => impl_toldTile.f k e i t) (p, q, costT e i t, true)) := by
  unfold spec_cvAt.f impl_toldTile.f
  by_cases h : tree e = true
  · have hg := tree_good h
    have hl2 := good_len hg
    rw [wrap_ok (x := (e.length : Int) - 1) (by omega) (by omega), l1In_f, within_f, l1In_f, within_f]
    simp only [Option.bind_some]
    cases hi : inB i 0 ((e.length : Int) - 1) with
    | false => exact .inl ⟨Ev.bindB _ (cvTree_ev e hl) (Ev.pos h (Ev.neg (by simp) (Ev.now _))), Ev.bindB _ (isTree_ev e hl) (Ev.pos h (Ev.neg (by simp) (told_fail e i t)))⟩
    | true =>
      have hi' : 0 ≤ i ∧ i ≤ (e.length : Int) - 1 := by simpa [inB] using hi
      cases ht : inB t 0 12 with
      | false => exact .inl ⟨Ev.bindB _ (cvTree_ev e hl) (Ev.pos h (Ev.pos rfl (Ev.neg (by simp) (Ev.now _)))), Ev.bindB _ (isTree_ev e hl) (Ev.pos h (Ev.pos rfl (told_fail e i t)))⟩
      | true =>
        have ht' : 0 ≤ t ∧ t ≤ 12 := by simpa [inB] using ht
        have h1 : i < (e.length : Int) := by omega
        have hs := cvTile_ev hg hi'.1 h1 t ht'.1 ht'.2
        obtain ⟨r, hr, hf⟩ := tileAt_ev hg hi'.1 h1 t ht'.1 ht'.2
        have f0 := hf.1
        obtain ⟨r1, r2, r3, r4⟩ := r
        cases c : tileM e i t with
        | none =>
          rw [c] at hs f0
          simp only [Option.isSome_none] at f0
          subst f0
          refine .inl ⟨Ev.bindB _ (cvTree_ev e hl) (Ev.pos h (Ev.pos rfl (Ev.pos rfl (Ev.map (f := fun r : List Int × List Int × Bool => r.2.2) hs rfl)))), Ev.bindB _ (isTree_ev e hl) (Ev.pos h (Ev.pos rfl ?_))⟩
          refine Ev.step (fun k => by rw [impl_toldTile.j0]) ?_
          exact Ev.neg (by simp) (Ev.bindB _ hr (Ev.neg (by simp) (Ev.now _)))
        | some pq =>
          obtain ⟨p, q⟩ := pq
          obtain ⟨f1, f2, f3⟩ := hf.2 p q c
          rw [c] at hs f0
          simp only [Option.isSome_some] at f0 f1 f2 f3
          subst f0 f1 f2 f3
          refine .inr ⟨_, _, hg, hi'.1, h1, Ev.bindB _ (cvTree_ev e hl) (Ev.pos h (Ev.pos rfl (Ev.pos rfl (Ev.map (f := fun r : List Int × List Int × Bool => r.2.2) hs rfl)))), hs, Ev.bindB _ (isTree_ev e hl) (Ev.pos h (Ev.pos rfl ?_))⟩
          refine Ev.step (fun k => by rw [impl_toldTile.j0]) ?_
          exact Ev.neg (by simp) (Ev.bindB _ hr (Ev.pos rfl (Ev.now _)))
  · exact .inl ⟨Ev.bindB _ (cvTree_ev e hl) (Ev.neg h (Ev.now _)), Ev.bindB _ (isTree_ev e hl) (Ev.neg h (told_fail e i t))⟩
theorem Ev.uniq {α : Type} {g : Nat → Option α} {a b : α} (h1 : Ev g a) (h2 : Ev g b) : a = b := by
  obtain ⟨K, h1⟩ := h1
  obtain ⟨L, h2⟩ := h2
  have e1 := h1 (max K L) (Nat.le_max_left _ _)
  rw [h2 (max K L) (Nat.le_max_right _ _)] at e1
  exact (Option.some.inj e1).symm
theorem asked_len (e : List S54) (hl : e.length ≤ 9223372036854775807) {i t : Int} {p q : List Int} (h : Ev (fun k => spec_cvAt.f k e i t) true) (hs : Ev (fun k => spec_cvTile.f k e i t) (p, q, true)) : p.length ≤ 2 ∧ q.length ≤ 2 := by
  rcases asked e hl i t with ⟨h1, _⟩ | ⟨p', q', hg, h0, h3, _, hs', _⟩
  · exact absurd (Ev.uniq h h1) (by simp)
  · have ht : 0 ≤ t ∧ t ≤ 12 := by
      unfold spec_cvAt.f at h
      by_cases ht : inB t 0 12 = true
      · simpa [inB] using ht
      · exfalso
        have h2 : Ev (fun k => (spec_cvTree.f k e).bind fun t363 => (if t363 = true then ((spec_l1In.f i 0 (wrap64 ((e.length : Int) - 1))).bind fun t364 => (if t364 = true then ((spec_l1In.f t 0 12).bind fun t365 => (if t365 = true then ((spec_cvTile.f k e i t).bind fun bt366 => (some bt366.2.2)) else (some false))) else (some false))) else (some false))) false := by
          refine Ev.bindB _ (cvTree_ev e hl) ?_
          rw [l1In_f, l1In_f]
          simp only [Option.bind_some]
          cases tree e with
          | false => exact Ev.neg (by simp) (Ev.now _)
          | true =>
            refine Ev.pos rfl ?_
            cases inB i 0 (wrap64 ((e.length : Int) - 1)) with
            | false => exact Ev.neg (by simp) (Ev.now _)
            | true => exact Ev.pos rfl (Ev.neg ht (Ev.now _))
        exact absurd (Ev.uniq h h2) (by simp)
    have hs2 := cvTile_ev hg h0 h3 t ht.1 ht.2
    have he := Ev.uniq hs hs2
    cases c : tileM e i t with
    | none => rw [c] at he; simp [told] at he
    | some pq =>
      rw [c] at he
      obtain ⟨p2, q2⟩ := pq
      simp only [told, Prod.mk.injEq, and_true] at he
      obtain ⟨rfl, rfl⟩ := he
      have := parts_in hg h0 h3 c
      exact ⟨this.1, this.2.1⟩
end Go.Proofs.Ytlmegefdnkjcbaa.Pa
