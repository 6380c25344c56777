/- TileInner of the program and of the reference answer alike: the plain law. -/
import Derived.Test.YtlmegefdnkjcbaaQTold
import Derived.Test.YtlmegefdnkjcbaaQMark
import Derived.Test.YtlmegefdnkjcbaaQLaw
import Derived.Test.YtlmegefdnkjcbaaPa13
import Derived.Test.YtlmegefdnkjcbaaPa18
import Derived.Test.YtlmegefdnkjcbaaPa4
import Derived.Test.YtlmegefdnkjcbaaPa9
namespace Go.Proofs.Ytlmegefdnkjcbaa.Pa
open Go.RowKit Go.Proofs.YtlmegefdnkjcbaaW.PrintWords Go.Proofs.YtlmegefdnkjcbaaW.PrintLast Go.Proofs.YtlmegefdnkjcbaaW.PrintMore
set_option linter.unusedVariables false
set_option linter.unusedSimpArgs false
theorem tileInner_both (e : List S54) (hl : e.length ≤ 9223372036854775807) (i t : Int) : ∃ r, Ev (fun k => spec_TileInner.f k e i t) r ∧ Ev (fun k => impl_TileInner.f k e i t) r ∧ r.1.length ≤ 2 := by
  unfold spec_TileInner.f impl_TileInner.f
  rcases asked e hl i t with ⟨h1, h2⟩ | ⟨p, q, hg, h0, h3, h1, hs, h2⟩
  · exact ⟨([], false), Ev.bindB _ h1 (Ev.neg (by simp) (Ev.now _)), Ev.map h2 rfl, by simp⟩
  · exact ⟨(q, true), Ev.bindB _ h1 (Ev.pos rfl (Ev.map hs rfl)), Ev.map h2 rfl, (asked_len e hl h1 hs).2⟩
theorem tileInner_pure (l : List S51) (i : Int) (t : Int) (h : okNodes l) (hq0 : (Lit.int .i64 i).wf = true) (hq1 : (Lit.int .i64 t).wf = true) : ∃ k, laws_FnExactTileInner.f k l i t = some true := by
  refine Ev.rounds ?_
  unfold laws_FnExactTileInner.f
  obtain ⟨r, hr, hle, hlen⟩ := szNodeS_ev l 1048576 (by omega) (by omega) h
  refine Ev.bindB _ hr ?_
  by_cases hn : r < 0
  · exact Ev.pos hn (Ev.now _)
  have hl := hlen (by omega)
  have hc := conv_len l
  obtain ⟨⟨v0, v1⟩, hs, hi, hlen2⟩ := tileInner_both (conv l) (by omega) i t
  refine Ev.neg hn (Ev.bindB _ (toNodeS_ev l (by omega)) (Ev.bindB _ (hs) (Ev.bindB _ (toNodeS_ev l (by omega)) (Ev.bindB _ (hi) ?_))))
  have hv : v0.length ≤ 1000 := Nat.le_trans hlen2 (by decide)
  refine Ev.bindB _ (eqIntS_self v0 (by omega)) (Ev.pos rfl ?_)
  simp only [bne_self_eq_false]
  refine Ev.step (fun k => by rw [laws_FnExactTileInner.j0]) ?_
  obtain ⟨m, l', hm, hm0⟩ := markNodeS_ev (conv l) (by omega)
  refine Ev.neg (by simp) (Ev.bindB _ (toNodeS_ev l (by omega)) (Ev.bindB _ (eqNodeS_self (conv l) (by omega)) (Ev.pos rfl (Ev.bindB _ hm (Ev.neg (by show ¬ m < 0; omega) (Ev.bindB _ (eqIntS_self v0 (by omega)) (Ev.pos rfl ?_)))))))
  simp only [bne_self_eq_false]
  refine Ev.step (fun k => by rw [laws_FnExactTileInner.j1]) ?_
  refine Ev.neg (by simp) (Ev.bindB _ (markIntS_ev v0 (by omega)) (Ev.bindB _ (heldIntS_ev v0.length (by omega)) (Ev.neg (by omega) (Ev.pos rfl ?_))))
  refine (Ev.bindB _ (toNodeS_ev l (by omega)) (Ev.bindB _ (hi) (Ev.bindB _ (eqIntS_self v0 (by omega)) (Ev.pos rfl ?_))))
  simp only [bne_self_eq_false]
  refine Ev.step (fun k => by rw [laws_FnExactTileInner.j2]) ?_
  exact Ev.neg (by simp) (Ev.bindB _ (heldIntS_ev v0.length (by omega)) (Ev.neg (by omega) (Ev.pos rfl (Ev.now _))))
end Go.Proofs.Ytlmegefdnkjcbaa.Pa
