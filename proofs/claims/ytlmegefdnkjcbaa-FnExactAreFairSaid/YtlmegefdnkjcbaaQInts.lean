/- What the laws do with lists of numbers: copies, comparisons. -/
import Derived.Test.YtlmegefdnkjcbaaQLaw
import Derived.Test.YtlmegefdnkjcbaaPa16
namespace Go.Proofs.Ytlmegefdnkjcbaa.Pa
open Go.RowKit Go.Proofs.YtlmegefdnkjcbaaW.PrintWords Go.Proofs.YtlmegefdnkjcbaaW.PrintLast Go.Proofs.YtlmegefdnkjcbaaW.PrintMore
set_option linter.unusedVariables false
set_option linter.unusedSimpArgs false
theorem toIntS_ev (l : List Int) (hl : l.length ≤ 35184372088832) : Ev (fun k => laws_toIntS.f k l) l := by
  unfold laws_toIntS.f
  refine Ev.pos (by omega) (Ev.pos (by omega) ?_)
  have key := Ev.loop l.length (fun k i => laws_toIntS.l0 k l (l.take i ++ List.replicate (l.length - i) 0) (i : Int)) (fun _ => l) ?_ ?_ 0 (by omega)
  · simpa using key
  · refine Ev.step (fun k => by rw [laws_toIntS.l0]) (Ev.neg (by omega) (Ev.ret ?_))
    rw [List.take_of_length_le (by omega), Nat.sub_self]; simp
  · intro i hi ih
    refine Ev.step (fun k => by rw [laws_toIntS.l0]) (Ev.pos (by omega) (Ev.pos (by omega) (Ev.pos (by simp; omega) ?_)))
    rw [rd_at _ _ hi, next_ok i _ hi (by omega), show ((i : Int)).toNat = i from by omega, set_step l 0 i hi]
    exact ih
end Go.Proofs.Ytlmegefdnkjcbaa.Pa
