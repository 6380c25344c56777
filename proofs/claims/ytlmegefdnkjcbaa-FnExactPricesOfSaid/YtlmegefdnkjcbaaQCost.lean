/- The costs of ops: the program's forms and the reference tell the same. -/
import Derived.Test.YtlmegefdnkjcbaaQExpr
import Derived.Test.YtlmegefdnkjcbaaPa12
import Derived.Test.YtlmegefdnkjcbaaPa5
namespace Go.Proofs.Ytlmegefdnkjcbaa.Pa
open Go.RowKit Go.Proofs.YtlmegefdnkjcbaaW.PrintWords Go.Proofs.YtlmegefdnkjcbaaW.PrintLast Go.Proofs.YtlmegefdnkjcbaaW.PrintMore
set_option linter.unusedVariables false
set_option linter.unusedSimpArgs false
/-- the cost of an op -/
def opCost (s : ByteArray) : Int := if s.toList = ([109, 117, 108] : List UInt8) then 4 else if s.toList = ([115, 104, 108] : List UInt8) then 2 else if s.toList = ([115, 104, 114] : List UInt8) then 2 else 1
theorem cdCost_f (s : ByteArray) : spec_cdCost.f s = some (opCost s) := by
  unfold spec_cdCost.f opCost
  split
  · rfl
  · split
    · rfl
    · split <;> rfl
theorem formOf_cost {s : ByteArray} (h : arity s > 0) : ∃ r, impl_formOf.f s = some r ∧ r.2.2.2.2.1 = opCost s := by
  have hs : isOne s = true ∨ isTwo s = true := by
    rcases arity_cases s with ⟨ha, _⟩ | ⟨ha, _⟩ | ⟨_, h1, _⟩ | ⟨_, _, h2⟩
    · omega
    · omega
    · exact .inl h1
    · exact .inr h2
  rcases hs with h1 | h2
  · rcases isOne_mem h1 with e | e <;> exact ⟨_, by unfold impl_formOf.f; simp [e]; rfl, by unfold opCost; simp [e]⟩
  · have hm := isTwo_mem h2
    simp only [List.mem_cons, List.not_mem_nil, or_false] at hm
    rcases hm with e | e | e | e | e | e | e | e | e | e <;> exact ⟨_, by unfold impl_formOf.f; simp [e]; rfl, by unfold opCost; simp [e]⟩
end Go.Proofs.Ytlmegefdnkjcbaa.Pa
