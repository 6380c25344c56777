/- The law FnExactIsFalling, in plain Lean. -/
import Derived.Test.YtohfaccniialmaaWFall
import Derived.Test.YtohfaccniialmaaGExactIsFalling
namespace Go.Proofs.Ytohfaccniialmaa.Am
open Go
set_option linter.unusedVariables false
set_option linter.unusedSimpArgs false

theorem isFalling_pure (r : Rl) (q : Qd tyRl r) : ∃ k, laws_FnExactIsFalling.f k r = some true := by
  obtain ⟨y, hy, _, hs⟩ := szRule_v r q
  refine Ev.some (lim_ev (laws_FnExactIsFalling.vs r ?_))
  by_cases h0 : y < 0
  · simp [hy, h0]
  · have h := hs (by omega)
    have e1 : spec_IsFalling.v r = some (if ruleOk r = true then (fallP r, true) else (false, false)) := spec_IsFalling.vs _ (by simp only [ruGood_v r h, ruFalling_v r h, bd_s, br_if]; cases ruleOk r <;> rfl)
    have e2 : impl_IsFalling.v r = some (if ruleOk r = true then (fallP r, true) else (false, false)) := impl_IsFalling.vs _ (by
      simp only [isRule_v r h, bd_s, br_if]
      by_cases c : ruleOk r = true
      · simp [c, isFalling_v r h c]
      · simp [c])
    simp [hy, h0, toRule_v r h, e1, e2, eqRule_v r h]
end Go.Proofs.Ytohfaccniialmaa.Am
