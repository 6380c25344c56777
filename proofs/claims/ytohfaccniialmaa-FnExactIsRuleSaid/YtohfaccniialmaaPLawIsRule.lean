/- The law FnExactIsRule, in plain Lean. -/
import Derived.Test.YtohfaccniialmaaPIsRule
namespace Go.Proofs.Ytohfaccniialmaa.Am
open Go
set_option linter.unusedVariables false
set_option linter.unusedSimpArgs false

abbrev tyNd : Ty := .pr .s (.pr (.i .i64) (.pr (.i .i64) (.i .i64)))
abbrev tyRl : Ty := .pr (.sl tyNd) (.pr (.sl tyNd) .s)
theorem szRule_ev (r : Rl) (q : Qd tyRl r) : ∃ y, Ev (fun k => laws_szRule.f k r 1048576) y ∧ (0 ≤ y → r.1.length ≤ 1048576 ∧ r.2.1.length ≤ 1048576) := by
  obtain ⟨⟨q1, q2⟩, ⟨q3, q4⟩, q5⟩ := q
  have hM : maxLen = 9223372036854775807 := by decide
  have q5 : r.2.2.size ≤ maxLen := q5
  obtain ⟨y, hy, hyx, hyl⟩ := szNodeS_ev r.1 1048576 (by omega) (by omega) q1 (fun n hn => (q2 n hn).1)
  by_cases h0 : y < 0
  · exact ⟨-1, Ev.step (fun k => laws_szRule.eq k _ _) (Ev.bind hy (Ev.pos (by simpa using h0) (Ev.now _))), fun h => by omega⟩
  · obtain ⟨z, hz, hzx, hzl⟩ := szNodeS_ev r.2.1 y (by omega) (by omega) q3 (fun n hn => (q4 n hn).1)
    have l1 := hyl (by omega)
    by_cases h1 : z < 0
    · exact ⟨-1, Ev.step (fun k => laws_szRule.eq k _ _) (Ev.bind hy (Ev.neg (by simpa using h0) (Ev.bind hz (Ev.pos (by simpa using h1) (Ev.now _))))), fun h => by omega⟩
    · have l2 := hzl (by omega)
      have fin : r.1.length ≤ 1048576 ∧ r.2.1.length ≤ 1048576 := by omega
      have hw : IntKind.wrap .i64 (z - (r.2.2.size : Int)) = z - (r.2.2.size : Int) := wrap_ok (by omega) (by omega)
      by_cases h2 : z - (r.2.2.size : Int) < 0
      · exact ⟨-1, Ev.step (fun k => laws_szRule.eq k _ _) (Ev.bind hy (Ev.neg (by simpa using h0) (Ev.bind hz (Ev.neg (by simpa using h1) (by rw [hw]; exact Ev.pos (by simpa using h2) (Ev.now _)))))), fun _ => fin⟩
      · exact ⟨_, Ev.step (fun k => laws_szRule.eq k _ _) (Ev.bind hy (Ev.neg (by simpa using h0) (Ev.bind hz (Ev.neg (by simpa using h1) (by rw [hw]; exact Ev.neg (by simpa using h2) (Ev.now _)))))), fun _ => fin⟩
theorem isRule_pure (r : Rl) (q : Qd tyRl r) : ∃ k, laws_FnExactIsRule.f k r = some true := by
  obtain ⟨y, hy, hl⟩ := szRule_ev r q
  refine Ev.some (Ev.step (fun k => laws_FnExactIsRule.eq k r) (Ev.bind hy ?_))
  by_cases h0 : y < 0
  · exact Ev.pos (by simpa using h0) (Ev.now _)
  · obtain ⟨h1, h2⟩ := hl (by omega)
    have hto := toRule_ev r h1 h2
    refine Ev.neg (by simpa using h0) (Ev.bind hto (Ev.bind (b := ruleOk r) (Ev.step (fun k => spec_IsRule.eq k r) (Ev.bind (ruGood_ev r h1 h2) (Ev.now _))) (Ev.bind hto (Ev.bind (isRule_ev r h1 h2) (Ev.neg (by simp) (Ev.bind hto (Ev.bind (eqRule_ev r h1 h2) (Ev.neg rfl (Ev.now _)))))))))
end Go.Proofs.Ytohfaccniialmaa.Am
