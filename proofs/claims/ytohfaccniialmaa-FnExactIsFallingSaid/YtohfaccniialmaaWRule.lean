/- What the laws do with rules. -/
import Derived.Test.YtohfaccniialmaaWLaw
import Derived.Test.YtohfaccniialmaaAmRow
namespace Go.Proofs.Ytohfaccniialmaa.Am
open Go
set_option linter.unusedVariables false
set_option linter.unusedSimpArgs false

abbrev tyNd : Ty := .pr .s (.pr (.i .i64) (.pr (.i .i64) (.i .i64)))
abbrev tyRl : Ty := .pr (.sl tyNd) (.pr (.sl tyNd) .s)
/-- a rule whose parts are not too long -/
structure Short (r : Rl) : Prop where
  l : r.1.length ≤ 1048576
  r : r.2.1.length ≤ 1048576
theorem eqRule_v (r : Rl) (h : Short r) : laws_eqRule.v r r = some true :=
  laws_eqRule.vs _ _ (by simp [eqNodeS_v r.1 h.l, eqNodeS_v r.2.1 h.r])
theorem toRule_v (r : Rl) (h : Short r) : laws_toRule.v r = some (r, ()) :=
  laws_toRule.vs _ (by simp [toNodeS_v r.1 h.l, toNodeS_v r.2.1 h.r])
theorem szRule_v (r : Rl) (q : Qd tyRl r) : ∃ y, laws_szRule.v r 1048576 = some y ∧ y ≤ 1048576 ∧ (0 ≤ y → Short r) := by
  obtain ⟨⟨q1, q2⟩, ⟨q3, q4⟩, q5⟩ := q
  have hM : maxLen = 9223372036854775807 := by decide
  have q5 : r.2.2.size ≤ maxLen := q5
  obtain ⟨y, hy, hyx, hyl⟩ := szNodeS_v r.1 1048576 (by omega) (by omega) q1 (fun n hn => (q2 n hn).1)
  by_cases h0 : y < 0
  · exact ⟨-1, laws_szRule.vs _ _ (by simp [hy, h0]), by omega, fun h => by omega⟩
  · obtain ⟨z, hz, hzx, hzl⟩ := szNodeS_v r.2.1 y (by omega) (by omega) q3 (fun n hn => (q4 n hn).1)
    have l1 := hyl (by omega)
    by_cases h1 : z < 0
    · exact ⟨-1, laws_szRule.vs _ _ (by simp [hy, h0, hz, h1]), by omega, fun h => by omega⟩
    · have l2 := hzl (by omega)
      have fin : Short r := ⟨by omega, by omega⟩
      have hw : IntKind.wrap .i64 (z - (r.2.2.size : Int)) = z - (r.2.2.size : Int) := wrap_ok (by omega) (by omega)
      by_cases h2 : z - (r.2.2.size : Int) < 0
      · exact ⟨-1, laws_szRule.vs _ _ (by simp [hy, h0, hz, h1, hw, h2]), by omega, fun _ => fin⟩
      · exact ⟨_, laws_szRule.vs _ _ (by simp [hy, h0, hz, h1, hw, h2]; rfl), by omega, fun _ => fin⟩
theorem szNodeS_q (e : List Nd) (q : Qd (.sl tyNd) e) (y : Int) (h0 : 0 ≤ y) (h1 : y ≤ 1048576) : ∃ z, laws_szNodeS.v e y = some z ∧ z ≤ y ∧ (0 ≤ z → e.length ≤ 1048576) := by
  obtain ⟨q1, q2⟩ := q
  obtain ⟨z, hz, hzx, hzl⟩ := szNodeS_v e y h0 (by omega) q1 (fun n hn => (q2 n hn).1)
  exact ⟨z, hz, hzx, fun h => by have := hzl h; omega⟩
end Go.Proofs.Ytohfaccniialmaa.Am
