/- The law FnExactIsFalling, in plain Lean: what expressions cost, how often a hole is there. -/
import Derived.Test.YtohfaccniialmaaWForm
import Derived.Test.YtohfaccniialmaaPIsRule
namespace Go.Proofs.Ytohfaccniialmaa.Am
open Go
set_option linter.unusedVariables false
set_option linter.unusedSimpArgs false

def nCost (n : Nd) : Int := if arity n.1 > 0 then opCost n.1 else 0
/-- the cost of an expression -/
def costP : List Nd → Int
  | [] => 0
  | n :: r => nCost n + costP r
theorem nCost_bnd (n : Nd) : 0 ≤ nCost n ∧ nCost n ≤ 4 := by
  unfold nCost
  have := opCost_pos n.1
  split <;> omega
theorem costP_bnd : ∀ l : List Nd, 0 ≤ costP l ∧ costP l ≤ 4 * l.length
  | [] => by simp [costP]
  | n :: r => by
    have h1 := costP_bnd r
    have h2 := nCost_bnd n
    simp only [costP, List.length_cons]
    omega
theorem parts_pos (n : Nd) : (decide (((partsOf n).length : Int) > 0)) = decide (arity n.1 > 0) := by
  unfold partsOf
  rcases arity_cases n.1 with ⟨h, _⟩ | ⟨h, _⟩ | ⟨h, _⟩ | ⟨h, _⟩ <;> rw [h] <;> simp
theorem exParts_v (n : Nd) : spec_exParts.v n = some (partsOf n) := ev_lim (exParts_ev n)
theorem of_v (n : Nd) : impl_Node_of.v n = some (partsOf n) := ev_lim (of_ev n)
theorem operands_v (s : ByteArray) : impl_operands.v s = some (arity s) := ev_lim (operands_ev s)
theorem ruCost_v (e : List Nd) (hl : e.length ≤ 1048576) : spec_ruCost.v e = some (costP e) := by
  have key : ∀ (d i : Nat) (a : Int), i + d = e.length → 0 ≤ a → a ≤ 4 * i → spec_ruCost.v0 a e (e.length : Int) (i : Int) = some (a + costP (e.drop i)) := by
    intro d
    induction d with
    | zero =>
      intro i a hi h0 h1
      refine spec_ruCost.v0s _ _ _ _ ?_
      rw [List.drop_eq_nil_of_le (by omega), br_f (by simp; omega)]
      simp [costP]
    | succ d ih =>
      intro i a hi h0 h1
      have hlt : i < e.length := by omega
      have hb := nCost_bnd e[i]
      refine spec_ruCost.v0s _ _ _ _ ?_
      rw [br_t (by simpa using hlt), br_t (by simp), Int.toNat_natCast, gt_at _ hlt, exParts_v, bd_s, parts_pos, next_ok i _ hlt (by omega), cdCost_f, bd_s]
      rw [drop_at _ _ hlt]
      simp only [costP]
      by_cases c : arity e[i].1 > 0
      · have hn : nCost e[i] = opCost e[i].1 := by unfold nCost; rw [if_pos c]
        rw [br_t (by simpa using c), wrap_ok (by omega) (by omega), ih (i + 1) _ (by omega) (by omega) (by omega), hn]
        congr 1; omega
      · have hn : nCost e[i] = 0 := by unfold nCost; rw [if_neg c]
        rw [br_f (by simpa using c), ih (i + 1) _ (by omega) (by omega) (by omega), hn]
        congr 1; omega
  exact spec_ruCost.vs _ (by have := key e.length 0 0 (by omega) (by omega) (by omega); simpa using this)
theorem costOf_v (e : List Nd) (hl : e.length ≤ 1048576) : impl_costOf.v e = some (costP e) := by
  have key : ∀ (d i : Nat) (a : Int), i + d = e.length → 0 ≤ a → a ≤ 4 * i → impl_costOf.v0 a e (e.length : Int) (i : Int) = some (a + costP (e.drop i)) := by
    intro d
    induction d with
    | zero =>
      intro i a hi h0 h1
      refine impl_costOf.v0s _ _ _ _ ?_
      rw [List.drop_eq_nil_of_le (by omega), br_f (by simp; omega)]
      simp [costP]
    | succ d ih =>
      intro i a hi h0 h1
      have hlt : i < e.length := by omega
      have hb := nCost_bnd e[i]
      refine impl_costOf.v0s _ _ _ _ ?_
      rw [br_t (by simpa using hlt), br_t (by simp), Int.toNat_natCast, gt_at _ hlt, operands_v, bd_s, next_ok i _ hlt (by omega), formOf_v, bd_s]
      rw [drop_at _ _ hlt]
      simp only [costP]
      by_cases c : arity e[i].1 > 0
      · have hn : nCost e[i] = opCost e[i].1 := by unfold nCost; rw [if_pos c]
        rw [br_t (by simpa using c), formP_cost c, wrap_ok (by omega) (by omega), ih (i + 1) _ (by omega) (by omega) (by omega), hn]
        congr 1; omega
      · have hn : nCost e[i] = 0 := by unfold nCost; rw [if_neg c]
        rw [br_f (by simpa using c), ih (i + 1) _ (by omega) (by omega) (by omega), hn]
        congr 1; omega
  exact impl_costOf.vs _ (by have := key e.length 0 0 (by omega) (by omega) (by omega); simpa using this)
theorem timesIn_v (e : List Nd) (hl : e.length ≤ 1048576) (v : Int) : impl_timesIn.v e v = some (((e.countP (nodeEq (tIn, (0 : Int), (0 : Int), v)) : Nat) : Int)) := by
  have key : ∀ (d i a : Nat), i + d = e.length → a ≤ i → impl_timesIn.v0 v (a : Int) e (e.length : Int) (i : Int) = some (((a + (e.drop i).countP (nodeEq (tIn, (0 : Int), (0 : Int), v)) : Nat) : Int)) := by
    intro d
    induction d with
    | zero =>
      intro i a hi h1
      refine impl_timesIn.v0s _ _ _ _ _ ?_
      rw [List.drop_eq_nil_of_le (by omega), br_f (by simp; omega)]
      simp
    | succ d ih =>
      intro i a hi h1
      have hlt : i < e.length := by omega
      refine impl_timesIn.v0s _ _ _ _ _ ?_
      rw [br_t (by simpa using hlt), br_t (by simp), Int.toNat_natCast, gt_at _ hlt, next_ok i _ hlt (by omega), drop_at _ _ hlt, List.countP_cons, impl_bit.eq]
      have hq : ((e[i].1 == (⟨#[105, 110]⟩ : ByteArray)) && ((e[i].2.1 == (0 : Int)) && ((e[i].2.2.1 == (0 : Int)) && ((e[i].2.2.2 == v) && true)))) = nodeEq (tIn, (0 : Int), (0 : Int), v) e[i] := by
        show nodeEq e[i] (tIn, (0 : Int), (0 : Int), v) = _
        rw [Bool.eq_iff_iff, nodeEq_iff, nodeEq_iff]
        exact eq_comm
      rw [hq]
      cases hc : nodeEq (tIn, (0 : Int), (0 : Int), v) e[i]
      · rw [br_f rfl, bd_s, wrap_ok (by omega) (by omega)]
        have := ih (i + 1) a (by omega) (by omega)
        simpa using this
      · rw [br_t rfl, bd_s, wrap_ok (by omega) (by omega)]
        have := ih (i + 1) (a + 1) (by omega) (by omega)
        rw [show ((a : Int) + 1) = ((a + 1 : Nat) : Int) from rfl, this]
        congr 2
        simp; omega
  exact impl_timesIn.vs _ _ (by have := key e.length 0 0 (by omega) (by omega); simpa using this)
theorem isH_of {n : Nd} {i : Int} (h : nodeOk n i = true) (v : Int) : isH v n = nodeEq (tIn, (0 : Int), (0 : Int), v) n := by
  rw [Bool.eq_iff_iff]
  unfold isH
  rw [nodeEq_iff, Bool.and_eq_true, decide_eq_true_iff, decide_eq_true_iff]
  obtain ⟨o, a, b, c⟩ := n
  constructor
  · rintro ⟨e1, e2⟩
    simp only at e1 e2
    subst e1 e2
    simp [nodeOk] at h
    simp [h]
  · intro e
    simp only [Prod.mk.injEq] at e
    simp [← e.1, ← e.2.2.2]
theorem cntH_of {e : List Nd} (hn : nodesOk e 0 = true) (v : Int) : e.countP (nodeEq (tIn, (0 : Int), (0 : Int), v)) = cntH e v := by
  unfold cntH
  refine List.countP_congr fun n hm => ?_
  obtain ⟨j, hj, rfl⟩ := List.getElem_of_mem hm
  have := nodesOk_get e 0 hn j hj
  rw [isH_of this]
def fallP (r : Rl) : Bool := decide (costP r.2.1 < costP r.1) && (decide (cntH r.2.1 0 ≤ cntH r.1 0) && decide (cntH r.2.1 1 ≤ cntH r.1 1))
theorem ruHoles_v (e : List Nd) (hl : e.length ≤ 1048576) : spec_ruHoles.v e = some ((cntH e 0 : Int), (cntH e 1 : Int)) := ev_lim (ruHoles_ev e hl)
theorem ruFalling_v (r : Rl) (h : Short r) : spec_ruFalling.v r = some (fallP r) := by
  refine spec_ruFalling.vs _ ?_
  simp only [ruHoles_v _ h.l, ruHoles_v _ h.r, ruCost_v _ h.l, ruCost_v _ h.r, bd_s, br_if, fallP]
  by_cases c1 : costP r.2.1 < costP r.1 <;> by_cases c2 : cntH r.2.1 0 ≤ cntH r.1 0 <;> simp [c1, c2]
theorem ruleOk_nodes {r : Rl} (h : ruleOk r = true) : nodesOk r.1 0 = true ∧ nodesOk r.2.1 0 = true := by
  unfold ruleOk at h
  simp only [Bool.and_eq_true] at h
  exact ⟨(walked_expr h.2.1).1, (walked_expr h.2.2.1).1⟩
theorem isFalling_v (r : Rl) (h : Short r) (hr : ruleOk r = true) : impl_isFalling.v r = some (fallP r) := by
  obtain ⟨n1, n2⟩ := ruleOk_nodes hr
  refine impl_isFalling.vs _ ?_
  simp only [costOf_v _ h.l, costOf_v _ h.r, timesIn_v _ h.l, timesIn_v _ h.r, cntH_of n1, cntH_of n2, bd_s, br_if, fallP]
  by_cases c1 : costP r.2.1 < costP r.1 <;> by_cases c2 : cntH r.2.1 0 ≤ cntH r.1 0 <;> simp [c1, c2]
theorem ruGood_v (r : Rl) (h : Short r) : spec_ruGood.v r = some (ruleOk r) := ev_lim (ruGood_ev r h.l h.r)
theorem isRule_v (r : Rl) (h : Short r) : impl_IsRule.v r = some (ruleOk r) := ev_lim (isRule_ev r h.l h.r)
end Go.Proofs.Ytohfaccniialmaa.Am
