/- When an expression is written as its walk: the program's function and the reference's. -/
import Derived.Test.YtohfaccniialmaaPGrow
namespace Go.Proofs.Ytohfaccniialmaa.Am
open Go
set_option linter.unusedVariables false
set_option linter.unusedSimpArgs false

def nodeEq (a b : Nd) : Bool := (a.1 == b.1) && ((a.2.1 == b.2.1) && ((a.2.2.1 == b.2.2.1) && ((a.2.2.2 == b.2.2.2) && true)))
theorem nodeEq_iff {a b : Nd} : nodeEq a b = true ↔ a = b := by
  obtain ⟨a0, a1, a2, a3⟩ := a
  obtain ⟨b0, b1, b2, b3⟩ := b
  have hb : (a0 == b0) = true ↔ a0 = b0 := by
    obtain ⟨p⟩ := a0
    obtain ⟨q⟩ := b0
    have : ((⟨p⟩ : ByteArray) == ⟨q⟩) = (p == q) := rfl
    rw [this, beq_iff_eq]
    simp
  simp only [nodeEq, Bool.and_eq_true, Bool.and_true, beq_iff_eq, hb, Prod.mk.injEq]
theorem cons_dec {a b : Nd} {r q : List Nd} (h : a = b) : decide (a :: r = b :: q) = decide (r = q) := by subst h; simp
theorem ruSame_ev (xs ys : List Nd) (hx : xs.length ≤ 1048576000000) : Ev (fun k => spec_ruSame.f k xs ys) (decide (xs = ys)) := by
  refine Ev.step (fun k => spec_ruSame.eq k xs ys) ?_
  by_cases hl : xs.length = ys.length
  · refine Ev.neg (by simp [hl]) ?_
    have key := Ev.loop xs.length (fun k i => spec_ruSame.l0 k ys xs (xs.length : Int) (i : Int)) (fun i => decide (xs.drop i = ys.drop i)) ?_ ?_ 0 (by omega)
    · exact key
    · exact Ev.step (fun k => spec_ruSame.l0_eq k _ _ _ _) (Ev.neg (by simp) (Ev.ret (by rw [List.drop_eq_nil_of_le (by omega), List.drop_eq_nil_of_le (by omega)]; simp)))
    · intro i hi ih
      have hi' : i < ys.length := by omega
      refine Ev.step (fun k => spec_ruSame.l0_eq k _ _ _ _) (Ev.pos (by simpa using hi) (Ev.pos (by simp) (Ev.get hi (Ev.pos (by simp) (Ev.get hi' ?_)))))
      rw [next_ok i _ hi (by omega), drop_at xs i hi, drop_at ys i hi']
      by_cases c : xs[i] = ys[i]
      · exact Ev.neg (by have := nodeEq_iff.2 c; unfold nodeEq at this; rw [this]; rfl) (Ev.eq ih (cons_dec c).symm)
      · have hf : nodeEq xs[i] ys[i] = false := by
          cases h : nodeEq xs[i] ys[i] with
          | false => rfl
          | true => exact absurd (nodeEq_iff.1 h) c
        exact Ev.pos (by unfold nodeEq at hf; rw [hf]; rfl) (Ev.ret (by symm; rw [decide_eq_false_iff_not]; intro e; exact c (List.cons.inj e).1))
  · exact Ev.pos (by simp; omega) (Ev.ret (by symm; simp; intro e; exact hl (by rw [e])))
theorem equalN_ev (xs ys : List Nd) (hx : xs.length ≤ 1048576000000) : Ev (fun k => slices_Equal_Node.f k xs ys) (decide (xs = ys)) := by
  refine Ev.step (fun k => slices_Equal_Node.eq k xs ys) ?_
  by_cases hl : xs.length = ys.length
  · refine Ev.neg (by simp [hl]) ?_
    have key := Ev.loop xs.length (fun k i => slices_Equal_Node.l0 k xs ys (xs.length : Int) (i : Int)) (fun i => decide (xs.drop i = ys.drop i)) ?_ ?_ 0 (by omega)
    · exact key
    · exact Ev.step (fun k => slices_Equal_Node.l0_eq k _ _ _ _) (Ev.neg (by simp) (Ev.ret (by rw [List.drop_eq_nil_of_le (by omega), List.drop_eq_nil_of_le (by omega)]; simp)))
    · intro i hi ih
      have hi' : i < ys.length := by omega
      refine Ev.step (fun k => slices_Equal_Node.l0_eq k _ _ _ _) (Ev.pos (by simpa using hi) (Ev.pos (by simp) (Ev.get hi (Ev.pos (by simp) (Ev.get hi' ?_)))))
      rw [next_ok i _ hi (by omega), drop_at xs i hi, drop_at ys i hi']
      by_cases c : xs[i] = ys[i]
      · exact Ev.neg (by have := nodeEq_iff.2 c; unfold nodeEq at this; rw [this]; rfl) (Ev.eq ih (cons_dec c).symm)
      · have hf : nodeEq xs[i] ys[i] = false := by
          cases h : nodeEq xs[i] ys[i] with
          | false => rfl
          | true => exact absurd (nodeEq_iff.1 h) c
        exact Ev.pos (by unfold nodeEq at hf; rw [hf]; rfl) (Ev.ret (by symm; rw [decide_eq_false_iff_not]; intro e; exact c (List.cons.inj e).1))
  · exact Ev.pos (by simp; omega) (Ev.ret (by symm; simp; intro e; exact hl (by rw [e])))
/-- is an expression a tree that is written as its walk -/
def walked (e : List Nd) : Bool := exprOk e && (once e && decide (wk e 25 ((e.length - 1 : Nat) : Int) 0 = e))
theorem exprOk_parts {e : List Nd} (h : exprOk e = true) : nodesOk e 0 = true ∧ 1 ≤ e.length ∧ e.length ≤ 24 := by
  unfold exprOk at h
  simp only [Bool.and_eq_true, inB_iff] at h
  exact ⟨h.2.1, by omega, by omega⟩
theorem ruWalked_ev (e : List Nd) (hl : e.length ≤ 1048576) : Ev (fun k => spec_ruWalked.f k e) (walked e) := by
  refine Ev.step (fun k => spec_ruWalked.eq k e) (Ev.bind (exGood_ev e hl) ?_)
  unfold walked
  cases hg : exprOk e with
  | false => exact Ev.neg rfl (Ev.ret (by simp))
  | true =>
    obtain ⟨hn, h1, h24⟩ := exprOk_parts hg
    refine Ev.pos rfl (Ev.bind (exTree_ev e hl hg) ?_)
    cases ho : once e with
    | false => exact Ev.neg rfl (Ev.ret (by simp))
    | true =>
      have hw : IntKind.wrap .i64 ((e.length : Int) - 1) = ((e.length - 1 : Nat) : Int) := by rw [wrap_ok (by omega) (by omega)]; omega
      rw [hw]
      have hlen := wk_len e 25 ((e.length - 1 : Nat) : Int) 0
      have h2 : (2 : Nat) ^ 25 = 33554432 := by decide
      rw [h2] at hlen
      exact Ev.pos rfl (Ev.bind (ruWalk_ev e hn h24 (i := e.length - 1) (by omega)) (Ev.bind (ruSame_ev _ _ (by omega)) (Ev.ret (by simp))))
theorem isWalked_ev (e : List Nd) (hl : e.length ≤ 1048576) : Ev (fun k => impl_isWalked.f k e) (walked e) := by
  refine Ev.step (fun k => impl_isWalked.eq k e) (Ev.bind (isTree_ev e hl) ?_)
  unfold walked
  cases hg : exprOk e with
  | false => exact Ev.pos rfl (Ev.ret (by simp))
  | true =>
    obtain ⟨hn, h1, h24⟩ := exprOk_parts hg
    cases ho : once e with
    | false => exact Ev.pos rfl (Ev.ret (by simp))
    | true =>
      refine Ev.neg rfl ?_
      have hw : IntKind.wrap .i64 ((e.length : Int) - 1) = ((e.length - 1 : Nat) : Int) := by rw [wrap_ok (by omega) (by omega)]; omega
      by_cases hc : (wk e 25 ((e.length - 1 : Nat) : Int) 0).length ≤ 24
      · refine Ev.bind (b := (wk e 25 ((e.length - 1 : Nat) : Int) 0, true)) (Ev.step (fun k => impl_ExpandExpr.eq k e) (Ev.bind (isExpr_ev e hl) ?_)) (Ev.bind (equalN_ev _ _ (by simp only; omega)) (Ev.ret (by simp)))
        rw [hg, hw]
        exact Ev.neg rfl (Ev.bind (growN_fit e hn (i := e.length - 1) (by omega) (g := 25) (f := 24) rfl (by omega) hc) (Ev.neg (by simp; omega) (Ev.now _)))
      · obtain ⟨t', h3, h4⟩ := growN_over e hn (i := e.length - 1) (by omega) (g := 25) (f := 24) rfl (by omega) (by omega)
        refine Ev.bind (b := ([], false)) (Ev.step (fun k => impl_ExpandExpr.eq k e) (Ev.bind (isExpr_ev e hl) ?_)) (Ev.bind (equalN_ev _ _ (by simp)) (Ev.ret ?_))
        · rw [hg, hw]
          exact Ev.neg rfl (Ev.bind h4 (Ev.pos (by simp; omega) (Ev.now _)))
        · have n1 : ¬ ([] : List Nd) = e := fun h => by rw [← h] at h1; simp at h1
          have n2 : ¬ wk e 25 ((e.length - 1 : Nat) : Int) 0 = e := fun h => hc (by rw [h]; exact h24)
          rw [decide_eq_false n1, decide_eq_false n2]
          rfl
end Go.Proofs.Ytohfaccniialmaa.Am
