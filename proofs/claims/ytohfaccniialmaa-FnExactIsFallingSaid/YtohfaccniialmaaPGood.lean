/- When a list of nodes is an expression, and a tree. -/
import Derived.Test.YtohfaccniialmaaPNode
namespace Go.Proofs.Ytohfaccniialmaa.Am
open Go
set_option linter.unusedVariables false
set_option linter.unusedSimpArgs false

/-- all nodes from place i on may stand where they stand -/
def nodesOk : List Nd → Nat → Bool
  | [], _ => true
  | n :: r, i => nodeOk n i && nodesOk r (i + 1)
theorem nodesOk_at {e : List Nd} {i : Nat} (h : i < e.length) : nodesOk (e.drop i) i = (nodeOk e[i] i && nodesOk (e.drop (i + 1)) (i + 1)) := by
  rw [drop_at e i h]; rfl
theorem inB_iff {n lo hi : Int} : inB n lo hi = true ↔ lo ≤ n ∧ n ≤ hi := by unfold inB; simp
theorem nodeOk_parts {n : Nd} {i : Nat} (h : nodeOk n i = true) : ∀ p ∈ partsOf n, 0 ≤ p ∧ p < i := by
  intro p hp
  unfold partsOf at hp
  unfold nodeOk at h
  rcases arity_cases n.1 with ⟨ha, h1, h2⟩ | ⟨ha, h1, h2⟩ | ⟨ha, h1, h2⟩ | ⟨ha, h1, h2⟩
  · rw [ha] at hp; simp at hp
  · rw [ha] at hp; simp at hp
  · have n1 : n.1 ≠ tIn := fun e => by rw [e] at h1; revert h1; decide
    have n2 : n.1 ≠ tConst := fun e => by rw [e] at h1; revert h1; decide
    rw [if_neg n1, if_neg n2, if_pos h1] at h
    rw [ha] at hp
    simp only [Bool.and_eq_true, inB_iff] at h
    simp at hp
    omega
  · obtain ⟨n1, n2, _⟩ := isTwo_not h2
    rw [if_neg n1, if_neg n2, if_neg (by simp [h1])] at h
    rw [ha] at hp
    simp only [Bool.and_eq_true, inB_iff] at h
    simp at hp
    omega
theorem nodesOk_get : ∀ (e : List Nd) (i : Nat), nodesOk e i = true → ∀ (j : Nat) (h : j < e.length), nodeOk e[j] ((i + j : Nat) : Int) = true
  | [], i, _, j, h => by simp at h
  | n :: r, i, hn, j, h => by
    simp only [nodesOk, Bool.and_eq_true] at hn
    cases j with
    | zero => simpa using hn.1
    | succ j =>
      have := nodesOk_get r (i + 1) hn.2 j (by simpa using h)
      rw [show i + (j + 1) = i + 1 + j by omega]
      simpa using this
theorem nodesOk_parts {e : List Nd} (h : nodesOk e 0 = true) : PartsIn e e.length := fun n hn p hp => by
  obtain ⟨j, hj, e1⟩ := List.getElem_of_mem hn
  have := nodesOk_get e 0 h j hj
  rw [e1] at this
  have := nodeOk_parts (i := 0 + j) this p hp
  omega
/-- is each node but the last one an operand -/
def allUsed (e : List Nd) : Bool := !decide ((0 : Int) ∈ (usesOf e).take (e.length - 1))
def exprOk (e : List Nd) : Bool := inB e.length 1 24 && (nodesOk e 0 && allUsed e)
theorem noneOf {α : Type} {e : List Nd} {g : Nat → Nat → Option Bool} (hl : e.length ≤ 1048576) (hbad : ∀ i (h : i < e.length), nodeOk e[i] i = false → Ev (fun k => g k i) false) (hgo : ∀ i (h : i < e.length), nodeOk e[i] i = true → Ev (fun k => g k (i + 1)) false → Ev (fun k => g k i) false) : ∀ (d i : Nat), i + d = e.length → nodesOk (e.drop i) i = false → Ev (fun k => g k i) false := by
  intro d
  induction d with
  | zero =>
    intro i hi h
    rw [List.drop_eq_nil_of_le (by omega)] at h
    cases h
  | succ d ih =>
    intro i hi h
    have hlt : i < e.length := by omega
    rw [nodesOk_at hlt] at h
    cases hn : nodeOk e[i] i with
    | false => exact hbad i hlt hn
    | true =>
      rw [hn, Bool.true_and] at h
      exact hgo i hlt hn (ih (i + 1) (by omega) h)
theorem exGood_ev (e : List Nd) (hl : e.length ≤ 1048576) : Ev (fun k => spec_exGood.f k e) (exprOk e) := by
  refine Ev.step (fun k => spec_exGood.eq k e) (Ev.here (l1In_f _ _ _) ?_)
  unfold exprOk
  cases hb : inB (e.length : Int) 1 24 with
  | false => exact Ev.pos rfl (Ev.ret (by simp))
  | true =>
    refine Ev.neg rfl ?_
    have hlen := inB_iff.1 hb
    rw [Bool.true_and]
    cases hn : nodesOk e 0 with
    | true =>
      have key := Ev.loop e.length (fun k i => spec_exGood.l0 k e e (e.length : Int) (i : Int)) (fun _ => allUsed e) ?_ ?_ 0 (by omega)
      · simpa using key
      · have hw : IntKind.wrap .i64 ((e.length : Int) - 1) = ((e.length - 1 : Nat) : Int) := by rw [wrap_ok (by omega) (by omega)]; omega
        refine Ev.step (fun k => spec_exGood.l0_eq k _ _ _ _) (Ev.neg (by simp) (Ev.bind (exUses_ev e hl (nodesOk_parts hn)) ?_))
        rw [hw, usesOf_len]
        refine Ev.pos (by simp) (Ev.pos (by simp) (Ev.bind (l1Has_ev _ _ (by rw [List.length_drop, List.length_take, usesOf_len]; omega)) (Ev.ret ?_)))
        simp [allUsed]
      · intro i hi ih
        have := nodesOk_get e 0 hn i hi
        rw [Nat.zero_add] at this
        refine Ev.step (fun k => spec_exGood.l0_eq k _ _ _ _) (Ev.pos (by simpa using hi) (Ev.pos (by simp) (Ev.get hi (Ev.bind (exNode_ev e[i] i (by omega) (by omega)) (Ev.neg (by rw [this]; rfl) ?_)))))
        rw [next_ok i _ hi (by omega)]
        exact ih
    | false =>
      refine noneOf (α := Nat) (e := e) (g := fun k i => spec_exGood.l0 k e e (e.length : Int) (i : Int)) hl (fun i hi hf => ?_) (fun i hi hf ih => ?_) e.length 0 (by omega) hn
      · exact Ev.step (fun k => spec_exGood.l0_eq k _ _ _ _) (Ev.pos (by simpa using hi) (Ev.pos (by simp) (Ev.get hi (Ev.bind (exNode_ev e[i] i (by omega) (by omega)) (Ev.pos (by rw [hf]; rfl) (Ev.now _))))))
      · refine Ev.step (fun k => spec_exGood.l0_eq k _ _ _ _) (Ev.pos (by simpa using hi) (Ev.pos (by simp) (Ev.get hi (Ev.bind (exNode_ev e[i] i (by omega) (by omega)) (Ev.neg (by rw [hf]; rfl) ?_)))))
        rw [next_ok i _ hi (by omega)]
        exact ih
theorem isExpr_ev (e : List Nd) (hl : e.length ≤ 1048576) : Ev (fun k => impl_IsExpr.f k e) (exprOk e) := by
  refine Ev.step (fun k => impl_IsExpr.eq k e) (Ev.here (within_f _ _ _) ?_)
  unfold exprOk
  cases hb : inB (e.length : Int) 1 24 with
  | false => exact Ev.pos rfl (Ev.ret (by simp))
  | true =>
    refine Ev.neg rfl ?_
    have hlen := inB_iff.1 hb
    rw [Bool.true_and]
    cases hn : nodesOk e 0 with
    | true =>
      have key := Ev.loop e.length (fun k i => impl_IsExpr.l0 k e e (e.length : Int) (i : Int)) (fun _ => allUsed e) ?_ ?_ 0 (by omega)
      · simpa using key
      · have hw : IntKind.wrap .i64 ((e.length : Int) - 1) = ((e.length - 1 : Nat) : Int) := by rw [wrap_ok (by omega) (by omega)]; omega
        refine Ev.step (fun k => impl_IsExpr.l0_eq k _ _ _ _) (Ev.neg (by simp) (Ev.bind (uses_ev e hl (nodesOk_parts hn)) ?_))
        rw [hw, usesOf_len]
        refine Ev.pos (by simp) (Ev.pos (by simp) (Ev.bind (containsI_ev _ _ (by rw [List.length_drop, List.length_take, usesOf_len]; omega)) (Ev.ret ?_)))
        simp [allUsed]
      · intro i hi ih
        have := nodesOk_get e 0 hn i hi
        rw [Nat.zero_add] at this
        refine Ev.step (fun k => impl_IsExpr.l0_eq k _ _ _ _) (Ev.pos (by simpa using hi) (Ev.pos (by simp) (Ev.get hi (Ev.bind (isNode_ev e[i] i (by omega) (by omega)) (Ev.neg (by rw [this]; rfl) ?_)))))
        rw [next_ok i _ hi (by omega)]
        exact ih
    | false =>
      refine noneOf (α := Nat) (e := e) (g := fun k i => impl_IsExpr.l0 k e e (e.length : Int) (i : Int)) hl (fun i hi hf => ?_) (fun i hi hf ih => ?_) e.length 0 (by omega) hn
      · exact Ev.step (fun k => impl_IsExpr.l0_eq k _ _ _ _) (Ev.pos (by simpa using hi) (Ev.pos (by simp) (Ev.get hi (Ev.bind (isNode_ev e[i] i (by omega) (by omega)) (Ev.pos (by rw [hf]; rfl) (Ev.now _))))))
      · refine Ev.step (fun k => impl_IsExpr.l0_eq k _ _ _ _) (Ev.pos (by simpa using hi) (Ev.pos (by simp) (Ev.get hi (Ev.bind (isNode_ev e[i] i (by omega) (by omega)) (Ev.neg (by rw [hf]; rfl) ?_)))))
        rw [next_ok i _ hi (by omega)]
        exact ih
end Go.Proofs.Ytohfaccniialmaa.Am
