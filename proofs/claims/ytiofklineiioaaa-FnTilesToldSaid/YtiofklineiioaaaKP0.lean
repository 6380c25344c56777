/- Plain texts: what the functions answer (part 0). -/
import Derived.Test.YtiofklineiioaaaKF1
section
/- What the laws do around the functions: arguments are measured, copied and compared. -/
namespace Go.Proofs.Ytiofklineiioaaa.Am
open Go
set_option linter.unusedVariables false
set_option linter.unusedSimpArgs false

abbrev Nd := ByteArray × Int × Int × Int
abbrev Rl := List Nd × List Nd × ByteArray
theorem brn_t {α : Type} (x y : Option α) : br (!true) x y = y := rfl
theorem brn_f {α : Type} (x y : Option α) : br (!false) x y = x := rfl
@[simp] theorem seq_self (x : ByteArray) : seq x x = true := seq_iff.2 rfl
theorem gt_mid {α β : Type} (l : List β) (x : β) (r : List β) (f : β → Option α) : gt (l ++ x :: r) l.length f = f x := gt_some (by simp)
theorem set_mid {β : Type} (l : List β) (x y : β) (r : List β) : (l ++ x :: r).set l.length y = l ++ y :: r := by simp
end Go.Proofs.Ytiofklineiioaaa.Am
end
section
/- Lists of texts and numbers that are searched; numbers within bounds. -/
namespace Go.Proofs.Ytiofklineiioaaa.Am
open Go
set_option linter.unusedVariables false
set_option linter.unusedSimpArgs false

theorem seq_beq (x y : ByteArray) : seq x y = decide (x = y) := by
  by_cases h : x = y
  · rw [decide_eq_true h]; exact seq_iff.2 h
  · rw [decide_eq_false h]
    cases e : seq x y with
    | false => rfl
    | true => exact absurd (seq_iff.1 e) h
/-- is a text among these -/
def isIn (l : List ByteArray) (s : ByteArray) : Bool := l.any fun x => decide (x = s)
theorem drop_at {α : Type} (l : List α) (i : Nat) (h : i < l.length) : l.drop i = l[i] :: l.drop (i + 1) := List.drop_eq_getElem_cons h
theorem l1HasS_ev (l : List ByteArray) (s : ByteArray) (hl : l.length ≤ 9223372036854775000) : Ev (fun k => spec_l1HasS.f k l s) (isIn l s) := by
  refine Ev.step (fun k => spec_l1HasS.eq k l s) ?_
  have := Ev.loop l.length (fun k i => spec_l1HasS.l0 k s l (l.length : Int) (i : Int)) (fun i => isIn (l.drop i) s) ?_ ?_ 0 (by omega)
  · exact this
  · exact Ev.step (fun k => spec_l1HasS.l0_eq k s l _ _) (Ev.neg (by simp) (Ev.ret (by simp [isIn])))
  · intro i hi ih
    refine Ev.step (fun k => spec_l1HasS.l0_eq k s l _ _) (Ev.pos (by simpa using hi) (Ev.pos (by simp) (Ev.get hi ?_)))
    rw [next_ok i _ hi hl, seq_beq]
    by_cases c : l[i] = s
    · exact Ev.pos (by simp [c]) (Ev.ret (by unfold isIn; rw [drop_at _ _ hi, List.any_cons]; simp [c]))
    · exact Ev.neg (by simp [c]) (Ev.eq ih (by unfold isIn; rw [drop_at _ _ hi, List.any_cons]; simp [c]))
theorem containsS_ev (l : List ByteArray) (s : ByteArray) (hl : l.length ≤ 9223372036854775000) : Ev (fun k => slices_Contains_string.f k l s) (isIn l s) := by
  have key : ∀ (d : Nat) (i : Nat), i + d = l.length → ∃ r : Int, Ev (fun k => slices_Index_string.l0 k l s (l.length : Int) (i : Int)) r ∧ (0 ≤ r ↔ isIn (l.drop i) s = true) := by
    intro d
    induction d with
    | zero =>
      intro i h
      refine ⟨-1, Ev.step (fun k => slices_Index_string.l0_eq k l s _ _) (Ev.neg (by simp; omega) (Ev.now _)), ?_⟩
      rw [List.drop_eq_nil_of_le (by omega)]; simp [isIn]
    | succ d ih =>
      intro i h
      have hi : i < l.length := by omega
      by_cases c : l[i] = s
      · refine ⟨i, Ev.step (fun k => slices_Index_string.l0_eq k l s _ _) (Ev.pos (by simpa using hi) (Ev.pos (by simp) (Ev.get hi (Ev.pos (by rw [seq_beq]; simp [c]) (Ev.now _))))), ?_⟩
        unfold isIn; rw [drop_at _ _ hi, List.any_cons]; simp [c]
      · obtain ⟨r, hev, hiff⟩ := ih (i + 1) (by omega)
        refine ⟨r, Ev.step (fun k => slices_Index_string.l0_eq k l s _ _) (Ev.pos (by simpa using hi) (Ev.pos (by simp) (Ev.get hi (Ev.neg (by rw [seq_beq]; simp only [decide_eq_false_iff_not]; exact fun e => c e.symm) (by rw [next_ok i _ hi hl]; exact hev))))), ?_⟩
        rw [hiff]; unfold isIn; rw [drop_at _ _ hi, List.any_cons]; simp [c]
  obtain ⟨r, hev, hiff⟩ := key l.length 0 (by omega)
  refine Ev.step (fun k => slices_Contains_string.eq k l s) (Ev.bind (b := r) (Ev.step (fun k => slices_Index_string.eq k l s) hev) (Ev.ret ?_))
  rw [Bool.eq_iff_iff, decide_eq_true_iff]
  exact hiff
theorem containsI_ev (l : List Int) (s : Int) (hl : l.length ≤ 9223372036854775000) : Ev (fun k => slices_Contains_int.f k l s) (decide (s ∈ l)) := by
  have key : ∀ (d : Nat) (i : Nat), i + d = l.length → ∃ r : Int, Ev (fun k => slices_Index_int.l0 k l s (l.length : Int) (i : Int)) r ∧ (0 ≤ r ↔ s ∈ l.drop i) := by
    intro d
    induction d with
    | zero =>
      intro i h
      refine ⟨-1, Ev.step (fun k => slices_Index_int.l0_eq k l s _ _) (Ev.neg (by simp; omega) (Ev.now _)), ?_⟩
      rw [List.drop_eq_nil_of_le (by omega)]; simp
    | succ d ih =>
      intro i h
      have hi : i < l.length := by omega
      by_cases c : s = l[i]
      · refine ⟨i, Ev.step (fun k => slices_Index_int.l0_eq k l s _ _) (Ev.pos (by simpa using hi) (Ev.pos (by simp) (Ev.get hi (Ev.pos (by simp [c]) (Ev.now _))))), ?_⟩
        rw [drop_at _ _ hi, List.mem_cons]; simp [c]
      · obtain ⟨r, hev, hiff⟩ := ih (i + 1) (by omega)
        refine ⟨r, Ev.step (fun k => slices_Index_int.l0_eq k l s _ _) (Ev.pos (by simpa using hi) (Ev.pos (by simp) (Ev.get hi (Ev.neg (by simp [c]) (by rw [next_ok i _ hi hl]; exact hev))))), ?_⟩
        rw [hiff, drop_at _ _ hi, List.mem_cons]; simp [c]
  obtain ⟨r, hev, hiff⟩ := key l.length 0 (by omega)
  refine Ev.step (fun k => slices_Contains_int.eq k l s) (Ev.bind (b := r) (Ev.step (fun k => slices_Index_int.eq k l s) hev) (Ev.ret ?_))
  rw [Bool.eq_iff_iff, decide_eq_true_iff, decide_eq_true_iff]
  exact hiff
theorem l1Has_ev (l : List Int) (s : Int) (hl : l.length ≤ 9223372036854775000) : Ev (fun k => spec_l1Has.f k l s) (decide (s ∈ l)) := by
  refine Ev.step (fun k => spec_l1Has.eq k l s) ?_
  have := Ev.loop l.length (fun k i => spec_l1Has.l0 k s l (l.length : Int) (i : Int)) (fun i => decide (s ∈ l.drop i)) ?_ ?_ 0 (by omega)
  · exact this
  · exact Ev.step (fun k => spec_l1Has.l0_eq k s l _ _) (Ev.neg (by simp) (Ev.ret (by simp)))
  · intro i hi ih
    refine Ev.step (fun k => spec_l1Has.l0_eq k s l _ _) (Ev.pos (by simpa using hi) (Ev.pos (by simp) (Ev.get hi ?_)))
    rw [next_ok i _ hi hl]
    by_cases c : l[i] = s
    · exact Ev.pos (by simp [c]) (Ev.ret (by rw [drop_at _ _ hi]; simp only [List.mem_cons]; simp [c]))
    · exact Ev.neg (by simp [c]) (Ev.eq ih (by rw [drop_at _ _ hi]; simp only [List.mem_cons]; have e : ¬ s = l[i] := fun e => c e.symm; simp [e]))
/-- is a number within these bounds -/
def inB (n lo hi : Int) : Bool := decide (lo ≤ n) && decide (n ≤ hi)
theorem l1In_f (n lo hi : Int) : spec_l1In.f n lo hi = some (inB n lo hi) := by
  rw [spec_l1In.eq]; unfold inB
  by_cases h : lo ≤ n
  · rw [br_t (by simpa using h)]; simp [h]
  · rw [br_f (by simpa using h)]; simp [h]
theorem within_f (n lo hi : Int) : impl_within.f n lo hi = some (inB n lo hi) := by
  rw [impl_within.eq]; unfold inB
  by_cases h : lo ≤ n
  · rw [br_t (by simpa using h)]; simp [h]
  · rw [br_f (by simpa using h)]; simp [h]
theorem exWord_f (n : Int) : spec_exWord.f n = some (inB n 0 63) := by rw [spec_exWord.eq, l1In_f]; rfl
theorem isWord_f (n : Int) : impl_isWord.f n = some (inB n 0 63) := by rw [impl_isWord.eq, within_f]; rfl
end Go.Proofs.Ytiofklineiioaaa.Am
end
section
/- Expressions: which operands a node has, where a node may stand; the program's functions and the reference's answer alike. -/
namespace Go.Proofs.Ytiofklineiioaaa.Am
open Go
set_option linter.unusedVariables false
set_option linter.unusedSimpArgs false

abbrev tIn : ByteArray := ⟨#[105, 110]⟩
abbrev tConst : ByteArray := ⟨#[99, 111, 110, 115, 116]⟩
abbrev tNot : ByteArray := ⟨#[110, 111, 116]⟩
abbrev tNeg : ByteArray := ⟨#[110, 101, 103]⟩
def opsL : List ByteArray := [(⟨#[97, 100, 100]⟩ : ByteArray), (⟨#[115, 117, 98]⟩ : ByteArray), (⟨#[109, 117, 108]⟩ : ByteArray), (⟨#[97, 110, 100]⟩ : ByteArray), (⟨#[111, 114]⟩ : ByteArray), (⟨#[120, 111, 114]⟩ : ByteArray), (⟨#[115, 104, 108]⟩ : ByteArray), (⟨#[115, 104, 114]⟩ : ByteArray), (⟨#[108, 101, 115, 115]⟩ : ByteArray), (⟨#[101, 113]⟩ : ByteArray)]
def isTwo (s : ByteArray) : Bool := isIn opsL s
def isOne (s : ByteArray) : Bool := decide (s = tNot) || decide (s = tNeg)
/-- how many operands an op has; -1: it is none -/
def arity (s : ByteArray) : Int := if s = tIn then 0 else if s = tConst then 0 else if isOne s = true then 1 else if isTwo s = true then 2 else -1
theorem isOne_mem {s : ByteArray} (h : isOne s = true) : s = tNot ∨ s = tNeg := by
  unfold isOne at h
  simpa using h
theorem arity_one {s : ByteArray} (h : isOne s = true) : arity s = 1 := by
  unfold arity
  rw [if_neg (by rcases isOne_mem h with e | e <;> rw [e] <;> decide), if_neg (by rcases isOne_mem h with e | e <;> rw [e] <;> decide), if_pos h]
theorem isTwo_not {s : ByteArray} (h : isTwo s = true) : s ≠ tIn ∧ s ≠ tConst ∧ isOne s = false := by
  refine ⟨fun e => ?_, fun e => ?_, ?_⟩
  · rw [e] at h; revert h; decide
  · rw [e] at h; revert h; decide
  · cases h1 : isOne s with
    | false => rfl
    | true => rcases isOne_mem h1 with e | e <;> (rw [e] at h; revert h; decide)
theorem arity_two {s : ByteArray} (h : isTwo s = true) : arity s = 2 := by
  obtain ⟨h1, h2, h3⟩ := isTwo_not h
  unfold arity
  rw [if_neg h1, if_neg h2, if_neg (by simp [h3]), if_pos h]
theorem arity_cases (s : ByteArray) : (arity s = -1 ∧ isOne s = false ∧ isTwo s = false) ∨ (arity s = 0 ∧ isOne s = false ∧ isTwo s = false) ∨ (arity s = 1 ∧ isOne s = true ∧ isTwo s = false) ∨ (arity s = 2 ∧ isOne s = false ∧ isTwo s = true) := by
  by_cases h2 : isTwo s = true
  · exact .inr (.inr (.inr ⟨arity_two h2, (isTwo_not h2).2.2, h2⟩))
  · have h2' : isTwo s = false := by simpa using h2
    by_cases h1 : isOne s = true
    · exact .inr (.inr (.inl ⟨arity_one h1, h1, h2'⟩))
    · have h1' : isOne s = false := by simpa using h1
      by_cases c : s = tIn
      · exact .inr (.inl ⟨by unfold arity; rw [if_pos c], h1', h2'⟩)
      · by_cases c2 : s = tConst
        · exact .inr (.inl ⟨by unfold arity; rw [if_neg c, if_pos c2], h1', h2'⟩)
        · exact .inl ⟨by unfold arity; rw [if_neg c, if_neg c2, if_neg h1, if_neg h2], h1', h2'⟩
theorem arity_eq_one {s : ByteArray} : arity s = 1 ↔ isOne s = true := by
  rcases arity_cases s with ⟨h, h1, h2⟩ | ⟨h, h1, h2⟩ | ⟨h, h1, h2⟩ | ⟨h, h1, h2⟩ <;> rw [h, h1] <;> simp
theorem arity_eq_two {s : ByteArray} : arity s = 2 ↔ isTwo s = true := by
  rcases arity_cases s with ⟨h, h1, h2⟩ | ⟨h, h1, h2⟩ | ⟨h, h1, h2⟩ | ⟨h, h1, h2⟩ <;> rw [h, h2] <;> simp
theorem seq_t {x y : ByteArray} (h : x = y) : seq x y = true := seq_iff.2 h
theorem seq_f {x y : ByteArray} (h : ¬ x = y) : seq x y = false := by rw [seq_beq]; simp [h]
theorem exOne_f (s : ByteArray) : spec_exOne.f s = some (isOne s) := by
  rw [spec_exOne.eq, seq_beq, seq_beq]
  unfold isOne
  by_cases h : s = tNot
  · rw [br_t (by simpa using h)]; simp [h]
  · rw [br_f (by simpa using h)]; simp [h]
theorem exTwo_ev (s : ByteArray) : Ev (fun k => spec_exTwo.f k s) (isTwo s) := Ev.step (fun k => spec_exTwo.eq k s) (Ev.here spec_exOps.eq (Ev.bind (l1HasS_ev opsL s (by decide)) (Ev.now _)))
theorem operands_ev (s : ByteArray) : Ev (fun k => impl_operands.f k s) (arity s) := by
  refine Ev.step (fun k => impl_operands.eq k s) ?_
  unfold arity
  by_cases c : s = tIn
  · rw [if_pos c]; exact Ev.pos (seq_t c) (Ev.now _)
  · refine Ev.neg (seq_f c) ?_
    rw [if_neg c]
    by_cases c2 : s = tConst
    · rw [if_pos c2]; exact Ev.pos (seq_t c2) (Ev.now _)
    · refine Ev.neg (seq_f c2) ?_
      rw [if_neg c2]
      by_cases c3 : s = tNot
      · rw [if_pos (by unfold isOne; simp [c3])]; exact Ev.pos (seq_t c3) (Ev.now _)
      · refine Ev.neg (seq_f c3) ?_
        by_cases c4 : s = tNeg
        · rw [if_pos (by unfold isOne; simp [c4])]; exact Ev.pos (seq_t c4) (Ev.now _)
        · refine Ev.neg (seq_f c4) (Ev.here impl_binary.eq (Ev.bind (containsS_ev opsL s (by decide)) ?_))
          rw [if_neg (by unfold isOne; simp [c3, c4])]
          by_cases h : isTwo s = true
          · rw [if_pos h]; exact Ev.pos h (Ev.now _)
          · have h' : isTwo s = false := by simpa using h
            rw [if_neg h]; exact Ev.neg h' (Ev.now _)

/-! ### nodes -/
/-- the operands of a node -/
def partsOf (n : Nd) : List Int := if arity n.1 = 1 then [n.2.1] else if arity n.1 = 2 then [n.2.1, n.2.2.1] else []
theorem parts_le (n : Nd) : (partsOf n).length ≤ 2 := by unfold partsOf; split <;> (try split) <;> simp
theorem exParts_ev (n : Nd) : Ev (fun k => spec_exParts.f k n) (partsOf n) := by
  refine Ev.step (fun k => spec_exParts.eq k n) (Ev.here (exOne_f _) ?_)
  unfold partsOf
  by_cases h : isOne n.1 = true
  · exact Ev.pos h (Ev.ret (by rw [if_pos (arity_one h)]))
  · refine Ev.neg (by simpa using h) (Ev.bind (exTwo_ev n.1) ?_)
    rw [if_neg (fun e => h (arity_eq_one.1 e))]
    by_cases h2 : isTwo n.1 = true
    · exact Ev.pos h2 (Ev.ret (by rw [if_pos (arity_two h2)]))
    · exact Ev.neg (by simpa using h2) (Ev.ret (by rw [if_neg (fun e => h2 (arity_eq_two.1 e))]))
theorem of_ev (n : Nd) : Ev (fun k => impl_Node_of.f k n) (partsOf n) := by
  refine Ev.step (fun k => impl_Node_of.eq k n) (Ev.bind (operands_ev n.1) ?_)
  unfold partsOf
  rcases arity_cases n.1 with ⟨h, _⟩ | ⟨h, _⟩ | ⟨h, _⟩ | ⟨h, _⟩ <;> rw [h] <;> exact Ev.pos (by decide) (Ev.pos (by simp [maxI]) (Ev.ret (by simp [maxI])))
/-- may this node stand at place i -/
def nodeOk (n : Nd) (i : Int) : Bool :=
  if n.1 = tIn then decide (n.2.1 = 0) && decide (n.2.2.1 = 0) && inB n.2.2.2 0 1
  else if n.1 = tConst then decide (n.2.1 = 0) && decide (n.2.2.1 = 0) && inB n.2.2.2 0 63
  else if isOne n.1 = true then inB n.2.1 0 (i - 1) && decide (n.2.2.1 = 0) && decide (n.2.2.2 = 0)
  else isTwo n.1 && inB n.2.1 0 (i - 1) && inB n.2.2.1 0 (i - 1) && decide (n.2.2.2 = 0)
theorem exNode_ev (n : Nd) (i : Int) (h0 : 0 ≤ i) (h1 : i ≤ 9223372036854775807) : Ev (fun k => spec_exNode.f k n i) (nodeOk n i) := by
  refine Ev.step (fun k => spec_exNode.eq k n i) ?_
  unfold nodeOk
  rw [wrap_ok (by omega) (by omega)]
  simp only [l1In_f, exWord_f, exOne_f]
  by_cases c : n.1 = tIn
  · refine Ev.pos (seq_t c) ?_
    rw [if_pos c]
    by_cases a : n.2.1 = 0
    · by_cases b : n.2.2.1 = 0
      · exact Ev.pos (by simpa using a) (Ev.pos (by simpa using b) (Ev.here rfl (Ev.ret (by simp [a, b]))))
      · exact Ev.pos (by simpa using a) (Ev.neg (by simpa using b) (Ev.ret (by simp [b])))
    · exact Ev.neg (by simpa using a) (Ev.ret (by simp [a]))
  · refine Ev.neg (seq_f c) ?_
    rw [if_neg c]
    by_cases c2 : n.1 = tConst
    · refine Ev.pos (seq_t c2) ?_
      rw [if_pos c2]
      by_cases a : n.2.1 = 0
      · by_cases b : n.2.2.1 = 0
        · exact Ev.pos (by simpa using a) (Ev.pos (by simpa using b) (Ev.here rfl (Ev.ret (by simp [a, b]))))
        · exact Ev.pos (by simpa using a) (Ev.neg (by simpa using b) (Ev.ret (by simp [b])))
      · exact Ev.neg (by simpa using a) (Ev.ret (by simp [a]))
    · refine Ev.neg (seq_f c2) ?_
      rw [if_neg c2]
      refine Ev.here rfl ?_
      by_cases h : isOne n.1 = true
      · refine Ev.pos h (Ev.here rfl ?_)
        rw [if_pos h]
        cases hb : inB n.2.1 0 (i - 1)
        · exact Ev.neg rfl (Ev.ret (by simp))
        · by_cases b : n.2.2.1 = 0
          · exact Ev.pos rfl (Ev.pos (by simpa using b) (Ev.ret (by simp [b]; rfl)))
          · exact Ev.pos rfl (Ev.neg (by simpa using b) (Ev.ret (by simp [b])))
      · refine Ev.neg (by simpa using h) (Ev.bind (exTwo_ev n.1) ?_)
        rw [if_neg h]
        cases h2 : isTwo n.1
        · exact Ev.neg rfl (Ev.ret (by simp))
        · refine Ev.pos rfl (Ev.here rfl ?_)
          cases hb : inB n.2.1 0 (i - 1)
          · exact Ev.neg rfl (Ev.ret (by simp))
          · refine Ev.pos rfl (Ev.here rfl ?_)
            cases hb2 : inB n.2.2.1 0 (i - 1)
            · exact Ev.neg rfl (Ev.ret (by simp))
            · exact Ev.pos rfl (Ev.ret (by simp; rfl))
end Go.Proofs.Ytiofklineiioaaa.Am
end
section
/- Where a node may stand: the program's function; how often each node is an operand. -/
namespace Go.Proofs.Ytiofklineiioaaa.Am
open Go
set_option linter.unusedVariables false
set_option linter.unusedSimpArgs false

theorem isNode_ev (n : Nd) (i : Int) (h0 : 0 ≤ i) (h1 : i ≤ 9223372036854775807) : Ev (fun k => impl_Node_isNode.f k n i) (nodeOk n i) := by
  refine Ev.step (fun k => impl_Node_isNode.eq k n i) (Ev.bind (operands_ev n.1) ?_)
  -- behind both places
  have hend : ∀ m : Int, m = arity n.1 → Ev (fun k => impl_Node_isNode.l0 k i m 2 2 n.1 n.2.1 n.2.2.1 n.2.2.2 [n.2.1, n.2.2.1]) (if n.1 = tIn then inB n.2.2.2 0 1 else if n.1 = tConst then inB n.2.2.2 0 63 else decide (m > 0) && decide (n.2.2.2 = 0)) := by
    intro m hm
    refine Ev.step (fun k => impl_Node_isNode.l0_eq k _ _ _ _ _ _ _ _ _) (Ev.neg (by simp) ?_)
    by_cases c : n.1 = tIn
    · exact Ev.pos (seq_t c) (Ev.here (within_f _ _ _) (Ev.ret (by rw [if_pos c])))
    · refine Ev.neg (seq_f c) ?_
      rw [if_neg c]
      by_cases c2 : n.1 = tConst
      · exact Ev.pos (seq_t c2) (Ev.here (isWord_f _) (Ev.ret (by rw [if_pos c2])))
      · refine Ev.neg (seq_f c2) ?_
        rw [if_neg c2]
        by_cases p : m > 0
        · exact Ev.pos (by simpa using p) (Ev.ret (by simp [p]; rfl))
        · exact Ev.neg (by simpa using p) (Ev.ret (by simp [p]))
  -- one place
  have hone : ∀ (m : Int) (j : Nat) (x : Int) (R : Bool), j < 2 → [n.2.1, n.2.2.1][j]? = some x → Ev (fun k => impl_Node_isNode.l0 k i m 2 ((j + 1 : Nat) : Int) n.1 n.2.1 n.2.2.1 n.2.2.2 [n.2.1, n.2.2.1]) R →
      Ev (fun k => impl_Node_isNode.l0 k i m 2 (j : Int) n.1 n.2.1 n.2.2.1 n.2.2.2 [n.2.1, n.2.2.1]) ((if (j : Int) < m then inB x 0 (i - 1) else decide (x = 0)) && R) := by
    intro m j x R hj hx hR
    refine Ev.step (fun k => impl_Node_isNode.l0_eq k _ _ _ _ _ _ _ _ _) (Ev.pos (by simp; omega) (Ev.pos (by simp) (Ev.pos (by simp; omega) (Ev.at (b := x) (by rw [Int.toNat_natCast]; exact hx) ?_))))
    rw [wrap_ok (x := i - 1) (by omega) (by omega), next_ok j 2 hj (by omega)]
    by_cases hm : (j : Int) < m
    · refine Ev.pos (by simpa using hm) (Ev.here (within_f _ _ _) ?_)
      rw [if_pos hm]
      cases hb : inB x 0 (i - 1) with
      | true => exact Ev.neg rfl (Ev.neg (by simp; omega) (by simpa using hR))
      | false => exact Ev.pos rfl (Ev.ret (by simp))
    · refine Ev.neg (by simpa using hm) (Ev.pos (by simp; omega) ?_)
      rw [if_neg hm]
      by_cases h0 : x = 0
      · exact Ev.neg (by simp [h0]) (by simpa [h0] using hR)
      · exact Ev.pos (by simpa using h0) (Ev.ret (by simp [h0]))
  have h1' := hone (arity n.1) 1 n.2.2.1 _ (by omega) rfl (hend (arity n.1) rfl)
  have h0' := hone (arity n.1) 0 n.2.1 _ (by omega) rfl h1'
  refine Ev.eq h0' ?_
  unfold nodeOk
  by_cases c : n.1 = tIn
  · have ha : arity n.1 = 0 := by unfold arity; rw [if_pos c]
    rw [ha, if_pos c, if_pos c]
    simp [Bool.and_assoc]
  · rw [if_neg c, if_neg c]
    by_cases c2 : n.1 = tConst
    · have ha : arity n.1 = 0 := by unfold arity; rw [if_neg c, if_pos c2]
      rw [ha, if_pos c2, if_pos c2]
      simp [Bool.and_assoc]
    · rw [if_neg c2, if_neg c2]
      rcases arity_cases n.1 with ⟨ha, h1, h2⟩ | ⟨ha, h1, h2⟩ | ⟨ha, h1, h2⟩ | ⟨ha, h1, h2⟩ <;> rw [ha, h1, h2] <;> simp [Bool.and_assoc]

/-! ### how often each node is an operand -/
def bumpU (u : List Int) (p : Int) : List Int := u.set p.toNat (IntKind.wrap .i64 (u.getD p.toNat 0 + 1))
def bumps (u : List Int) (n : Nd) : List Int := (partsOf n).foldl bumpU u
def usesOf (e : List Nd) : List Int := e.foldl bumps (List.replicate e.length 0)
theorem bump_len (u : List Int) (p : Int) : (bumpU u p).length = u.length := by simp [bumpU]
theorem fold_bump_len (l : List Int) (u : List Int) : (l.foldl bumpU u).length = u.length := by
  induction l generalizing u with
  | nil => rfl
  | cons p l ih => rw [List.foldl_cons, ih, bump_len]
theorem bumps_len (u : List Int) (n : Nd) : (bumps u n).length = u.length := fold_bump_len _ _
theorem fold_bumps_len (l : List Nd) (u : List Int) : (l.foldl bumps u).length = u.length := by
  induction l generalizing u with
  | nil => rfl
  | cons p l ih => rw [List.foldl_cons, ih, bumps_len]
theorem usesOf_len (e : List Nd) : (usesOf e).length = e.length := by unfold usesOf; rw [fold_bumps_len, List.length_replicate]
/-- all operands lie below this bound -/
def PartsIn (e : List Nd) (m : Nat) : Prop := ∀ n ∈ e, ∀ p ∈ partsOf n, 0 ≤ p ∧ p < m
theorem take_fold {α β : Type} (f : β → α → β) (l : List α) (b : β) (i : Nat) (h : i < l.length) : (l.take (i + 1)).foldl f b = f ((l.take i).foldl f b) l[i] := by
  rw [List.take_succ_eq_append_getElem h, List.foldl_append]; rfl
theorem bump_at {u : List Int} {p : Int} (h0 : 0 ≤ p) (h : p < u.length) : u[p.toNat]? = some (u.getD p.toNat 0) := by
  have hp : p.toNat < u.length := by omega
  rw [List.getElem?_eq_getElem hp, List.getD_eq_getElem?_getD, List.getElem?_eq_getElem hp]; rfl
theorem exUses_ev (e : List Nd) (hl : e.length ≤ 1048576) (hp : PartsIn e e.length) : Ev (fun k => spec_exUses.f k e) (usesOf e) := by
  refine Ev.step (fun k => spec_exUses.eq k e) (Ev.pos (by simp) (Ev.pos (by simp; omega) ?_))
  rw [Int.toNat_natCast]
  have key := Ev.loop e.length (fun k i => spec_exUses.l0 k e (e.length : Int) (i : Int) ((e.take i).foldl bumps (List.replicate e.length 0))) (fun _ => usesOf e) ?_ ?_ 0 (by omega)
  · simpa using key
  · exact Ev.step (fun k => spec_exUses.l0_eq k _ _ _ _) (Ev.neg (by simp) (Ev.ret (by rw [List.take_of_length_le (Nat.le_refl _)]; rfl)))
  · intro i hi ih
    refine Ev.step (fun k => spec_exUses.l0_eq k _ _ _ _) (Ev.pos (by simpa using hi) (Ev.pos (by simp) (Ev.get hi (Ev.bind (exParts_ev e[i]) ?_))))
    have hps : ∀ p ∈ partsOf e[i], 0 ≤ p ∧ p < e.length := hp _ (List.getElem_mem hi)
    have inner := Ev.loop (partsOf e[i]).length (fun k j => spec_exUses.l1 k e (e.length : Int) (i : Int) (partsOf e[i]) ((partsOf e[i]).length : Int) (j : Int) (((partsOf e[i]).take j).foldl bumpU ((e.take i).foldl bumps (List.replicate e.length 0)))) (fun _ => usesOf e) ?_ ?_ 0 (by omega)
    · simpa using inner
    · refine Ev.step (fun k => spec_exUses.l1_eq k _ _ _ _ _ _ _) (Ev.neg (by simp) ?_)
      rw [List.take_of_length_le (Nat.le_refl _), next_ok i _ hi (by omega)]
      rw [take_fold bumps e _ i hi] at ih
      exact ih
    · intro j hj ihj
      have hpj := hps _ (List.getElem_mem hj)
      have h2 := parts_le e[i]
      have hlen : (((partsOf e[i]).take j).foldl bumpU ((e.take i).foldl bumps (List.replicate e.length 0))).length = e.length := by rw [fold_bump_len, fold_bumps_len, List.length_replicate]
      refine Ev.step (fun k => spec_exUses.l1_eq k _ _ _ _ _ _ _) (Ev.pos (by simpa using hj) (Ev.pos (by simp) (Ev.get hj (Ev.pos (by simpa using hpj.1) (Ev.pos (by rw [hlen]; simpa using hpj.2) (Ev.at (bump_at hpj.1 (by rw [hlen]; exact hpj.2)) (Ev.pos (by simpa using hpj.1) (Ev.pos (by rw [hlen]; simpa using hpj.2) (Ev.at (bump_at hpj.1 (by rw [hlen]; exact hpj.2)) ?_)))))))))
      rw [take_fold bumpU (partsOf e[i]) _ j hj] at ihj
      rw [next_ok j _ hj (by omega)]
      exact ihj
theorem uses_ev (e : List Nd) (hl : e.length ≤ 1048576) (hp : PartsIn e e.length) : Ev (fun k => impl_uses.f k e) (usesOf e) := by
  refine Ev.step (fun k => impl_uses.eq k e) (Ev.pos (by simp) (Ev.pos (by simp; omega) ?_))
  rw [Int.toNat_natCast]
  have key := Ev.loop e.length (fun k i => impl_uses.l0 k e (e.length : Int) (i : Int) ((e.take i).foldl bumps (List.replicate e.length 0))) (fun _ => usesOf e) ?_ ?_ 0 (by omega)
  · simpa using key
  · exact Ev.step (fun k => impl_uses.l0_eq k _ _ _ _) (Ev.neg (by simp) (Ev.ret (by rw [List.take_of_length_le (Nat.le_refl _)]; rfl)))
  · intro i hi ih
    refine Ev.step (fun k => impl_uses.l0_eq k _ _ _ _) (Ev.pos (by simpa using hi) (Ev.pos (by simp) (Ev.get hi (Ev.bind (of_ev e[i]) ?_))))
    have hps : ∀ p ∈ partsOf e[i], 0 ≤ p ∧ p < e.length := hp _ (List.getElem_mem hi)
    have inner := Ev.loop (partsOf e[i]).length (fun k j => impl_uses.l1 k e (e.length : Int) (i : Int) (partsOf e[i]) ((partsOf e[i]).length : Int) (j : Int) (((partsOf e[i]).take j).foldl bumpU ((e.take i).foldl bumps (List.replicate e.length 0)))) (fun _ => usesOf e) ?_ ?_ 0 (by omega)
    · simpa using inner
    · refine Ev.step (fun k => impl_uses.l1_eq k _ _ _ _ _ _ _) (Ev.neg (by simp) ?_)
      rw [List.take_of_length_le (Nat.le_refl _), next_ok i _ hi (by omega)]
      rw [take_fold bumps e _ i hi] at ih
      exact ih
    · intro j hj ihj
      have hpj := hps _ (List.getElem_mem hj)
      have h2 := parts_le e[i]
      have hlen : (((partsOf e[i]).take j).foldl bumpU ((e.take i).foldl bumps (List.replicate e.length 0))).length = e.length := by rw [fold_bump_len, fold_bumps_len, List.length_replicate]
      refine Ev.step (fun k => impl_uses.l1_eq k _ _ _ _ _ _ _) (Ev.pos (by simpa using hj) (Ev.pos (by simp) (Ev.get hj (Ev.pos (by simpa using hpj.1) (Ev.pos (by rw [hlen]; simpa using hpj.2) (Ev.at (bump_at hpj.1 (by rw [hlen]; exact hpj.2)) (Ev.pos (by simpa using hpj.1) (Ev.pos (by rw [hlen]; simpa using hpj.2) (Ev.at (bump_at hpj.1 (by rw [hlen]; exact hpj.2)) ?_)))))))))
      rw [take_fold bumpU (partsOf e[i]) _ j hj] at ihj
      rw [next_ok j _ hj (by omega)]
      exact ihj
end Go.Proofs.Ytiofklineiioaaa.Am
end
section
/- When a list of nodes is an expression, and a tree. -/
namespace Go.Proofs.Ytiofklineiioaaa.Am
open Go
set_option linter.unusedVariables false
set_option linter.unusedSimpArgs false

/-- all nodes from place i on may stand where they stand -/
def nodesOk : List Nd → Nat → Bool
  | [], _ => true
  | n :: r, i => nodeOk n i && nodesOk r (i + 1)
theorem nodesOk_at {e : List Nd} {i : Nat} (h : i < e.length) : nodesOk (e.drop i) i = (nodeOk e[i] i && nodesOk (e.drop (i + 1)) (i + 1)) := by
  rw [drop_at e i h]; rfl
theorem inB_iff {n lo hi : Int} : inB n lo hi = true ↔ lo ≤ n ∧ n ≤ hi := by unfold inB; simp
theorem nodeOk_parts {n : Nd} {i : Nat} (h : nodeOk n i = true) : ∀ p ∈ partsOf n, 0 ≤ p ∧ p < i := by
  intro p hp
  unfold partsOf at hp
  unfold nodeOk at h
  rcases arity_cases n.1 with ⟨ha, h1, h2⟩ | ⟨ha, h1, h2⟩ | ⟨ha, h1, h2⟩ | ⟨ha, h1, h2⟩
  · rw [ha] at hp; simp at hp
  · rw [ha] at hp; simp at hp
  · have n1 : n.1 ≠ tIn := fun e => by rw [e] at h1; revert h1; decide
    have n2 : n.1 ≠ tConst := fun e => by rw [e] at h1; revert h1; decide
    rw [if_neg n1, if_neg n2, if_pos h1] at h
    rw [ha] at hp
    simp only [Bool.and_eq_true, inB_iff] at h
    simp at hp
    omega
  · obtain ⟨n1, n2, _⟩ := isTwo_not h2
    rw [if_neg n1, if_neg n2, if_neg (by simp [h1])] at h
    rw [ha] at hp
    simp only [Bool.and_eq_true, inB_iff] at h
    simp at hp
    omega
theorem nodesOk_get : ∀ (e : List Nd) (i : Nat), nodesOk e i = true → ∀ (j : Nat) (h : j < e.length), nodeOk e[j] ((i + j : Nat) : Int) = true
  | [], i, _, j, h => by simp at h
  | n :: r, i, hn, j, h => by
    simp only [nodesOk, Bool.and_eq_true] at hn
    cases j with
    | zero => simpa using hn.1
    | succ j =>
      have := nodesOk_get r (i + 1) hn.2 j (by simpa using h)
      rw [show i + (j + 1) = i + 1 + j by omega]
      simpa using this
theorem nodesOk_parts {e : List Nd} (h : nodesOk e 0 = true) : PartsIn e e.length := fun n hn p hp => by
  obtain ⟨j, hj, e1⟩ := List.getElem_of_mem hn
  have := nodesOk_get e 0 h j hj
  rw [e1] at this
  have := nodeOk_parts (i := 0 + j) this p hp
  omega
/-- is each node but the last one an operand -/
def allUsed (e : List Nd) : Bool := !decide ((0 : Int) ∈ (usesOf e).take (e.length - 1))
def exprOk (e : List Nd) : Bool := inB e.length 1 24 && (nodesOk e 0 && allUsed e)
theorem noneOf {α : Type} {e : List Nd} {g : Nat → Nat → Option Bool} (hl : e.length ≤ 1048576) (hbad : ∀ i (h : i < e.length), nodeOk e[i] i = false → Ev (fun k => g k i) false) (hgo : ∀ i (h : i < e.length), nodeOk e[i] i = true → Ev (fun k => g k (i + 1)) false → Ev (fun k => g k i) false) : ∀ (d i : Nat), i + d = e.length → nodesOk (e.drop i) i = false → Ev (fun k => g k i) false := by
  intro d
  induction d with
  | zero =>
    intro i hi h
    rw [List.drop_eq_nil_of_le (by omega)] at h
    cases h
  | succ d ih =>
    intro i hi h
    have hlt : i < e.length := by omega
    rw [nodesOk_at hlt] at h
    cases hn : nodeOk e[i] i with
    | false => exact hbad i hlt hn
    | true =>
      rw [hn, Bool.true_and] at h
      exact hgo i hlt hn (ih (i + 1) (by omega) h)
theorem exGood_ev (e : List Nd) (hl : e.length ≤ 1048576) : Ev (fun k => spec_exGood.f k e) (exprOk e) := by
  refine Ev.step (fun k => spec_exGood.eq k e) (Ev.here (l1In_f _ _ _) ?_)
  unfold exprOk
  cases hb : inB (e.length : Int) 1 24 with
  | false => exact Ev.pos rfl (Ev.ret (by simp))
  | true =>
    refine Ev.neg rfl ?_
    have hlen := inB_iff.1 hb
    rw [Bool.true_and]
    cases hn : nodesOk e 0 with
    | true =>
      have key := Ev.loop e.length (fun k i => spec_exGood.l0 k e e (e.length : Int) (i : Int)) (fun _ => allUsed e) ?_ ?_ 0 (by omega)
      · simpa using key
      · have hw : IntKind.wrap .i64 ((e.length : Int) - 1) = ((e.length - 1 : Nat) : Int) := by rw [wrap_ok (by omega) (by omega)]; omega
        refine Ev.step (fun k => spec_exGood.l0_eq k _ _ _ _) (Ev.neg (by simp) (Ev.bind (exUses_ev e hl (nodesOk_parts hn)) ?_))
        rw [hw, usesOf_len]
        refine Ev.pos (by simp) (Ev.pos (by simp) (Ev.bind (l1Has_ev _ _ (by rw [List.length_drop, List.length_take, usesOf_len]; omega)) (Ev.ret ?_)))
        simp [allUsed]
      · intro i hi ih
        have := nodesOk_get e 0 hn i hi
        rw [Nat.zero_add] at this
        refine Ev.step (fun k => spec_exGood.l0_eq k _ _ _ _) (Ev.pos (by simpa using hi) (Ev.pos (by simp) (Ev.get hi (Ev.bind (exNode_ev e[i] i (by omega) (by omega)) (Ev.neg (by rw [this]; rfl) ?_)))))
        rw [next_ok i _ hi (by omega)]
        exact ih
    | false =>
      refine noneOf (α := Nat) (e := e) (g := fun k i => spec_exGood.l0 k e e (e.length : Int) (i : Int)) hl (fun i hi hf => ?_) (fun i hi hf ih => ?_) e.length 0 (by omega) hn
      · exact Ev.step (fun k => spec_exGood.l0_eq k _ _ _ _) (Ev.pos (by simpa using hi) (Ev.pos (by simp) (Ev.get hi (Ev.bind (exNode_ev e[i] i (by omega) (by omega)) (Ev.pos (by rw [hf]; rfl) (Ev.now _))))))
      · refine Ev.step (fun k => spec_exGood.l0_eq k _ _ _ _) (Ev.pos (by simpa using hi) (Ev.pos (by simp) (Ev.get hi (Ev.bind (exNode_ev e[i] i (by omega) (by omega)) (Ev.neg (by rw [hf]; rfl) ?_)))))
        rw [next_ok i _ hi (by omega)]
        exact ih
theorem isExpr_ev (e : List Nd) (hl : e.length ≤ 1048576) : Ev (fun k => impl_IsExpr.f k e) (exprOk e) := by
  refine Ev.step (fun k => impl_IsExpr.eq k e) (Ev.here (within_f _ _ _) ?_)
  unfold exprOk
  cases hb : inB (e.length : Int) 1 24 with
  | false => exact Ev.pos rfl (Ev.ret (by simp))
  | true =>
    refine Ev.neg rfl ?_
    have hlen := inB_iff.1 hb
    rw [Bool.true_and]
    cases hn : nodesOk e 0 with
    | true =>
      have key := Ev.loop e.length (fun k i => impl_IsExpr.l0 k e e (e.length : Int) (i : Int)) (fun _ => allUsed e) ?_ ?_ 0 (by omega)
      · simpa using key
      · have hw : IntKind.wrap .i64 ((e.length : Int) - 1) = ((e.length - 1 : Nat) : Int) := by rw [wrap_ok (by omega) (by omega)]; omega
        refine Ev.step (fun k => impl_IsExpr.l0_eq k _ _ _ _) (Ev.neg (by simp) (Ev.bind (uses_ev e hl (nodesOk_parts hn)) ?_))
        rw [hw, usesOf_len]
        refine Ev.pos (by simp) (Ev.pos (by simp) (Ev.bind (containsI_ev _ _ (by rw [List.length_drop, List.length_take, usesOf_len]; omega)) (Ev.ret ?_)))
        simp [allUsed]
      · intro i hi ih
        have := nodesOk_get e 0 hn i hi
        rw [Nat.zero_add] at this
        refine Ev.step (fun k => impl_IsExpr.l0_eq k _ _ _ _) (Ev.pos (by simpa using hi) (Ev.pos (by simp) (Ev.get hi (Ev.bind (isNode_ev e[i] i (by omega) (by omega)) (Ev.neg (by rw [this]; rfl) ?_)))))
        rw [next_ok i _ hi (by omega)]
        exact ih
    | false =>
      refine noneOf (α := Nat) (e := e) (g := fun k i => impl_IsExpr.l0 k e e (e.length : Int) (i : Int)) hl (fun i hi hf => ?_) (fun i hi hf ih => ?_) e.length 0 (by omega) hn
      · exact Ev.step (fun k => impl_IsExpr.l0_eq k _ _ _ _) (Ev.pos (by simpa using hi) (Ev.pos (by simp) (Ev.get hi (Ev.bind (isNode_ev e[i] i (by omega) (by omega)) (Ev.pos (by rw [hf]; rfl) (Ev.now _))))))
      · refine Ev.step (fun k => impl_IsExpr.l0_eq k _ _ _ _) (Ev.pos (by simpa using hi) (Ev.pos (by simp) (Ev.get hi (Ev.bind (isNode_ev e[i] i (by omega) (by omega)) (Ev.neg (by rw [hf]; rfl) ?_)))))
        rw [next_ok i _ hi (by omega)]
        exact ih
end Go.Proofs.Ytiofklineiioaaa.Am
end
section
/- When an expression is a tree: the program's function and the reference's. -/
namespace Go.Proofs.Ytiofklineiioaaa.Am
open Go
set_option linter.unusedVariables false
set_option linter.unusedSimpArgs false

def Bnd (u : List Int) (m : Nat) : Prop := ∀ x ∈ u, 0 ≤ x ∧ x ≤ m
theorem bump_bnd {u : List Int} {m : Nat} (h : Bnd u m) (hm : m ≤ 1000000000) (p : Int) : Bnd (bumpU u p) (m + 1) := by
  intro x hx
  unfold bumpU at hx
  rcases List.mem_or_eq_of_mem_set hx with hx | hx
  · have := h x hx; omega
  · have hd : 0 ≤ u.getD p.toNat 0 ∧ u.getD p.toNat 0 ≤ m := by
      rw [List.getD_eq_getElem?_getD]
      cases hq : u[p.toNat]? with
      | none => simp
      | some y => exact h y (List.mem_of_getElem? hq)
    rw [hx, wrap_ok (by omega) (by omega)]
    omega
theorem fold_bnd : ∀ (l : List Int) (u : List Int) (m : Nat), Bnd u m → m + l.length ≤ 1000000000 → Bnd (l.foldl bumpU u) (m + l.length)
  | [], u, m, h, _ => h
  | p :: l, u, m, h, hm => by
    simp only [List.length_cons] at hm
    rw [List.foldl_cons, List.length_cons, show m + (l.length + 1) = (m + 1) + l.length by omega]
    exact fold_bnd l _ (m + 1) (bump_bnd h (by omega) p) (by omega)
theorem Bnd.mono {u : List Int} {m k : Nat} (h : Bnd u m) (hk : m ≤ k) : Bnd u k := fun x hx => by have := h x hx; omega
theorem folds_bnd : ∀ (l : List Nd) (u : List Int) (m : Nat), Bnd u m → m + 2 * l.length ≤ 1000000000 → Bnd (l.foldl bumps u) (m + 2 * l.length)
  | [], u, m, h, _ => h
  | n :: l, u, m, h, hm => by
    simp only [List.length_cons] at hm
    have hp := parts_le n
    rw [List.foldl_cons, List.length_cons, show m + 2 * (l.length + 1) = (m + 2) + 2 * l.length by omega]
    exact folds_bnd l _ (m + 2) ((fold_bnd (partsOf n) u m h (by omega)).mono (by omega)) (by omega)
theorem uses_bnd (e : List Nd) (hl : e.length ≤ 1048576) : Bnd (usesOf e) (2 * e.length) := by
  have := folds_bnd e (List.replicate e.length 0) 0 (fun x hx => by have := List.eq_of_mem_replicate hx; omega) (by omega)
  simpa [usesOf] using this
/-- is each node at most once an operand -/
def once (e : List Nd) : Bool := (usesOf e).all fun x => decide (x ≤ 1)
theorem l1All_ev (l : List Int) (hl : l.length ≤ 9223372036854775000) (hb : ∀ x ∈ l, 0 ≤ x) : Ev (fun k => spec_l1All.f k l 0 1) (l.all fun x => decide (x ≤ 1)) := by
  refine Ev.step (fun k => spec_l1All.eq k l 0 1) ?_
  have key := Ev.loop l.length (fun k i => spec_l1All.l0 k 0 1 l (l.length : Int) (i : Int)) (fun i => (l.drop i).all fun x => decide (x ≤ 1)) ?_ ?_ 0 (by omega)
  · exact key
  · exact Ev.step (fun k => spec_l1All.l0_eq k _ _ _ _ _) (Ev.neg (by simp) (Ev.ret (by simp)))
  · intro i hi ih
    refine Ev.step (fun k => spec_l1All.l0_eq k _ _ _ _ _) (Ev.pos (by simpa using hi) (Ev.pos (by simp) (Ev.get hi (Ev.here (l1In_f _ _ _) ?_))))
    have h0 := hb _ (List.getElem_mem hi)
    rw [next_ok i _ hi hl]
    rw [drop_at _ _ hi, List.all_cons]
    by_cases c : l[i] ≤ 1
    · exact Ev.neg (by rw [inB_iff.2 ⟨h0, c⟩]; rfl) (Ev.eq ih (by simp [c]))
    · have : inB l[i] 0 1 = false := by
        cases hq : inB l[i] 0 1 with
        | false => rfl
        | true => exact absurd (inB_iff.1 hq).2 c
      exact Ev.pos (by rw [this]; rfl) (Ev.ret (by simp [c]))
theorem many_ev (l : List Int) (hl : l.length ≤ 9223372036854775000) : Ev (fun k => slices_ContainsFunc_int_isTree.f k l) (!(l.all fun x => decide (x ≤ 1))) := by
  have key : ∀ (d : Nat) (i : Nat), i + d = l.length → ∃ r : Int, Ev (fun k => slices_IndexFunc_int_isTree.l0 k l (l.length : Int) (i : Int)) r ∧ (0 ≤ r ↔ ((l.drop i).all fun x => decide (x ≤ 1)) = false) := by
    intro d
    induction d with
    | zero =>
      intro i h
      refine ⟨-1, Ev.step (fun k => slices_IndexFunc_int_isTree.l0_eq k _ _ _) (Ev.neg (by simp; omega) (Ev.now _)), ?_⟩
      rw [List.drop_eq_nil_of_le (by omega)]; simp
    | succ d ih =>
      intro i h
      have hi : i < l.length := by omega
      by_cases c : l[i] > 1
      · refine ⟨i, Ev.step (fun k => slices_IndexFunc_int_isTree.l0_eq k _ _ _) (Ev.pos (by simpa using hi) (Ev.pos (by simp) (Ev.get hi (Ev.here (impl_isTree_1.eq _) (Ev.pos (by simpa using c) (Ev.now _)))))), ?_⟩
        have c' : ¬ l[i] ≤ 1 := by omega
        rw [drop_at _ _ hi, List.all_cons]; simp [c']
      · obtain ⟨r, hev, hiff⟩ := ih (i + 1) (by omega)
        refine ⟨r, Ev.step (fun k => slices_IndexFunc_int_isTree.l0_eq k _ _ _) (Ev.pos (by simpa using hi) (Ev.pos (by simp) (Ev.get hi (Ev.here (impl_isTree_1.eq _) (Ev.neg (by simpa using c) (by rw [next_ok i _ hi hl]; exact hev)))))), ?_⟩
        have c' : l[i] ≤ 1 := by omega
        rw [hiff, drop_at _ _ hi, List.all_cons]; simp [c']
  obtain ⟨r, hev, hiff⟩ := key l.length 0 (by omega)
  refine Ev.step (fun k => slices_ContainsFunc_int_isTree.eq k l) (Ev.bind (b := r) (Ev.step (fun k => slices_IndexFunc_int_isTree.eq k l) hev) (Ev.ret ?_))
  rw [List.drop_zero] at hiff
  cases hq : l.all fun x => decide (x ≤ 1) with
  | true => rw [hq] at hiff; have : ¬ 0 ≤ r := fun h => by have := hiff.1 h; cases this
            simp [this]
  | false => rw [hq] at hiff; have : 0 ≤ r := hiff.2 rfl
             simp [this]
theorem exTree_ev (e : List Nd) (hl : e.length ≤ 1048576) (hg : exprOk e = true) : Ev (fun k => spec_exTree.f k e) (once e) := by
  unfold exprOk at hg
  simp only [Bool.and_eq_true] at hg
  exact Ev.step (fun k => spec_exTree.eq k e) (Ev.bind (exUses_ev e hl (nodesOk_parts hg.2.1)) (Ev.bind (l1All_ev _ (by rw [usesOf_len]; omega) fun x hx => (uses_bnd e hl x hx).1) (Ev.now _)))
theorem isTree_ev (e : List Nd) (hl : e.length ≤ 1048576) : Ev (fun k => impl_isTree.f k e) (exprOk e && once e) := by
  refine Ev.step (fun k => impl_isTree.eq k e) (Ev.bind (isExpr_ev e hl) ?_)
  cases hg : exprOk e with
  | false => exact Ev.neg rfl (Ev.ret (by simp))
  | true =>
    have hg' := hg
    unfold exprOk at hg'
    simp only [Bool.and_eq_true] at hg'
    exact Ev.pos rfl (Ev.bind (uses_ev e hl (nodesOk_parts hg'.2.1)) (Ev.bind (many_ev _ (by rw [usesOf_len]; omega)) (Ev.ret (by simp [once]))))
theorem exprOk_parts {e : List Nd} (h : exprOk e = true) : nodesOk e 0 = true ∧ 1 ≤ e.length ∧ e.length ≤ 24 := by
  unfold exprOk at h
  simp only [Bool.and_eq_true, inB_iff] at h
  exact ⟨h.2.1, by omega, by omega⟩
end Go.Proofs.Ytiofklineiioaaa.Am
end
section
/- Trees that may be asked for. -/
namespace Go.Proofs.Ytiofklineiioaaa.Am
open Go
set_option linter.unusedVariables false
set_option linter.unusedSimpArgs false

theorem hole_val {n : Nd} {i : Int} (h : nodeOk n i = true) (c : n.1 = tIn) : ∃ v : Nat, v < 2 ∧ n.2.2.2 = (v : Int) := by
  unfold nodeOk at h
  rw [if_pos c] at h
  simp only [Bool.and_eq_true, inB_iff] at h
  exact ⟨n.2.2.2.toNat, by omega, by omega⟩
theorem last_w {n : Nat} (h0 : 1 ≤ n) (h1 : n ≤ 1048576) : IntKind.wrap .i64 ((n : Int) - 1) = ((n - 1 : Nat) : Int) := by
  rw [wrap_ok (by omega) (by omega)]; omega
/-- a tree that may be asked for -/
def treeOk (e : List Nd) : Bool := exprOk e && once e
theorem treeOk_parts {e : List Nd} (h : treeOk e = true) : nodesOk e 0 = true ∧ 1 ≤ e.length ∧ e.length ≤ 24 ∧ once e = true := by
  unfold treeOk at h
  rw [Bool.and_eq_true] at h
  obtain ⟨h1, h2, h3⟩ := exprOk_parts h.1
  exact ⟨h1, h2, h3, h.2⟩
theorem isTree_v (e : List Nd) (hl : e.length ≤ 1048576) : impl_isTree.v e = some (treeOk e) := ev_lim (isTree_ev e hl)
theorem exGood_v (e : List Nd) (hl : e.length ≤ 1048576) : spec_exGood.v e = some (exprOk e) := ev_lim (exGood_ev e hl)
theorem isExpr_v (e : List Nd) (hl : e.length ≤ 1048576) : impl_IsExpr.v e = some (exprOk e) := ev_lim (isExpr_ev e hl)
theorem exTree_v (e : List Nd) (hl : e.length ≤ 1048576) (hg : exprOk e = true) : spec_exTree.v e = some (once e) := ev_lim (exTree_ev e hl hg)
end Go.Proofs.Ytiofklineiioaaa.Am
end
section
/- Rows of at most two numbers, sorted, turned round; a number put into a row; powers of two. -/
namespace Go.Proofs.Ytiofklineiioaaa.Am
open Go
set_option linter.unusedVariables false
set_option linter.unusedSimpArgs false

theorem less_f (a b : Int) : cmp_Less_int.f a b = some (decide (a < b)) := by rw [cmp_Less_int.eq, cmp_isNaN_int.eq]; simp
theorem w01 : IntKind.wrap .i64 ((0 : Int) + 1) = 1 := rfl
theorem w11 : IntKind.wrap .i64 ((1 : Int) + 1) = 2 := rfl
theorem w1 : IntKind.wrap .i64 (1 : Int) = 1 := rfl
theorem w0 : IntKind.wrap .i64 (0 : Int) = 0 := rfl
theorem w2 : IntKind.wrap .i64 (2 : Int) = 2 := rfl
theorem w10 : IntKind.wrap .i64 ((1 : Int) - 1) = 0 := rfl
theorem ins_zero (l : List Int) : slices_insertionSortOrdered_int.v 0 0 l = some ((), l) := slices_insertionSortOrdered_int.vs _ _ _ (slices_insertionSortOrdered_int.v0s _ _ _ _ (by rw [w01]; rfl))
theorem ins_one (l : List Int) : slices_insertionSortOrdered_int.v 0 1 l = some ((), l) := slices_insertionSortOrdered_int.vs _ _ _ (slices_insertionSortOrdered_int.v0s _ _ _ _ (by rw [w01]; rfl))
def sort2 (a b : Int) : List Int := if b < a then [b, a] else [a, b]
theorem ins_two (a b : Int) : slices_insertionSortOrdered_int.v 0 2 [a, b] = some ((), sort2 a b) := by
  have e2 : ∀ l, slices_insertionSortOrdered_int.v0 0 2 2 l = some ((), l) := fun l => slices_insertionSortOrdered_int.v0s _ _ _ _ rfl
  have e0 : ∀ l, slices_insertionSortOrdered_int.v1 0 2 1 0 l = some ((), l) := fun l => slices_insertionSortOrdered_int.v1s _ _ _ _ _ (by rw [w11, e2]; rfl)
  refine slices_insertionSortOrdered_int.vs _ _ _ (slices_insertionSortOrdered_int.v0s _ _ _ _ ?_)
  rw [w01, br_t (by decide)]
  refine slices_insertionSortOrdered_int.v1s _ _ _ _ _ ?_
  unfold sort2
  by_cases c : b < a
  · simp [w10, w11, w1, w0, less_f, c, e0]
  · simp [w10, w11, w1, w0, w2, less_f, c, e2]
theorem pdq (n : Int) (h0 : 0 ≤ n) (h : n ≤ 12) (k : Int) (l : List Int) {r : Unit × List Int} (hi : slices_insertionSortOrdered_int.v 0 n l = some r) : slices_pdqsortOrdered_int.v 0 n k l = some ((), r.2) := by
  refine slices_pdqsortOrdered_int.vs _ _ _ _ (slices_pdqsortOrdered_int.v0s _ _ _ _ _ _ ?_)
  rw [wrap_ok (by omega) (by omega), br_t (decide_eq_true (by omega)), hi, bd_s]
theorem len0 : bits_Len.f (IntKind.wrap .u64 0) = some 0 := by kernel_rfl
theorem len1 : bits_Len.f (IntKind.wrap .u64 1) = some 1 := by kernel_rfl
theorem len2 : bits_Len.f (IntKind.wrap .u64 2) = some 2 := by kernel_rfl
theorem sort_nil : slices_Sort_int.v [] = some ((), []) := by
  refine slices_Sort_int.vs _ ?_
  rw [show ((([] : List Int).length : Nat) : Int) = 0 from rfl, len0, bd_s, pdq 0 (by omega) (by omega) _ _ (ins_zero []), bd_s]
theorem sort_one (a : Int) : slices_Sort_int.v [a] = some ((), [a]) := by
  refine slices_Sort_int.vs _ ?_
  rw [show ((([a] : List Int).length : Nat) : Int) = 1 from rfl, len1, bd_s, pdq 1 (by omega) (by omega) _ _ (ins_one [a]), bd_s]
theorem sort_two (a b : Int) : slices_Sort_int.v [a, b] = some ((), sort2 a b) := by
  refine slices_Sort_int.vs _ ?_
  rw [show ((([a, b] : List Int).length : Nat) : Int) = 2 from rfl, len2, bd_s, pdq 2 (by omega) (by omega) _ _ (ins_two a b), bd_s]
theorem put_two {b d : Int} (h : b < d) : spec_l1Put.v [d] b = some [b, d] := by
  have h1 : ¬ d < b := by omega
  have h2 : ¬ d = b := by omega
  exact spec_l1Put.vs _ _ (spec_l1Put.v0s _ _ _ (by simp [h1, h2]))
/-- whose power of 2 a word is -/
def powP (x : Int) : Int := if x = 2 then 1 else if x = 4 then 2 else if x = 8 then 3 else if x = 16 then 4 else if x = 32 then 5 else 0
theorem power_v (x : Int) : impl_power.v x = some (powP x) := by
  have e6 : impl_power.v0 x 6 = some 0 := impl_power.v0s _ _ rfl
  have st : ∀ (k y : Int) (r : Int), 0 ≤ k → k < 6 → IntKind.wrap .i64 ((1 : Int) * ((2 : Int) ^ (Min.min (Int.toNat k) 64))) = y → (if x = y then some k else impl_power.v0 x (k + 1)) = some r → impl_power.v0 x k = some r := fun k y r h0 h6 hy h => by
    refine impl_power.v0s _ _ ?_
    rw [br_t (decide_eq_true h6), br_t (decide_eq_true h0), hy, wrap_ok (by omega) (by omega), br_if]
    simpa using h
  refine impl_power.vs _ ?_
  unfold powP
  refine st 1 2 _ (by omega) (by omega) rfl ?_
  split
  · rfl
  refine st 2 4 _ (by omega) (by omega) rfl ?_
  split
  · rfl
  refine st 3 8 _ (by omega) (by omega) rfl ?_
  split
  · rfl
  refine st 4 16 _ (by omega) (by omega) rfl ?_
  split
  · rfl
  refine st 5 32 _ (by omega) (by omega) rfl ?_
  split
  · rfl
  exact e6
end Go.Proofs.Ytiofklineiioaaa.Am
end
section
/- The forms of ops and their costs: the program's and the reference's. -/
namespace Go.Proofs.Ytiofklineiioaaa.Am
open Go
set_option linter.unusedVariables false
set_option linter.unusedSimpArgs false

abbrev tSet : ByteArray := ⟨#[115, 101, 116]⟩
abbrev tMov : ByteArray := ⟨#[109, 111, 118]⟩
abbrev tMul : ByteArray := ⟨#[109, 117, 108]⟩
abbrev tShl : ByteArray := ⟨#[115, 104, 108]⟩
abbrev tShr : ByteArray := ⟨#[115, 104, 114]⟩
abbrev tAddi : ByteArray := ⟨#[97, 100, 100, 105]⟩
abbrev tAndi : ByteArray := ⟨#[97, 110, 100, 105]⟩
abbrev tXori : ByteArray := ⟨#[120, 111, 114, 105]⟩
abbrev tShli : ByteArray := ⟨#[115, 104, 108, 105]⟩
abbrev tShri : ByteArray := ⟨#[115, 104, 114, 105]⟩
abbrev tLea : ByteArray := ⟨#[108, 101, 97]⟩
/-- the cost of an op -/
def opCost (s : ByteArray) : Int := if s = tMul then 4 else if s = tShl then 2 else if s = tShr then 2 else 1
theorem cdCost_f (s : ByteArray) : spec_cdCost.f s = some (opCost s) := by
  rw [spec_cdCost.eq]
  unfold opCost
  simp only [seq_beq, br_if, decide_eq_true_eq]
  repeat' split
  all_goals first | rfl | simp_all
theorem opCost_pos (s : ByteArray) : 1 ≤ opCost s ∧ opCost s ≤ 4 := by
  unfold opCost
  repeat' split
  all_goals omega
abbrev Form := Bool × Bool × Int × Int × Int × ByteArray
/-- the form of an op -/
def formP (s : ByteArray) : Form × Bool :=
  if s = tSet then ((false, false, 0, 63, 1, s), true)
  else if s = tMov then ((true, false, 1, 0, 1, s), true)
  else if isOne s = true then ((true, false, 1, 0, 1, s), true)
  else if isTwo s = true then ((true, true, 1, 0, opCost s, s), true)
  else if s = tAddi then ((true, false, 0, 63, 1, s.extract 0 3), true)
  else if s = tAndi then ((true, false, 0, 63, 1, s.extract 0 3), true)
  else if s = tXori then ((true, false, 0, 63, 1, s.extract 0 3), true)
  else if s = tShli then ((true, false, 1, 5, 1, s.extract 0 3), true)
  else if s = tShri then ((true, false, 1, 5, 1, s.extract 0 3), true)
  else if s = tLea then ((true, true, 1, 3, 1, s), true)
  else ((false, false, 0, 0, 0, ⟨#[]⟩), false)
theorem containsS_v (l : List ByteArray) (s : ByteArray) (hl : l.length ≤ 9223372036854775000) : slices_Contains_string.v l s = some (isIn l s) := ev_lim (containsS_ev l s hl)
theorem formOf_v (s : ByteArray) : impl_formOf.v s = some (formP s) := by
  refine impl_formOf.vs _ ?_
  have hc := containsS_v opsL s (by decide)
  unfold opsL at hc
  simp only [impl_binary.eq, bd_s, hc, seq_beq, br_if, decide_eq_true_eq]
  have e2 : isIn [(⟨#[97, 100, 100]⟩ : ByteArray), (⟨#[115, 117, 98]⟩ : ByteArray), (⟨#[109, 117, 108]⟩ : ByteArray), (⟨#[97, 110, 100]⟩ : ByteArray), (⟨#[111, 114]⟩ : ByteArray), (⟨#[120, 111, 114]⟩ : ByteArray), (⟨#[115, 104, 108]⟩ : ByteArray), (⟨#[115, 104, 114]⟩ : ByteArray), (⟨#[108, 101, 115, 115]⟩ : ByteArray), (⟨#[101, 113]⟩ : ByteArray)] s = isTwo s := rfl
  rw [e2]
  by_cases c1 : s = tSet
  · subst c1; simp [formP]
  by_cases c2 : s = tMov
  · subst c2; simp [formP]
  by_cases c3 : s = tNot
  · subst c3; simp [formP, isOne]
  by_cases c4 : s = tNeg
  · subst c4; simp [formP, isOne]
  have h1 : isOne s = false := by unfold isOne; simp [c3, c4]
  by_cases h2 : isTwo s = true
  · simp only [formP, c1, c2, c3, c4, h1, h2, if_false, if_true, Bool.false_eq_true, opCost]
    by_cases d1 : s = tShl
    · subst d1; rfl
    by_cases d2 : s = tShr
    · subst d2; rfl
    by_cases d3 : s = tMul
    · subst d3; rfl
    simp only [d1, d2, d3, if_false]
  by_cases c5 : s = tAddi
  · subst c5; simp [formP, h2, isOne]; decide
  by_cases c6 : s = tAndi
  · subst c6; simp [formP, h2, isOne]; decide
  by_cases c7 : s = tXori
  · subst c7; simp [formP, h2, isOne]; decide
  by_cases c8 : s = tShli
  · subst c8; simp [formP, h2, isOne]; decide
  by_cases c9 : s = tShri
  · subst c9; simp [formP, h2, isOne]; decide
  by_cases c10 : s = tLea
  · subst c10; simp [formP, h2, isOne]
  simp only [formP, c1, c2, c3, c4, h1, h2, c5, c6, c7, c8, c9, c10, if_false, Bool.false_eq_true]
theorem formP_cost {s : ByteArray} (h : 0 < arity s) : (formP s).1.2.2.2.2.1 = opCost s := by
  rcases arity_cases s with ⟨e, _⟩ | ⟨e, _⟩ | ⟨_, e, _⟩ | ⟨_, _, e⟩
  · omega
  · omega
  · rcases isOne_mem e with rfl | rfl <;> decide
  · have h1 := (isTwo_not e).2.2
    have d1 : s ≠ tSet := fun q => by subst q; revert e; decide
    have d2 : s ≠ tMov := fun q => by subst q; revert e; decide
    simp only [formP, d1, d2, h1, e, if_false, if_true, Bool.false_eq_true]
end Go.Proofs.Ytiofklineiioaaa.Am
end
section
/- Tiles at a node: the program's and the reference's are the same. -/
namespace Go.Proofs.Ytiofklineiioaaa.Am
open Go
set_option linter.unusedVariables false
set_option linter.unusedSimpArgs false

def ndAt (e : List Nd) (p : Int) : Nd := e.getD p.toNat (⟨#[]⟩, 0, 0, 0)
theorem ndAt_nat {e : List Nd} {i : Nat} (h : i < e.length) : ndAt e (i : Int) = e[i] := by
  unfold ndAt
  rw [Int.toNat_natCast, List.getD_eq_getElem?_getD, List.getElem?_eq_getElem h]; rfl
theorem ndAt_get {e : List Nd} {p : Int} (h0 : 0 ≤ p) (h : p < e.length) : e[p.toNat]? = some (ndAt e p) := by
  obtain ⟨i, rfl⟩ := Int.eq_ofNat_of_zero_le h0
  rw [ndAt_nat (by omega), Int.toNat_natCast]; exact List.getElem?_eq_getElem (by omega)
theorem ndAt_ok {e : List Nd} (hn : nodesOk e 0 = true) {p : Int} (h0 : 0 ≤ p) (h : p < e.length) : nodeOk (ndAt e p) p = true := by
  obtain ⟨i, rfl⟩ := Int.eq_ofNat_of_zero_le h0
  rw [ndAt_nat (by omega)]
  have := nodesOk_get e 0 hn i (by omega)
  rwa [Nat.zero_add] at this
def wordsL : List Int := (List.range 64).map Int.ofNat
theorem mem_words {x : Int} : x ∈ wordsL ↔ 0 ≤ x ∧ x ≤ 63 := by
  unfold wordsL
  rw [List.mem_map]
  constructor
  · rintro ⟨j, hj, rfl⟩
    have := List.mem_range.1 hj
    constructor
    · exact Int.natCast_nonneg j
    · show (j : Int) ≤ 63; omega
  · rintro ⟨h0, h1⟩
    exact ⟨x.toNat, List.mem_range.2 (by omega), by show ((x.toNat : Nat) : Int) = x; omega⟩
def isCn (m : Nd) (S : List Int) : Bool := decide (m.1 = tConst) && decide (m.2.2.2 ∈ S)
theorem const_word {m : Nd} {i : Int} (h : nodeOk m i = true) (c : m.1 = tConst) : 0 ≤ m.2.2.2 ∧ m.2.2.2 ≤ 63 := by
  unfold nodeOk at h
  rw [if_neg (by rw [c]; decide), if_pos c] at h
  simp only [Bool.and_eq_true, inB_iff] at h
  omega
def ops4 : List ByteArray := [(⟨#[97, 100, 100]⟩ : ByteArray), (⟨#[115, 117, 98]⟩ : ByteArray), (⟨#[97, 110, 100]⟩ : ByteArray), (⟨#[120, 111, 114]⟩ : ByteArray)]
def ops5 : List ByteArray := [(⟨#[97, 100, 100]⟩ : ByteArray), (⟨#[97, 110, 100]⟩ : ByteArray), (⟨#[120, 111, 114]⟩ : ByteArray)]
def ops6 : List ByteArray := [(⟨#[115, 104, 108]⟩ : ByteArray), (⟨#[115, 104, 114]⟩ : ByteArray)]
abbrev tAdd : ByteArray := ⟨#[97, 100, 100]⟩
abbrev Tl := List Int × List Int
def constM (b : Bool) (m : Nd) (S : List Int) (p c : Int) : Option Tl := if b = true ∧ isCn m S = true then some ([p], [c]) else none
def deepM (e : List Nd) (b : Bool) (plain deep : Int) (op : ByteArray) (S : List Int) : Option Tl :=
  if b = true ∧ (ndAt e deep).1 = op ∧ isCn (ndAt e (ndAt e deep).2.2.1) S = true then some ([plain, (ndAt e deep).2.1], [(ndAt e deep).2.2.1, deep]) else none
/-- the parts and the inner nodes of a tile at a node -/
def tileN (e : List Nd) (n : Nd) (t : Int) : Option Tl :=
  if t = 0 then (if n.1 = tIn then some ([], []) else none)
  else if t = 1 then (if n.1 = tConst then some ([], []) else none)
  else if t = 2 then (if isOne n.1 = true then some ([n.2.1], []) else none)
  else if t = 3 then (if isTwo n.1 = true then some ([n.2.1, n.2.2.1], []) else none)
  else if t = 4 then constM (isIn ops4 n.1) (ndAt e n.2.2.1) wordsL n.2.1 n.2.2.1
  else if t = 5 then constM (isIn ops5 n.1) (ndAt e n.2.1) wordsL n.2.2.1 n.2.1
  else if t = 6 then constM (isIn ops6 n.1) (ndAt e n.2.2.1) [1, 2, 3, 4, 5] n.2.1 n.2.2.1
  else if t = 7 then constM (decide (n.1 = tMul)) (ndAt e n.2.2.1) [2, 4, 8, 16, 32] n.2.1 n.2.2.1
  else if t = 8 then constM (decide (n.1 = tMul)) (ndAt e n.2.1) [2, 4, 8, 16, 32] n.2.2.1 n.2.1
  else if t = 9 then deepM e (decide (n.1 = tAdd)) n.2.1 n.2.2.1 tShl [1, 2, 3]
  else if t = 10 then deepM e (decide (n.1 = tAdd)) n.2.2.1 n.2.1 tShl [1, 2, 3]
  else if t = 11 then deepM e (decide (n.1 = tAdd)) n.2.1 n.2.2.1 tMul [2, 4, 8]
  else if t = 12 then deepM e (decide (n.1 = tAdd)) n.2.2.1 n.2.1 tMul [2, 4, 8]
  else none
def tileM (e : List Nd) (i t : Int) : Option Tl := tileN e (ndAt e i) t
def told : Option Tl → List Int × List Int × Bool
  | some (p, q) => (p, q, true)
  | none => ([], [], false)
theorem two_parts {n : Nd} {i : Int} (h : nodeOk n i = true) (c : isTwo n.1 = true) : (0 ≤ n.2.1 ∧ n.2.1 < i) ∧ 0 ≤ n.2.2.1 ∧ n.2.2.1 < i := by
  obtain ⟨h1, h2, h3⟩ := isTwo_not c
  unfold nodeOk at h
  rw [if_neg h1, if_neg h2, if_neg (by rw [h3]; decide)] at h
  simp only [Bool.and_eq_true, inB_iff] at h
  omega
theorem in4 {s : ByteArray} (h : isIn ops4 s = true) : isTwo s = true := by
  unfold isIn ops4 at h
  simp only [List.any_cons, List.any_nil, Bool.or_eq_true, decide_eq_true_eq, Bool.or_false] at h
  rcases h with h | h | h | h <;> subst h <;> decide
theorem in5 {s : ByteArray} (h : isIn ops5 s = true) : isTwo s = true := by
  unfold isIn ops5 at h
  simp only [List.any_cons, List.any_nil, Bool.or_eq_true, decide_eq_true_eq, Bool.or_false] at h
  rcases h with h | h | h <;> subst h <;> decide
theorem in6 {s : ByteArray} (h : isIn ops6 s = true) : isTwo s = true := by
  unfold isIn ops6 at h
  simp only [List.any_cons, List.any_nil, Bool.or_eq_true, decide_eq_true_eq, Bool.or_false] at h
  rcases h with h | h <;> subst h <;> decide

/-! ### the reference -/
theorem l1Has_v (l : List Int) (s : Int) (hl : l.length ≤ 9223372036854775000) : spec_l1Has.v l s = some (decide (s ∈ l)) := ev_lim (l1Has_ev l s hl)
theorem l1HasS_v (l : List ByteArray) (s : ByteArray) (hl : l.length ≤ 9223372036854775000) : spec_l1HasS.v l s = some (isIn l s) := ev_lim (l1HasS_ev l s hl)
theorem exTwo_v (s : ByteArray) : spec_exTwo.v s = some (isTwo s) := ev_lim (exTwo_ev s)
theorem operands_v' (s : ByteArray) : impl_operands.v s = some (arity s) := ev_lim (operands_ev s)
theorem cvConst_v (m : Nd) (S : List Int) (hS : S.length ≤ 1000) : spec_cvConst.v m S = some (isCn m S) := by
  refine spec_cvConst.vs _ _ ?_
  rw [seq_beq]
  unfold isCn
  by_cases c : m.1 = tConst
  · rw [br_t (by simpa using c), l1Has_v _ _ (by omega), bd_s]; simp [c]
  · rw [br_f (by simpa using c)]; simp [c]
theorem cvWords_v : spec_cvWords.v = some wordsL := by
  have key : ∀ (d i : Nat), i + d = 64 → spec_cvWords.v0 (i : Int) ((List.range i).map Int.ofNat) = some wordsL := by
    intro d
    induction d with
    | zero =>
      intro i hi
      obtain rfl : i = 64 := by omega
      exact spec_cvWords.v0s _ _ (br_f (by decide))
    | succ d ih =>
      intro i hi
      refine spec_cvWords.v0s _ _ ?_
      rw [br_t (decide_eq_true (by omega)), br_t (decide_eq_true (by simp; omega)), next_ok i 64 (by omega) (by omega)]
      have := ih (i + 1) (by omega)
      rw [List.range_succ, List.map_append] at this
      exact this
  exact spec_cvWords.vs (key 64 0 (by omega))
theorem cvDeep_v {e : List Nd} (hn : nodesOk e 0 = true) {p d : Int} (h0 : 0 ≤ d) (h : d < e.length) {op : ByteArray} (hop : isTwo op = true) {S : List Int} (hS : S.length ≤ 1000) : spec_cvDeep.v e p d op S = some (told (deepM e true p d op S)) := by
  refine spec_cvDeep.vs _ _ _ _ _ ?_
  rw [br_t (by simpa using h0), gt_some (ndAt_get h0 h), seq_beq]
  unfold deepM
  by_cases c : (ndAt e d).1 = op
  · have hk := ndAt_ok hn h0 h
    have hp := two_parts hk (by rw [c]; exact hop)
    rw [br_f (by simp [c]), br_t (by simpa using hp.2.1), gt_some (ndAt_get hp.2.1 (by omega)), cvConst_v _ _ hS, bd_s]
    by_cases q : isCn (ndAt e (ndAt e d).2.2.1) S = true
    · rw [q, brn_t, put_two hp.2.2, bd_s]; simp [c, told]
    · rw [Bool.not_eq_true] at q
      rw [q, brn_f]; simp [told]
  · rw [br_t (by simp [c])]; simp [c, told]
section
variable {e : List Nd} {t : Int} {n : Nd} {i : Int}
abbrev vv (k : Nat) (x : Option (List Int × List Int × Bool)) : Prop := x = some ([], [], false)
theorem cvN10 : spec_cvTile.v10 = some ([], [], false) := spec_cvTile.v10s rfl
theorem cvN9 (h : t ≠ 12) : spec_cvTile.v9 e t n.1 n.2.1 n.2.2.1 n.2.2.2 = some ([], [], false) := spec_cvTile.v9s _ _ _ _ _ _ ((br_f (by simpa using h)).trans cvN10)
theorem cvN8 (h : t < 11 ∨ 12 < t) : spec_cvTile.v8 e t n.1 n.2.1 n.2.2.1 n.2.2.2 = some ([], [], false) := spec_cvTile.v8s _ _ _ _ _ _ ((br_f (by simp; omega)).trans (cvN9 (by omega)))
theorem cvN7 (h : t < 10 ∨ 12 < t) : spec_cvTile.v7 e t n.1 n.2.1 n.2.2.1 n.2.2.2 = some ([], [], false) := spec_cvTile.v7s _ _ _ _ _ _ ((br_f (by simp; omega)).trans (cvN8 (by omega)))
theorem cvN6 (h : t < 9 ∨ 12 < t) : spec_cvTile.v6 e t n.1 n.2.1 n.2.2.1 n.2.2.2 = some ([], [], false) := spec_cvTile.v6s _ _ _ _ _ _ ((br_f (by simp; omega)).trans (cvN7 (by omega)))
theorem cvN5 (h : t < 8 ∨ 12 < t) : spec_cvTile.v5 e t n.1 n.2.1 n.2.2.1 n.2.2.2 = some ([], [], false) := spec_cvTile.v5s _ _ _ _ _ _ ((br_f (by simp; omega)).trans (cvN6 (by omega)))
theorem cvN4 (h : t < 7 ∨ 12 < t) : spec_cvTile.v4 e t n.1 n.2.1 n.2.2.1 n.2.2.2 = some ([], [], false) := spec_cvTile.v4s _ _ _ _ _ _ ((br_f (by simp; omega)).trans (cvN5 (by omega)))
theorem cvN3 (h : t < 6 ∨ 12 < t) : spec_cvTile.v3 e t n.1 n.2.1 n.2.2.1 n.2.2.2 = some ([], [], false) := spec_cvTile.v3s _ _ _ _ _ _ ((br_f (by simp; omega)).trans (cvN4 (by omega)))
theorem cvN2 (h : t < 5 ∨ 12 < t) : spec_cvTile.v2 e t n.1 n.2.1 n.2.2.1 n.2.2.2 = some ([], [], false) := spec_cvTile.v2s _ _ _ _ _ _ ((br_f (by simp; omega)).trans (cvN3 (by omega)))
theorem cvN1 (h : t < 4 ∨ 12 < t) : spec_cvTile.v1 e t n.1 n.2.1 n.2.2.1 n.2.2.2 = some ([], [], false) := spec_cvTile.v1s _ _ _ _ _ _ ((br_f (by simp; omega)).trans (cvN2 (by omega)))
theorem cvN0 (h : t < 3 ∨ 12 < t) : spec_cvTile.v0 e t n.1 n.2.1 n.2.2.1 n.2.2.2 = some ([], [], false) := spec_cvTile.v0s _ _ _ _ _ _ ((br_f (by simp; omega)).trans (cvN1 (by omega)))
theorem constT {m : Nd} {S : List Int} {p c : Int} : (br (isCn m S) (some ([p], ([c], true))) (some ([], ([], false)))) = some (told (constM true m S p c)) := by
  unfold constM; cases isCn m S <;> rfl
theorem words_len : wordsL.length ≤ 1000 := by simp [wordsL]
/-- behind the first three kinds -/
theorem cvTail (hn : nodesOk e 0 = true) (hk : nodeOk n i = true) (hi : i ≤ e.length) (h3 : t ≠ 0 ∧ t ≠ 1 ∧ t ≠ 2) : spec_cvTile.v0 e t n.1 n.2.1 n.2.2.1 n.2.2.2 = some (told (tileN e n t)) := by
  by_cases ho : t < 3 ∨ 12 < t
  · rw [cvN0 ho]
    unfold tileN
    rw [if_neg h3.1, if_neg h3.2.1, if_neg h3.2.2, if_neg (by omega), if_neg (by omega), if_neg (by omega), if_neg (by omega), if_neg (by omega), if_neg (by omega), if_neg (by omega), if_neg (by omega), if_neg (by omega), if_neg (by omega)]
    rfl
  rcases (show t = 3 ∨ t = 4 ∨ t = 5 ∨ t = 6 ∨ t = 7 ∨ t = 8 ∨ t = 9 ∨ t = 10 ∨ t = 11 ∨ t = 12 by omega) with rfl | rfl | rfl | rfl | rfl | rfl | rfl | rfl | rfl | rfl
  · refine spec_cvTile.v0s _ _ _ _ _ _ ?_
    rw [br_t (by decide), exTwo_v, bd_s, cvN1 (by omega)]
    by_cases c : isTwo n.1 = true
    · simp [c, tileN, told]
    · rw [Bool.not_eq_true] at c; simp [c, tileN, told]
  all_goals refine spec_cvTile.v0s _ _ _ _ _ _ ((br_f (by decide)).trans (spec_cvTile.v1s _ _ _ _ _ _ ?_))
  · rw [br_t (by decide), l1HasS_v _ _ (by decide), bd_s, cvN2 (by omega)]
    by_cases c : isIn ops4 n.1 = true
    · have hp := two_parts hk (in4 c)
      have c' := c
      unfold ops4 at c'
      rw [c', br_t rfl, br_t (by simpa using hp.2.1), gt_some (ndAt_get hp.2.1 (by omega)), cvWords_v, bd_s, cvConst_v _ _ words_len, bd_s, constT]
      simp [tileN, c]
    · rw [Bool.not_eq_true] at c
      have c' := c
      unfold ops4 at c'
      rw [c', br_f rfl]
      simp [tileN, c, constM, told]
  · rw [br_f (by decide)]
    refine spec_cvTile.v2s _ _ _ _ _ _ ?_
    rw [br_t (by decide), l1HasS_v _ _ (by decide), bd_s, cvN3 (by omega)]
    by_cases c : isIn ops5 n.1 = true
    · have hp := two_parts hk (in5 c)
      have c' := c
      unfold ops5 at c'
      rw [c', br_t rfl, br_t (by simpa using hp.1.1), gt_some (ndAt_get hp.1.1 (by omega)), cvWords_v, bd_s, cvConst_v _ _ words_len, bd_s, constT]
      simp [tileN, c]
    · rw [Bool.not_eq_true] at c
      have c' := c
      unfold ops5 at c'
      rw [c', br_f rfl]
      simp [tileN, c, constM, told]
  · rw [br_f (by decide)]
    refine spec_cvTile.v2s _ _ _ _ _ _ ?_
    rw [br_f (by decide)]
    refine spec_cvTile.v3s _ _ _ _ _ _ ?_
    rw [br_t (by decide), l1HasS_v _ _ (by decide), bd_s, cvN4 (by omega)]
    by_cases c : isIn ops6 n.1 = true
    · have hp := two_parts hk (in6 c)
      have c' := c
      unfold ops6 at c'
      rw [c', br_t rfl, br_t (by simpa using hp.2.1), gt_some (ndAt_get hp.2.1 (by omega)), cvConst_v _ _ (by decide), bd_s, constT]
      simp [tileN, c]
    · rw [Bool.not_eq_true] at c
      have c' := c
      unfold ops6 at c'
      rw [c', br_f rfl]
      simp [tileN, c, constM, told]
  · rw [br_f (by decide)]
    refine spec_cvTile.v2s _ _ _ _ _ _ ?_
    rw [br_f (by decide)]
    refine spec_cvTile.v3s _ _ _ _ _ _ ?_
    rw [br_f (by decide)]
    refine spec_cvTile.v4s _ _ _ _ _ _ ?_
    rw [br_t (by decide), cvN5 (by omega), seq_beq]
    by_cases c : n.1 = tMul
    · have hp := two_parts hk (by rw [c]; decide)
      rw [br_t (by simpa using c), br_t (by simpa using hp.2.1), gt_some (ndAt_get hp.2.1 (by omega)), cvConst_v _ _ (by decide), bd_s, constT]
      simp [tileN, c]
    · rw [br_f (by simpa using c)]
      simp [tileN, c, constM, told]
  · rw [br_f (by decide)]
    refine spec_cvTile.v2s _ _ _ _ _ _ ?_
    rw [br_f (by decide)]
    refine spec_cvTile.v3s _ _ _ _ _ _ ?_
    rw [br_f (by decide)]
    refine spec_cvTile.v4s _ _ _ _ _ _ ?_
    rw [br_f (by decide)]
    refine spec_cvTile.v5s _ _ _ _ _ _ ?_
    rw [br_t (by decide), cvN6 (by omega), seq_beq]
    by_cases c : n.1 = tMul
    · have hp := two_parts hk (by rw [c]; decide)
      rw [br_t (by simpa using c), br_t (by simpa using hp.1.1), gt_some (ndAt_get hp.1.1 (by omega)), cvConst_v _ _ (by decide), bd_s, constT]
      simp [tileN, c]
    · rw [br_f (by simpa using c)]
      simp [tileN, c, constM, told]
  · rw [br_f (by decide)]
    refine spec_cvTile.v2s _ _ _ _ _ _ ?_
    rw [br_f (by decide)]
    refine spec_cvTile.v3s _ _ _ _ _ _ ?_
    rw [br_f (by decide)]
    refine spec_cvTile.v4s _ _ _ _ _ _ ?_
    rw [br_f (by decide)]
    refine spec_cvTile.v5s _ _ _ _ _ _ ?_
    rw [br_f (by decide)]
    refine spec_cvTile.v6s _ _ _ _ _ _ ?_
    rw [br_t (by decide), cvN7 (by omega), seq_beq]
    by_cases c : n.1 = tAdd
    · have hp := two_parts hk (by rw [c]; decide)
      rw [br_t (by simpa using c), cvDeep_v hn hp.2.1 (by omega) (by decide) (by decide), bd_s]
      simp [tileN, c]
    · rw [br_f (by simpa using c)]
      simp [tileN, c, deepM, told]
  · rw [br_f (by decide)]
    refine spec_cvTile.v2s _ _ _ _ _ _ ?_
    rw [br_f (by decide)]
    refine spec_cvTile.v3s _ _ _ _ _ _ ?_
    rw [br_f (by decide)]
    refine spec_cvTile.v4s _ _ _ _ _ _ ?_
    rw [br_f (by decide)]
    refine spec_cvTile.v5s _ _ _ _ _ _ ?_
    rw [br_f (by decide)]
    refine spec_cvTile.v6s _ _ _ _ _ _ ?_
    rw [br_f (by decide)]
    refine spec_cvTile.v7s _ _ _ _ _ _ ?_
    rw [br_t (by decide), cvN8 (by omega), seq_beq]
    by_cases c : n.1 = tAdd
    · have hp := two_parts hk (by rw [c]; decide)
      rw [br_t (by simpa using c), cvDeep_v hn hp.1.1 (by omega) (by decide) (by decide), bd_s]
      simp [tileN, c]
    · rw [br_f (by simpa using c)]
      simp [tileN, c, deepM, told]
  · rw [br_f (by decide)]
    refine spec_cvTile.v2s _ _ _ _ _ _ ?_
    rw [br_f (by decide)]
    refine spec_cvTile.v3s _ _ _ _ _ _ ?_
    rw [br_f (by decide)]
    refine spec_cvTile.v4s _ _ _ _ _ _ ?_
    rw [br_f (by decide)]
    refine spec_cvTile.v5s _ _ _ _ _ _ ?_
    rw [br_f (by decide)]
    refine spec_cvTile.v6s _ _ _ _ _ _ ?_
    rw [br_f (by decide)]
    refine spec_cvTile.v7s _ _ _ _ _ _ ?_
    rw [br_f (by decide)]
    refine spec_cvTile.v8s _ _ _ _ _ _ ?_
    rw [br_t (by decide), cvN9 (by omega), seq_beq]
    by_cases c : n.1 = tAdd
    · have hp := two_parts hk (by rw [c]; decide)
      rw [br_t (by simpa using c), cvDeep_v hn hp.2.1 (by omega) (by decide) (by decide), bd_s]
      simp [tileN, c]
    · rw [br_f (by simpa using c)]
      simp [tileN, c, deepM, told]
  · rw [br_f (by decide)]
    refine spec_cvTile.v2s _ _ _ _ _ _ ?_
    rw [br_f (by decide)]
    refine spec_cvTile.v3s _ _ _ _ _ _ ?_
    rw [br_f (by decide)]
    refine spec_cvTile.v4s _ _ _ _ _ _ ?_
    rw [br_f (by decide)]
    refine spec_cvTile.v5s _ _ _ _ _ _ ?_
    rw [br_f (by decide)]
    refine spec_cvTile.v6s _ _ _ _ _ _ ?_
    rw [br_f (by decide)]
    refine spec_cvTile.v7s _ _ _ _ _ _ ?_
    rw [br_f (by decide)]
    refine spec_cvTile.v8s _ _ _ _ _ _ ?_
    rw [br_f (by decide)]
    refine spec_cvTile.v9s _ _ _ _ _ _ ?_
    rw [br_t (by decide), cvN10, seq_beq]
    by_cases c : n.1 = tAdd
    · have hp := two_parts hk (by rw [c]; decide)
      rw [br_t (by simpa using c), cvDeep_v hn hp.1.1 (by omega) (by decide) (by decide), bd_s]
      simp [tileN, c]
    · rw [br_f (by simpa using c)]
      simp [tileN, c, deepM, told]
theorem cvTile_v (hn : nodesOk e 0 = true) {j : Nat} (hj : j < e.length) (t : Int) : spec_cvTile.v e (j : Int) t = some (told (tileM e j t)) := by
  have hk : nodeOk (ndAt e j) (j : Int) = true := ndAt_ok hn (by omega) (by omega)
  refine spec_cvTile.vs _ _ _ ?_
  rw [br_t (by simp), gt_some (ndAt_get (by omega) (by omega))]
  unfold tileM
  by_cases t0 : t = 0
  · subst t0
    rw [br_t (by decide), seq_beq]
    by_cases c : (ndAt e j).1 = tIn <;> simp [tileN, c, told]
  rw [br_f (by simpa using t0)]
  by_cases t1 : t = 1
  · subst t1
    rw [br_t (by decide), seq_beq]
    by_cases c : (ndAt e j).1 = tConst <;> simp [tileN, c, told]
  rw [br_f (by simpa using t1)]
  by_cases t2 : t = 2
  · subst t2
    rw [br_t (by decide), exOne_f, bd_s, cvN0 (by omega)]
    by_cases c : isOne (ndAt e j).1 = true
    · simp [tileN, c, told]
    · rw [Bool.not_eq_true] at c; simp [tileN, c, told]
  rw [br_f (by simpa using t2)]
  exact cvTail hn hk (by omega) ⟨t0, t1, t2⟩
end
end Go.Proofs.Ytiofklineiioaaa.Am
end
section
/- Tiles at a node: the program's. -/
namespace Go.Proofs.Ytiofklineiioaaa.Am
open Go
set_option linter.unusedVariables false
set_option linter.unusedSimpArgs false

abbrev Tile := List Int × List Int × Int
/-- what a tile at a node costs -/
def tCostN (n : Nd) (t : Int) : Int := if t = 0 then 0 else if t = 3 then opCost n.1 else 1
def tCost (e : List Nd) (i t : Int) : Int := tCostN (ndAt e i) t
/-- the program's answer x at a node tells the tile that is told -/
def Tells (e : List Nd) (n : Nd) (t : Int) (x : Option (Tile × Bool)) : Prop := ∃ T : Tile, x = some (T, (tileN e n t).isSome) ∧ T.1.length ≤ 2 ∧ ∀ p q, tileN e n t = some (p, q) → T = (p, q, tCostN n t)
section
variable {e : List Nd} {n : Nd} {t i : Int}
theorem Tells.yes {p q : List Int} {c : Int} (h : tileN e n t = some (p, q)) (hc : c = tCostN n t) (hl : p.length ≤ 2) : Tells e n t (some ((p, q, c), true)) :=
  ⟨(p, q, c), by rw [h]; rfl, hl, fun p' q' h' => by rw [h] at h'; simp only [Option.some.injEq, Prod.mk.injEq] at h'; rw [← h'.1, ← h'.2, hc]⟩
theorem Tells.no {T : Tile} (h : tileN e n t = none) (hl : T.1.length ≤ 2) : Tells e n t (some (T, false)) := ⟨T, by rw [h]; rfl, hl, fun p q h' => by rw [h] at h'; cases h'⟩
theorem powP_pos (x : Int) : decide (powP x > 0) = decide (x ∈ [2, 4, 8, 16, 32]) := by
  unfold powP
  by_cases h2 : x = 2
  · subst h2; decide
  by_cases h4 : x = 4
  · subst h4; decide
  by_cases h8 : x = 8
  · subst h8; decide
  by_cases h16 : x = 16
  · subst h16; decide
  by_cases h32 : x = 32
  · subst h32; decide
  simp [h2, h4, h8, h16, h32]
theorem powP_three (x : Int) : inB (powP x) 1 3 = decide (x ∈ [2, 4, 8]) := by
  unfold powP
  by_cases h2 : x = 2
  · subst h2; decide
  by_cases h4 : x = 4
  · subst h4; decide
  by_cases h8 : x = 8
  · subst h8; decide
  by_cases h16 : x = 16
  · subst h16; decide
  by_cases h32 : x = 32
  · subst h32; decide
  simp [h2, h4, h8, h16, h32, inB]
theorem in13 (x : Int) : inB x 1 3 = decide (x ∈ [1, 2, 3]) := by
  rw [Bool.eq_iff_iff, inB_iff, decide_eq_true_iff]
  simp only [List.mem_cons, List.not_mem_nil, or_false]
  omega
theorem in15 (x : Int) : inB x 1 5 = decide (x ∈ [1, 2, 3, 4, 5]) := by
  rw [Bool.eq_iff_iff, inB_iff, decide_eq_true_iff]
  simp only [List.mem_cons, List.not_mem_nil, or_false]
  omega
/-- a constant that is taken -/
theorem constW {z : Int} (hn : nodesOk e 0 = true) {p c : Int} (h0 : 0 ≤ c) (h : c < e.length) {ops : List ByteArray} (hops : ops.length ≤ 1000) {S : List Int} {b : Bool} (ht : tileN e n t = constM (isIn ops n.1) (ndAt e c) S p c) (hb : (ndAt e c).1 = tConst → b = decide ((ndAt e c).2.2.2 ∈ S)) (hc : tCostN n t = 1) :
    Tells e n t (impl_constTile.v1 e p c b n.1 n.2.1 n.2.2.1 n.2.2.2 z ops) := by
  have key : ∀ x, impl_constTile.v1 e p c b n.1 n.2.1 n.2.2.1 n.2.2.2 z ops = x → Tells e n t x → Tells e n t (impl_constTile.v1 e p c b n.1 n.2.1 n.2.2.1 n.2.2.2 z ops) := fun x hx hT => hx ▸ hT
  by_cases c1 : isIn ops n.1 = true
  · by_cases c2 : (ndAt e c).1 = tConst
    · refine key _ (impl_constTile.v1s _ _ _ _ _ _ _ _ _ _ (r := (([p], [c], 1), b)) ?_) ?_
      · rw [containsS_v _ _ (by omega), bd_s, br_t c1, br_t (by simpa using h0), gt_some (ndAt_get h0 h), seq_beq, br_t (by simpa using c2)]
      · have hb := hb c2
        cases b with
        | true => exact Tells.yes (by rw [ht]; unfold constM isCn; rw [if_pos ⟨c1, by rw [← hb]; simp [c2]⟩]) hc.symm (by simp)
        | false => exact Tells.no (by rw [ht]; unfold constM isCn; rw [if_neg (fun q => by rw [← hb] at q; simp at q)]) (by simp)
    · refine key _ (impl_constTile.v1s _ _ _ _ _ _ _ _ _ _ (r := (([p], [c], 1), false)) ?_) ?_
      · rw [containsS_v _ _ (by omega), bd_s, br_t c1, br_t (by simpa using h0), gt_some (ndAt_get h0 h), seq_beq, br_f (by simpa using c2)]
      · exact Tells.no (by rw [ht]; unfold constM isCn; rw [if_neg (fun q => by simp [c2] at q)]) (by simp)
  · refine key _ (impl_constTile.v1s _ _ _ _ _ _ _ _ _ _ (r := (([p], [c], 1), false)) ?_) ?_
    · rw [Bool.not_eq_true] at c1
      rw [containsS_v _ _ (by omega), bd_s, br_f c1]
    · exact Tells.no (by rw [ht]; unfold constM; rw [if_neg (fun q => c1 q.1)]) (by simp)
theorem Tells.of {x y : Option (Tile × Bool)} (h : ∀ r, y = some r → x = some r) (hT : Tells e n t y) : Tells e n t x := by
  obtain ⟨T, h1, h2⟩ := hT
  exact ⟨T, h _ h1, h2⟩
/-- the kinds 4 to 8 -/
theorem constI (hn : nodesOk e 0 = true) (hk : nodeOk n i = true) (hi : i ≤ e.length) (h2 : isTwo n.1 = true) (ht : t = 4 ∨ t = 5 ∨ t = 6 ∨ t = 7 ∨ t = 8) : Tells e n t (impl_constTile.v e n t) := by
  have hp := two_parts hk h2
  have wd : ∀ c : Int, 0 ≤ c → c < e.length → (ndAt e c).1 = tConst → true = decide ((ndAt e c).2.2.2 ∈ wordsL) := fun c c0 c1 hc => (decide_eq_true (mem_words.2 (const_word (ndAt_ok hn c0 c1) hc))).symm
  rcases ht with rfl | rfl | rfl | rfl | rfl
  · refine Tells.of (fun r hr => impl_constTile.vs _ _ _ ((br_f (by decide)).trans ((br_f (by decide)).trans ((br_f (by decide)).trans ((br_f (by decide)).trans (impl_constTile.v0s _ _ _ _ _ _ _ _ _ _ ?_)))))) (constW (z := 0) hn hp.2.1 (by omega) (ops := ops4) (by decide) (S := wordsL) (b := true) (p := n.2.1) rfl (wd _ hp.2.1 (by omega)) rfl)
    rw [br_t (by simpa using hp.2.1), gt_some (ndAt_get hp.2.1 (by omega)), br_t (by decide)]
    exact hr
  · refine Tells.of (fun r hr => impl_constTile.vs _ _ _ ((br_t (by decide)).trans (impl_constTile.v0s _ _ _ _ _ _ _ _ _ _ ?_))) (constW (z := 0) hn hp.1.1 (by omega) (ops := ops5) (by decide) (S := wordsL) (b := true) (p := n.2.2.1) rfl (wd _ hp.1.1 (by omega)) rfl)
    rw [br_t (by simpa using hp.1.1), gt_some (ndAt_get hp.1.1 (by omega)), br_t (by decide)]
    exact hr
  · refine Tells.of (fun r hr => impl_constTile.vs _ _ _ ((br_f (by decide)).trans ((br_t (by decide)).trans (impl_constTile.v0s _ _ _ _ _ _ _ _ _ _ ?_)))) (constW (z := 0) hn hp.2.1 (by omega) (ops := ops6) (by decide) (S := [1, 2, 3, 4, 5]) (b := inB (ndAt e n.2.2.1).2.2.2 1 5) (p := n.2.1) rfl (fun _ => in15 _) rfl)
    rw [br_t (by simpa using hp.2.1), gt_some (ndAt_get hp.2.1 (by omega)), br_f (by decide), br_t (by decide), within_f, bd_s]
    cases hb : inB (ndAt e n.2.2.1).2.2.2 1 5
    · rw [hb] at hr; rw [br_f rfl, br_f (by decide)]; exact hr
    · rw [hb] at hr; rw [br_t rfl]; exact hr
  · refine Tells.of (fun r hr => impl_constTile.vs _ _ _ ((br_f (by decide)).trans ((br_f (by decide)).trans ((br_t (by decide)).trans (impl_constTile.v0s _ _ _ _ _ _ _ _ _ _ ?_))))) (constW (z := 0) hn hp.2.1 (by omega) (ops := [tMul]) (by decide) (S := [2, 4, 8, 16, 32]) (b := decide (powP (ndAt e n.2.2.1).2.2.2 > 0)) (p := n.2.1) (by simp [tileN, isIn, eq_comm]) (fun _ => powP_pos _) rfl)
    rw [br_t (by simpa using hp.2.1), gt_some (ndAt_get hp.2.1 (by omega)), br_f (by decide), br_f (by decide), br_t (by decide), power_v, bd_s]
    exact hr
  · refine Tells.of (fun r hr => impl_constTile.vs _ _ _ ((br_f (by decide)).trans ((br_f (by decide)).trans ((br_f (by decide)).trans ((br_t (by decide)).trans (impl_constTile.v0s _ _ _ _ _ _ _ _ _ _ ?_)))))) (constW (z := 0) hn hp.1.1 (by omega) (ops := [tMul]) (by decide) (S := [2, 4, 8, 16, 32]) (b := decide (powP (ndAt e n.2.1).2.2.2 > 0)) (p := n.2.2.1) (by simp [tileN, isIn, eq_comm]) (fun _ => powP_pos _) rfl)
    rw [br_t (by simpa using hp.1.1), gt_some (ndAt_get hp.1.1 (by omega)), br_f (by decide), br_f (by decide), br_t (by decide), power_v, bd_s]
    exact hr
/-- a sum with a part that is moved -/
theorem sumW (hn : nodesOk e 0 = true) {p d : Int} (h0 : 0 ≤ d) (h : d < e.length) {op : ByteArray} (hop : isTwo op = true) {S : List Int} {q : Int → Bool} (ht : tileN e n t = deepM e (decide (n.1 = tAdd)) p d op S) (hq : ∀ x, q x = decide (x ∈ S)) (hc : tCostN n t = 1)
    {f : Nd → Int → Option (Tile × Bool)} (hf : (ndAt e d).1 = op → ∀ x, f (ndAt e d) x = some (([p, (ndAt e d).2.1], [(ndAt e d).2.2.1, d], 1), q x)) :
    Tells e n t (br (decide (0 ≤ d)) (gt e (Int.toNat d) fun r0 => br (Bool.not (seq n.1 tAdd)) (some (([], ([], 0)), false)) (br (Bool.not (seq r0.1 op)) (some (([], ([], 0)), false)) (br (decide (0 ≤ r0.2.2.1)) (gt e (Int.toNat r0.2.2.1) fun r1 => br (Bool.not (seq r1.1 tConst)) (some (([], ([], 0)), false)) (br (decide (0 ≤ r0.2.2.1)) (gt e (Int.toNat r0.2.2.1) fun r2 => f r0 r2.2.2.2) none)) none))) none) := by
  rw [br_t (by simpa using h0), gt_some (ndAt_get h0 h), seq_beq, seq_beq]
  by_cases c1 : n.1 = tAdd
  · rw [br_f (by simp [c1])]
    by_cases c2 : (ndAt e d).1 = op
    · have hp := two_parts (ndAt_ok hn h0 h) (by rw [c2]; exact hop)
      rw [br_f (by simp [c2]), br_t (by simpa using hp.2.1), gt_some (ndAt_get hp.2.1 (by omega)), seq_beq]
      by_cases c3 : (ndAt e (ndAt e d).2.2.1).1 = tConst
      · rw [br_f (by simp [c3]), br_t (by simpa using hp.2.1), gt_some (ndAt_get hp.2.1 (by omega)), hf c2 _]
        have hq' := hq (ndAt e (ndAt e d).2.2.1).2.2.2
        cases hb : q (ndAt e (ndAt e d).2.2.1).2.2.2 with
        | true => exact Tells.yes (by rw [ht]; unfold deepM isCn; rw [if_pos ⟨by simp [c1], c2, by rw [← hq', hb]; simp [c3]⟩]) hc.symm (by simp)
        | false => exact Tells.no (by rw [ht]; unfold deepM isCn; rw [if_neg (fun k => by rw [← hq', hb] at k; simp at k)]) (by simp)
      · rw [br_t (by simp [c3])]
        exact Tells.no (by rw [ht]; unfold deepM isCn; rw [if_neg (fun k => by simp [c3] at k)]) (by simp)
    · rw [br_t (by simp [c2])]
      exact Tells.no (by rw [ht]; unfold deepM; rw [if_neg (fun k => c2 k.2.1)]) (by simp)
  · rw [br_t (by simp [c1])]
    exact Tells.no (by rw [ht]; unfold deepM; rw [if_neg (fun k => by simp [c1] at k)]) (by simp)
theorem sort_part (hn : nodesOk e 0 = true) {d : Int} (h0 : 0 ≤ d) (h : d < e.length) {op : ByteArray} (hop : isTwo op = true) (hd : (ndAt e d).1 = op) : slices_Sort_int.v [(ndAt e d).2.2.1, d] = some ((), [(ndAt e d).2.2.1, d]) := by
  have hp := two_parts (ndAt_ok hn h0 h) (by rw [hd]; exact hop)
  rw [sort_two, sort2, if_neg (by omega)]
/-- the kinds 9 to 12 -/
theorem sumI (hn : nodesOk e 0 = true) (hk : nodeOk n i = true) (hi : i ≤ e.length) (h2 : isTwo n.1 = true) (ht : t = 9 ∨ t = 10 ∨ t = 11 ∨ t = 12) : Tells e n t (impl_sumTile.v e n t) := by
  have hp := two_parts hk h2
  rcases ht with rfl | rfl | rfl | rfl
  · refine Tells.of (fun r hr => impl_sumTile.vs _ _ _ ((br_f (by decide)).trans ((br_f (by decide)).trans ((br_f (by decide)).trans hr)))) (sumW hn hp.2.1 (by omega) (op := tShl) (by decide) (S := [1, 2, 3]) (p := n.2.1) rfl (q := fun x => inB x 1 3) (fun x => in13 x) rfl
      (f := fun r0 x => br (decide ((9 : Int) > 10)) (bd (impl_power.v x) fun r3 => bd (slices_Sort_int.v [r0.2.2.1, n.2.2.1]) fun r4 => bd (impl_within.f r3 1 3) fun r5 => some (([n.2.1, r0.2.1], (r4.2, 1)), r5)) (bd (slices_Sort_int.v [r0.2.2.1, n.2.2.1]) fun r6 => bd (impl_within.f x 1 3) fun r7 => some (([n.2.1, r0.2.1], (r6.2, 1)), r7))) (fun ho x => ?_))
    simp only [sort_part hn hp.2.1 (by omega) (by decide) ho, power_v, within_f, bd_s]
    rw [br_f (by decide)]
  · refine Tells.of (fun r hr => impl_sumTile.vs _ _ _ ((br_t (by decide)).trans ((br_f (by decide)).trans hr))) (sumW hn hp.1.1 (by omega) (op := tShl) (by decide) (S := [1, 2, 3]) (p := n.2.2.1) rfl (q := fun x => inB x 1 3) (fun x => in13 x) rfl
      (f := fun r0 x => br (decide ((10 : Int) > 10)) (bd (impl_power.v x) fun r3 => bd (slices_Sort_int.v [r0.2.2.1, n.2.1]) fun r4 => bd (impl_within.f r3 1 3) fun r5 => some (([n.2.2.1, r0.2.1], (r4.2, 1)), r5)) (bd (slices_Sort_int.v [r0.2.2.1, n.2.1]) fun r6 => bd (impl_within.f x 1 3) fun r7 => some (([n.2.2.1, r0.2.1], (r6.2, 1)), r7))) (fun ho x => ?_))
    simp only [sort_part hn hp.1.1 (by omega) (by decide) ho, power_v, within_f, bd_s]
    rw [br_f (by decide)]
  · refine Tells.of (fun r hr => impl_sumTile.vs _ _ _ ((br_f (by decide)).trans ((br_f (by decide)).trans ((br_t (by decide)).trans hr)))) (sumW hn hp.2.1 (by omega) (op := tMul) (by decide) (S := [2, 4, 8]) (p := n.2.1) rfl (q := fun x => inB (powP x) 1 3) (fun x => powP_three x) rfl
      (f := fun r0 x => br (decide ((11 : Int) > 10)) (bd (impl_power.v x) fun r3 => bd (slices_Sort_int.v [r0.2.2.1, n.2.2.1]) fun r4 => bd (impl_within.f r3 1 3) fun r5 => some (([n.2.1, r0.2.1], (r4.2, 1)), r5)) (bd (slices_Sort_int.v [r0.2.2.1, n.2.2.1]) fun r6 => bd (impl_within.f x 1 3) fun r7 => some (([n.2.1, r0.2.1], (r6.2, 1)), r7))) (fun ho x => ?_))
    simp only [sort_part hn hp.2.1 (by omega) (by decide) ho, power_v, within_f, bd_s]
    rw [br_t (by decide)]
  · refine Tells.of (fun r hr => impl_sumTile.vs _ _ _ ((br_f (by decide)).trans ((br_t (by decide)).trans ((br_t (by decide)).trans hr)))) (sumW hn hp.1.1 (by omega) (op := tMul) (by decide) (S := [2, 4, 8]) (p := n.2.2.1) rfl (q := fun x => inB (powP x) 1 3) (fun x => powP_three x) rfl
      (f := fun r0 x => br (decide ((12 : Int) > 10)) (bd (impl_power.v x) fun r3 => bd (slices_Sort_int.v [r0.2.2.1, n.2.1]) fun r4 => bd (impl_within.f r3 1 3) fun r5 => some (([n.2.2.1, r0.2.1], (r4.2, 1)), r5)) (bd (slices_Sort_int.v [r0.2.2.1, n.2.1]) fun r6 => bd (impl_within.f x 1 3) fun r7 => some (([n.2.2.1, r0.2.1], (r6.2, 1)), r7))) (fun ho x => ?_))
    simp only [sort_part hn hp.1.1 (by omega) (by decide) ho, power_v, within_f, bd_s]
    rw [br_t (by decide)]
theorem tileN_two (h : isTwo n.1 = false) (h3 : 3 ≤ t) : tileN e n t = none := by
  have n4 : isIn ops4 n.1 = false := by cases c : isIn ops4 n.1 with
    | false => rfl
    | true => rw [in4 c] at h; cases h
  have n5 : isIn ops5 n.1 = false := by cases c : isIn ops5 n.1 with
    | false => rfl
    | true => rw [in5 c] at h; cases h
  have n6 : isIn ops6 n.1 = false := by cases c : isIn ops6 n.1 with
    | false => rfl
    | true => rw [in6 c] at h; cases h
  have nm : decide (n.1 = tMul) = false := decide_eq_false fun c => by rw [c] at h; revert h; decide
  have na : decide (n.1 = tAdd) = false := decide_eq_false fun c => by rw [c] at h; revert h; decide
  unfold tileN
  rw [if_neg (by omega), if_neg (by omega), if_neg (by omega), h, n4, n5, n6, nm, na]
  unfold constM deepM
  simp
theorem tileAt_t (hn : nodesOk e 0 = true) {j : Nat} (hj : j < e.length) (h0 : 0 ≤ t) (h12 : t ≤ 12) : Tells e (ndAt e j) t (impl_tileAt.v e (j : Int) t) := by
  have hk : nodeOk (ndAt e j) (j : Int) = true := ndAt_ok hn (by omega) (by omega)
  have st : ∀ {y : Option (Tile × Bool)}, Tells e (ndAt e j) t y → (∀ r, y = some r → (br (t == (0 : Int)) (some (([], ([], (0 : Int))), (seq (ndAt e j).1 tIn))) (br (t == (1 : Int)) (some (([], ([], (1 : Int))), (seq (ndAt e j).1 tConst))) (br (t == (2 : Int)) (some ((((ndAt e j).2.1 :: []), ([], (1 : Int))), (arity (ndAt e j).1 == (1 : Int)))) (br (decide (arity (ndAt e j).1 < (2 : Int))) (some (([], ([], (0 : Int))), false)) (br (t == (3 : Int)) (bd (impl_formOf.v (ndAt e j).1) fun r2 => (some ((((ndAt e j).2.1 :: ((ndAt e j).2.2.1 :: [])), ([], r2.1.2.2.2.2.1)), true))) (br (decide (t ≤ (8 : Int))) (bd (impl_constTile.v e (ndAt e j) t) fun r3 => (some r3)) (bd (impl_sumTile.v e (ndAt e j) t) fun r4 => (some r4)))))))) = some r) → Tells e (ndAt e j) t (impl_tileAt.v e (j : Int) t) := fun hT hy => Tells.of (fun r hr => impl_tileAt.vs _ _ _ (by rw [br_t (by simp), gt_some (ndAt_get (by omega) (by omega)), operands_v', bd_s]; exact hy r hr)) hT
  by_cases t0 : t = 0
  · subst t0
    by_cases c : (ndAt e j).1 = tIn
    · exact st (Tells.yes (p := []) (q := []) (by simp [tileN, c]) rfl (by simp)) fun r hr => by rw [br_t (by decide), seq_t c]; exact hr
    · exact st (Tells.no (T := ([], [], 0)) (by simp [tileN, c]) (by simp)) fun r hr => by rw [br_t (by decide), seq_f c]; exact hr
  by_cases t1 : t = 1
  · subst t1
    by_cases c : (ndAt e j).1 = tConst
    · exact st (Tells.yes (p := []) (q := []) (by simp [tileN, c]) rfl (by simp)) fun r hr => by rw [br_f (by decide), br_t (by decide), seq_t c]; exact hr
    · exact st (Tells.no (T := ([], [], 1)) (by simp [tileN, c]) (by simp)) fun r hr => by rw [br_f (by decide), br_t (by decide), seq_f c]; exact hr
  by_cases t2 : t = 2
  · subst t2
    by_cases c : isOne (ndAt e j).1 = true
    · exact st (Tells.yes (p := [(ndAt e j).2.1]) (q := []) (by simp [tileN, c]) rfl (by simp)) fun r hr => by rw [br_f (by decide), br_f (by decide), br_t (by decide), arity_one c]; exact hr
    · have ca : (arity (ndAt e j).1 == (1 : Int)) = false := by
        have : ¬ arity (ndAt e j).1 = 1 := fun q => c (arity_eq_one.1 q)
        simpa using this
      exact st (Tells.no (T := ([(ndAt e j).2.1], [], 1)) (by simp [tileN, c]) (by simp)) fun r hr => by rw [br_f (by decide), br_f (by decide), br_t (by decide), ca]; exact hr
  by_cases c2 : isTwo (ndAt e j).1 = true
  · have ha := arity_two c2
    by_cases t3 : t = 3
    · subst t3
      refine st (Tells.yes (p := [(ndAt e j).2.1, (ndAt e j).2.2.1]) (q := []) (by simp [tileN, c2]) rfl (by simp)) fun r hr => ?_
      rw [br_f (by decide), br_f (by decide), br_f (by decide), ha, br_f (by decide), br_t (by decide), formOf_v, bd_s, formP_cost (by omega)]
      exact hr
    · by_cases t8 : t ≤ 8
      · refine st (constI hn hk (by omega) c2 (by omega)) fun r hr => ?_
        rw [br_f (by simpa using t0), br_f (by simpa using t1), br_f (by simpa using t2), ha, br_f (by decide), br_f (by simpa using t3), br_t (by simpa using t8), hr, bd_s]
      · refine st (sumI hn hk (by omega) c2 (by omega)) fun r hr => ?_
        rw [br_f (by simpa using t0), br_f (by simpa using t1), br_f (by simpa using t2), ha, br_f (by decide), br_f (by simpa using t3), br_f (by simpa using t8), hr, bd_s]
  · rw [Bool.not_eq_true] at c2
    have ha : arity (ndAt e j).1 < 2 := by
      rcases arity_cases (ndAt e j).1 with ⟨h, _⟩ | ⟨h, _⟩ | ⟨h, _⟩ | ⟨h, _, h2⟩
      · omega
      · omega
      · omega
      · rw [h2] at c2; cases c2
    exact st (Tells.no (T := ([], [], 0)) (tileN_two c2 (by omega)) (by simp)) fun r hr => by
      rw [br_f (by simpa using t0), br_f (by simpa using t1), br_f (by simpa using t2), br_t (by simpa using ha)]
      exact hr
end
/-- the program's tile at a node -/
noncomputable def tileI (e : List Nd) (i t : Int) : Tile := ((impl_tileAt.v e i t).getD (([], [], 0), false)).1
section
variable {e : List Nd} {t : Int} {j : Nat}
theorem tileAt_v (hn : nodesOk e 0 = true) (hj : j < e.length) (h0 : 0 ≤ t) (h12 : t ≤ 12) : impl_tileAt.v e (j : Int) t = some (tileI e j t, (tileM e j t).isSome) := by
  obtain ⟨T, h, _⟩ := tileAt_t hn hj h0 h12
  unfold tileI
  rw [h]; rfl
theorem tileI_len (hn : nodesOk e 0 = true) (hj : j < e.length) (h0 : 0 ≤ t) (h12 : t ≤ 12) : (tileI e j t).1.length ≤ 2 := by
  obtain ⟨T, h, hl, _⟩ := tileAt_t hn hj h0 h12
  unfold tileI
  rw [h]; exact hl
theorem tileI_eq (hn : nodesOk e 0 = true) (hj : j < e.length) (h0 : 0 ≤ t) (h12 : t ≤ 12) {p q : List Int} (hm : tileM e j t = some (p, q)) : tileI e j t = (p, q, tCost e j t) := by
  obtain ⟨T, h, hl, hq⟩ := tileAt_t hn hj h0 h12
  unfold tileI
  rw [h]; exact hq p q hm
end
end Go.Proofs.Ytiofklineiioaaa.Am
end
section
/- In a tree each node is an operand once: the parts of a tile and its inner nodes are apart. -/
namespace Go.Proofs.Ytiofklineiioaaa.Am
open Go
set_option linter.unusedVariables false
set_option linter.unusedSimpArgs false

def pN (n : Nd) : List Nat := (partsOf n).map Int.toNat
/-! ### how often a node is an operand -/
def opsOfL (e : List Nd) : List Nat := e.flatMap pN
theorem bumpU_get {u : List Int} {m : Nat} (hb : Bnd u m) (hm : m ≤ 1000000000) (p : Int) (h0 : 0 ≤ p) (hp : p < u.length) (j : Nat) (hj : j < u.length) : (bumpU u p)[j]? = some (u[j] + if j = p.toNat then 1 else 0) := by
  unfold bumpU
  rw [List.getElem?_set]
  have hpl : p.toNat < u.length := by omega
  by_cases c : p.toNat = j
  · subst c
    have hg : u.getD p.toNat 0 = u[p.toNat] := by rw [List.getD_eq_getElem?_getD, List.getElem?_eq_getElem hpl]; rfl
    have := hb _ (List.getElem_mem hpl)
    rw [if_pos rfl, if_pos hpl, hg, if_pos rfl, wrap_ok (by omega) (by omega)]
  · rw [if_neg c, if_neg (fun e => c e.symm), List.getElem?_eq_getElem hj, Int.add_zero]
theorem fold_bump_get : ∀ (ps : List Int) (u : List Int) (m : Nat), Bnd u m → m + ps.length ≤ 1000000000 → (∀ p ∈ ps, 0 ≤ p ∧ p < u.length) → ∀ j (hj : j < u.length), (ps.foldl bumpU u)[j]? = some (u[j] + ((ps.map Int.toNat).count j : Nat))
  | [], u, m, hb, hm, hp, j, hj => by simp [List.getElem?_eq_getElem hj]
  | p :: r, u, m, hb, hm, hp, j, hj => by
    simp only [List.length_cons] at hm
    obtain ⟨h0, h1⟩ := hp p (by simp)
    have hl := bump_len u p
    have ih := fold_bump_get r (bumpU u p) (m + 1) (bump_bnd hb (by omega) p) (by omega) (fun q hq => by rw [hl]; exact hp q (by simp [hq])) j (by rw [hl]; exact hj)
    have hg := bumpU_get hb (by omega) p h0 h1 j hj
    rw [List.getElem?_eq_getElem (by rw [hl]; exact hj)] at hg
    rw [List.foldl_cons, ih, Option.some.inj hg, List.map_cons, List.count_cons]
    congr 1
    by_cases c : j = p.toNat
    · subst c; simp; omega
    · have c' : ¬ p.toNat = j := fun e => c e.symm
      simp [c, c']
theorem folds_bump_get : ∀ (l : List Nd) (u : List Int) (m : Nat), Bnd u m → m + 2 * l.length ≤ 1000000000 → PartsIn l u.length → ∀ j (hj : j < u.length), (l.foldl bumps u)[j]? = some (u[j] + ((opsOfL l).count j : Nat))
  | [], u, m, hb, hm, hp, j, hj => by simp [opsOfL, List.getElem?_eq_getElem hj]
  | n :: r, u, m, hb, hm, hp, j, hj => by
    simp only [List.length_cons] at hm
    have h2 := parts_le n
    have hl := bumps_len u n
    have hb1 : Bnd (bumps u n) (m + (partsOf n).length) := fold_bnd _ _ _ hb (by omega)
    have ih := folds_bump_get r (bumps u n) (m + (partsOf n).length) hb1 (by omega) (by rw [hl]; exact fun q hq => hp q (by simp [hq])) j (by rw [hl]; exact hj)
    have hg : (bumps u n)[j]? = _ := fold_bump_get (partsOf n) u m hb (by omega) (hp n (by simp)) j hj
    rw [List.getElem?_eq_getElem (by rw [hl]; exact hj)] at hg
    rw [List.foldl_cons, ih, Option.some.inj hg]
    unfold opsOfL pN
    rw [List.flatMap_cons, List.count_append]
    congr 1
    omega
theorem usesOf_get {e : List Nd} (hl : e.length ≤ 1048576) (hp : PartsIn e e.length) {j : Nat} (hj : j < e.length) : (usesOf e)[j]? = some (((opsOfL e).count j : Nat) : Int) := by
  unfold usesOf
  have := folds_bump_get e (List.replicate e.length 0) 0 (fun x hx => by rw [(List.mem_replicate.1 hx).2]; omega) (by omega) (by rw [List.length_replicate]; exact hp) j (by rw [List.length_replicate]; exact hj)
  rw [this]
  simp
theorem once_count {e : List Nd} (hl : e.length ≤ 1048576) (hn : nodesOk e 0 = true) (ho : once e = true) (j : Nat) (hj : j < e.length) : (opsOfL e).count j ≤ 1 := by
  have hg := usesOf_get hl (nodesOk_parts hn) hj
  unfold once at ho
  have := List.all_eq_true.1 ho _ (List.mem_of_getElem? hg)
  rw [decide_eq_true_iff] at this
  omega

section
variable {e : List Nd}
theorem tile_parts (hn : nodesOk e 0 = true) {i : Nat} (hi : i < e.length) {t : Int} {p q : List Int} (h : tileM e (i : Int) t = some (p, q)) : p.length ≤ 2 ∧ ∀ x ∈ p, 0 ≤ x ∧ x < i := by
  have hk : nodeOk (ndAt e i) (i : Int) = true := ndAt_ok hn (by omega) (by omega)
  have tw : isTwo (ndAt e i).1 = true → (0 ≤ (ndAt e i).2.1 ∧ (ndAt e i).2.1 < i) ∧ 0 ≤ (ndAt e i).2.2.1 ∧ (ndAt e i).2.2.1 < i := fun c => two_parts hk c
  have cst : ∀ {b : Bool} {m : Nd} {S : List Int} {a c : Int}, (b = true → 0 ≤ a ∧ a < i) → constM b m S a c = some (p, q) → p.length ≤ 2 ∧ ∀ x ∈ p, 0 ≤ x ∧ x < i := fun ha hc => by
    unfold constM at hc
    split at hc
    · rename_i k
      simp only [Option.some.injEq, Prod.mk.injEq] at hc
      obtain ⟨rfl, _⟩ := hc
      refine ⟨by simp, fun x hx => ?_⟩
      simp only [List.mem_singleton] at hx
      subst hx; exact ha k.1
    · cases hc
  have dp : ∀ {b : Bool} {a d : Int} {op : ByteArray} {S : List Int}, isTwo op = true → (b = true → (0 ≤ a ∧ a < i) ∧ 0 ≤ d ∧ d < i) → deepM e b a d op S = some (p, q) → p.length ≤ 2 ∧ ∀ x ∈ p, 0 ≤ x ∧ x < i := fun ho ha hc => by
    unfold deepM at hc
    split at hc
    · rename_i k
      simp only [Option.some.injEq, Prod.mk.injEq] at hc
      obtain ⟨rfl, _⟩ := hc
      obtain ⟨h1, h2⟩ := ha k.1
      have := two_parts (ndAt_ok hn h2.1 (by omega)) (by rw [k.2.1]; exact ho)
      refine ⟨by simp, fun x hx => ?_⟩
      simp only [List.mem_cons, List.not_mem_nil, or_false] at hx
      rcases hx with rfl | rfl
      · exact h1
      · omega
    · cases hc
  unfold tileM tileN at h
  by_cases t0 : t = 0
  · rw [if_pos t0] at h
    by_cases c : (ndAt e (i : Int)).1 = tIn
    · rw [if_pos c] at h; simp only [Option.some.injEq, Prod.mk.injEq] at h; obtain ⟨rfl, _⟩ := h; simp
    · rw [if_neg c] at h; cases h
  rw [if_neg t0] at h
  by_cases t1 : t = 1
  · rw [if_pos t1] at h
    by_cases c : (ndAt e (i : Int)).1 = tConst
    · rw [if_pos c] at h; simp only [Option.some.injEq, Prod.mk.injEq] at h; obtain ⟨rfl, _⟩ := h; simp
    · rw [if_neg c] at h; cases h
  rw [if_neg t1] at h
  by_cases t2 : t = 2
  · rw [if_pos t2] at h
    by_cases c : isOne (ndAt e (i : Int)).1 = true
    · rw [if_pos c] at h
      simp only [Option.some.injEq, Prod.mk.injEq] at h; obtain ⟨rfl, _⟩ := h
      refine ⟨by simp, fun x hx => ?_⟩
      simp only [List.mem_singleton] at hx
      subst hx
      exact nodeOk_parts (i := i) hk _ (by unfold partsOf; rw [if_pos (arity_one c)]; simp)
    · rw [if_neg c] at h; cases h
  rw [if_neg t2] at h
  by_cases t3 : t = 3
  · rw [if_pos t3] at h
    by_cases c : isTwo (ndAt e (i : Int)).1 = true
    · rw [if_pos c] at h
      simp only [Option.some.injEq, Prod.mk.injEq] at h; obtain ⟨rfl, _⟩ := h
      refine ⟨by simp, fun x hx => ?_⟩
      simp only [List.mem_cons, List.not_mem_nil, or_false] at hx
      rcases hx with rfl | rfl
      · exact (tw c).1
      · exact (tw c).2
    · rw [if_neg c] at h; cases h
  rw [if_neg t3] at h
  by_cases t4 : t = 4
  · rw [if_pos t4] at h; exact cst (fun c => (tw (in4 c)).1) h
  rw [if_neg t4] at h
  by_cases t5 : t = 5
  · rw [if_pos t5] at h; exact cst (fun c => (tw (in5 c)).2) h
  rw [if_neg t5] at h
  by_cases t6 : t = 6
  · rw [if_pos t6] at h; exact cst (fun c => (tw (in6 c)).1) h
  rw [if_neg t6] at h
  by_cases t7 : t = 7
  · rw [if_pos t7] at h; exact cst (fun c => (tw (by rw [of_decide_eq_true c]; decide)).1) h
  rw [if_neg t7] at h
  by_cases t8 : t = 8
  · rw [if_pos t8] at h; exact cst (fun c => (tw (by rw [of_decide_eq_true c]; decide)).2) h
  rw [if_neg t8] at h
  by_cases t9 : t = 9
  · rw [if_pos t9] at h; exact dp (by decide) (fun c => tw (by rw [of_decide_eq_true c]; decide)) h
  rw [if_neg t9] at h
  by_cases t10 : t = 10
  · rw [if_pos t10] at h; exact dp (by decide) (fun c => (tw (by rw [of_decide_eq_true c]; decide)).symm) h
  rw [if_neg t10] at h
  by_cases t11 : t = 11
  · rw [if_pos t11] at h; exact dp (by decide) (fun c => tw (by rw [of_decide_eq_true c]; decide)) h
  rw [if_neg t11] at h
  by_cases t12 : t = 12
  · rw [if_pos t12] at h; exact dp (by decide) (fun c => (tw (by rw [of_decide_eq_true c]; decide)).symm) h
  rw [if_neg t12] at h
  cases h
end

theorem ops_at {e : List Nd} {i : Nat} (hi : i < e.length) (k : Nat) : (pN e[i]).count k ≤ (opsOfL e).count k := by
  have h : e = e.take i ++ (e[i] :: e.drop (i + 1)) := by rw [← drop_at _ i hi, List.take_append_drop]
  have h2 : opsOfL e = opsOfL (e.take i) ++ (pN e[i] ++ opsOfL (e.drop (i + 1))) := by
    conv => lhs; rw [h]
    unfold opsOfL
    rw [List.flatMap_append, List.flatMap_cons]
  rw [h2, List.count_append, List.count_append]
  omega
theorem ops_two {e : List Nd} {i j : Nat} (hij : i < j) (hj : j < e.length) (k : Nat) : (pN e[i]).count k + (pN e[j]).count k ≤ (opsOfL e).count k := by
  have hi : i < e.length := by omega
  have h : e = e.take i ++ (e[i] :: e.drop (i + 1)) := by rw [← drop_at _ i hi, List.take_append_drop]
  have h2 : opsOfL e = opsOfL (e.take i) ++ (pN e[i] ++ opsOfL (e.drop (i + 1))) := by
    conv => lhs; rw [h]
    unfold opsOfL
    rw [List.flatMap_append, List.flatMap_cons]
  have hd : j - (i + 1) < (e.drop (i + 1)).length := by rw [List.length_drop]; omega
  have h3 := ops_at hd k
  have h4 : (e.drop (i + 1))[j - (i + 1)] = e[j] := by
    rw [List.getElem_drop]
    congr 1
    omega
  rw [h4] at h3
  rw [h2, List.count_append, List.count_append]
  omega
/-- two operands of a node are apart -/
theorem apart1 {e : List Nd} (ht : treeOk e = true) {i : Nat} (hi : i < e.length) (h2 : isTwo e[i].1 = true) : e[i].2.1 ≠ e[i].2.2.1 := by
  obtain ⟨hn, l1, l2, ho⟩ := treeOk_parts ht
  have hk := nodesOk_get e 0 hn i hi
  rw [Nat.zero_add] at hk
  have hp := two_parts hk h2
  intro q
  have h := ops_at hi e[i].2.1.toNat
  have hc := once_count (by omega) hn ho e[i].2.1.toNat (by omega)
  have : pN e[i] = [e[i].2.1.toNat, e[i].2.1.toNat] := by
    unfold pN partsOf
    rw [arity_two h2, if_neg (by decide), if_pos rfl, ← q]; rfl
  rw [this] at h
  simp at h
  omega
/-- operands of two nodes are apart -/
theorem apart2 {e : List Nd} (ht : treeOk e = true) {i j : Nat} (hij : i < j) (hj : j < e.length) {p : Int} (h1 : p ∈ partsOf e[i]) (h2 : p ∈ partsOf e[j]) : False := by
  obtain ⟨hn, l1, l2, ho⟩ := treeOk_parts ht
  have hk := nodesOk_get e 0 hn i (by omega)
  rw [Nat.zero_add] at hk
  have hp := nodeOk_parts hk p h1
  have h := ops_two hij hj p.toNat
  have hc := once_count (by omega) hn ho p.toNat (by omega)
  have a : 1 ≤ (pN e[i]).count p.toNat := List.one_le_count_iff.2 (List.mem_map.2 ⟨p, h1, rfl⟩)
  have b : 1 ≤ (pN e[j]).count p.toNat := List.one_le_count_iff.2 (List.mem_map.2 ⟨p, h2, rfl⟩)
  omega
theorem parts_two {n : Nd} (h : isTwo n.1 = true) : partsOf n = [n.2.1, n.2.2.1] := by
  unfold partsOf
  rw [arity_two h, if_neg (by decide), if_pos rfl]
/-- what a tile tells: its parts are below its node, its inner nodes too, and apart from the parts -/
structure Fair (i : Nat) (p q : List Int) : Prop where
  two : p.length ≤ 2
  low : ∀ x ∈ p, 0 ≤ x ∧ x < (i : Int)
  inn : ∀ x ∈ q, x < (i : Int)
  dis : ∀ x ∈ p, x ∉ q
  len : q.length ≤ 2
theorem tile_fair {e : List Nd} (ht : treeOk e = true) {i : Nat} (hi : i < e.length) {t : Int} {p q : List Int} (h : tileM e (i : Int) t = some (p, q)) : Fair i p q := by
  obtain ⟨hn, l1, l2, ho⟩ := treeOk_parts ht
  have hpp := tile_parts hn hi h
  have hk : nodeOk (ndAt e i) (i : Int) = true := ndAt_ok hn (by omega) (by omega)
  have ei : ndAt e (i : Int) = e[i] := ndAt_nat hi
  have tw : isTwo (ndAt e i).1 = true → ((0 ≤ (ndAt e i).2.1 ∧ (ndAt e i).2.1 < i) ∧ 0 ≤ (ndAt e i).2.2.1 ∧ (ndAt e i).2.2.1 < i) ∧ (ndAt e i).2.1 ≠ (ndAt e i).2.2.1 := fun c =>
    ⟨two_parts hk c, by have := apart1 ht hi (by rw [← ei]; exact c); rwa [← ei] at this⟩
  have mem : isTwo (ndAt e i).1 = true → (ndAt e i).2.1 ∈ partsOf e[i] ∧ (ndAt e i).2.2.1 ∈ partsOf e[i] := fun c => by
    rw [ei] at c ⊢
    rw [parts_two c]; simp
  have nul : q = [] → Fair i p q := fun c => by subst c; exact ⟨hpp.1, hpp.2, by simp, by simp, by simp⟩
  have cst : ∀ {b : Bool} {m : Nd} {S : List Int} {a c : Int}, (b = true → c < i ∧ a ≠ c) → constM b m S a c = some (p, q) → Fair i p q := fun ha hc => by
    unfold constM at hc
    split at hc
    · rename_i k
      simp only [Option.some.injEq, Prod.mk.injEq] at hc
      obtain ⟨rfl, rfl⟩ := hc
      obtain ⟨h1, h2⟩ := ha k.1
      exact ⟨hpp.1, hpp.2, fun x hx => by rw [List.mem_singleton] at hx; subst hx; exact h1, fun x hx hq => by rw [List.mem_singleton] at hx hq; subst hx; exact h2 hq, by simp⟩
    · cases hc
  have dp : ∀ {b : Bool} {a d : Int} {op : ByteArray} {S : List Int}, isTwo op = true → (b = true → (0 ≤ d ∧ d < i) ∧ a ≠ d ∧ a ∈ partsOf e[i]) → deepM e b a d op S = some (p, q) → Fair i p q := fun {b a d op S} ho2 ha hc => by
    unfold deepM at hc
    split at hc
    · rename_i k
      simp only [Option.some.injEq, Prod.mk.injEq] at hc
      obtain ⟨rfl, rfl⟩ := hc
      obtain ⟨h1, h2, h3⟩ := ha k.1
      obtain ⟨n, rfl⟩ : ∃ n : Nat, d = (n : Int) := ⟨d.toNat, by omega⟩
      have hnl : n < e.length := by omega
      have en : ndAt e (n : Int) = e[n] := ndAt_nat hnl
      have ht2 : isTwo e[n].1 = true := by rw [← en, k.2.1]; exact ho2
      have hb := two_parts (ndAt_ok hn h1.1 (by omega)) (by rw [k.2.1]; exact ho2)
      have h4 := apart1 ht hnl ht2
      rw [← en] at h4
      have h5 : a ≠ (ndAt e (n : Int)).2.2.1 := fun q => apart2 ht (i := n) (j := i) (by omega) hi (p := a) (by rw [parts_two ht2, q, en]; simp) h3
      refine ⟨hpp.1, hpp.2, fun x hx => ?_, fun x hx hq => ?_, by simp⟩
      · simp only [List.mem_cons, List.not_mem_nil, or_false] at hx
        rcases hx with rfl | rfl <;> omega
      · simp only [List.mem_cons, List.not_mem_nil, or_false] at hx hq
        rcases hx with rfl | rfl
        · rcases hq with h | h
          · exact h5 h
          · exact h2 h
        · rcases hq with h | h
          · exact h4 h
          · omega
    · cases hc
  unfold tileM tileN at h
  by_cases t0 : t = 0
  · rw [if_pos t0] at h
    split at h
    · simp only [Option.some.injEq, Prod.mk.injEq] at h; exact nul h.2.symm
    · cases h
  rw [if_neg t0] at h
  by_cases t1 : t = 1
  · rw [if_pos t1] at h
    split at h
    · simp only [Option.some.injEq, Prod.mk.injEq] at h; exact nul h.2.symm
    · cases h
  rw [if_neg t1] at h
  by_cases t2 : t = 2
  · rw [if_pos t2] at h
    split at h
    · simp only [Option.some.injEq, Prod.mk.injEq] at h; exact nul h.2.symm
    · cases h
  rw [if_neg t2] at h
  by_cases t3 : t = 3
  · rw [if_pos t3] at h
    split at h
    · simp only [Option.some.injEq, Prod.mk.injEq] at h; exact nul h.2.symm
    · cases h
  rw [if_neg t3] at h
  by_cases t4 : t = 4
  · rw [if_pos t4] at h; exact cst (fun c => have w := tw (in4 c); ⟨w.1.2.2, w.2⟩) h
  rw [if_neg t4] at h
  by_cases t5 : t = 5
  · rw [if_pos t5] at h; exact cst (fun c => have w := tw (in5 c); ⟨w.1.1.2, w.2.symm⟩) h
  rw [if_neg t5] at h
  by_cases t6 : t = 6
  · rw [if_pos t6] at h; exact cst (fun c => have w := tw (in6 c); ⟨w.1.2.2, w.2⟩) h
  rw [if_neg t6] at h
  by_cases t7 : t = 7
  · rw [if_pos t7] at h; exact cst (fun c => have w := tw (by rw [of_decide_eq_true c]; decide); ⟨w.1.2.2, w.2⟩) h
  rw [if_neg t7] at h
  by_cases t8 : t = 8
  · rw [if_pos t8] at h; exact cst (fun c => have w := tw (by rw [of_decide_eq_true c]; decide); ⟨w.1.1.2, w.2.symm⟩) h
  rw [if_neg t8] at h
  have ad : decide ((ndAt e (i : Int)).1 = tAdd) = true → isTwo (ndAt e (i : Int)).1 = true := fun c => by rw [of_decide_eq_true c]; decide
  by_cases t9 : t = 9
  · rw [if_pos t9] at h; exact dp (by decide) (fun c => have w := tw (ad c); ⟨w.1.2, w.2, (mem (ad c)).1⟩) h
  rw [if_neg t9] at h
  by_cases t10 : t = 10
  · rw [if_pos t10] at h; exact dp (by decide) (fun c => have w := tw (ad c); ⟨w.1.1, w.2.symm, (mem (ad c)).2⟩) h
  rw [if_neg t10] at h
  by_cases t11 : t = 11
  · rw [if_pos t11] at h; exact dp (by decide) (fun c => have w := tw (ad c); ⟨w.1.2, w.2, (mem (ad c)).1⟩) h
  rw [if_neg t11] at h
  by_cases t12 : t = 12
  · rw [if_pos t12] at h; exact dp (by decide) (fun c => have w := tw (ad c); ⟨w.1.1, w.2.symm, (mem (ad c)).2⟩) h
  rw [if_neg t12] at h
  cases h
/-- each node has the plain tile of its kind -/
def plainT (n : Nd) : Int := if n.1 = tIn then 0 else if n.1 = tConst then 1 else if isOne n.1 = true then 2 else 3
theorem plain_some {e : List Nd} {i : Nat} (hn : nodesOk e 0 = true) (hi : i < e.length) : (tileM e (i : Int) (plainT e[i])).isSome = true := by
  have hk := nodesOk_get e 0 hn i hi
  rw [Nat.zero_add] at hk
  unfold tileM tileN plainT
  rw [ndAt_nat hi]
  by_cases c0 : e[i].1 = tIn
  · rw [if_pos c0, if_pos rfl, if_pos c0]; rfl
  rw [if_neg c0]
  by_cases c1 : e[i].1 = tConst
  · rw [if_pos c1, if_neg (by decide), if_pos rfl, if_pos c1]; rfl
  rw [if_neg c1]
  by_cases c2 : isOne e[i].1 = true
  · rw [if_pos c2, if_neg (by decide), if_neg (by decide), if_pos rfl, if_pos c2]; rfl
  · rw [if_neg c2, if_neg (by decide), if_neg (by decide), if_neg (by decide), if_pos rfl]
    unfold nodeOk at hk
    rw [if_neg c0, if_neg c1, if_neg c2] at hk
    simp only [Bool.and_eq_true] at hk
    rw [if_pos hk.1.1.1]; rfl
theorem tCost_le (e : List Nd) (i t : Int) : tCost e i t ≤ 4 := by
  unfold tCost tCostN
  have := opCost_pos (ndAt e i).1
  split
  · omega
  · split <;> omega
end Go.Proofs.Ytiofklineiioaaa.Am
end
section
/- What is drawn off bytes: a cursor, numbers. -/
namespace Go.Proofs.Ytiofklineiioaaa.Am
open Go
set_option linter.unusedVariables false
set_option linter.unusedSimpArgs false

abbrev Cur := List Int × Int × Int
/-- a cursor over bytes that stands at n at most -/
def Cu (n : Int) (c : Cur) : Prop := (∀ x ∈ c.1, 0 ≤ x ∧ x ≤ 255) ∧ 0 ≤ c.2.1 ∧ c.2.1 ≤ n
/-- something is drawn -/
def Dr {α : Type} (x : Option (α × Cur)) (n : Int) (P : α → Prop) : Prop := ∃ r c, x = some (r, c) ∧ P r ∧ Cu n c
theorem Cu.mono {n m : Int} {c : Cur} (h : Cu n c) (hm : n ≤ m) : Cu m c := ⟨h.1, h.2.1, by have := h.2.2; omega⟩
section
variable {α β : Type}
theorem Dr.ret {r : α} {c : Cur} {n m : Int} {P : α → Prop} (hc : Cu n c) (hm : n ≤ m) (hr : P r) : Dr (some (r, c)) m P := ⟨r, c, rfl, hr, hc.mono hm⟩
theorem Dr.bd {x : Option (α × Cur)} {g : α × Cur → Option (β × Cur)} {n m : Int} {P : α → Prop} {Q : β → Prop} (h : Dr x n P) (k : ∀ r c, P r → Cu n c → Dr (g (r, c)) m Q) : Dr (Am.bd x g) m Q := by
  obtain ⟨r, c, e, hr, hc⟩ := h
  obtain ⟨s, d, e2, hs, hd⟩ := k r c hr hc
  exact ⟨s, d, by rw [e]; exact e2, hs, hd⟩
theorem Dr.here {γ : Type} {x : Option γ} {v : γ} {g : γ → Option (β × Cur)} {m : Int} {Q : β → Prop} (e : x = some v) (k : Dr (g v) m Q) : Dr (Am.bd x g) m Q := by rw [e]; exact k
theorem Dr.br {b : Bool} {x y : Option (β × Cur)} {m : Int} {Q : β → Prop} (h1 : b = true → Dr x m Q) (h2 : b = false → Dr y m Q) : Dr (Am.br b x y) m Q := by
  cases b with
  | true => exact h1 rfl
  | false => exact h2 rfl
theorem Dr.pos {b : Bool} {x y : Option (β × Cur)} {m : Int} {Q : β → Prop} (hb : b = true) (h : Dr x m Q) : Dr (Am.br b x y) m Q := by rw [br_t hb]; exact h
theorem Dr.neg {b : Bool} {x y : Option (β × Cur)} {m : Int} {Q : β → Prop} (hb : b = false) (h : Dr y m Q) : Dr (Am.br b x y) m Q := by rw [br_f hb]; exact h
theorem Dr.gt {xs : List α} {j : Nat} {f : α → Option (β × Cur)} {m : Int} {Q : β → Prop} (hj : j < xs.length) (h : Dr (f xs[j]) m Q) : Dr (Am.gt xs j f) m Q := by rw [gt_at _ hj]; exact h
theorem Dr.imp {x : Option (α × Cur)} {n m : Int} {P Q : α → Prop} (h : Dr x n P) (hm : n ≤ m) (hp : ∀ r, P r → Q r) : Dr x m Q := by
  obtain ⟨r, c, e, hr, hc⟩ := h
  exact ⟨r, c, e, hp r hr, hc.mono hm⟩
end
theorem byteAnd (x : Int) : 0 ≤ IntKind.wrap .i64 (IntKind.wrap .u64 (((BitVec.toNat ((BitVec.ofInt 64 x) &&& (BitVec.ofInt 64 (255 : Int)))) : Nat) : Int)) ∧ IntKind.wrap .i64 (IntKind.wrap .u64 (((BitVec.toNat ((BitVec.ofInt 64 x) &&& (BitVec.ofInt 64 (255 : Int)))) : Nat) : Int)) ≤ 255 := by
  have h : (BitVec.toNat ((BitVec.ofInt 64 x) &&& (BitVec.ofInt 64 (255 : Int)))) ≤ 255 := by
    rw [BitVec.toNat_and]
    exact Nat.and_le_right
  have hu : ∀ n : Nat, n ≤ 255 → IntKind.wrap .u64 (n : Int) = (n : Int) := by
    intro n hn
    exact IntWalk.u64_in _ ⟨by omega, by omega⟩
  rw [hu _ h, wrap_ok (by omega) (by omega)]
  omega
theorem next_d {n : Int} {c : Cur} (h : Cu n c) (hn : n ≤ 1000000000) : Dr (spec_l1Cur_next.f c.1 c.2.1 c.2.2) (n + 1) fun r => 0 ≤ r ∧ r ≤ 255 := by
  obtain ⟨h1, h2, h3⟩ := h
  rw [spec_l1Cur_next.eq, wrap_ok (x := c.2.1 + 1) (by omega) (by omega)]
  refine Dr.br (fun e => ?_) fun e => ?_
  · have e := of_decide_eq_true e
    have hj : c.2.1.toNat < c.1.length := by omega
    have hb := h1 _ (List.getElem_mem hj)
    refine Dr.pos (decide_eq_true h2) (Dr.gt hj (Dr.pos (decide_eq_true (by omega)) ⟨_, _, rfl, ?_, h1, ?_, ?_⟩))
    · rw [wrap_ok (by omega) (by omega)]; exact hb
    · show 0 ≤ c.2.1 + 1; omega
    · show c.2.1 + 1 ≤ n + 1; omega
  · have e := of_decide_eq_false e
    refine Dr.neg (decide_eq_false (by omega)) ⟨_, _, rfl, byteAnd _, h1, ?_, ?_⟩
    · show 0 ≤ c.2.1 + 1; omega
    · show c.2.1 + 1 ≤ n + 1; omega
theorem tmod_b {x a : Int} (hx : 0 ≤ x) (ha : 1 ≤ a) : 0 ≤ Int.tmod x a ∧ Int.tmod x a < a := ⟨Int.tmod_nonneg _ hx, Int.tmod_lt_of_pos _ (by omega)⟩
theorem pick_d (a : Int) {n : Int} {c : Cur} (h : Cu n c) (hn : n ≤ 999999990) : Dr (spec_l1Cur_pick.f a c.1 c.2.1 c.2.2) (n + 2) fun r => 0 ≤ r ∧ (1 ≤ a → r < a) := by
  rw [spec_l1Cur_pick.eq]
  refine Dr.br (fun e => ?_) fun e => ?_
  · have e := of_decide_eq_true e
    exact ⟨0, c, rfl, ⟨by omega, by omega⟩, h.mono (by omega)⟩
  · have e := of_decide_eq_false e
    have ne : ¬ a = 0 := by omega
    refine Dr.bd (next_d h (by omega)) fun r c1 hr hc => ?_
    refine Dr.br (fun e2 => ?_) fun e2 => ?_
    · refine Dr.bd (next_d hc (by omega)) fun s c2 hs hc2 => ?_
      refine Dr.pos (by simpa using ne) ?_
      dsimp only
      refine ⟨_, _, rfl, ?_, hc2.mono (by omega)⟩
      rw [wrap_ok (x := r * 256) (by omega) (by omega), wrap_ok (by omega) (by omega)]
      have := tmod_b (x := r * 256 + s) (a := a) (by omega) (by omega)
      exact ⟨this.1, fun _ => this.2⟩
    · refine Dr.pos (by simpa using ne) ⟨_, _, rfl, ?_, hc.mono (by omega)⟩
      have := tmod_b (x := r) (a := a) (by omega) (by omega)
      exact ⟨this.1, fun _ => this.2⟩
theorem one_d (a : Int) {n : Int} {c : Cur} (h : Cu n c) (hn : n ≤ 999999990) : Dr (spec_l1Cur_one.f a c.1 c.2.1 c.2.2) (n + 2) fun _ => True := by
  rw [spec_l1Cur_one.eq]
  exact Dr.bd (pick_d a h hn) fun r c1 hr hc => Dr.ret hc (by omega) trivial
theorem of_d (l : List ByteArray) (hl : 1 ≤ l.length) {n : Int} {c : Cur} (h : Cu n c) (hn : n ≤ 999999990) : Dr (spec_l1Cur_of.f l c.1 c.2.1 c.2.2) (n + 2) fun r => r ∈ l := by
  rw [spec_l1Cur_of.eq]
  refine Dr.bd (pick_d _ h hn) fun r c1 hr hc => ?_
  have := hr.2 (by omega)
  refine Dr.pos (decide_eq_true hr.1) (Dr.gt (show (r : Int).toNat < l.length by omega) (Dr.ret hc (by omega) (List.getElem_mem _)))
theorem among_d (l : List Int) (hl : 1 ≤ l.length) {n : Int} {c : Cur} (h : Cu n c) (hn : n ≤ 999999990) : Dr (spec_l1Cur_among.f l c.1 c.2.1 c.2.2) (n + 2) fun r => r ∈ l := by
  rw [spec_l1Cur_among.eq]
  refine Dr.bd (pick_d _ h hn) fun r c1 hr hc => ?_
  have := hr.2 (by omega)
  refine Dr.pos (decide_eq_true hr.1) (Dr.gt (show (r : Int).toNat < l.length by omega) (Dr.ret hc (by omega) (List.getElem_mem _)))
theorem word_d {n : Int} {c : Cur} (h : Cu n c) (hn : n ≤ 999999980) : Dr (spec_l1Cur_word.f c.1 c.2.1 c.2.2) (n + 4) fun r => 0 ≤ r ∧ r ≤ 63 := by
  rw [spec_l1Cur_word.eq]
  refine Dr.bd (one_d 2 h (by omega)) fun r c1 hr hc => Dr.br (fun _ => ?_) fun _ => ?_
  · refine Dr.bd (among_d _ (by simp) hc (by omega)) fun r c2 hr hc2 => Dr.ret hc2 (by omega) ?_
    simp only [List.mem_cons, List.not_mem_nil, or_false] at hr
    omega
  · refine Dr.bd (pick_d 64 hc (by omega)) fun r c2 hr hc2 => Dr.ret hc2 (by omega) ?_
    have := hr.2 (by omega)
    omega
theorem dr_v {α : Type} {v : Option (α × Cur)} {n : Int} {P : α → Prop} {x : Option (α × Cur)} (h : Dr x n P) (vs : ∀ r, x = some r → v = some r) : Dr v n P := by
  obtain ⟨r, c, e, hr, hc⟩ := h
  exact ⟨r, c, vs _ e, hr, hc⟩
def Bytes (l : List Int) : Prop := ∀ x ∈ l, 0 ≤ x ∧ x ≤ 255
theorem Bytes.cu {l : List Int} (h : Bytes l) : Cu 0 (l, 0, 0) := ⟨h, by dsimp only; omega, by dsimp only; omega⟩
end Go.Proofs.Ytiofklineiioaaa.Am
end
section
/- Tiles that are told for nodes of a tree: the program's functions and the reference's answer alike. -/
namespace Go.Proofs.Ytiofklineiioaaa.Am
open Go
set_option linter.unusedVariables false
set_option linter.unusedSimpArgs false

/-- the tile that is asked for -/
def askP (e : List Nd) (i t : Int) : Option Tl := if (treeOk e && (inB i 0 ((e.length : Int) - 1) && inB t 0 12)) = true then tileM e i t else none
def ptP : Option Tl → List Int × Bool
  | some (p, _) => (p, true)
  | none => ([], false)
def inP : Option Tl → List Int × Bool
  | some (_, q) => (q, true)
  | none => ([], false)
def coP (e : List Nd) (i t : Int) : Option Tl → Int × Bool
  | some _ => (tCost e i t, true)
  | none => (0, false)
theorem ask_some {e : List Nd} {i t : Int} {p q : List Int} (h : askP e i t = some (p, q)) : treeOk e = true ∧ (0 ≤ i ∧ i < e.length) ∧ (0 ≤ t ∧ t ≤ 12) ∧ tileM e i t = some (p, q) := by
  unfold askP at h
  split at h
  · rename_i c
    simp only [Bool.and_eq_true, inB_iff] at c
    exact ⟨c.1, ⟨c.2.1.1, by omega⟩, c.2.2, h⟩
  · cases h
theorem tree_len {e : List Nd} (h : treeOk e = true) : 1 ≤ e.length ∧ e.length ≤ 24 := ⟨(treeOk_parts h).2.1, (treeOk_parts h).2.2.1⟩
theorem wlen {n : Nat} (h : n ≤ 1048576) : IntKind.wrap .i64 ((n : Int) - 1) = (n : Int) - 1 := wrap_ok (by omega) (by omega)
theorem toldTile_v (e : List Nd) (hl : e.length ≤ 1048576) (i t : Int) : impl_toldTile.v e i t = some (match askP e i t with | some (p, q) => ((p, (q, tCost e i t)), true) | none => (([], ([], 0)), false)) := by
  refine impl_toldTile.vs _ _ _ ?_
  unfold askP
  rw [isTree_v e hl, bd_s]
  cases h1 : treeOk e with
  | false => rw [brn_f]; rfl
  | true =>
    rw [brn_t, wlen hl, within_f, bd_s]
    cases h2 : inB i 0 ((e.length : Int) - 1) with
    | false => rw [brn_f]; rfl
    | true =>
      rw [brn_t, within_f, bd_s]
      cases h3 : inB t 0 12 with
      | false => rw [brn_f]; rfl
      | true =>
        obtain ⟨a0, a1⟩ := inB_iff.1 h2
        obtain ⟨b0, b1⟩ := inB_iff.1 h3
        obtain ⟨n, rfl⟩ : ∃ n : Nat, i = (n : Int) := ⟨i.toNat, by omega⟩
        have hn := (treeOk_parts h1).1
        rw [brn_t, tileAt_v hn (by omega) b0 b1, bd_s]
        simp only [Bool.and_self, if_true]
        cases hm : tileM e (n : Int) t with
        | none => rfl
        | some pq =>
          obtain ⟨p, q⟩ := pq
          have := tileI_eq hn (by omega) b0 b1 hm
          rw [this]; rfl
theorem tileParts_v (e : List Nd) (hl : e.length ≤ 1048576) (i t : Int) : impl_TileParts.v e i t = some (ptP (askP e i t)) := by
  refine impl_TileParts.vs _ _ _ ?_
  rw [toldTile_v e hl, bd_s]
  cases askP e i t with
  | none => rfl
  | some pq => rfl
theorem tileInner_v (e : List Nd) (hl : e.length ≤ 1048576) (i t : Int) : impl_TileInner.v e i t = some (inP (askP e i t)) := by
  refine impl_TileInner.vs _ _ _ ?_
  rw [toldTile_v e hl, bd_s]
  cases askP e i t with
  | none => rfl
  | some pq => rfl
theorem tileCost_v (e : List Nd) (hl : e.length ≤ 1048576) (i t : Int) : impl_TileCost.v e i t = some (coP e i t (askP e i t)) := by
  refine impl_TileCost.vs _ _ _ ?_
  rw [toldTile_v e hl, bd_s]
  cases askP e i t with
  | none => rfl
  | some pq => rfl
theorem cvTree_v (e : List Nd) (hl : e.length ≤ 1048576) : spec_cvTree.v e = some (treeOk e) := by
  refine spec_cvTree.vs _ ?_
  rw [exGood_v e hl, bd_s]
  unfold treeOk
  cases h : exprOk e with
  | false => rw [br_f rfl]; rfl
  | true => rw [br_t rfl, exTree_v e hl h, bd_s]; rfl
theorem cvAt_v (e : List Nd) (hl : e.length ≤ 1048576) (i t : Int) : spec_cvAt.v e i t = some (askP e i t).isSome := by
  refine spec_cvAt.vs _ _ _ ?_
  unfold askP
  rw [cvTree_v e hl, bd_s]
  cases h1 : treeOk e with
  | false => rw [brn_f]; rfl
  | true =>
    rw [brn_t, wlen hl, l1In_f, bd_s]
    cases h2 : inB i 0 ((e.length : Int) - 1) with
    | false => rw [brn_f]; rfl
    | true =>
      rw [brn_t, l1In_f, bd_s]
      cases h3 : inB t 0 12 with
      | false => rw [brn_f]; rfl
      | true =>
        obtain ⟨a0, a1⟩ := inB_iff.1 h2
        obtain ⟨n, rfl⟩ : ∃ n : Nat, i = (n : Int) := ⟨i.toNat, by omega⟩
        rw [brn_t, cvTile_v (treeOk_parts h1).1 (by omega) t, bd_s]
        simp only [Bool.and_self, if_true]
        cases tileM e (n : Int) t with
        | none => rfl
        | some pq => rfl
theorem cvTileAsk_v {e : List Nd} {i t : Int} {p q : List Int} (h : askP e i t = some (p, q)) : spec_cvTile.v e i t = some (p, q, true) := by
  obtain ⟨h1, ⟨a0, a1⟩, _, hm⟩ := ask_some h
  obtain ⟨n, rfl⟩ : ∃ n : Nat, i = (n : Int) := ⟨i.toNat, by omega⟩
  rw [cvTile_v (treeOk_parts h1).1 (by omega) t, hm]; rfl
theorem cdTileParts_v (e : List Nd) (hl : e.length ≤ 1048576) (i t : Int) : spec_TileParts.v e i t = some (ptP (askP e i t)) := by
  refine spec_TileParts.vs _ _ _ ?_
  rw [cvAt_v e hl, bd_s]
  cases h : askP e i t with
  | none => rfl
  | some pq =>
    obtain ⟨p, q⟩ := pq
    rw [show (some (p, q) : Option Tl).isSome = true from rfl, brn_t, cvTileAsk_v h, bd_s]; rfl
theorem cdTileInner_v (e : List Nd) (hl : e.length ≤ 1048576) (i t : Int) : spec_TileInner.v e i t = some (inP (askP e i t)) := by
  refine spec_TileInner.vs _ _ _ ?_
  rw [cvAt_v e hl, bd_s]
  cases h : askP e i t with
  | none => rfl
  | some pq =>
    obtain ⟨p, q⟩ := pq
    rw [show (some (p, q) : Option Tl).isSome = true from rfl, brn_t, cvTileAsk_v h, bd_s]; rfl
/-- all tiles for a node -/
def tilesP (e : List Nd) (i : Int) : List Int := ((List.range 13).map Int.ofNat).filter fun t => (tileM e i t).isSome
def tilesU (e : List Nd) (i : Int) (m : Nat) : List Int := ((List.range m).map Int.ofNat).filter fun t => (tileM e i t).isSome
theorem tilesU_succ (e : List Nd) (i : Int) (m : Nat) : tilesU e i (m + 1) = if (tileM e i (m : Int)).isSome = true then tilesU e i m ++ [(m : Int)] else tilesU e i m := by
  unfold tilesU
  rw [List.range_succ, List.map_append, List.filter_append]
  simp only [List.map_cons, List.map_nil]
  by_cases h : (tileM e i (m : Int)).isSome = true
  · rw [if_pos h, List.filter_cons_of_pos (by exact h)]; rfl
  · rw [if_neg h, List.filter_cons_of_neg (by exact h), List.filter_nil, List.append_nil]
theorem tilesU_len (e : List Nd) (i : Int) (m : Nat) : (tilesU e i m).length ≤ m := by
  unfold tilesU
  exact Nat.le_trans (List.length_filter_le _ _) (by simp)
theorem mem_tiles {e : List Nd} {i t : Int} : t ∈ tilesP e i ↔ (0 ≤ t ∧ t ≤ 12) ∧ (tileM e i t).isSome = true := by
  unfold tilesP
  rw [List.mem_filter, List.mem_map]
  constructor
  · rintro ⟨⟨n, hn, rfl⟩, h⟩
    rw [List.mem_range] at hn
    exact ⟨⟨by simp, by show (n : Int) ≤ 12; omega⟩, h⟩
  · rintro ⟨⟨h0, h1⟩, h⟩
    exact ⟨⟨t.toNat, List.mem_range.2 (by omega), by show ((t.toNat : Nat) : Int) = t; omega⟩, h⟩
end Go.Proofs.Ytiofklineiioaaa.Am
end
section
/- Expressions that are drawn off bytes: there is always an answer, of a bounded size. -/
namespace Go.Proofs.Ytiofklineiioaaa.Am
open Go
set_option linter.unusedVariables false
set_option linter.unusedSimpArgs false

theorem leaf_d {n : Int} {c : Cur} (h : Cu n c) (hn : n ≤ 999999900) : Dr (spec_l1Cur_leaf.f c.1 c.2.1 c.2.2) (n + 6) fun _ => True := by
  rw [spec_l1Cur_leaf.eq]
  refine Dr.bd (one_d 3 h (by omega)) fun r c1 hr hc => Dr.br (fun _ => ?_) fun _ => ?_
  · exact Dr.bd (word_d hc (by omega)) fun r c2 hr hc2 => Dr.ret hc2 (by omega) trivial
  · exact Dr.bd (pick_d 2 hc (by omega)) fun r c2 hr hc2 => Dr.ret hc2 (by omega) trivial
theorem put_d (x : Nd) (s : Bool) (o : List Nd) (ho : o.length ≤ 100000) : ∃ (i : Int) (o' : List Nd), spec_exBuilt_put.v x s o = some (i, (((), s), o')) ∧ o'.length ≤ o.length + 1 := by
  have room : ∀ y : Nd, decide (o.length + [y].length ≤ 35184372088832 / (40 + 1)) = true := fun y => decide_eq_true (by simp; omega)
  have key : ∀ (d i : Nat), i + d = o.length → ∃ (j : Int) (o' : List Nd), spec_exBuilt_put.v0 (o.length : Int) (i : Int) s o x.1 x.2.1 x.2.2.1 x.2.2.2 = some (j, (((), s), o')) ∧ o'.length ≤ o.length + 1 := by
    intro d
    induction d with
    | zero =>
      intro i hi
      exact ⟨IntKind.wrap .i64 ((((o ++ [x]).length : Nat) : Int) - 1), o ++ [x], spec_exBuilt_put.v0s _ _ _ _ _ _ _ _ (by rw [br_f (by simp; omega), br_t (room _)]), by simp⟩
    | succ d ih =>
      intro i hi
      have hlt : i < o.length := by omega
      obtain ⟨j, o', hv, hl⟩ := ih (i + 1) (by omega)
      cases hb : ((o[i].1 == x.1) && ((o[i].2.1 == x.2.1) && ((o[i].2.2.1 == x.2.2.1) && ((o[i].2.2.2 == x.2.2.2) && true)))) with
      | true => exact ⟨i, o, spec_exBuilt_put.v0s _ _ _ _ _ _ _ _ (by rw [br_t (by simpa using hlt), br_t (by simp), br_t (by simpa using hlt), Int.toNat_natCast, gt_at _ hlt, hb, br_t rfl]), by omega⟩
      | false => exact ⟨j, o', spec_exBuilt_put.v0s _ _ _ _ _ _ _ _ (by rw [br_t (by simpa using hlt), br_t (by simp), br_t (by simpa using hlt), Int.toNat_natCast, gt_at _ hlt, hb, br_f rfl, next_ok i _ hlt (by omega), hv]), hl⟩
  cases s with
  | true =>
    obtain ⟨j, o', hv, hl⟩ := key o.length 0 (by omega)
    exact ⟨j, o', spec_exBuilt_put.vs _ _ _ (by rw [br_t rfl]; exact hv), hl⟩
  | false => exact ⟨_, _, spec_exBuilt_put.vs _ _ _ (by rw [br_f rfl, br_t (room _)]), by simp⟩
/-- trees of a depth at most: so many bytes, so many nodes -/
def TreeD (F : Int → List Int → Int → Int → Bool → List Nd → Option (Int × (Cur × ((Unit × Bool) × List Nd)))) (d K : Int) (G : Nat) : Prop :=
  ∀ (n : Int) (c : Cur) (s : Bool) (o : List Nd), Cu n c → n + 4 * K + 100 ≤ 900000000 → o.length ≤ 50000 → ∃ (i : Int) (c' : Cur) (o' : List Nd), F d c.1 c.2.1 c.2.2 s o = some (i, (c', (((), s), o'))) ∧ Cu (n + K) c' ∧ o'.length ≤ o.length + G
theorem tree_zero : TreeD spec_l1Cur_tree.v 0 6 1 := by
  intro n c s o hc hn ho
  obtain ⟨x, c1, e1, _, hc1⟩ := leaf_d hc (by omega)
  obtain ⟨i, o1, e2, hl⟩ := put_d x s o (by omega)
  exact ⟨i, c1, o1, spec_l1Cur_tree.vs _ _ _ _ _ _ (by rw [br_t (show ((0 : Int) == 0) = true from rfl), e1, bd_s, e2, bd_s]), hc1, hl⟩
theorem tree_succ {d K : Int} {G : Nat} (h : TreeD spec_l1Cur_tree.v d K G) (hd : 0 ≤ d) (hd1 : d ≤ 100) (hK : 0 ≤ K) (hK1 : K ≤ 10000) (hG : G ≤ 10000) : TreeD spec_l1Cur_tree.v (d + 1) (2 * K + 20) (2 * G + 1) := by
  intro n c s o hc hn ho
  have w : IntKind.wrap .i64 ((d + 1) - 1) = d := by rw [wrap_ok (by omega) (by omega)]; omega
  have nz : ((d + 1 : Int) == 0) = false := by simp; omega
  have leaf : ∀ {m : Int} {c0 : Cur}, Cu m c0 → m ≤ n + 2 → ∃ (i : Int) (c' : Cur) (o' : List Nd), (bd (spec_l1Cur_leaf.f c0.1 c0.2.1 c0.2.2) fun r0 => (bd (spec_exBuilt_put.v r0.1 s o) fun r1 => (some (r1.1, (r0.2, (((), r1.2.1.2), r1.2.2)))))) = some (i, (c', (((), s), o'))) ∧ Cu (n + (2 * K + 20)) c' ∧ o'.length ≤ o.length + (2 * G + 1) := by
    intro m c0 h0 hm
    obtain ⟨x, c1, e1, _, hc1⟩ := leaf_d h0 (by omega)
    obtain ⟨i, o1, e2, hl⟩ := put_d x s o (by omega)
    exact ⟨i, c1, o1, by rw [e1, bd_s, e2, bd_s], hc1.mono (by omega), by omega⟩
  by_cases h16 : (o.length : Int) > 16
  · obtain ⟨i, c', o', e, h1, h2⟩ := leaf hc (by omega)
    exact ⟨i, c', o', spec_l1Cur_tree.vs _ _ _ _ _ _ (by rw [br_f nz, br_t (decide_eq_true h16)]; exact e), h1, h2⟩
  obtain ⟨b4, c4, e4, _, hc4⟩ := one_d 4 hc (by omega)
  cases b4 with
  | true =>
    obtain ⟨i, c', o', e, h1, h2⟩ := leaf hc4 (by omega)
    exact ⟨i, c', o', spec_l1Cur_tree.vs _ _ _ _ _ _ (by rw [br_f nz, br_f (decide_eq_false h16), e4, bd_s, br_t rfl]; exact e), h1, h2⟩
  | false =>
    obtain ⟨b7, c7, e7, _, hc7⟩ := one_d 5 hc4 (by omega)
    cases b7 with
    | true =>
      obtain ⟨s8, c8, e8, _, hc8⟩ := of_d [(⟨#[110, 111, 116]⟩ : ByteArray), (⟨#[110, 101, 103]⟩ : ByteArray)] (by simp) hc7 (by omega)
      obtain ⟨i9, c9, o9, e9, hc9, l9⟩ := h _ c8 s o hc8 (by omega) ho
      obtain ⟨i, o1, e10, hl⟩ := put_d (s8, (i9, (0, 0))) s o9 (by omega)
      refine ⟨i, c9, o1, spec_l1Cur_tree.vs _ _ _ _ _ _ ?_, hc9.mono (by omega), by omega⟩
      rw [br_f nz, br_f (decide_eq_false h16), e4, bd_s, br_f rfl, e7, bd_s, br_t rfl, e8, bd_s, w]
      dsimp only
      rw [e9, bd_s]
      dsimp only
      rw [e10, bd_s]
    | false =>
      obtain ⟨s12, c12, e12, _, hc12⟩ := of_d opsL (by decide) hc7 (by omega)
      obtain ⟨i13, c13, o13, e13, hc13, l13⟩ := h _ c12 s o hc12 (by omega) ho
      obtain ⟨i14, c14, o14, e14, hc14, l14⟩ := h _ c13 s o13 hc13 (by omega) (by omega)
      obtain ⟨i, o1, e15, hl⟩ := put_d (s12, (i13, (i14, 0))) s o14 (by omega)
      refine ⟨i, c14, o1, spec_l1Cur_tree.vs _ _ _ _ _ _ ?_, hc14.mono (by omega), by omega⟩
      rw [br_f nz, br_f (decide_eq_false h16), e4, bd_s, br_f rfl, e7, bd_s, br_f rfl, show spec_exOps.f = some opsL from spec_exOps.eq, bd_s, e12, bd_s, w]
      dsimp only
      rw [e13, bd_s]
      dsimp only
      rw [e14, bd_s]
      dsimp only
      rw [e15, bd_s]
theorem tree3 : TreeD spec_l1Cur_tree.v 3 188 15 := tree_succ (tree_succ (tree_succ tree_zero (by omega) (by omega) (by omega) (by omega) (by omega)) (by omega) (by omega) (by omega) (by omega) (by omega)) (by omega) (by omega) (by omega) (by omega) (by omega)
theorem expr_d {n : Int} {c : Cur} (h : Cu n c) (hn : n ≤ 800000000) : Dr (spec_l1Cur_expr.v 3 c.1 c.2.1 c.2.2) (n + 200) fun r => 1 ≤ r.length ∧ r.length ≤ 24 := by
  refine dr_v ?_ fun r => spec_l1Cur_expr.vs 3 c.1 c.2.1 c.2.2
  refine Dr.bd (one_d 2 h (by omega)) fun b c1 _ hc1 => ?_
  refine dr_v ?_ fun r => spec_l1Cur_expr.v0s _ _ _ _ _ _
  obtain ⟨i, c2, o, e, hc2, hl⟩ := tree3 _ c1 b [] hc1 (by omega) (by simp)
  have hl : o.length ≤ 15 := by simpa using hl
  rw [e, bd_s]
  dsimp only
  rw [exGood_v o (by omega), bd_s]
  cases hg : exprOk o with
  | false => rw [brn_f]; exact Dr.ret hc2 (by omega) ⟨by simp, by simp⟩
  | true =>
    obtain ⟨_, l1, l2⟩ := exprOk_parts hg
    rw [brn_t]; exact Dr.ret hc2 (by omega) ⟨l1, l2⟩
theorem anyExpr_d {n : Int} {c : Cur} (h : Cu n c) (hn : n ≤ 700000000) : Dr (spec_l1Cur_anyExpr.v 3 c.1 c.2.1 c.2.2) (n + 400) fun r => r.length ≤ 60 := by
  refine dr_v ?_ fun r => spec_l1Cur_anyExpr.vs 3 c.1 c.2.1 c.2.2
  refine Dr.bd (expr_d h (by omega)) fun e c0 he hc0 => Dr.bd (pick_d 16 hc0 (by omega)) fun r1 c1 hr1 hc1 => ?_
  have rm : ∀ (o : List Nd) (y : Nd), o.length ≤ 1000 → decide (o.length + [y].length ≤ 35184372088832 / (40 + 1)) = true := fun o y ho => decide_eq_true (by simp; omega)
  refine Dr.br (fun _ => ?_) fun _ => Dr.br (fun _ => ?_) fun _ => Dr.br (fun _ => ?_) fun _ => Dr.br (fun _ => ?_) fun _ => Dr.br (fun _ => ?_) fun _ => Dr.br (fun _ => ?_) fun _ => ?_
  · refine Dr.bd (pick_d _ hc1 (by omega)) fun r2 c2 hr2 hc2 => Dr.bd (pick_d _ hc2 (by omega)) fun r3 c3 hr3 hc3 => ?_
    have hlt : r2 < (e.length : Int) := hr2.2 (by dsimp only; omega)
    exact Dr.pos (decide_eq_true hr2.1) (Dr.pos (decide_eq_true hlt) (Dr.gt (show r2.toNat < e.length by omega) (Dr.ret hc3 (by omega) (by dsimp only; rw [List.length_set]; omega))))
  · refine Dr.bd (pick_d _ hc1 (by omega)) fun r2 c2 hr2 hc2 => Dr.bd (of_d _ (by simp) hc2 (by omega)) fun r3 c3 hr3 hc3 => ?_
    have hlt : r2 < (e.length : Int) := hr2.2 (by dsimp only; omega)
    exact Dr.pos (decide_eq_true hr2.1) (Dr.pos (decide_eq_true hlt) (Dr.gt (show r2.toNat < e.length by omega) (Dr.ret hc3 (by omega) (by dsimp only; rw [List.length_set]; omega))))
  · refine Dr.bd (pick_d _ hc1 (by omega)) fun r2 c2 hr2 hc2 => Dr.bd (among_d _ (by simp) hc2 (by omega)) fun r3 c3 hr3 hc3 => ?_
    have hlt : r2 < (e.length : Int) := hr2.2 (by dsimp only; omega)
    exact Dr.pos (decide_eq_true hr2.1) (Dr.pos (decide_eq_true hlt) (Dr.gt (show r2.toNat < e.length by omega) (Dr.ret hc3 (by omega) (by dsimp only; rw [List.length_set]; omega))))
  · exact Dr.pos (rm _ _ (by dsimp only; omega)) (Dr.ret hc1 (by omega) (by simp; omega))
  · have key : ∀ (d : Nat) (l : List Nd) (m : Int) (c : Cur), l.length + d = 26 → Cu m c → m + 2 * d ≤ n + 300 → Dr (spec_l1Cur_anyExpr.v0 c.1 c.2.1 c.2.2 l) (n + 400) fun r => r.length ≤ 60 := by
      intro d
      induction d with
      | zero =>
        intro l m c hl hc hm
        refine dr_v ?_ fun r => spec_l1Cur_anyExpr.v0s c.1 c.2.1 c.2.2 l
        refine Dr.bd (pick_d 2 hc (by omega)) fun r c1 hr hc1 => ?_
        have := hr.2 (by omega)
        refine Dr.neg (decide_eq_false (by rw [wrap_ok (by dsimp only; omega) (by dsimp only; omega)]; dsimp only; omega)) (Dr.ret hc1 (by omega) (by omega))
      | succ d ih =>
        intro l m c hl hc hm
        refine dr_v ?_ fun r => spec_l1Cur_anyExpr.v0s c.1 c.2.1 c.2.2 l
        refine Dr.bd (pick_d 2 hc (by omega)) fun r c1 hr hc1 => Dr.br (fun _ => ?_) fun _ => Dr.ret hc1 (by omega) (by omega)
        exact Dr.pos (rm _ _ (by omega)) (ih _ _ c1 (by simp; omega) hc1 (by omega))
    exact key 25 _ _ c1 (by simp) hc1 (by omega)
  · exact Dr.ret hc1 (by omega) (by simp)
  · exact Dr.ret hc1 (by omega) (by dsimp only; omega)
theorem tileTree_zero : TreeD spec_l1Cur_tileTree.v 0 6 1 := by
  intro n c s o hc hn ho
  obtain ⟨x, c1, e1, _, hc1⟩ := leaf_d hc (by omega)
  obtain ⟨i, o1, e2, hl⟩ := put_d x s o (by omega)
  exact ⟨i, c1, o1, spec_l1Cur_tileTree.vs _ _ _ _ _ _ (by rw [br_t (show ((0 : Int) == 0) = true from rfl), e1, bd_s, e2, bd_s]), hc1, hl⟩
theorem tileTree_succ {d K : Int} {G : Nat} (h : TreeD spec_l1Cur_tileTree.v d K G) (hd : 0 ≤ d) (hd1 : d ≤ 100) (hK : 0 ≤ K) (hK1 : K ≤ 10000) (hG : G ≤ 10000) : TreeD spec_l1Cur_tileTree.v (d + 1) (2 * K + 20) (2 * G + 2) := by
  intro n c s o hc hn ho
  have w : IntKind.wrap .i64 ((d + 1) - 1) = d := by rw [wrap_ok (by omega) (by omega)]; omega
  have nz : ((d + 1 : Int) == 0) = false := by simp; omega
  have leaf : ∀ {m : Int} {c0 : Cur}, Cu m c0 → m ≤ n + 2 → ∃ (i : Int) (c' : Cur) (o' : List Nd), (bd (spec_l1Cur_leaf.f c0.1 c0.2.1 c0.2.2) fun r0 => (bd (spec_exBuilt_put.v r0.1 s o) fun r1 => (some (r1.1, (r0.2, (((), r1.2.1.2), r1.2.2)))))) = some (i, (c', (((), s), o'))) ∧ Cu (n + (2 * K + 20)) c' ∧ o'.length ≤ o.length + (2 * G + 2) := by
    intro m c0 h0 hm
    obtain ⟨x, c1, e1, _, hc1⟩ := leaf_d h0 (by omega)
    obtain ⟨i, o1, e2, hl⟩ := put_d x s o (by omega)
    exact ⟨i, c1, o1, by rw [e1, bd_s, e2, bd_s], hc1.mono (by omega), by omega⟩
  by_cases h16 : (o.length : Int) > 14
  · obtain ⟨i, c', o', e, h1, h2⟩ := leaf hc (by omega)
    exact ⟨i, c', o', spec_l1Cur_tileTree.vs _ _ _ _ _ _ (by rw [br_f nz, br_t (decide_eq_true h16)]; exact e), h1, h2⟩
  obtain ⟨b4, c4, e4, _, hc4⟩ := one_d 5 hc (by omega)
  cases b4 with
  | true =>
    obtain ⟨i, c', o', e, h1, h2⟩ := leaf hc4 (by omega)
    exact ⟨i, c', o', spec_l1Cur_tileTree.vs _ _ _ _ _ _ (by rw [br_f nz, br_f (decide_eq_false h16), e4, bd_s, br_t rfl]; exact e), h1, h2⟩
  | false =>
    obtain ⟨s7, c7, e7, _, hc7⟩ := of_d [(⟨#[97, 100, 100]⟩ : ByteArray), (⟨#[97, 100, 100]⟩ : ByteArray), (⟨#[115, 117, 98]⟩ : ByteArray), (⟨#[97, 110, 100]⟩ : ByteArray), (⟨#[120, 111, 114]⟩ : ByteArray), (⟨#[115, 104, 108]⟩ : ByteArray), (⟨#[115, 104, 114]⟩ : ByteArray), (⟨#[109, 117, 108]⟩ : ByteArray), (⟨#[109, 117, 108]⟩ : ByteArray), (⟨#[111, 114]⟩ : ByteArray), (⟨#[108, 101, 115, 115]⟩ : ByteArray)] (by simp) hc4 (by omega)
    obtain ⟨b8, c8, e8, _, hc8⟩ := one_d 2 hc7 (by omega)
    obtain ⟨i9, c9, o9, e9, hc9, l9⟩ := h _ c8 s o hc8 (by omega) ho
    cases b8 with
    | true =>
      obtain ⟨v10, c10, e10, _, hc10⟩ := among_d [1, 2, 2, 3, 4, 5, 8, 16, 63] (by simp) hc9 (by omega)
      obtain ⟨i11, o11, e11, l11⟩ := put_d ((⟨#[99, 111, 110, 115, 116]⟩ : ByteArray), (0, (0, v10))) s o9 (by omega)
      obtain ⟨i12, o12, e12, l12⟩ := put_d (s7, (i9, (i11, 0))) s o11 (by omega)
      refine ⟨i12, c10, o12, spec_l1Cur_tileTree.vs _ _ _ _ _ _ ?_, hc10.mono (by omega), by omega⟩
      rw [br_f nz, br_f (decide_eq_false h16), e4, bd_s, br_f rfl, e7, bd_s, e8, bd_s, br_t rfl, w]
      dsimp only
      rw [e9, bd_s]
      dsimp only
      rw [e10, bd_s]
      dsimp only
      rw [e11, bd_s]
      dsimp only
      rw [e12, bd_s]
    | false =>
      obtain ⟨i14, c14, o14, e14, hc14, l14⟩ := h _ c9 s o9 hc9 (by omega) (by omega)
      obtain ⟨i, o1, e15, hl⟩ := put_d (s7, (i9, (i14, 0))) s o14 (by omega)
      refine ⟨i, c14, o1, spec_l1Cur_tileTree.vs _ _ _ _ _ _ ?_, hc14.mono (by omega), by omega⟩
      rw [br_f nz, br_f (decide_eq_false h16), e4, bd_s, br_f rfl, e7, bd_s, e8, bd_s, br_f rfl, w]
      dsimp only
      rw [e9, bd_s]
      dsimp only
      rw [e14, bd_s]
      dsimp only
      rw [e15, bd_s]
theorem tileTree4 : TreeD spec_l1Cur_tileTree.v 4 396 46 := tileTree_succ (tileTree_succ (tileTree_succ (tileTree_succ tileTree_zero (by omega) (by omega) (by omega) (by omega) (by omega)) (by omega) (by omega) (by omega) (by omega) (by omega)) (by omega) (by omega) (by omega) (by omega) (by omega)) (by omega) (by omega) (by omega) (by omega) (by omega)
theorem trees_d {n : Int} {c : Cur} (h : Cu n c) (hn : n ≤ 600000000) : Dr (spec_l1Cur_trees.v c.1 c.2.1 c.2.2) (n + 1000) fun r => r.length ≤ 60 := by
  refine dr_v ?_ fun r => spec_l1Cur_trees.vs c.1 c.2.1 c.2.2
  refine dr_v ?_ fun r => spec_l1Cur_trees.v0s _ _ _ _ _
  obtain ⟨i, c2, o, e, hc2, hl⟩ := tileTree4 _ c false [] h (by omega) (by simp)
  have hl : o.length ≤ 46 := by simpa using hl
  rw [e, bd_s]
  refine Dr.bd (one_d 8 hc2 (by omega)) fun b c3 _ hc3 => Dr.br (fun _ => ?_) fun _ => ?_
  · exact Dr.bd (anyExpr_d hc3 (by omega)) fun r c4 hr hc4 => Dr.ret hc4 (by omega) hr
  · refine Dr.here (exGood_v o (by omega)) (Dr.br (fun _ => ?_) fun _ => ?_)
    · exact Dr.bd (anyExpr_d hc3 (by omega)) fun r c4 hr hc4 => Dr.ret hc4 (by omega) hr
    · exact Dr.ret hc3 (by omega) (by dsimp only; omega)
end Go.Proofs.Ytiofklineiioaaa.Am
end
section
/- What laws over draws do: rows compared, sizes measured, numbers looked for. -/
namespace Go.Proofs.Ytiofklineiioaaa.Am
open Go
set_option linter.unusedVariables false
set_option linter.unusedSimpArgs false

/-! ### rows that are compared -/
def sameI (a b : List Int) : Bool := decide (a = b)
theorem sameI_cons (x y : Int) (a b : List Int) : sameI (x :: a) (y :: b) = (decide (x = y) && sameI a b) := by
  unfold sameI
  rw [Bool.eq_iff_iff]; simp
theorem pSame_v (a b : List Int) (ha : a.length ≤ 1000000) : laws_pSame.v a b = some (sameI a b) := by
  have key : ∀ (d i : Nat), i + d = a.length → a.length = b.length → laws_pSame.v0 a b (a.length : Int) (i : Int) = some (sameI (a.drop i) (b.drop i)) := by
    intro d
    induction d with
    | zero =>
      intro i hi hab
      refine laws_pSame.v0s _ _ _ _ ?_
      rw [br_f (by simp; omega), List.drop_eq_nil_of_le (by omega), List.drop_eq_nil_of_le (by omega)]; rfl
    | succ d ih =>
      intro i hi hab
      have hlt : i < a.length := by omega
      have hlb : i < b.length := by omega
      refine laws_pSame.v0s _ _ _ _ ?_
      rw [br_t (by simpa using hlt), br_t (by simp), Int.toNat_natCast, gt_at _ hlt, br_t (by simp), gt_at _ hlb, drop_at _ _ hlt, drop_at _ _ hlb]
      by_cases c : a[i] = b[i]
      · rw [br_f (by simpa using c), next_ok i _ hlt (by omega), ih (i + 1) (by omega) hab, sameI_cons, decide_eq_true c, Bool.true_and]
      · rw [br_t (by simpa using c), sameI_cons, decide_eq_false c, Bool.false_and]
  refine laws_pSame.vs _ _ ?_
  by_cases h : a.length = b.length
  · rw [br_f (by simp; omega)]
    have := key a.length 0 (by omega) h
    simpa using this
  · rw [br_t (by simp; omega)]
    unfold sameI; rw [Option.some_inj, eq_comm, decide_eq_false_iff_not]
    intro e; exact h (by rw [e])
theorem pSame_self (a : List Int) (ha : a.length ≤ 1000000) : laws_pSame.v a a = some true := by rw [pSame_v a a ha]; simp [sameI]
/-- draws of no size -/
theorem big_f (a b : List Int) : ∃ r, laws_big.f a b = some r ∧ (r = false → a.length ≤ 1048576 ∧ b.length ≤ 1048576) := by
  rw [laws_big.eq]
  by_cases h : (a.length : Int) > 1048576
  · exact ⟨true, br_t (decide_eq_true h), by simp⟩
  · refine ⟨_, br_f (decide_eq_false h), fun e => ?_⟩
    rw [wrap_ok (by omega) (by omega)] at e
    have := of_decide_eq_false e
    omega
theorem bytes_of {l : List Int} (q : Qd (.sl (.i .u8)) l) : Bytes l := fun x hx => by
  have h := q.2 x hx
  simp only [Qd, Lit.wf] at h
  simpa [IntKind.min, IntKind.max, IntKind.bits, IntKind.signed] using h
theorem pHas_v (l : List Int) (s : Int) (hl : l.length ≤ 1000000) : laws_pHas.v l s = some (decide (s ∈ l)) := by
  have key : ∀ (d i : Nat), i + d = l.length → laws_pHas.v0 s l (l.length : Int) (i : Int) = some (decide (s ∈ l.drop i)) := by
    intro d
    induction d with
    | zero =>
      intro i hi
      refine laws_pHas.v0s _ _ _ _ ?_
      rw [br_f (by simp; omega), List.drop_eq_nil_of_le (by omega)]; simp
    | succ d ih =>
      intro i hi
      have hlt : i < l.length := by omega
      refine laws_pHas.v0s _ _ _ _ ?_
      rw [br_t (by simpa using hlt), br_t (by simp), Int.toNat_natCast, gt_at _ hlt, drop_at _ _ hlt]
      by_cases c : l[i] = s
      · rw [br_t (by simpa using c), c]; simp
      · rw [br_f (by simpa using c), next_ok i _ hlt (by omega), ih (i + 1) (by omega)]
        have e : ¬ s = l[i] := fun q => c q.symm
        rw [Option.some_inj, decide_eq_decide, List.mem_cons]
        exact ⟨.inr, fun h => h.resolve_left e⟩
  exact laws_pHas.vs _ _ (by have := key l.length 0 (by omega); simpa using this)
end Go.Proofs.Ytiofklineiioaaa.Am
end
section
/- The law laws_FnTilesTold over the machine of values. -/
set_option linter.unusedVariables false
set_option maxRecDepth 100000
set_option maxHeartbeats 1000000
namespace Go.Proofs.Ytiofklineiioaaa.Am
open Go
noncomputable def laws_FnTilesTold.E : En := ⟨P0, M0, [(30, ⟨[6, 8, 11, 12, 16, 20, 21, 22, 27], [], [], []⟩), (38, ⟨[6, 8, 12, 16, 186, 187, 188], [], [], []⟩), (44, ⟨[6, 8, 16, 201, 202, 203], [], [], []⟩), (6, ⟨[1, 5, 6, 7, 8, 9, 10, 11], [], [], []⟩), (8, ⟨[1, 5, 6, 7, 8, 9, 10, 11, 12, 13, 14, 15], [], [], []⟩), (10, ⟨[1, 6, 8, 9, 10, 11, 12, 13, 14, 15, 16, 17, 18, 19], [], [], []⟩), (12, ⟨[1, 6, 8, 11, 12, 16], [], [], []⟩), (15, ⟨[6, 8, 11, 12, 16, 20, 21, 22, 23, 24, 25], [], [], []⟩), (17, ⟨[6, 8, 11, 12, 16, 20, 21, 22, 23], [], [], []⟩), (20, ⟨[6, 8, 11, 12, 16, 20, 21, 22, 26, 156], [], [], []⟩), (27, ⟨[6, 8, 11, 12, 16, 20, 21, 22, 26], [], [], []⟩), (35, ⟨[6, 8, 11, 12, 16], [], [], []⟩), (37, ⟨[6, 8, 12, 16], [], [], []⟩)], ntOf P0 5, [6, 8, 10, 12, 15, 17, 20, 27, 35, 37]⟩
noncomputable def laws_FnTilesTold.g : St → Option Bool := fun st => fin0 (cV false .b) (finA P0 (resOf P0 5) 0 [.id] [] st)
noncomputable def laws_FnTilesTold.T (k : Nat) : Table := tabs [(6, (laws_big.tab)), (39, (spec_DrawTileParts.tab k)), (40, (impl_TileParts.tab k)), (41, (spec_TileParts.tab k)), (42, (impl_TileInner.tab k)), (43, (spec_TileInner.tab k)), (44, (impl_TileCost.tab k)), (45, (spec_TileCost.tab k)), (46, (laws_pSame.tab k)), (47, (spec_DrawTilesAt.tab k)), (48, (impl_TilesAt.tab k)), (49, (spec_TilesAt.tab k)), (50, (laws_pHas.tab k))]
noncomputable def laws_FnTilesTold.f (k : Nat) (a0 : (List Int)) (a1 : (List Int)) : Option Bool := go laws_FnTilesTold.E laws_FnTilesTold.T laws_FnTilesTold.g k [.code (bodyOf P0 5)] (initA [mkP false (.sl (.i .u8)) a0, mkP false (.sl (.i .u8)) a1] [])
noncomputable def laws_FnTilesTold.tab (k : Nat) : List AV → List AO → Option Pack := tabI [.v false (.sl (.i .u8)), .v false (.sl (.i .u8))] [] (enc0 (cV false .b)) (laws_FnTilesTold.f k)
noncomputable def laws_FnTilesTold.l0 (k : Nat) (x0 : List Int) (x1 : List (ByteArray × (Int × (Int × Int)))) (x2 : Int) (x3 : Int) (x4 : List Int) (x5 : Bool) (x6 : List Int) (x7 : Bool) := go laws_FnTilesTold.E laws_FnTilesTold.T laws_FnTilesTold.g k (headOf P0 5 0 [6, 8, 10, 12, 15, 17, 20, 27, 35, 37]) ⟨[(1, (.lst (.i .u8) x0)), (5, (.lst (.pr .s (.pr (.i .i64) (.pr (.i .i64) (.i .i64)))) x1)), (6, (.i .i64 x2)), (7, (.i .i64 x3)), (8, (.lst (.i .i64) x4)), (9, (.b x5)), (10, (.lst (.i .i64) x6)), (11, (.b x7))], []⟩
noncomputable def laws_FnTilesTold.l1 (k : Nat) (x0 : List Int) (x1 : List (ByteArray × (Int × (Int × Int)))) (x2 : Int) (x3 : Int) (x4 : List Int) (x5 : Bool) (x6 : List Int) (x7 : Bool) (x8 : List Int) (x9 : Bool) (x10 : List Int) (x11 : Bool) := go laws_FnTilesTold.E laws_FnTilesTold.T laws_FnTilesTold.g k (headOf P0 5 1 [6, 8, 10, 12, 15, 17, 20, 27, 35, 37]) ⟨[(1, (.lst (.i .u8) x0)), (5, (.lst (.pr .s (.pr (.i .i64) (.pr (.i .i64) (.i .i64)))) x1)), (6, (.i .i64 x2)), (7, (.i .i64 x3)), (8, (.lst (.i .i64) x4)), (9, (.b x5)), (10, (.lst (.i .i64) x6)), (11, (.b x7)), (12, (.lst (.i .i64) x8)), (13, (.b x9)), (14, (.lst (.i .i64) x10)), (15, (.b x11))], []⟩
noncomputable def laws_FnTilesTold.l2 (k : Nat) (x0 : List Int) (x1 : Int) (x2 : List Int) (x3 : Bool) (x4 : List Int) (x5 : Bool) (x6 : List Int) (x7 : Bool) (x8 : List Int) (x9 : Bool) (x10 : Int) (x11 : Bool) (x12 : Int) (x13 : Bool) := go laws_FnTilesTold.E laws_FnTilesTold.T laws_FnTilesTold.g k (headOf P0 5 2 [6, 8, 10, 12, 15, 17, 20, 27, 35, 37]) ⟨[(1, (.lst (.i .u8) x0)), (6, (.i .i64 x1)), (8, (.lst (.i .i64) x2)), (9, (.b x3)), (10, (.lst (.i .i64) x4)), (11, (.b x5)), (12, (.lst (.i .i64) x6)), (13, (.b x7)), (14, (.lst (.i .i64) x8)), (15, (.b x9)), (16, (.i .i64 x10)), (17, (.b x11)), (18, (.i .i64 x12)), (19, (.b x13))], []⟩
noncomputable def laws_FnTilesTold.l3 (k : Nat) (x0 : List Int) (x1 : Int) (x2 : List Int) (x3 : Bool) (x4 : List Int) (x5 : Int) := go laws_FnTilesTold.E laws_FnTilesTold.T laws_FnTilesTold.g k (headOf P0 5 3 [6, 8, 10, 12, 15, 17, 20, 27, 35, 37]) ⟨[(1, (.lst (.i .u8) x0)), (6, (.i .i64 x1)), (8, (.lst (.i .i64) x2)), (11, (.b x3)), (12, (.lst (.i .i64) x4)), (16, (.i .i64 x5))], []⟩
noncomputable def laws_FnTilesTold.l4 (k : Nat) (x0 : Int) (x1 : List Int) (x2 : Bool) (x3 : List Int) (x4 : Int) (x5 : List (ByteArray × (Int × (Int × Int)))) (x6 : Int) (x7 : List Int) (x8 : Bool) (x9 : List Int) (x10 : Bool) := go laws_FnTilesTold.E laws_FnTilesTold.T laws_FnTilesTold.g k (headOf P0 5 4 [6, 8, 10, 12, 15, 17, 20, 27, 35, 37]) ⟨[(6, (.i .i64 x0)), (8, (.lst (.i .i64) x1)), (11, (.b x2)), (12, (.lst (.i .i64) x3)), (16, (.i .i64 x4)), (20, (.lst (.pr .s (.pr (.i .i64) (.pr (.i .i64) (.i .i64)))) x5)), (21, (.i .i64 x6)), (22, (.lst (.i .i64) x7)), (23, (.b x8)), (24, (.lst (.i .i64) x9)), (25, (.b x10))], []⟩
noncomputable def laws_FnTilesTold.l5 (k : Nat) (x0 : Int) (x1 : List Int) (x2 : Bool) (x3 : List Int) (x4 : Int) (x5 : List (ByteArray × (Int × (Int × Int)))) (x6 : Int) (x7 : List Int) (x8 : Bool) := go laws_FnTilesTold.E laws_FnTilesTold.T laws_FnTilesTold.g k (headOf P0 5 5 [6, 8, 10, 12, 15, 17, 20, 27, 35, 37]) ⟨[(6, (.i .i64 x0)), (8, (.lst (.i .i64) x1)), (11, (.b x2)), (12, (.lst (.i .i64) x3)), (16, (.i .i64 x4)), (20, (.lst (.pr .s (.pr (.i .i64) (.pr (.i .i64) (.i .i64)))) x5)), (21, (.i .i64 x6)), (22, (.lst (.i .i64) x7)), (23, (.b x8))], []⟩
noncomputable def laws_FnTilesTold.l6 (k : Nat) (x0 : Int) (x1 : List Int) (x2 : Bool) (x3 : List Int) (x4 : Int) (x5 : List (ByteArray × (Int × (Int × Int)))) (x6 : Int) (x7 : List Int) (x8 : Int) (x9 : ByteArray) := go laws_FnTilesTold.E laws_FnTilesTold.T laws_FnTilesTold.g k (headOf P0 5 6 [6, 8, 10, 12, 15, 17, 20, 27, 35, 37]) ⟨[(6, (.i .i64 x0)), (8, (.lst (.i .i64) x1)), (11, (.b x2)), (12, (.lst (.i .i64) x3)), (16, (.i .i64 x4)), (20, (.lst (.pr .s (.pr (.i .i64) (.pr (.i .i64) (.i .i64)))) x5)), (21, (.i .i64 x6)), (22, (.lst (.i .i64) x7)), (26, (.i .i64 x8)), (156, (.s x9))], []⟩
noncomputable def laws_FnTilesTold.l9 (k : Nat) (x0 : Int) (x1 : List Int) (x2 : Bool) (x3 : List Int) (x4 : Int) := go laws_FnTilesTold.E laws_FnTilesTold.T laws_FnTilesTold.g k (headOf P0 5 9 [6, 8, 10, 12, 15, 17, 20, 27, 35, 37]) ⟨[(6, (.i .i64 x0)), (8, (.lst (.i .i64) x1)), (11, (.b x2)), (12, (.lst (.i .i64) x3)), (16, (.i .i64 x4))], []⟩
noncomputable def laws_FnTilesTold.l7 (k : Nat) (x0 : Int) (x1 : List Int) (x2 : Bool) (x3 : List Int) (x4 : Int) (x5 : List (ByteArray × (Int × (Int × Int)))) (x6 : Int) (x7 : List Int) (x8 : Int) := go laws_FnTilesTold.E laws_FnTilesTold.T laws_FnTilesTold.g k (headOf P0 5 7 [6, 8, 10, 12, 15, 17, 20, 27, 35, 37]) ⟨[(6, (.i .i64 x0)), (8, (.lst (.i .i64) x1)), (11, (.b x2)), (12, (.lst (.i .i64) x3)), (16, (.i .i64 x4)), (20, (.lst (.pr .s (.pr (.i .i64) (.pr (.i .i64) (.i .i64)))) x5)), (21, (.i .i64 x6)), (22, (.lst (.i .i64) x7)), (26, (.i .i64 x8))], []⟩
noncomputable def laws_FnTilesTold.l10 (k : Nat) (x0 : Int) (x1 : List Int) (x2 : List Int) (x3 : Int) := go laws_FnTilesTold.E laws_FnTilesTold.T laws_FnTilesTold.g k (headOf P0 5 10 [6, 8, 10, 12, 15, 17, 20, 27, 35, 37]) ⟨[(6, (.i .i64 x0)), (8, (.lst (.i .i64) x1)), (12, (.lst (.i .i64) x2)), (16, (.i .i64 x3))], []⟩
noncomputable def laws_FnTilesTold.l8 (k : Nat) (x0 : Int) (x1 : List Int) (x2 : Bool) (x3 : List Int) (x4 : Int) (x5 : List (ByteArray × (Int × (Int × Int)))) (x6 : Int) (x7 : List Int) (x8 : Int) := go laws_FnTilesTold.E laws_FnTilesTold.T laws_FnTilesTold.g k (headOf P0 5 8 [6, 8, 10, 12, 15, 17, 20, 27, 35, 37]) ⟨[(6, (.i .i64 x0)), (8, (.lst (.i .i64) x1)), (11, (.b x2)), (12, (.lst (.i .i64) x3)), (16, (.i .i64 x4)), (20, (.lst (.pr .s (.pr (.i .i64) (.pr (.i .i64) (.i .i64)))) x5)), (21, (.i .i64 x6)), (22, (.lst (.i .i64) x7)), (27, (.i .i64 x8))], []⟩
noncomputable def laws_FnTilesTold.l11 (k : Nat) (x0 : Int) (x1 : List Int) (x2 : List Int) (x3 : Int) (x4 : List Int) (x5 : Int) (x6 : Int) := go laws_FnTilesTold.E laws_FnTilesTold.T laws_FnTilesTold.g k (headOf P0 5 11 [6, 8, 10, 12, 15, 17, 20, 27, 35, 37]) ⟨[(6, (.i .i64 x0)), (8, (.lst (.i .i64) x1)), (12, (.lst (.i .i64) x2)), (16, (.i .i64 x3)), (186, (.lst (.i .i64) x4)), (187, (.i .i64 x5)), (188, (.i .i64 x6))], []⟩
noncomputable def laws_FnTilesTold.l12 (k : Nat) (x0 : Int) (x1 : List Int) (x2 : Int) (x3 : List Int) (x4 : Int) (x5 : Int) := go laws_FnTilesTold.E laws_FnTilesTold.T laws_FnTilesTold.g k (headOf P0 5 12 [6, 8, 10, 12, 15, 17, 20, 27, 35, 37]) ⟨[(6, (.i .i64 x0)), (8, (.lst (.i .i64) x1)), (16, (.i .i64 x2)), (201, (.lst (.i .i64) x3)), (202, (.i .i64 x4)), (203, (.i .i64 x5))], []⟩
theorem laws_FnTilesTold.eq (k : Nat) (a0 : (List Int)) (a1 : (List Int)) : laws_FnTilesTold.f (k + 1) a0 a1 = (bd (laws_big.f a0 a1) fun r0 => (br r0 (some true) (bd (spec_DrawTileParts.f k a0) fun r1 => (bd (impl_TileParts.f k r1.1 r1.2.1 r1.2.2) fun r2 => (bd (spec_TileParts.f k r1.1 r1.2.1 r1.2.2) fun r3 => (laws_FnTilesTold.l0 k a1 r1.1 r1.2.1 r1.2.2 r2.1 r2.2 r3.1 r3.2)))))) := by kernel_rfl
theorem laws_FnTilesTold.l0_eq (k : Nat) (x0 : List Int) (x1 : List (ByteArray × (Int × (Int × Int)))) (x2 : Int) (x3 : Int) (x4 : List Int) (x5 : Bool) (x6 : List Int) (x7 : Bool) : laws_FnTilesTold.l0 (k + 1) x0 x1 x2 x3 x4 x5 x6 x7 = (bd (impl_TileInner.f k x1 x2 x3) fun r4 => (bd (spec_TileInner.f k x1 x2 x3) fun r5 => (laws_FnTilesTold.l1 k x0 x1 x2 x3 x4 x5 x6 x7 r4.1 r4.2 r5.1 r5.2))) := by kernel_rfl
theorem laws_FnTilesTold.l1_eq (k : Nat) (x0 : List Int) (x1 : List (ByteArray × (Int × (Int × Int)))) (x2 : Int) (x3 : Int) (x4 : List Int) (x5 : Bool) (x6 : List Int) (x7 : Bool) (x8 : List Int) (x9 : Bool) (x10 : List Int) (x11 : Bool) : laws_FnTilesTold.l1 (k + 1) x0 x1 x2 x3 x4 x5 x6 x7 x8 x9 x10 x11 = (bd (impl_TileCost.f k x1 x2 x3) fun r6 => (bd (spec_TileCost.f k x1 x2 x3) fun r7 => (laws_FnTilesTold.l2 k x0 x2 x4 x5 x6 x7 x8 x9 x10 x11 r6.1 r6.2 r7.1 r7.2))) := by kernel_rfl
theorem laws_FnTilesTold.l2_eq (k : Nat) (x0 : List Int) (x1 : Int) (x2 : List Int) (x3 : Bool) (x4 : List Int) (x5 : Bool) (x6 : List Int) (x7 : Bool) (x8 : List Int) (x9 : Bool) (x10 : Int) (x11 : Bool) (x12 : Int) (x13 : Bool) : laws_FnTilesTold.l2 (k + 1) x0 x1 x2 x3 x4 x5 x6 x7 x8 x9 x10 x11 x12 x13 = (br (Bool.not (x3 == x5)) (some false) (bd (laws_pSame.f k x2 x4) fun r8 => (br (Bool.not r8) (some false) (br (Bool.not (x7 == x9)) (some false) (bd (laws_pSame.f k x6 x8) fun r9 => (br (Bool.not r9) (some false) (br (Bool.not (x11 == x13)) (some false) (br (x10 != x12) (some false) (br (Bool.not (x7 == x3)) (some false) (br (Bool.not (x11 == x3)) (some false) (laws_FnTilesTold.l3 k x0 x1 x2 x5 x6 x10))))))))))) := by kernel_rfl
theorem laws_FnTilesTold.l3_eq (k : Nat) (x0 : List Int) (x1 : Int) (x2 : List Int) (x3 : Bool) (x4 : List Int) (x5 : Int) : laws_FnTilesTold.l3 (k + 1) x0 x1 x2 x3 x4 x5 = (bd (spec_DrawTilesAt.f k x0) fun r10 => (bd (impl_TilesAt.f k r10.1 r10.2) fun r11 => (bd (spec_TilesAt.f k r10.1 r10.2) fun r12 => (laws_FnTilesTold.l4 k x1 x2 x3 x4 x5 r10.1 r10.2 r11.1 r11.2 r12.1 r12.2)))) := by kernel_rfl
theorem laws_FnTilesTold.l4_eq (k : Nat) (x0 : Int) (x1 : List Int) (x2 : Bool) (x3 : List Int) (x4 : Int) (x5 : List (ByteArray × (Int × (Int × Int)))) (x6 : Int) (x7 : List Int) (x8 : Bool) (x9 : List Int) (x10 : Bool) : laws_FnTilesTold.l4 (k + 1) x0 x1 x2 x3 x4 x5 x6 x7 x8 x9 x10 = (br (Bool.not (x8 == x10)) (some false) (bd (laws_pSame.f k x7 x9) fun r13 => (br (Bool.not r13) (some false) (laws_FnTilesTold.l5 k x0 x1 x2 x3 x4 x5 x6 x7 x8)))) := by kernel_rfl
theorem laws_FnTilesTold.l5_eq (k : Nat) (x0 : Int) (x1 : List Int) (x2 : Bool) (x3 : List Int) (x4 : Int) (x5 : List (ByteArray × (Int × (Int × Int)))) (x6 : Int) (x7 : List Int) (x8 : Bool) : laws_FnTilesTold.l5 (k + 1) x0 x1 x2 x3 x4 x5 x6 x7 x8 = (br x8 (br (decide ((0 : Int) ≤ x6)) (gt x5 (Int.toNat x6) fun r14 => (laws_FnTilesTold.l6 k x0 x1 x2 x3 x4 x5 x6 x7 (3 : Int) r14.1)) none) (laws_FnTilesTold.l9 k x0 x1 x2 x3 x4)) := by kernel_rfl
theorem laws_FnTilesTold.l6_eq (k : Nat) (x0 : Int) (x1 : List Int) (x2 : Bool) (x3 : List Int) (x4 : Int) (x5 : List (ByteArray × (Int × (Int × Int)))) (x6 : Int) (x7 : List Int) (x8 : Int) (x9 : ByteArray) : laws_FnTilesTold.l6 (k + 1) x0 x1 x2 x3 x4 x5 x6 x7 x8 x9 = (br (seq x9 (⟨#[105, 110]⟩ : ByteArray)) (laws_FnTilesTold.l7 k x0 x1 x2 x3 x4 x5 x6 x7 (0 : Int)) (br (seq x9 (⟨#[99, 111, 110, 115, 116]⟩ : ByteArray)) (laws_FnTilesTold.l7 k x0 x1 x2 x3 x4 x5 x6 x7 (1 : Int)) (br (seq x9 (⟨#[110, 111, 116]⟩ : ByteArray)) (br (seq x9 (⟨#[110, 111, 116]⟩ : ByteArray)) (laws_FnTilesTold.l7 k x0 x1 x2 x3 x4 x5 x6 x7 (2 : Int)) (laws_FnTilesTold.l7 k x0 x1 x2 x3 x4 x5 x6 x7 x8)) (br (seq x9 (⟨#[110, 101, 103]⟩ : ByteArray)) (laws_FnTilesTold.l7 k x0 x1 x2 x3 x4 x5 x6 x7 (2 : Int)) (laws_FnTilesTold.l7 k x0 x1 x2 x3 x4 x5 x6 x7 x8))))) := by kernel_rfl
theorem laws_FnTilesTold.l9_eq (k : Nat) (x0 : Int) (x1 : List Int) (x2 : Bool) (x3 : List Int) (x4 : Int) : laws_FnTilesTold.l9 (k + 1) x0 x1 x2 x3 x4 = (br (Bool.not x2) (some true) (laws_FnTilesTold.l10 k x0 x1 x3 x4)) := by kernel_rfl
theorem laws_FnTilesTold.l7_eq (k : Nat) (x0 : Int) (x1 : List Int) (x2 : Bool) (x3 : List Int) (x4 : Int) (x5 : List (ByteArray × (Int × (Int × Int)))) (x6 : Int) (x7 : List Int) (x8 : Int) : laws_FnTilesTold.l7 (k + 1) x0 x1 x2 x3 x4 x5 x6 x7 x8 = (bd (laws_pHas.f k x7 x8) fun r15 => (br (Bool.not r15) (some false) (laws_FnTilesTold.l8 k x0 x1 x2 x3 x4 x5 x6 x7 (0 : Int)))) := by kernel_rfl
theorem laws_FnTilesTold.l10_eq (k : Nat) (x0 : Int) (x1 : List Int) (x2 : List Int) (x3 : Int) : laws_FnTilesTold.l10 (k + 1) x0 x1 x2 x3 = (laws_FnTilesTold.l11 k x0 x1 x2 x3 x1 (((List.length x1) : Nat) : Int) (0 : Int)) := by kernel_rfl
theorem laws_FnTilesTold.l8_eq (k : Nat) (x0 : Int) (x1 : List Int) (x2 : Bool) (x3 : List Int) (x4 : Int) (x5 : List (ByteArray × (Int × (Int × Int)))) (x6 : Int) (x7 : List Int) (x8 : Int) : laws_FnTilesTold.l8 (k + 1) x0 x1 x2 x3 x4 x5 x6 x7 x8 = (br (decide (x8 < (13 : Int))) (bd (impl_TileParts.f k x5 x6 x8) fun r16 => (bd (laws_pHas.f k x7 x8) fun r17 => (br (Bool.not (r16.2 == r17)) (some false) (laws_FnTilesTold.l8 k x0 x1 x2 x3 x4 x5 x6 x7 (Go.IntKind.wrap .i64 (x8 + (1 : Int))))))) (laws_FnTilesTold.l9 k x0 x1 x2 x3 x4)) := by kernel_rfl
theorem laws_FnTilesTold.l11_eq (k : Nat) (x0 : Int) (x1 : List Int) (x2 : List Int) (x3 : Int) (x4 : List Int) (x5 : Int) (x6 : Int) : laws_FnTilesTold.l11 (k + 1) x0 x1 x2 x3 x4 x5 x6 = (br (decide (x6 < x5)) (br (decide ((0 : Int) ≤ x6)) (gt x4 (Int.toNat x6) fun r18 => (br (decide (r18 ≥ x0)) (some false) (bd (laws_pHas.f k x2 r18) fun r19 => (br r19 (some false) (laws_FnTilesTold.l11 k x0 x1 x2 x3 x4 x5 (Go.IntKind.wrap .i64 (x6 + (1 : Int)))))))) none) (laws_FnTilesTold.l12 k x0 x1 x3 x2 (((List.length x2) : Nat) : Int) (0 : Int))) := by kernel_rfl
theorem laws_FnTilesTold.l12_eq (k : Nat) (x0 : Int) (x1 : List Int) (x2 : Int) (x3 : List Int) (x4 : Int) (x5 : Int) : laws_FnTilesTold.l12 (k + 1) x0 x1 x2 x3 x4 x5 = (br (decide (x5 < x4)) (br (decide ((0 : Int) ≤ x5)) (gt x3 (Int.toNat x5) fun r20 => (br (decide (r20 ≥ x0)) (some false) (laws_FnTilesTold.l12 k x0 x1 x2 x3 x4 (Go.IntKind.wrap .i64 (x5 + (1 : Int)))))) none) (br (decide ((((List.length x1) : Nat) : Int) ≤ (2 : Int))) (some (decide (x2 ≤ (4 : Int)))) (some false))) := by kernel_rfl
theorem laws_FnTilesTold.b : fnB P0 5 (ntOf P0 5) = true := by kernel_rfl
theorem laws_FnTilesTold.Tok (k : Nat) : TS P0 (laws_FnTilesTold.T k) := (tabs_cons (laws_big.tok) (tabs_cons (spec_DrawTileParts.tok k) (tabs_cons (impl_TileParts.tok k) (tabs_cons (spec_TileParts.tok k) (tabs_cons (impl_TileInner.tok k) (tabs_cons (spec_TileInner.tok k) (tabs_cons (impl_TileCost.tok k) (tabs_cons (spec_TileCost.tok k) (tabs_cons (laws_pSame.tok k) (tabs_cons (spec_DrawTilesAt.tok k) (tabs_cons (impl_TilesAt.tok k) (tabs_cons (spec_TilesAt.tok k) (tabs_cons (laws_pHas.tok k) tabs_nil)))))))))))))
theorem laws_FnTilesTold.calls (k : Nat) (a0 : (List Int)) (a1 : (List Int)) {r : Bool} (h : laws_FnTilesTold.f k a0 a1 = some r) : ACalls P0 5 [mkP false (.sl (.i .u8)) a0, mkP false (.sl (.i .u8)) a1] [] (enc0 (cV false .b) r) := fn0 (E := laws_FnTilesTold.E) mix (T := laws_FnTilesTold.T) laws_FnTilesTold.Tok (f := 5) laws_FnTilesTold.b (cd := (cV false .b)) (cV_ok _ _) (cvs := [.id]) h
noncomputable def laws_FnTilesTold.v (a0 : (List Int)) (a1 : (List Int)) := lim fun _ k => laws_FnTilesTold.f k a0 a1
noncomputable def laws_FnTilesTold.v0 (x0 : List Int) (x1 : List (ByteArray × (Int × (Int × Int)))) (x2 : Int) (x3 : Int) (x4 : List Int) (x5 : Bool) (x6 : List Int) (x7 : Bool) := lim fun _ k => laws_FnTilesTold.l0 k x0 x1 x2 x3 x4 x5 x6 x7
noncomputable def laws_FnTilesTold.v1 (x0 : List Int) (x1 : List (ByteArray × (Int × (Int × Int)))) (x2 : Int) (x3 : Int) (x4 : List Int) (x5 : Bool) (x6 : List Int) (x7 : Bool) (x8 : List Int) (x9 : Bool) (x10 : List Int) (x11 : Bool) := lim fun _ k => laws_FnTilesTold.l1 k x0 x1 x2 x3 x4 x5 x6 x7 x8 x9 x10 x11
noncomputable def laws_FnTilesTold.v2 (x0 : List Int) (x1 : Int) (x2 : List Int) (x3 : Bool) (x4 : List Int) (x5 : Bool) (x6 : List Int) (x7 : Bool) (x8 : List Int) (x9 : Bool) (x10 : Int) (x11 : Bool) (x12 : Int) (x13 : Bool) := lim fun _ k => laws_FnTilesTold.l2 k x0 x1 x2 x3 x4 x5 x6 x7 x8 x9 x10 x11 x12 x13
noncomputable def laws_FnTilesTold.v3 (x0 : List Int) (x1 : Int) (x2 : List Int) (x3 : Bool) (x4 : List Int) (x5 : Int) := lim fun _ k => laws_FnTilesTold.l3 k x0 x1 x2 x3 x4 x5
noncomputable def laws_FnTilesTold.v4 (x0 : Int) (x1 : List Int) (x2 : Bool) (x3 : List Int) (x4 : Int) (x5 : List (ByteArray × (Int × (Int × Int)))) (x6 : Int) (x7 : List Int) (x8 : Bool) (x9 : List Int) (x10 : Bool) := lim fun _ k => laws_FnTilesTold.l4 k x0 x1 x2 x3 x4 x5 x6 x7 x8 x9 x10
noncomputable def laws_FnTilesTold.v5 (x0 : Int) (x1 : List Int) (x2 : Bool) (x3 : List Int) (x4 : Int) (x5 : List (ByteArray × (Int × (Int × Int)))) (x6 : Int) (x7 : List Int) (x8 : Bool) := lim fun _ k => laws_FnTilesTold.l5 k x0 x1 x2 x3 x4 x5 x6 x7 x8
noncomputable def laws_FnTilesTold.v6 (x0 : Int) (x1 : List Int) (x2 : Bool) (x3 : List Int) (x4 : Int) (x5 : List (ByteArray × (Int × (Int × Int)))) (x6 : Int) (x7 : List Int) (x8 : Int) (x9 : ByteArray) := lim fun _ k => laws_FnTilesTold.l6 k x0 x1 x2 x3 x4 x5 x6 x7 x8 x9
noncomputable def laws_FnTilesTold.v9 (x0 : Int) (x1 : List Int) (x2 : Bool) (x3 : List Int) (x4 : Int) := lim fun _ k => laws_FnTilesTold.l9 k x0 x1 x2 x3 x4
noncomputable def laws_FnTilesTold.v7 (x0 : Int) (x1 : List Int) (x2 : Bool) (x3 : List Int) (x4 : Int) (x5 : List (ByteArray × (Int × (Int × Int)))) (x6 : Int) (x7 : List Int) (x8 : Int) := lim fun _ k => laws_FnTilesTold.l7 k x0 x1 x2 x3 x4 x5 x6 x7 x8
noncomputable def laws_FnTilesTold.v10 (x0 : Int) (x1 : List Int) (x2 : List Int) (x3 : Int) := lim fun _ k => laws_FnTilesTold.l10 k x0 x1 x2 x3
noncomputable def laws_FnTilesTold.v8 (x0 : Int) (x1 : List Int) (x2 : Bool) (x3 : List Int) (x4 : Int) (x5 : List (ByteArray × (Int × (Int × Int)))) (x6 : Int) (x7 : List Int) (x8 : Int) := lim fun _ k => laws_FnTilesTold.l8 k x0 x1 x2 x3 x4 x5 x6 x7 x8
noncomputable def laws_FnTilesTold.v11 (x0 : Int) (x1 : List Int) (x2 : List Int) (x3 : Int) (x4 : List Int) (x5 : Int) (x6 : Int) := lim fun _ k => laws_FnTilesTold.l11 k x0 x1 x2 x3 x4 x5 x6
noncomputable def laws_FnTilesTold.v12 (x0 : Int) (x1 : List Int) (x2 : Int) (x3 : List Int) (x4 : Int) (x5 : Int) := lim fun _ k => laws_FnTilesTold.l12 k x0 x1 x2 x3 x4 x5
theorem laws_FnTilesTold.vs (a0 : (List Int)) (a1 : (List Int)) {r} (h : (bd (laws_big.f a0 a1) fun r0 => (br r0 (some true) (bd (spec_DrawTileParts.v a0) fun r1 => (bd (impl_TileParts.v r1.1 r1.2.1 r1.2.2) fun r2 => (bd (spec_TileParts.v r1.1 r1.2.1 r1.2.2) fun r3 => (laws_FnTilesTold.v0 a1 r1.1 r1.2.1 r1.2.2 r2.1 r2.2 r3.1 r3.2)))))) = some r) : laws_FnTilesTold.v a0 a1 = some r := vstep (fun d k => laws_FnTilesTold.eq k a0 a1) h
theorem laws_FnTilesTold.v0s (x0 : List Int) (x1 : List (ByteArray × (Int × (Int × Int)))) (x2 : Int) (x3 : Int) (x4 : List Int) (x5 : Bool) (x6 : List Int) (x7 : Bool) {r} (h : (bd (impl_TileInner.v x1 x2 x3) fun r4 => (bd (spec_TileInner.v x1 x2 x3) fun r5 => (laws_FnTilesTold.v1 x0 x1 x2 x3 x4 x5 x6 x7 r4.1 r4.2 r5.1 r5.2))) = some r) : laws_FnTilesTold.v0 x0 x1 x2 x3 x4 x5 x6 x7 = some r := vstep (fun d k => laws_FnTilesTold.l0_eq k x0 x1 x2 x3 x4 x5 x6 x7) h
theorem laws_FnTilesTold.v1s (x0 : List Int) (x1 : List (ByteArray × (Int × (Int × Int)))) (x2 : Int) (x3 : Int) (x4 : List Int) (x5 : Bool) (x6 : List Int) (x7 : Bool) (x8 : List Int) (x9 : Bool) (x10 : List Int) (x11 : Bool) {r} (h : (bd (impl_TileCost.v x1 x2 x3) fun r6 => (bd (spec_TileCost.v x1 x2 x3) fun r7 => (laws_FnTilesTold.v2 x0 x2 x4 x5 x6 x7 x8 x9 x10 x11 r6.1 r6.2 r7.1 r7.2))) = some r) : laws_FnTilesTold.v1 x0 x1 x2 x3 x4 x5 x6 x7 x8 x9 x10 x11 = some r := vstep (fun d k => laws_FnTilesTold.l1_eq k x0 x1 x2 x3 x4 x5 x6 x7 x8 x9 x10 x11) h
theorem laws_FnTilesTold.v2s (x0 : List Int) (x1 : Int) (x2 : List Int) (x3 : Bool) (x4 : List Int) (x5 : Bool) (x6 : List Int) (x7 : Bool) (x8 : List Int) (x9 : Bool) (x10 : Int) (x11 : Bool) (x12 : Int) (x13 : Bool) {r} (h : (br (Bool.not (x3 == x5)) (some false) (bd (laws_pSame.v x2 x4) fun r8 => (br (Bool.not r8) (some false) (br (Bool.not (x7 == x9)) (some false) (bd (laws_pSame.v x6 x8) fun r9 => (br (Bool.not r9) (some false) (br (Bool.not (x11 == x13)) (some false) (br (x10 != x12) (some false) (br (Bool.not (x7 == x3)) (some false) (br (Bool.not (x11 == x3)) (some false) (laws_FnTilesTold.v3 x0 x1 x2 x5 x6 x10))))))))))) = some r) : laws_FnTilesTold.v2 x0 x1 x2 x3 x4 x5 x6 x7 x8 x9 x10 x11 x12 x13 = some r := vstep (fun d k => laws_FnTilesTold.l2_eq k x0 x1 x2 x3 x4 x5 x6 x7 x8 x9 x10 x11 x12 x13) h
theorem laws_FnTilesTold.v3s (x0 : List Int) (x1 : Int) (x2 : List Int) (x3 : Bool) (x4 : List Int) (x5 : Int) {r} (h : (bd (spec_DrawTilesAt.v x0) fun r10 => (bd (impl_TilesAt.v r10.1 r10.2) fun r11 => (bd (spec_TilesAt.v r10.1 r10.2) fun r12 => (laws_FnTilesTold.v4 x1 x2 x3 x4 x5 r10.1 r10.2 r11.1 r11.2 r12.1 r12.2)))) = some r) : laws_FnTilesTold.v3 x0 x1 x2 x3 x4 x5 = some r := vstep (fun d k => laws_FnTilesTold.l3_eq k x0 x1 x2 x3 x4 x5) h
theorem laws_FnTilesTold.v4s (x0 : Int) (x1 : List Int) (x2 : Bool) (x3 : List Int) (x4 : Int) (x5 : List (ByteArray × (Int × (Int × Int)))) (x6 : Int) (x7 : List Int) (x8 : Bool) (x9 : List Int) (x10 : Bool) {r} (h : (br (Bool.not (x8 == x10)) (some false) (bd (laws_pSame.v x7 x9) fun r13 => (br (Bool.not r13) (some false) (laws_FnTilesTold.v5 x0 x1 x2 x3 x4 x5 x6 x7 x8)))) = some r) : laws_FnTilesTold.v4 x0 x1 x2 x3 x4 x5 x6 x7 x8 x9 x10 = some r := vstep (fun d k => laws_FnTilesTold.l4_eq k x0 x1 x2 x3 x4 x5 x6 x7 x8 x9 x10) h
theorem laws_FnTilesTold.v5s (x0 : Int) (x1 : List Int) (x2 : Bool) (x3 : List Int) (x4 : Int) (x5 : List (ByteArray × (Int × (Int × Int)))) (x6 : Int) (x7 : List Int) (x8 : Bool) {r} (h : (br x8 (br (decide ((0 : Int) ≤ x6)) (gt x5 (Int.toNat x6) fun r14 => (laws_FnTilesTold.v6 x0 x1 x2 x3 x4 x5 x6 x7 (3 : Int) r14.1)) none) (laws_FnTilesTold.v9 x0 x1 x2 x3 x4)) = some r) : laws_FnTilesTold.v5 x0 x1 x2 x3 x4 x5 x6 x7 x8 = some r := vstep (fun d k => laws_FnTilesTold.l5_eq k x0 x1 x2 x3 x4 x5 x6 x7 x8) h
theorem laws_FnTilesTold.v6s (x0 : Int) (x1 : List Int) (x2 : Bool) (x3 : List Int) (x4 : Int) (x5 : List (ByteArray × (Int × (Int × Int)))) (x6 : Int) (x7 : List Int) (x8 : Int) (x9 : ByteArray) {r} (h : (br (seq x9 (⟨#[105, 110]⟩ : ByteArray)) (laws_FnTilesTold.v7 x0 x1 x2 x3 x4 x5 x6 x7 (0 : Int)) (br (seq x9 (⟨#[99, 111, 110, 115, 116]⟩ : ByteArray)) (laws_FnTilesTold.v7 x0 x1 x2 x3 x4 x5 x6 x7 (1 : Int)) (br (seq x9 (⟨#[110, 111, 116]⟩ : ByteArray)) (br (seq x9 (⟨#[110, 111, 116]⟩ : ByteArray)) (laws_FnTilesTold.v7 x0 x1 x2 x3 x4 x5 x6 x7 (2 : Int)) (laws_FnTilesTold.v7 x0 x1 x2 x3 x4 x5 x6 x7 x8)) (br (seq x9 (⟨#[110, 101, 103]⟩ : ByteArray)) (laws_FnTilesTold.v7 x0 x1 x2 x3 x4 x5 x6 x7 (2 : Int)) (laws_FnTilesTold.v7 x0 x1 x2 x3 x4 x5 x6 x7 x8))))) = some r) : laws_FnTilesTold.v6 x0 x1 x2 x3 x4 x5 x6 x7 x8 x9 = some r := vstep (fun d k => laws_FnTilesTold.l6_eq k x0 x1 x2 x3 x4 x5 x6 x7 x8 x9) h
theorem laws_FnTilesTold.v9s (x0 : Int) (x1 : List Int) (x2 : Bool) (x3 : List Int) (x4 : Int) {r} (h : (br (Bool.not x2) (some true) (laws_FnTilesTold.v10 x0 x1 x3 x4)) = some r) : laws_FnTilesTold.v9 x0 x1 x2 x3 x4 = some r := vstep (fun d k => laws_FnTilesTold.l9_eq k x0 x1 x2 x3 x4) h
theorem laws_FnTilesTold.v7s (x0 : Int) (x1 : List Int) (x2 : Bool) (x3 : List Int) (x4 : Int) (x5 : List (ByteArray × (Int × (Int × Int)))) (x6 : Int) (x7 : List Int) (x8 : Int) {r} (h : (bd (laws_pHas.v x7 x8) fun r15 => (br (Bool.not r15) (some false) (laws_FnTilesTold.v8 x0 x1 x2 x3 x4 x5 x6 x7 (0 : Int)))) = some r) : laws_FnTilesTold.v7 x0 x1 x2 x3 x4 x5 x6 x7 x8 = some r := vstep (fun d k => laws_FnTilesTold.l7_eq k x0 x1 x2 x3 x4 x5 x6 x7 x8) h
theorem laws_FnTilesTold.v10s (x0 : Int) (x1 : List Int) (x2 : List Int) (x3 : Int) {r} (h : (laws_FnTilesTold.v11 x0 x1 x2 x3 x1 (((List.length x1) : Nat) : Int) (0 : Int)) = some r) : laws_FnTilesTold.v10 x0 x1 x2 x3 = some r := vstep (fun d k => laws_FnTilesTold.l10_eq k x0 x1 x2 x3) h
theorem laws_FnTilesTold.v8s (x0 : Int) (x1 : List Int) (x2 : Bool) (x3 : List Int) (x4 : Int) (x5 : List (ByteArray × (Int × (Int × Int)))) (x6 : Int) (x7 : List Int) (x8 : Int) {r} (h : (br (decide (x8 < (13 : Int))) (bd (impl_TileParts.v x5 x6 x8) fun r16 => (bd (laws_pHas.v x7 x8) fun r17 => (br (Bool.not (r16.2 == r17)) (some false) (laws_FnTilesTold.v8 x0 x1 x2 x3 x4 x5 x6 x7 (Go.IntKind.wrap .i64 (x8 + (1 : Int))))))) (laws_FnTilesTold.v9 x0 x1 x2 x3 x4)) = some r) : laws_FnTilesTold.v8 x0 x1 x2 x3 x4 x5 x6 x7 x8 = some r := vstep (fun d k => laws_FnTilesTold.l8_eq k x0 x1 x2 x3 x4 x5 x6 x7 x8) h
theorem laws_FnTilesTold.v11s (x0 : Int) (x1 : List Int) (x2 : List Int) (x3 : Int) (x4 : List Int) (x5 : Int) (x6 : Int) {r} (h : (br (decide (x6 < x5)) (br (decide ((0 : Int) ≤ x6)) (gt x4 (Int.toNat x6) fun r18 => (br (decide (r18 ≥ x0)) (some false) (bd (laws_pHas.v x2 r18) fun r19 => (br r19 (some false) (laws_FnTilesTold.v11 x0 x1 x2 x3 x4 x5 (Go.IntKind.wrap .i64 (x6 + (1 : Int)))))))) none) (laws_FnTilesTold.v12 x0 x1 x3 x2 (((List.length x2) : Nat) : Int) (0 : Int))) = some r) : laws_FnTilesTold.v11 x0 x1 x2 x3 x4 x5 x6 = some r := vstep (fun d k => laws_FnTilesTold.l11_eq k x0 x1 x2 x3 x4 x5 x6) h
theorem laws_FnTilesTold.v12s (x0 : Int) (x1 : List Int) (x2 : Int) (x3 : List Int) (x4 : Int) (x5 : Int) {r} (h : (br (decide (x5 < x4)) (br (decide ((0 : Int) ≤ x5)) (gt x3 (Int.toNat x5) fun r20 => (br (decide (r20 ≥ x0)) (some false) (laws_FnTilesTold.v12 x0 x1 x2 x3 x4 (Go.IntKind.wrap .i64 (x5 + (1 : Int)))))) none) (br (decide ((((List.length x1) : Nat) : Int) ≤ (2 : Int))) (some (decide (x2 ≤ (4 : Int)))) (some false))) = some r) : laws_FnTilesTold.v12 x0 x1 x2 x3 x4 x5 = some r := vstep (fun d k => laws_FnTilesTold.l12_eq k x0 x1 x2 x3 x4 x5) h
end Go.Proofs.Ytiofklineiioaaa.Am
end
section
/- The law FnTilesTold, in plain Lean. -/
namespace Go.Proofs.Ytiofklineiioaaa.Am
open Go
set_option linter.unusedVariables false
set_option linter.unusedSimpArgs false

theorem cdTileCost_v (e : List Nd) (hl : e.length ≤ 1048576) (i t : Int) : spec_TileCost.v e i t = some (coP e i t (askP e i t)) := by
  refine spec_TileCost.vs _ _ _ ?_
  rw [cvAt_v e hl, bd_s]
  cases h : askP e i t with
  | none => rfl
  | some pq =>
    obtain ⟨p, q⟩ := pq
    obtain ⟨h1, ⟨a0, a1⟩, _, hm⟩ := ask_some h
    rw [show (some (p, q) : Option Tl).isSome = true from rfl, brn_t]
    have : spec_cvCost.f e i t = some (tCost e i t) := by
      rw [spec_cvCost.eq]
      unfold tCost tCostN
      by_cases t0 : t = 0
      · rw [br_t (by simpa using t0), if_pos t0]
      rw [br_f (by simpa using t0), if_neg t0]
      by_cases t3 : t = 3
      · rw [br_t (by simpa using t3), if_pos t3, br_t (decide_eq_true a0), gt_some (ndAt_get a0 a1), cdCost_f, bd_s]
      · rw [br_f (by simpa using t3), if_neg t3]
    rw [this, bd_s]; rfl
theorem roomI (l : List Int) (x : Int) (h : l.length ≤ 1000) : decide (l.length + [x].length ≤ 35184372088832 / (8 + 1)) = true := decide_eq_true (by simp; omega)
theorem cvTiles_v {e : List Nd} (hn : nodesOk e 0 = true) {j : Nat} (hj : j < e.length) : spec_cvTiles.v e (j : Int) = some (tilesP e j) := by
  have key : ∀ (d t : Nat), t + d = 13 → spec_cvTiles.v0 e (j : Int) (t : Int) (tilesU e j t) = some (tilesP e j) := by
    intro d
    induction d with
    | zero =>
      intro t ht
      obtain rfl : t = 13 := by omega
      exact spec_cvTiles.v0s _ _ _ _ (by rw [br_f (by decide)]; rfl)
    | succ d ih =>
      intro t ht
      have go := ih (t + 1) (by omega)
      rw [tilesU_succ] at go
      have hl := tilesU_len e j t
      refine spec_cvTiles.v0s _ _ _ _ ?_
      rw [br_t (decide_eq_true (by omega)), cvTile_v hn hj, bd_s, next_ok t 13 (by omega) (by omega)]
      cases hm : tileM e (j : Int) (t : Int) with
      | none => rw [hm, if_neg (by simp)] at go; exact go
      | some pq => rw [hm, if_pos (show (some pq).isSome = true from rfl)] at go; refine (br_t rfl).trans ?_; rw [br_t (roomI _ _ (by omega))]; exact go
  exact spec_cvTiles.vs _ _ (key 13 0 (by omega))
theorem implTiles_v {e : List Nd} (hn : nodesOk e 0 = true) {j : Nat} (hj : j < e.length) : impl_tilesAt.v e (j : Int) = some (tilesP e j) := by
  have key : ∀ (d t : Nat), t + d = 13 → impl_tilesAt.v0 e (j : Int) (t : Int) (tilesU e j t) = some (tilesP e j) := by
    intro d
    induction d with
    | zero =>
      intro t ht
      obtain rfl : t = 13 := by omega
      exact impl_tilesAt.v0s _ _ _ _ (by rw [br_f (by decide)]; rfl)
    | succ d ih =>
      intro t ht
      have go := ih (t + 1) (by omega)
      rw [tilesU_succ] at go
      have hl := tilesU_len e j t
      refine impl_tilesAt.v0s _ _ _ _ ?_
      rw [br_t (decide_eq_true (by omega)), tileAt_v hn hj (by omega) (by omega), bd_s, next_ok t 13 (by omega) (by omega)]
      cases hm : tileM e (j : Int) (t : Int) with
      | none => rw [hm, if_neg (by simp)] at go; exact go
      | some pq => rw [hm, if_pos (show (some pq).isSome = true from rfl)] at go; refine (br_t rfl).trans ?_; rw [br_t (roomI _ _ (by omega))]; exact go
  exact impl_tilesAt.vs _ _ (key 13 0 (by omega))
def tilesR (e : List Nd) (i : Int) : List Int × Bool := if (treeOk e && inB i 0 ((e.length : Int) - 1)) = true then (tilesP e i, true) else ([], false)
theorem tilesAt_v (e : List Nd) (hl : e.length ≤ 1048576) (i : Int) : impl_TilesAt.v e i = some (tilesR e i) := by
  refine impl_TilesAt.vs _ _ ?_
  unfold tilesR
  rw [isTree_v e hl, bd_s]
  cases h1 : treeOk e with
  | false => rw [brn_f]; rfl
  | true =>
    rw [brn_t, wlen hl, within_f, bd_s]
    cases h2 : inB i 0 ((e.length : Int) - 1) with
    | false => rw [brn_f]; rfl
    | true =>
      obtain ⟨a0, a1⟩ := inB_iff.1 h2
      obtain ⟨n, rfl⟩ : ∃ n : Nat, i = (n : Int) := ⟨i.toNat, by omega⟩
      rw [brn_t, implTiles_v (treeOk_parts h1).1 (by omega), bd_s]; rfl
theorem cdTilesAt_v (e : List Nd) (hl : e.length ≤ 1048576) (i : Int) : spec_TilesAt.v e i = some (tilesR e i) := by
  refine spec_TilesAt.vs _ _ ?_
  unfold tilesR
  rw [cvTree_v e hl, bd_s]
  cases h1 : treeOk e with
  | false => rw [brn_f]; rfl
  | true =>
    rw [brn_t, wlen hl, l1In_f, bd_s]
    cases h2 : inB i 0 ((e.length : Int) - 1) with
    | false => rw [brn_f]; rfl
    | true =>
      obtain ⟨a0, a1⟩ := inB_iff.1 h2
      obtain ⟨n, rfl⟩ : ∃ n : Nat, i = (n : Int) := ⟨i.toNat, by omega⟩
      rw [brn_t, cvTiles_v (treeOk_parts h1).1 (by omega), bd_s]; rfl
theorem tilesP_len (e : List Nd) (i : Int) : (tilesP e i).length ≤ 13 := tilesU_len e i 13
theorem plain_mem {e : List Nd} (hn : nodesOk e 0 = true) {j : Nat} (hj : j < e.length) : plainT e[j] ∈ tilesP e (j : Int) := by
  rw [mem_tiles]
  refine ⟨?_, plain_some hn hj⟩
  unfold plainT
  repeat' split
  all_goals omega

/-! ### the draws -/
theorem drawTile_v {l : List Int} (h : Bytes l) : ∃ (e : List Nd) (i t : Int), spec_DrawTileParts.v l = some (e, i, t) ∧ e.length ≤ 60 := by
  obtain ⟨e, c, he, hl, hc⟩ := trees_d h.cu (by omega)
  obtain ⟨r1, c1, e1, hr1, hc1⟩ := pick_d (IntKind.wrap .i64 ((e.length : Int) + 2)) hc (by omega)
  obtain ⟨r2, c2, e2, hr2, hc2⟩ := pick_d 15 hc1 (by omega)
  have w2 : IntKind.wrap .i64 ((e.length : Int) + 2) = (e.length : Int) + 2 := wrap_ok (by omega) (by omega)
  rw [w2] at hr1
  have h1 := hr1.2 (by omega)
  have w1 : IntKind.wrap .i64 (r1 - 1) = r1 - 1 := wrap_ok (by omega) (by omega)
  have base : ∀ r, (br (treeOk e) (br (inB (IntKind.wrap .i64 (r1 - 1)) 0 (IntKind.wrap .i64 ((e.length : Int) - 1))) (bd (spec_l1Cur_one.f 3 c2.1 c2.2.1 c2.2.2) fun r5 => (br (Bool.not r5.1) (bd (spec_cvTiles.v e (IntKind.wrap .i64 (r1 - 1))) fun r6 => (bd (spec_l1Cur_pick.f (((List.length r6) : Nat) : Int) r5.2.1 r5.2.2.1 r5.2.2.2) fun r7 => (br (decide ((0 : Int) ≤ r7.1)) (gt r6 (Int.toNat r7.1) fun r8 => (some (e, ((IntKind.wrap .i64 (r1 - 1)), r8)))) none))) (some (e, ((IntKind.wrap .i64 (r1 - 1)), (IntKind.wrap .i64 (r2 - 1))))))) (some (e, ((IntKind.wrap .i64 (r1 - 1)), (IntKind.wrap .i64 (r2 - 1)))))) (some (e, ((IntKind.wrap .i64 (r1 - 1)), (IntKind.wrap .i64 (r2 - 1)))))) = some r → spec_DrawTileParts.v l = some r := fun r hr => by
    refine spec_DrawTileParts.vs _ ?_
    rw [he, bd_s]
    dsimp only
    rw [e1, bd_s]
    dsimp only
    rw [e2, bd_s, cvTree_v e (by omega), bd_s, l1In_f, bd_s]
    exact hr
  cases ht : treeOk e with
  | false => exact ⟨e, _, _, base _ (by rw [ht]; rfl), hl⟩
  | true =>
    cases hi : inB (IntKind.wrap .i64 (r1 - 1)) 0 (IntKind.wrap .i64 ((e.length : Int) - 1)) with
    | false => exact ⟨e, _, _, base _ (by rw [ht, hi]; rfl), hl⟩
    | true =>
      obtain ⟨b5, c5, e5, _, hc5⟩ := one_d 3 hc2 (by omega)
      cases b5 with
      | true => exact ⟨e, _, _, base _ (by rw [ht, hi, br_t rfl, br_t rfl, e5, bd_s, brn_t]), hl⟩
      | false =>
        have hi' := hi
        rw [w1, wlen (by omega)] at hi'
        obtain ⟨a0, a1⟩ := inB_iff.1 hi'
        obtain ⟨n, hn⟩ : ∃ n : Nat, r1 - 1 = (n : Int) := ⟨(r1 - 1).toNat, by omega⟩
        have hnl : n < e.length := by omega
        have hm := List.length_pos_of_mem (plain_mem (treeOk_parts ht).1 hnl)
        obtain ⟨r7, c7, e7, hr7, _⟩ := pick_d ((tilesP e (n : Int)).length : Int) hc5 (by omega)
        have h7 := hr7.2 (by omega)
        have hlt : r7.toNat < (tilesP e (n : Int)).length := by omega
        refine ⟨e, (n : Int), (tilesP e (n : Int))[r7.toNat], base _ ?_, hl⟩
        rw [ht, hi, br_t rfl, br_t rfl, e5, bd_s, brn_f, w1, hn, cvTiles_v (treeOk_parts ht).1 hnl, bd_s]
        dsimp only
        rw [e7, bd_s, br_t (decide_eq_true hr7.1), gt_at _ hlt]
theorem drawTilesAt_v {l : List Int} (h : Bytes l) : ∃ (e : List Nd) (i : Int), spec_DrawTilesAt.v l = some (e, i) ∧ e.length ≤ 60 := by
  obtain ⟨e, c, he, hl, hc⟩ := trees_d h.cu (by omega)
  obtain ⟨r1, c1, e1, hr1, hc1⟩ := pick_d (IntKind.wrap .i64 ((e.length : Int) + 2)) hc (by omega)
  exact ⟨e, _, spec_DrawTilesAt.vs _ (by rw [he, bd_s]; dsimp only; rw [e1, bd_s]), hl⟩

/-! ### the law -/
theorem t12 {i : Nat} {p q : List Int} (hf : Fair i p q) {c : Int} (hc : c ≤ 4) : laws_FnTilesTold.v12 (i : Int) p c q (q.length : Int) 0 = some true := by
  have key : ∀ (d j : Nat), j + d = q.length → laws_FnTilesTold.v12 (i : Int) p c q (q.length : Int) (j : Int) = some true := by
    intro d
    induction d with
    | zero =>
      intro j hj
      refine laws_FnTilesTold.v12s _ _ _ _ _ _ ?_
      have := hf.two
      rw [br_f (by simp; omega), br_t (decide_eq_true (by omega)), decide_eq_true hc]
    | succ d ih =>
      intro j hj
      have hlt : j < q.length := by omega
      have hx := hf.inn _ (List.getElem_mem hlt)
      have h2 := hf.len
      refine laws_FnTilesTold.v12s _ _ _ _ _ _ ?_
      rw [br_t (by simpa using hlt), br_t (by simp), Int.toNat_natCast, gt_at _ hlt, br_f (decide_eq_false (by omega)), next_ok j _ hlt (by omega)]
      exact ih (j + 1) (by omega)
  exact key q.length 0 (by omega)
theorem t11 {i : Nat} {p q : List Int} (hf : Fair i p q) {c : Int} (hc : c ≤ 4) : laws_FnTilesTold.v11 (i : Int) p q c p (p.length : Int) 0 = some true := by
  have hq := hf.len
  have key : ∀ (d j : Nat), j + d = p.length → laws_FnTilesTold.v11 (i : Int) p q c p (p.length : Int) (j : Int) = some true := by
    intro d
    induction d with
    | zero =>
      intro j hj
      refine laws_FnTilesTold.v11s _ _ _ _ _ _ _ ?_
      rw [br_f (by simp; omega)]
      exact t12 hf hc
    | succ d ih =>
      intro j hj
      have hlt : j < p.length := by omega
      have hp := hf.two
      have hx := hf.low _ (List.getElem_mem hlt)
      have hd := hf.dis _ (List.getElem_mem hlt)
      refine laws_FnTilesTold.v11s _ _ _ _ _ _ _ ?_
      rw [br_t (by simpa using hlt), br_t (by simp), Int.toNat_natCast, gt_at _ hlt, br_f (decide_eq_false (by omega)), pHas_v _ _ (by omega), bd_s, br_f (decide_eq_false hd), next_ok j _ hlt (by omega)]
      exact ih (j + 1) (by omega)
  exact key p.length 0 (by omega)
section
variable {e : List Nd} {i t : Int} {x : Option Tl}
theorem t9 (hx : x = askP e i t) : laws_FnTilesTold.v9 i (ptP x).1 (ptP x).2 (inP x).1 (coP e i t x).1 = some true := by
  refine laws_FnTilesTold.v9s _ _ _ _ _ ?_
  cases h : x with
  | none => rfl
  | some pq =>
    obtain ⟨p, q⟩ := pq
    obtain ⟨h1, ⟨a0, a1⟩, _, hm⟩ := ask_some (hx.symm.trans h)
    obtain ⟨n, rfl⟩ : ∃ n : Nat, i = (n : Int) := ⟨i.toNat, by omega⟩
    show br (!true) _ _ = _
    rw [brn_t]
    refine laws_FnTilesTold.v10s _ _ _ _ ?_
    exact t11 (tile_fair h1 (by omega) hm) (tCost_le _ _ _)
theorem t8 (hx : x = askP e i t) {f : List Nd} {k : Int} (ht : treeOk f = true) (hk : 0 ≤ k ∧ k ≤ (f.length : Int) - 1) : laws_FnTilesTold.v8 i (ptP x).1 (ptP x).2 (inP x).1 (coP e i t x).1 f k (tilesP f k) 0 = some true := by
  have hl := (tree_len ht).2
  have key : ∀ (d j : Nat), j + d = 13 → laws_FnTilesTold.v8 i (ptP x).1 (ptP x).2 (inP x).1 (coP e i t x).1 f k (tilesP f k) (j : Int) = some true := by
    intro d
    induction d with
    | zero =>
      intro j hj
      refine laws_FnTilesTold.v8s _ _ _ _ _ _ _ _ _ ?_
      rw [br_f (decide_eq_false (by omega))]
      exact t9 hx
    | succ d ih =>
      intro j hj
      refine laws_FnTilesTold.v8s _ _ _ _ _ _ _ _ _ ?_
      have := tilesP_len f k
      have ask : askP f k (j : Int) = tileM f k (j : Int) := by
        unfold askP
        rw [if_pos]
        rw [ht, inB_iff.2 hk, inB_iff.2 ⟨by omega, by omega⟩]; rfl
      have e2 : (ptP (tileM f k (j : Int))).2 = decide ((j : Int) ∈ tilesP f k) := by
        cases hm : tileM f k (j : Int) with
        | none =>
          rw [eq_comm]
          simp only [ptP, decide_eq_false_iff_not, mem_tiles, hm]
          simp
        | some pq =>
          rw [eq_comm]
          simp only [ptP, decide_eq_true_iff, mem_tiles, hm]
          exact ⟨⟨by omega, by omega⟩, rfl⟩
      rw [br_t (decide_eq_true (by omega)), tileParts_v f (by omega), bd_s, pHas_v _ _ (by omega), bd_s, ask, e2, br_f (by simp), next_ok j 13 (by omega) (by omega)]
      exact ih (j + 1) (by omega)
  exact key 13 0 (by omega)
theorem t6 (hx : x = askP e i t) {f : List Nd} {j : Nat} (ht : treeOk f = true) (hk : j < f.length) : laws_FnTilesTold.v6 i (ptP x).1 (ptP x).2 (inP x).1 (coP e i t x).1 f (j : Int) (tilesP f j) 3 f[j].1 = some true := by
  have hl := (tree_len ht).2
  have h7 : laws_FnTilesTold.v7 i (ptP x).1 (ptP x).2 (inP x).1 (coP e i t x).1 f (j : Int) (tilesP f j) (plainT f[j]) = some true := by
    refine laws_FnTilesTold.v7s _ _ _ _ _ _ _ _ _ ?_
    have := tilesP_len f j
    rw [pHas_v _ _ (by omega), bd_s, decide_eq_true (plain_mem (treeOk_parts ht).1 hk), brn_t]
    exact t8 hx ht ⟨by omega, by omega⟩
  refine laws_FnTilesTold.v6s _ _ _ _ _ _ _ _ _ _ ?_
  unfold plainT isOne at h7
  simp only [seq_beq, br_if, decide_eq_true_eq]
  by_cases c0 : f[j].1 = tIn
  · rw [if_pos c0] at h7 ⊢; exact h7
  rw [if_neg c0] at h7 ⊢
  by_cases c1 : f[j].1 = tConst
  · rw [if_pos c1] at h7 ⊢; exact h7
  rw [if_neg c1] at h7 ⊢
  by_cases c2 : f[j].1 = tNot
  · rw [if_pos (by simp [c2])] at h7; rw [if_pos c2, if_pos c2]; exact h7
  rw [if_neg c2]
  by_cases c3 : f[j].1 = tNeg
  · rw [if_pos (by simp [c3])] at h7; rw [if_pos c3]; exact h7
  · rw [if_neg (by simp [c2, c3])] at h7; rw [if_neg c3]; exact h7
theorem t5 (hx : x = askP e i t) {f : List Nd} {k : Int} : laws_FnTilesTold.v5 i (ptP x).1 (ptP x).2 (inP x).1 (coP e i t x).1 f k (tilesR f k).1 (tilesR f k).2 = some true := by
  refine laws_FnTilesTold.v5s _ _ _ _ _ _ _ _ _ ?_
  unfold tilesR
  cases h : (treeOk f && inB k 0 ((f.length : Int) - 1)) with
  | false => rw [if_neg (by simp), br_f rfl]; exact t9 hx
  | true =>
    rw [if_pos rfl, br_t rfl]
    rw [Bool.and_eq_true] at h
    obtain ⟨a0, a1⟩ := inB_iff.1 h.2
    obtain ⟨n, rfl⟩ : ∃ n : Nat, k = (n : Int) := ⟨k.toNat, by omega⟩
    rw [br_t (decide_eq_true a0), Int.toNat_natCast, gt_at _ (show n < f.length by omega)]
    exact t6 hx h.1 (by omega)
end
theorem ptP_len {e : List Nd} {i t : Int} : (ptP (askP e i t)).1.length ≤ 2 ∧ (inP (askP e i t)).1.length ≤ 2 := by
  cases h : askP e i t with
  | none => exact ⟨by simp [ptP], by simp [inP]⟩
  | some pq =>
    obtain ⟨p, q⟩ := pq
    obtain ⟨h1, ⟨a0, a1⟩, _, hm⟩ := ask_some h
    obtain ⟨n, rfl⟩ : ∃ n : Nat, i = (n : Int) := ⟨i.toNat, by omega⟩
    have := tile_fair h1 (by omega) hm
    exact ⟨this.two, this.len⟩
theorem tilesTold_pure (x0 x1 : List Int) (q0 : Qd (.sl (.i .u8)) x0) (q1 : Qd (.sl (.i .u8)) x1) : ∃ k, laws_FnTilesTold.f k x0 x1 = some true := by
  refine Ev.some (lim_ev (laws_FnTilesTold.vs x0 x1 ?_))
  obtain ⟨r, hr, _⟩ := big_f x0 x1
  rw [hr, bd_s]
  cases r with
  | true => rfl
  | false =>
    rw [br_f rfl]
    obtain ⟨e, i, t, hd, hel⟩ := drawTile_v (bytes_of q0)
    obtain ⟨f, k, hf, hfl⟩ := drawTilesAt_v (bytes_of q1)
    rw [hd, bd_s]
    dsimp only
    rw [tileParts_v e (by omega), bd_s, cdTileParts_v e (by omega), bd_s]
    refine laws_FnTilesTold.v0s _ _ _ _ _ _ _ _ ?_
    rw [tileInner_v e (by omega), bd_s, cdTileInner_v e (by omega), bd_s]
    refine laws_FnTilesTold.v1s _ _ _ _ _ _ _ _ _ _ _ _ ?_
    rw [tileCost_v e (by omega), bd_s, cdTileCost_v e (by omega), bd_s]
    refine laws_FnTilesTold.v2s _ _ _ _ _ _ _ _ _ _ _ _ _ _ ?_
    have hl := ptP_len (e := e) (i := i) (t := t)
    have e1 : (inP (askP e i t)).2 = (ptP (askP e i t)).2 := by cases askP e i t <;> rfl
    have e2 : (coP e i t (askP e i t)).2 = (ptP (askP e i t)).2 := by cases askP e i t <;> rfl
    rw [br_f (by simp), pSame_self _ (by omega), bd_s, brn_t, br_f (by simp), pSame_self _ (by omega), bd_s, brn_t, br_f (by simp), br_f (by simp), e1, e2, br_f (by simp), br_f (by simp)]
    refine laws_FnTilesTold.v3s _ _ _ _ _ _ ?_
    rw [hf, bd_s]
    dsimp only
    rw [tilesAt_v f (by omega), bd_s, cdTilesAt_v f (by omega), bd_s]
    refine laws_FnTilesTold.v4s _ _ _ _ _ _ _ _ _ _ _ ?_
    have htl : (tilesR f k).1.length ≤ 1000000 := by
      unfold tilesR
      split
      · have := tilesP_len f k; dsimp only; omega
      · simp
    rw [br_f (by simp), pSame_self _ htl, bd_s, brn_t]
    exact t5 rfl
end Go.Proofs.Ytiofklineiioaaa.Am
end
