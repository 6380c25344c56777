/- Plain texts: what the functions answer (part 0). -/
import Derived.Test.YtiofklineiioaaaKF1
section
/- What the laws do around the functions: arguments are measured, copied and compared. -/
namespace Go.Proofs.Ytiofklineiioaaa.Am
open Go
set_option linter.unusedVariables false
set_option linter.unusedSimpArgs false

abbrev Nd := ByteArray × Int × Int × Int
abbrev Rl := List Nd × List Nd × ByteArray
theorem brn_t {α : Type} (x y : Option α) : br (!true) x y = y := rfl
theorem brn_f {α : Type} (x y : Option α) : br (!false) x y = x := rfl
@[simp] theorem seq_self (x : ByteArray) : seq x x = true := seq_iff.2 rfl
theorem gt_mid {α β : Type} (l : List β) (x : β) (r : List β) (f : β → Option α) : gt (l ++ x :: r) l.length f = f x := gt_some (by simp)
theorem set_mid {β : Type} (l : List β) (x y : β) (r : List β) : (l ++ x :: r).set l.length y = l ++ y :: r := by simp
end Go.Proofs.Ytiofklineiioaaa.Am
end
section
/- Lists of texts and numbers that are searched; numbers within bounds. -/
namespace Go.Proofs.Ytiofklineiioaaa.Am
open Go
set_option linter.unusedVariables false
set_option linter.unusedSimpArgs false

theorem seq_beq (x y : ByteArray) : seq x y = decide (x = y) := by
  by_cases h : x = y
  · rw [decide_eq_true h]; exact seq_iff.2 h
  · rw [decide_eq_false h]
    cases e : seq x y with
    | false => rfl
    | true => exact absurd (seq_iff.1 e) h
/-- is a text among these -/
def isIn (l : List ByteArray) (s : ByteArray) : Bool := l.any fun x => decide (x = s)
theorem drop_at {α : Type} (l : List α) (i : Nat) (h : i < l.length) : l.drop i = l[i] :: l.drop (i + 1) := List.drop_eq_getElem_cons h
theorem l1HasS_ev (l : List ByteArray) (s : ByteArray) (hl : l.length ≤ 9223372036854775000) : Ev (fun k => spec_l1HasS.f k l s) (isIn l s) := by
  refine Ev.step (fun k => spec_l1HasS.eq k l s) ?_
  have := Ev.loop l.length (fun k i => spec_l1HasS.l0 k s l (l.length : Int) (i : Int)) (fun i => isIn (l.drop i) s) ?_ ?_ 0 (by omega)
  · exact this
  · exact Ev.step (fun k => spec_l1HasS.l0_eq k s l _ _) (Ev.neg (by simp) (Ev.ret (by simp [isIn])))
  · intro i hi ih
    refine Ev.step (fun k => spec_l1HasS.l0_eq k s l _ _) (Ev.pos (by simpa using hi) (Ev.pos (by simp) (Ev.get hi ?_)))
    rw [next_ok i _ hi hl, seq_beq]
    by_cases c : l[i] = s
    · exact Ev.pos (by simp [c]) (Ev.ret (by unfold isIn; rw [drop_at _ _ hi, List.any_cons]; simp [c]))
    · exact Ev.neg (by simp [c]) (Ev.eq ih (by unfold isIn; rw [drop_at _ _ hi, List.any_cons]; simp [c]))
theorem containsS_ev (l : List ByteArray) (s : ByteArray) (hl : l.length ≤ 9223372036854775000) : Ev (fun k => slices_Contains_string.f k l s) (isIn l s) := by
  have key : ∀ (d : Nat) (i : Nat), i + d = l.length → ∃ r : Int, Ev (fun k => slices_Index_string.l0 k l s (l.length : Int) (i : Int)) r ∧ (0 ≤ r ↔ isIn (l.drop i) s = true) := by
    intro d
    induction d with
    | zero =>
      intro i h
      refine ⟨-1, Ev.step (fun k => slices_Index_string.l0_eq k l s _ _) (Ev.neg (by simp; omega) (Ev.now _)), ?_⟩
      rw [List.drop_eq_nil_of_le (by omega)]; simp [isIn]
    | succ d ih =>
      intro i h
      have hi : i < l.length := by omega
      by_cases c : l[i] = s
      · refine ⟨i, Ev.step (fun k => slices_Index_string.l0_eq k l s _ _) (Ev.pos (by simpa using hi) (Ev.pos (by simp) (Ev.get hi (Ev.pos (by rw [seq_beq]; simp [c]) (Ev.now _))))), ?_⟩
        unfold isIn; rw [drop_at _ _ hi, List.any_cons]; simp [c]
      · obtain ⟨r, hev, hiff⟩ := ih (i + 1) (by omega)
        refine ⟨r, Ev.step (fun k => slices_Index_string.l0_eq k l s _ _) (Ev.pos (by simpa using hi) (Ev.pos (by simp) (Ev.get hi (Ev.neg (by rw [seq_beq]; simp only [decide_eq_false_iff_not]; exact fun e => c e.symm) (by rw [next_ok i _ hi hl]; exact hev))))), ?_⟩
        rw [hiff]; unfold isIn; rw [drop_at _ _ hi, List.any_cons]; simp [c]
  obtain ⟨r, hev, hiff⟩ := key l.length 0 (by omega)
  refine Ev.step (fun k => slices_Contains_string.eq k l s) (Ev.bind (b := r) (Ev.step (fun k => slices_Index_string.eq k l s) hev) (Ev.ret ?_))
  rw [Bool.eq_iff_iff, decide_eq_true_iff]
  exact hiff
theorem containsI_ev (l : List Int) (s : Int) (hl : l.length ≤ 9223372036854775000) : Ev (fun k => slices_Contains_int.f k l s) (decide (s ∈ l)) := by
  have key : ∀ (d : Nat) (i : Nat), i + d = l.length → ∃ r : Int, Ev (fun k => slices_Index_int.l0 k l s (l.length : Int) (i : Int)) r ∧ (0 ≤ r ↔ s ∈ l.drop i) := by
    intro d
    induction d with
    | zero =>
      intro i h
      refine ⟨-1, Ev.step (fun k => slices_Index_int.l0_eq k l s _ _) (Ev.neg (by simp; omega) (Ev.now _)), ?_⟩
      rw [List.drop_eq_nil_of_le (by omega)]; simp
    | succ d ih =>
      intro i h
      have hi : i < l.length := by omega
      by_cases c : s = l[i]
      · refine ⟨i, Ev.step (fun k => slices_Index_int.l0_eq k l s _ _) (Ev.pos (by simpa using hi) (Ev.pos (by simp) (Ev.get hi (Ev.pos (by simp [c]) (Ev.now _))))), ?_⟩
        rw [drop_at _ _ hi, List.mem_cons]; simp [c]
      · obtain ⟨r, hev, hiff⟩ := ih (i + 1) (by omega)
        refine ⟨r, Ev.step (fun k => slices_Index_int.l0_eq k l s _ _) (Ev.pos (by simpa using hi) (Ev.pos (by simp) (Ev.get hi (Ev.neg (by simp [c]) (by rw [next_ok i _ hi hl]; exact hev))))), ?_⟩
        rw [hiff, drop_at _ _ hi, List.mem_cons]; simp [c]
  obtain ⟨r, hev, hiff⟩ := key l.length 0 (by omega)
  refine Ev.step (fun k => slices_Contains_int.eq k l s) (Ev.bind (b := r) (Ev.step (fun k => slices_Index_int.eq k l s) hev) (Ev.ret ?_))
  rw [Bool.eq_iff_iff, decide_eq_true_iff, decide_eq_true_iff]
  exact hiff
theorem l1Has_ev (l : List Int) (s : Int) (hl : l.length ≤ 9223372036854775000) : Ev (fun k => spec_l1Has.f k l s) (decide (s ∈ l)) := by
  refine Ev.step (fun k => spec_l1Has.eq k l s) ?_
  have := Ev.loop l.length (fun k i => spec_l1Has.l0 k s l (l.length : Int) (i : Int)) (fun i => decide (s ∈ l.drop i)) ?_ ?_ 0 (by omega)
  · exact this
  · exact Ev.step (fun k => spec_l1Has.l0_eq k s l _ _) (Ev.neg (by simp) (Ev.ret (by simp)))
  · intro i hi ih
    refine Ev.step (fun k => spec_l1Has.l0_eq k s l _ _) (Ev.pos (by simpa using hi) (Ev.pos (by simp) (Ev.get hi ?_)))
    rw [next_ok i _ hi hl]
    by_cases c : l[i] = s
    · exact Ev.pos (by simp [c]) (Ev.ret (by rw [drop_at _ _ hi]; simp only [List.mem_cons]; simp [c]))
    · exact Ev.neg (by simp [c]) (Ev.eq ih (by rw [drop_at _ _ hi]; simp only [List.mem_cons]; have e : ¬ s = l[i] := fun e => c e.symm; simp [e]))
/-- is a number within these bounds -/
def inB (n lo hi : Int) : Bool := decide (lo ≤ n) && decide (n ≤ hi)
theorem l1In_f (n lo hi : Int) : spec_l1In.f n lo hi = some (inB n lo hi) := by
  rw [spec_l1In.eq]; unfold inB
  by_cases h : lo ≤ n
  · rw [br_t (by simpa using h)]; simp [h]
  · rw [br_f (by simpa using h)]; simp [h]
theorem within_f (n lo hi : Int) : impl_within.f n lo hi = some (inB n lo hi) := by
  rw [impl_within.eq]; unfold inB
  by_cases h : lo ≤ n
  · rw [br_t (by simpa using h)]; simp [h]
  · rw [br_f (by simpa using h)]; simp [h]
theorem exWord_f (n : Int) : spec_exWord.f n = some (inB n 0 63) := by rw [spec_exWord.eq, l1In_f]; rfl
theorem isWord_f (n : Int) : impl_isWord.f n = some (inB n 0 63) := by rw [impl_isWord.eq, within_f]; rfl
end Go.Proofs.Ytiofklineiioaaa.Am
end
section
/- Expressions: which operands a node has, where a node may stand; the program's functions and the reference's answer alike. -/
namespace Go.Proofs.Ytiofklineiioaaa.Am
open Go
set_option linter.unusedVariables false
set_option linter.unusedSimpArgs false

abbrev tIn : ByteArray := ⟨#[105, 110]⟩
abbrev tConst : ByteArray := ⟨#[99, 111, 110, 115, 116]⟩
abbrev tNot : ByteArray := ⟨#[110, 111, 116]⟩
abbrev tNeg : ByteArray := ⟨#[110, 101, 103]⟩
def opsL : List ByteArray := [(⟨#[97, 100, 100]⟩ : ByteArray), (⟨#[115, 117, 98]⟩ : ByteArray), (⟨#[109, 117, 108]⟩ : ByteArray), (⟨#[97, 110, 100]⟩ : ByteArray), (⟨#[111, 114]⟩ : ByteArray), (⟨#[120, 111, 114]⟩ : ByteArray), (⟨#[115, 104, 108]⟩ : ByteArray), (⟨#[115, 104, 114]⟩ : ByteArray), (⟨#[108, 101, 115, 115]⟩ : ByteArray), (⟨#[101, 113]⟩ : ByteArray)]
def isTwo (s : ByteArray) : Bool := isIn opsL s
def isOne (s : ByteArray) : Bool := decide (s = tNot) || decide (s = tNeg)
/-- how many operands an op has; -1: it is none -/
def arity (s : ByteArray) : Int := if s = tIn then 0 else if s = tConst then 0 else if isOne s = true then 1 else if isTwo s = true then 2 else -1
theorem isOne_mem {s : ByteArray} (h : isOne s = true) : s = tNot ∨ s = tNeg := by
  unfold isOne at h
  simpa using h
theorem arity_one {s : ByteArray} (h : isOne s = true) : arity s = 1 := by
  unfold arity
  rw [if_neg (by rcases isOne_mem h with e | e <;> rw [e] <;> decide), if_neg (by rcases isOne_mem h with e | e <;> rw [e] <;> decide), if_pos h]
theorem isTwo_not {s : ByteArray} (h : isTwo s = true) : s ≠ tIn ∧ s ≠ tConst ∧ isOne s = false := by
  refine ⟨fun e => ?_, fun e => ?_, ?_⟩
  · rw [e] at h; revert h; decide
  · rw [e] at h; revert h; decide
  · cases h1 : isOne s with
    | false => rfl
    | true => rcases isOne_mem h1 with e | e <;> (rw [e] at h; revert h; decide)
theorem arity_two {s : ByteArray} (h : isTwo s = true) : arity s = 2 := by
  obtain ⟨h1, h2, h3⟩ := isTwo_not h
  unfold arity
  rw [if_neg h1, if_neg h2, if_neg (by simp [h3]), if_pos h]
theorem arity_cases (s : ByteArray) : (arity s = -1 ∧ isOne s = false ∧ isTwo s = false) ∨ (arity s = 0 ∧ isOne s = false ∧ isTwo s = false) ∨ (arity s = 1 ∧ isOne s = true ∧ isTwo s = false) ∨ (arity s = 2 ∧ isOne s = false ∧ isTwo s = true) := by
  by_cases h2 : isTwo s = true
  · exact .inr (.inr (.inr ⟨arity_two h2, (isTwo_not h2).2.2, h2⟩))
  · have h2' : isTwo s = false := by simpa using h2
    by_cases h1 : isOne s = true
    · exact .inr (.inr (.inl ⟨arity_one h1, h1, h2'⟩))
    · have h1' : isOne s = false := by simpa using h1
      by_cases c : s = tIn
      · exact .inr (.inl ⟨by unfold arity; rw [if_pos c], h1', h2'⟩)
      · by_cases c2 : s = tConst
        · exact .inr (.inl ⟨by unfold arity; rw [if_neg c, if_pos c2], h1', h2'⟩)
        · exact .inl ⟨by unfold arity; rw [if_neg c, if_neg c2, if_neg h1, if_neg h2], h1', h2'⟩
theorem arity_eq_one {s : ByteArray} : arity s = 1 ↔ isOne s = true := by
  rcases arity_cases s with ⟨h, h1, h2⟩ | ⟨h, h1, h2⟩ | ⟨h, h1, h2⟩ | ⟨h, h1, h2⟩ <;> rw [h, h1] <;> simp
theorem arity_eq_two {s : ByteArray} : arity s = 2 ↔ isTwo s = true := by
  rcases arity_cases s with ⟨h, h1, h2⟩ | ⟨h, h1, h2⟩ | ⟨h, h1, h2⟩ | ⟨h, h1, h2⟩ <;> rw [h, h2] <;> simp
theorem seq_t {x y : ByteArray} (h : x = y) : seq x y = true := seq_iff.2 h
theorem seq_f {x y : ByteArray} (h : ¬ x = y) : seq x y = false := by rw [seq_beq]; simp [h]
theorem exOne_f (s : ByteArray) : spec_exOne.f s = some (isOne s) := by
  rw [spec_exOne.eq, seq_beq, seq_beq]
  unfold isOne
  by_cases h : s = tNot
  · rw [br_t (by simpa using h)]; simp [h]
  · rw [br_f (by simpa using h)]; simp [h]
theorem exTwo_ev (s : ByteArray) : Ev (fun k => spec_exTwo.f k s) (isTwo s) := Ev.step (fun k => spec_exTwo.eq k s) (Ev.here spec_exOps.eq (Ev.bind (l1HasS_ev opsL s (by decide)) (Ev.now _)))
theorem operands_ev (s : ByteArray) : Ev (fun k => impl_operands.f k s) (arity s) := by
  refine Ev.step (fun k => impl_operands.eq k s) ?_
  unfold arity
  by_cases c : s = tIn
  · rw [if_pos c]; exact Ev.pos (seq_t c) (Ev.now _)
  · refine Ev.neg (seq_f c) ?_
    rw [if_neg c]
    by_cases c2 : s = tConst
    · rw [if_pos c2]; exact Ev.pos (seq_t c2) (Ev.now _)
    · refine Ev.neg (seq_f c2) ?_
      rw [if_neg c2]
      by_cases c3 : s = tNot
      · rw [if_pos (by unfold isOne; simp [c3])]; exact Ev.pos (seq_t c3) (Ev.now _)
      · refine Ev.neg (seq_f c3) ?_
        by_cases c4 : s = tNeg
        · rw [if_pos (by unfold isOne; simp [c4])]; exact Ev.pos (seq_t c4) (Ev.now _)
        · refine Ev.neg (seq_f c4) (Ev.here impl_binary.eq (Ev.bind (containsS_ev opsL s (by decide)) ?_))
          rw [if_neg (by unfold isOne; simp [c3, c4])]
          by_cases h : isTwo s = true
          · rw [if_pos h]; exact Ev.pos h (Ev.now _)
          · have h' : isTwo s = false := by simpa using h
            rw [if_neg h]; exact Ev.neg h' (Ev.now _)

/-! ### nodes -/
/-- the operands of a node -/
def partsOf (n : Nd) : List Int := if arity n.1 = 1 then [n.2.1] else if arity n.1 = 2 then [n.2.1, n.2.2.1] else []
theorem parts_le (n : Nd) : (partsOf n).length ≤ 2 := by unfold partsOf; split <;> (try split) <;> simp
theorem exParts_ev (n : Nd) : Ev (fun k => spec_exParts.f k n) (partsOf n) := by
  refine Ev.step (fun k => spec_exParts.eq k n) (Ev.here (exOne_f _) ?_)
  unfold partsOf
  by_cases h : isOne n.1 = true
  · exact Ev.pos h (Ev.ret (by rw [if_pos (arity_one h)]))
  · refine Ev.neg (by simpa using h) (Ev.bind (exTwo_ev n.1) ?_)
    rw [if_neg (fun e => h (arity_eq_one.1 e))]
    by_cases h2 : isTwo n.1 = true
    · exact Ev.pos h2 (Ev.ret (by rw [if_pos (arity_two h2)]))
    · exact Ev.neg (by simpa using h2) (Ev.ret (by rw [if_neg (fun e => h2 (arity_eq_two.1 e))]))
theorem of_ev (n : Nd) : Ev (fun k => impl_Node_of.f k n) (partsOf n) := by
  refine Ev.step (fun k => impl_Node_of.eq k n) (Ev.bind (operands_ev n.1) ?_)
  unfold partsOf
  rcases arity_cases n.1 with ⟨h, _⟩ | ⟨h, _⟩ | ⟨h, _⟩ | ⟨h, _⟩ <;> rw [h] <;> exact Ev.pos (by decide) (Ev.pos (by simp [maxI]) (Ev.ret (by simp [maxI])))
/-- may this node stand at place i -/
def nodeOk (n : Nd) (i : Int) : Bool :=
  if n.1 = tIn then decide (n.2.1 = 0) && decide (n.2.2.1 = 0) && inB n.2.2.2 0 1
  else if n.1 = tConst then decide (n.2.1 = 0) && decide (n.2.2.1 = 0) && inB n.2.2.2 0 63
  else if isOne n.1 = true then inB n.2.1 0 (i - 1) && decide (n.2.2.1 = 0) && decide (n.2.2.2 = 0)
  else isTwo n.1 && inB n.2.1 0 (i - 1) && inB n.2.2.1 0 (i - 1) && decide (n.2.2.2 = 0)
theorem exNode_ev (n : Nd) (i : Int) (h0 : 0 ≤ i) (h1 : i ≤ 9223372036854775807) : Ev (fun k => spec_exNode.f k n i) (nodeOk n i) := by
  refine Ev.step (fun k => spec_exNode.eq k n i) ?_
  unfold nodeOk
  rw [wrap_ok (by omega) (by omega)]
  simp only [l1In_f, exWord_f, exOne_f]
  by_cases c : n.1 = tIn
  · refine Ev.pos (seq_t c) ?_
    rw [if_pos c]
    by_cases a : n.2.1 = 0
    · by_cases b : n.2.2.1 = 0
      · exact Ev.pos (by simpa using a) (Ev.pos (by simpa using b) (Ev.here rfl (Ev.ret (by simp [a, b]))))
      · exact Ev.pos (by simpa using a) (Ev.neg (by simpa using b) (Ev.ret (by simp [b])))
    · exact Ev.neg (by simpa using a) (Ev.ret (by simp [a]))
  · refine Ev.neg (seq_f c) ?_
    rw [if_neg c]
    by_cases c2 : n.1 = tConst
    · refine Ev.pos (seq_t c2) ?_
      rw [if_pos c2]
      by_cases a : n.2.1 = 0
      · by_cases b : n.2.2.1 = 0
        · exact Ev.pos (by simpa using a) (Ev.pos (by simpa using b) (Ev.here rfl (Ev.ret (by simp [a, b]))))
        · exact Ev.pos (by simpa using a) (Ev.neg (by simpa using b) (Ev.ret (by simp [b])))
      · exact Ev.neg (by simpa using a) (Ev.ret (by simp [a]))
    · refine Ev.neg (seq_f c2) ?_
      rw [if_neg c2]
      refine Ev.here rfl ?_
      by_cases h : isOne n.1 = true
      · refine Ev.pos h (Ev.here rfl ?_)
        rw [if_pos h]
        cases hb : inB n.2.1 0 (i - 1)
        · exact Ev.neg rfl (Ev.ret (by simp))
        · by_cases b : n.2.2.1 = 0
          · exact Ev.pos rfl (Ev.pos (by simpa using b) (Ev.ret (by simp [b]; rfl)))
          · exact Ev.pos rfl (Ev.neg (by simpa using b) (Ev.ret (by simp [b])))
      · refine Ev.neg (by simpa using h) (Ev.bind (exTwo_ev n.1) ?_)
        rw [if_neg h]
        cases h2 : isTwo n.1
        · exact Ev.neg rfl (Ev.ret (by simp))
        · refine Ev.pos rfl (Ev.here rfl ?_)
          cases hb : inB n.2.1 0 (i - 1)
          · exact Ev.neg rfl (Ev.ret (by simp))
          · refine Ev.pos rfl (Ev.here rfl ?_)
            cases hb2 : inB n.2.2.1 0 (i - 1)
            · exact Ev.neg rfl (Ev.ret (by simp))
            · exact Ev.pos rfl (Ev.ret (by simp; rfl))
end Go.Proofs.Ytiofklineiioaaa.Am
end
section
/- The forms of ops and their costs: the program's and the reference's. -/
namespace Go.Proofs.Ytiofklineiioaaa.Am
open Go
set_option linter.unusedVariables false
set_option linter.unusedSimpArgs false

abbrev tSet : ByteArray := ⟨#[115, 101, 116]⟩
abbrev tMov : ByteArray := ⟨#[109, 111, 118]⟩
abbrev tMul : ByteArray := ⟨#[109, 117, 108]⟩
abbrev tShl : ByteArray := ⟨#[115, 104, 108]⟩
abbrev tShr : ByteArray := ⟨#[115, 104, 114]⟩
abbrev tAddi : ByteArray := ⟨#[97, 100, 100, 105]⟩
abbrev tAndi : ByteArray := ⟨#[97, 110, 100, 105]⟩
abbrev tXori : ByteArray := ⟨#[120, 111, 114, 105]⟩
abbrev tShli : ByteArray := ⟨#[115, 104, 108, 105]⟩
abbrev tShri : ByteArray := ⟨#[115, 104, 114, 105]⟩
abbrev tLea : ByteArray := ⟨#[108, 101, 97]⟩
/-- the cost of an op -/
def opCost (s : ByteArray) : Int := if s = tMul then 4 else if s = tShl then 2 else if s = tShr then 2 else 1
theorem opCost_pos (s : ByteArray) : 1 ≤ opCost s ∧ opCost s ≤ 4 := by
  unfold opCost
  repeat' split
  all_goals omega
abbrev Form := Bool × Bool × Int × Int × Int × ByteArray
/-- the form of an op -/
def formP (s : ByteArray) : Form × Bool :=
  if s = tSet then ((false, false, 0, 63, 1, s), true)
  else if s = tMov then ((true, false, 1, 0, 1, s), true)
  else if isOne s = true then ((true, false, 1, 0, 1, s), true)
  else if isTwo s = true then ((true, true, 1, 0, opCost s, s), true)
  else if s = tAddi then ((true, false, 0, 63, 1, s.extract 0 3), true)
  else if s = tAndi then ((true, false, 0, 63, 1, s.extract 0 3), true)
  else if s = tXori then ((true, false, 0, 63, 1, s.extract 0 3), true)
  else if s = tShli then ((true, false, 1, 5, 1, s.extract 0 3), true)
  else if s = tShri then ((true, false, 1, 5, 1, s.extract 0 3), true)
  else if s = tLea then ((true, true, 1, 3, 1, s), true)
  else ((false, false, 0, 0, 0, ⟨#[]⟩), false)
theorem containsS_v (l : List ByteArray) (s : ByteArray) (hl : l.length ≤ 9223372036854775000) : slices_Contains_string.v l s = some (isIn l s) := ev_lim (containsS_ev l s hl)
theorem formP_cost {s : ByteArray} (h : 0 < arity s) : (formP s).1.2.2.2.2.1 = opCost s := by
  rcases arity_cases s with ⟨e, _⟩ | ⟨e, _⟩ | ⟨_, e, _⟩ | ⟨_, _, e⟩
  · omega
  · omega
  · rcases isOne_mem e with rfl | rfl <;> decide
  · have h1 := (isTwo_not e).2.2
    have d1 : s ≠ tSet := fun q => by subst q; revert e; decide
    have d2 : s ≠ tMov := fun q => by subst q; revert e; decide
    simp only [formP, d1, d2, h1, e, if_false, if_true, Bool.false_eq_true]
end Go.Proofs.Ytiofklineiioaaa.Am
end
section
/- Where a node may stand: the program's function; how often each node is an operand. -/
namespace Go.Proofs.Ytiofklineiioaaa.Am
open Go
set_option linter.unusedVariables false
set_option linter.unusedSimpArgs false

theorem isNode_ev (n : Nd) (i : Int) (h0 : 0 ≤ i) (h1 : i ≤ 9223372036854775807) : Ev (fun k => impl_Node_isNode.f k n i) (nodeOk n i) := by
  refine Ev.step (fun k => impl_Node_isNode.eq k n i) (Ev.bind (operands_ev n.1) ?_)
  -- behind both places
  have hend : ∀ m : Int, m = arity n.1 → Ev (fun k => impl_Node_isNode.l0 k i m 2 2 n.1 n.2.1 n.2.2.1 n.2.2.2 [n.2.1, n.2.2.1]) (if n.1 = tIn then inB n.2.2.2 0 1 else if n.1 = tConst then inB n.2.2.2 0 63 else decide (m > 0) && decide (n.2.2.2 = 0)) := by
    intro m hm
    refine Ev.step (fun k => impl_Node_isNode.l0_eq k _ _ _ _ _ _ _ _ _) (Ev.neg (by simp) ?_)
    by_cases c : n.1 = tIn
    · exact Ev.pos (seq_t c) (Ev.here (within_f _ _ _) (Ev.ret (by rw [if_pos c])))
    · refine Ev.neg (seq_f c) ?_
      rw [if_neg c]
      by_cases c2 : n.1 = tConst
      · exact Ev.pos (seq_t c2) (Ev.here (isWord_f _) (Ev.ret (by rw [if_pos c2])))
      · refine Ev.neg (seq_f c2) ?_
        rw [if_neg c2]
        by_cases p : m > 0
        · exact Ev.pos (by simpa using p) (Ev.ret (by simp [p]; rfl))
        · exact Ev.neg (by simpa using p) (Ev.ret (by simp [p]))
  -- one place
  have hone : ∀ (m : Int) (j : Nat) (x : Int) (R : Bool), j < 2 → [n.2.1, n.2.2.1][j]? = some x → Ev (fun k => impl_Node_isNode.l0 k i m 2 ((j + 1 : Nat) : Int) n.1 n.2.1 n.2.2.1 n.2.2.2 [n.2.1, n.2.2.1]) R →
      Ev (fun k => impl_Node_isNode.l0 k i m 2 (j : Int) n.1 n.2.1 n.2.2.1 n.2.2.2 [n.2.1, n.2.2.1]) ((if (j : Int) < m then inB x 0 (i - 1) else decide (x = 0)) && R) := by
    intro m j x R hj hx hR
    refine Ev.step (fun k => impl_Node_isNode.l0_eq k _ _ _ _ _ _ _ _ _) (Ev.pos (by simp; omega) (Ev.pos (by simp) (Ev.pos (by simp; omega) (Ev.at (b := x) (by rw [Int.toNat_natCast]; exact hx) ?_))))
    rw [wrap_ok (x := i - 1) (by omega) (by omega), next_ok j 2 hj (by omega)]
    by_cases hm : (j : Int) < m
    · refine Ev.pos (by simpa using hm) (Ev.here (within_f _ _ _) ?_)
      rw [if_pos hm]
      cases hb : inB x 0 (i - 1) with
      | true => exact Ev.neg rfl (Ev.neg (by simp; omega) (by simpa using hR))
      | false => exact Ev.pos rfl (Ev.ret (by simp))
    · refine Ev.neg (by simpa using hm) (Ev.pos (by simp; omega) ?_)
      rw [if_neg hm]
      by_cases h0 : x = 0
      · exact Ev.neg (by simp [h0]) (by simpa [h0] using hR)
      · exact Ev.pos (by simpa using h0) (Ev.ret (by simp [h0]))
  have h1' := hone (arity n.1) 1 n.2.2.1 _ (by omega) rfl (hend (arity n.1) rfl)
  have h0' := hone (arity n.1) 0 n.2.1 _ (by omega) rfl h1'
  refine Ev.eq h0' ?_
  unfold nodeOk
  by_cases c : n.1 = tIn
  · have ha : arity n.1 = 0 := by unfold arity; rw [if_pos c]
    rw [ha, if_pos c, if_pos c]
    simp [Bool.and_assoc]
  · rw [if_neg c, if_neg c]
    by_cases c2 : n.1 = tConst
    · have ha : arity n.1 = 0 := by unfold arity; rw [if_neg c, if_pos c2]
      rw [ha, if_pos c2, if_pos c2]
      simp [Bool.and_assoc]
    · rw [if_neg c2, if_neg c2]
      rcases arity_cases n.1 with ⟨ha, h1, h2⟩ | ⟨ha, h1, h2⟩ | ⟨ha, h1, h2⟩ | ⟨ha, h1, h2⟩ <;> rw [ha, h1, h2] <;> simp [Bool.and_assoc]

/-! ### how often each node is an operand -/
def bumpU (u : List Int) (p : Int) : List Int := u.set p.toNat (IntKind.wrap .i64 (u.getD p.toNat 0 + 1))
def bumps (u : List Int) (n : Nd) : List Int := (partsOf n).foldl bumpU u
def usesOf (e : List Nd) : List Int := e.foldl bumps (List.replicate e.length 0)
theorem bump_len (u : List Int) (p : Int) : (bumpU u p).length = u.length := by simp [bumpU]
theorem fold_bump_len (l : List Int) (u : List Int) : (l.foldl bumpU u).length = u.length := by
  induction l generalizing u with
  | nil => rfl
  | cons p l ih => rw [List.foldl_cons, ih, bump_len]
theorem bumps_len (u : List Int) (n : Nd) : (bumps u n).length = u.length := fold_bump_len _ _
theorem fold_bumps_len (l : List Nd) (u : List Int) : (l.foldl bumps u).length = u.length := by
  induction l generalizing u with
  | nil => rfl
  | cons p l ih => rw [List.foldl_cons, ih, bumps_len]
theorem usesOf_len (e : List Nd) : (usesOf e).length = e.length := by unfold usesOf; rw [fold_bumps_len, List.length_replicate]
/-- all operands lie below this bound -/
def PartsIn (e : List Nd) (m : Nat) : Prop := ∀ n ∈ e, ∀ p ∈ partsOf n, 0 ≤ p ∧ p < m
theorem take_fold {α β : Type} (f : β → α → β) (l : List α) (b : β) (i : Nat) (h : i < l.length) : (l.take (i + 1)).foldl f b = f ((l.take i).foldl f b) l[i] := by
  rw [List.take_succ_eq_append_getElem h, List.foldl_append]; rfl
theorem bump_at {u : List Int} {p : Int} (h0 : 0 ≤ p) (h : p < u.length) : u[p.toNat]? = some (u.getD p.toNat 0) := by
  have hp : p.toNat < u.length := by omega
  rw [List.getElem?_eq_getElem hp, List.getD_eq_getElem?_getD, List.getElem?_eq_getElem hp]; rfl
theorem exUses_ev (e : List Nd) (hl : e.length ≤ 1048576) (hp : PartsIn e e.length) : Ev (fun k => spec_exUses.f k e) (usesOf e) := by
  refine Ev.step (fun k => spec_exUses.eq k e) (Ev.pos (by simp) (Ev.pos (by simp; omega) ?_))
  rw [Int.toNat_natCast]
  have key := Ev.loop e.length (fun k i => spec_exUses.l0 k e (e.length : Int) (i : Int) ((e.take i).foldl bumps (List.replicate e.length 0))) (fun _ => usesOf e) ?_ ?_ 0 (by omega)
  · simpa using key
  · exact Ev.step (fun k => spec_exUses.l0_eq k _ _ _ _) (Ev.neg (by simp) (Ev.ret (by rw [List.take_of_length_le (Nat.le_refl _)]; rfl)))
  · intro i hi ih
    refine Ev.step (fun k => spec_exUses.l0_eq k _ _ _ _) (Ev.pos (by simpa using hi) (Ev.pos (by simp) (Ev.get hi (Ev.bind (exParts_ev e[i]) ?_))))
    have hps : ∀ p ∈ partsOf e[i], 0 ≤ p ∧ p < e.length := hp _ (List.getElem_mem hi)
    have inner := Ev.loop (partsOf e[i]).length (fun k j => spec_exUses.l1 k e (e.length : Int) (i : Int) (partsOf e[i]) ((partsOf e[i]).length : Int) (j : Int) (((partsOf e[i]).take j).foldl bumpU ((e.take i).foldl bumps (List.replicate e.length 0)))) (fun _ => usesOf e) ?_ ?_ 0 (by omega)
    · simpa using inner
    · refine Ev.step (fun k => spec_exUses.l1_eq k _ _ _ _ _ _ _) (Ev.neg (by simp) ?_)
      rw [List.take_of_length_le (Nat.le_refl _), next_ok i _ hi (by omega)]
      rw [take_fold bumps e _ i hi] at ih
      exact ih
    · intro j hj ihj
      have hpj := hps _ (List.getElem_mem hj)
      have h2 := parts_le e[i]
      have hlen : (((partsOf e[i]).take j).foldl bumpU ((e.take i).foldl bumps (List.replicate e.length 0))).length = e.length := by rw [fold_bump_len, fold_bumps_len, List.length_replicate]
      refine Ev.step (fun k => spec_exUses.l1_eq k _ _ _ _ _ _ _) (Ev.pos (by simpa using hj) (Ev.pos (by simp) (Ev.get hj (Ev.pos (by simpa using hpj.1) (Ev.pos (by rw [hlen]; simpa using hpj.2) (Ev.at (bump_at hpj.1 (by rw [hlen]; exact hpj.2)) (Ev.pos (by simpa using hpj.1) (Ev.pos (by rw [hlen]; simpa using hpj.2) (Ev.at (bump_at hpj.1 (by rw [hlen]; exact hpj.2)) ?_)))))))))
      rw [take_fold bumpU (partsOf e[i]) _ j hj] at ihj
      rw [next_ok j _ hj (by omega)]
      exact ihj
theorem uses_ev (e : List Nd) (hl : e.length ≤ 1048576) (hp : PartsIn e e.length) : Ev (fun k => impl_uses.f k e) (usesOf e) := by
  refine Ev.step (fun k => impl_uses.eq k e) (Ev.pos (by simp) (Ev.pos (by simp; omega) ?_))
  rw [Int.toNat_natCast]
  have key := Ev.loop e.length (fun k i => impl_uses.l0 k e (e.length : Int) (i : Int) ((e.take i).foldl bumps (List.replicate e.length 0))) (fun _ => usesOf e) ?_ ?_ 0 (by omega)
  · simpa using key
  · exact Ev.step (fun k => impl_uses.l0_eq k _ _ _ _) (Ev.neg (by simp) (Ev.ret (by rw [List.take_of_length_le (Nat.le_refl _)]; rfl)))
  · intro i hi ih
    refine Ev.step (fun k => impl_uses.l0_eq k _ _ _ _) (Ev.pos (by simpa using hi) (Ev.pos (by simp) (Ev.get hi (Ev.bind (of_ev e[i]) ?_))))
    have hps : ∀ p ∈ partsOf e[i], 0 ≤ p ∧ p < e.length := hp _ (List.getElem_mem hi)
    have inner := Ev.loop (partsOf e[i]).length (fun k j => impl_uses.l1 k e (e.length : Int) (i : Int) (partsOf e[i]) ((partsOf e[i]).length : Int) (j : Int) (((partsOf e[i]).take j).foldl bumpU ((e.take i).foldl bumps (List.replicate e.length 0)))) (fun _ => usesOf e) ?_ ?_ 0 (by omega)
    · simpa using inner
    · refine Ev.step (fun k => impl_uses.l1_eq k _ _ _ _ _ _ _) (Ev.neg (by simp) ?_)
      rw [List.take_of_length_le (Nat.le_refl _), next_ok i _ hi (by omega)]
      rw [take_fold bumps e _ i hi] at ih
      exact ih
    · intro j hj ihj
      have hpj := hps _ (List.getElem_mem hj)
      have h2 := parts_le e[i]
      have hlen : (((partsOf e[i]).take j).foldl bumpU ((e.take i).foldl bumps (List.replicate e.length 0))).length = e.length := by rw [fold_bump_len, fold_bumps_len, List.length_replicate]
      refine Ev.step (fun k => impl_uses.l1_eq k _ _ _ _ _ _ _) (Ev.pos (by simpa using hj) (Ev.pos (by simp) (Ev.get hj (Ev.pos (by simpa using hpj.1) (Ev.pos (by rw [hlen]; simpa using hpj.2) (Ev.at (bump_at hpj.1 (by rw [hlen]; exact hpj.2)) (Ev.pos (by simpa using hpj.1) (Ev.pos (by rw [hlen]; simpa using hpj.2) (Ev.at (bump_at hpj.1 (by rw [hlen]; exact hpj.2)) ?_)))))))))
      rw [take_fold bumpU (partsOf e[i]) _ j hj] at ihj
      rw [next_ok j _ hj (by omega)]
      exact ihj
end Go.Proofs.Ytiofklineiioaaa.Am
end
section
/- When a list of nodes is an expression, and a tree. -/
namespace Go.Proofs.Ytiofklineiioaaa.Am
open Go
set_option linter.unusedVariables false
set_option linter.unusedSimpArgs false

/-- all nodes from place i on may stand where they stand -/
def nodesOk : List Nd → Nat → Bool
  | [], _ => true
  | n :: r, i => nodeOk n i && nodesOk r (i + 1)
theorem nodesOk_at {e : List Nd} {i : Nat} (h : i < e.length) : nodesOk (e.drop i) i = (nodeOk e[i] i && nodesOk (e.drop (i + 1)) (i + 1)) := by
  rw [drop_at e i h]; rfl
theorem inB_iff {n lo hi : Int} : inB n lo hi = true ↔ lo ≤ n ∧ n ≤ hi := by unfold inB; simp
theorem nodeOk_parts {n : Nd} {i : Nat} (h : nodeOk n i = true) : ∀ p ∈ partsOf n, 0 ≤ p ∧ p < i := by
  intro p hp
  unfold partsOf at hp
  unfold nodeOk at h
  rcases arity_cases n.1 with ⟨ha, h1, h2⟩ | ⟨ha, h1, h2⟩ | ⟨ha, h1, h2⟩ | ⟨ha, h1, h2⟩
  · rw [ha] at hp; simp at hp
  · rw [ha] at hp; simp at hp
  · have n1 : n.1 ≠ tIn := fun e => by rw [e] at h1; revert h1; decide
    have n2 : n.1 ≠ tConst := fun e => by rw [e] at h1; revert h1; decide
    rw [if_neg n1, if_neg n2, if_pos h1] at h
    rw [ha] at hp
    simp only [Bool.and_eq_true, inB_iff] at h
    simp at hp
    omega
  · obtain ⟨n1, n2, _⟩ := isTwo_not h2
    rw [if_neg n1, if_neg n2, if_neg (by simp [h1])] at h
    rw [ha] at hp
    simp only [Bool.and_eq_true, inB_iff] at h
    simp at hp
    omega
theorem nodesOk_get : ∀ (e : List Nd) (i : Nat), nodesOk e i = true → ∀ (j : Nat) (h : j < e.length), nodeOk e[j] ((i + j : Nat) : Int) = true
  | [], i, _, j, h => by simp at h
  | n :: r, i, hn, j, h => by
    simp only [nodesOk, Bool.and_eq_true] at hn
    cases j with
    | zero => simpa using hn.1
    | succ j =>
      have := nodesOk_get r (i + 1) hn.2 j (by simpa using h)
      rw [show i + (j + 1) = i + 1 + j by omega]
      simpa using this
theorem nodesOk_parts {e : List Nd} (h : nodesOk e 0 = true) : PartsIn e e.length := fun n hn p hp => by
  obtain ⟨j, hj, e1⟩ := List.getElem_of_mem hn
  have := nodesOk_get e 0 h j hj
  rw [e1] at this
  have := nodeOk_parts (i := 0 + j) this p hp
  omega
/-- is each node but the last one an operand -/
def allUsed (e : List Nd) : Bool := !decide ((0 : Int) ∈ (usesOf e).take (e.length - 1))
def exprOk (e : List Nd) : Bool := inB e.length 1 24 && (nodesOk e 0 && allUsed e)
theorem noneOf {α : Type} {e : List Nd} {g : Nat → Nat → Option Bool} (hl : e.length ≤ 1048576) (hbad : ∀ i (h : i < e.length), nodeOk e[i] i = false → Ev (fun k => g k i) false) (hgo : ∀ i (h : i < e.length), nodeOk e[i] i = true → Ev (fun k => g k (i + 1)) false → Ev (fun k => g k i) false) : ∀ (d i : Nat), i + d = e.length → nodesOk (e.drop i) i = false → Ev (fun k => g k i) false := by
  intro d
  induction d with
  | zero =>
    intro i hi h
    rw [List.drop_eq_nil_of_le (by omega)] at h
    cases h
  | succ d ih =>
    intro i hi h
    have hlt : i < e.length := by omega
    rw [nodesOk_at hlt] at h
    cases hn : nodeOk e[i] i with
    | false => exact hbad i hlt hn
    | true =>
      rw [hn, Bool.true_and] at h
      exact hgo i hlt hn (ih (i + 1) (by omega) h)
theorem exGood_ev (e : List Nd) (hl : e.length ≤ 1048576) : Ev (fun k => spec_exGood.f k e) (exprOk e) := by
  refine Ev.step (fun k => spec_exGood.eq k e) (Ev.here (l1In_f _ _ _) ?_)
  unfold exprOk
  cases hb : inB (e.length : Int) 1 24 with
  | false => exact Ev.pos rfl (Ev.ret (by simp))
  | true =>
    refine Ev.neg rfl ?_
    have hlen := inB_iff.1 hb
    rw [Bool.true_and]
    cases hn : nodesOk e 0 with
    | true =>
      have key := Ev.loop e.length (fun k i => spec_exGood.l0 k e e (e.length : Int) (i : Int)) (fun _ => allUsed e) ?_ ?_ 0 (by omega)
      · simpa using key
      · have hw : IntKind.wrap .i64 ((e.length : Int) - 1) = ((e.length - 1 : Nat) : Int) := by rw [wrap_ok (by omega) (by omega)]; omega
        refine Ev.step (fun k => spec_exGood.l0_eq k _ _ _ _) (Ev.neg (by simp) (Ev.bind (exUses_ev e hl (nodesOk_parts hn)) ?_))
        rw [hw, usesOf_len]
        refine Ev.pos (by simp) (Ev.pos (by simp) (Ev.bind (l1Has_ev _ _ (by rw [List.length_drop, List.length_take, usesOf_len]; omega)) (Ev.ret ?_)))
        simp [allUsed]
      · intro i hi ih
        have := nodesOk_get e 0 hn i hi
        rw [Nat.zero_add] at this
        refine Ev.step (fun k => spec_exGood.l0_eq k _ _ _ _) (Ev.pos (by simpa using hi) (Ev.pos (by simp) (Ev.get hi (Ev.bind (exNode_ev e[i] i (by omega) (by omega)) (Ev.neg (by rw [this]; rfl) ?_)))))
        rw [next_ok i _ hi (by omega)]
        exact ih
    | false =>
      refine noneOf (α := Nat) (e := e) (g := fun k i => spec_exGood.l0 k e e (e.length : Int) (i : Int)) hl (fun i hi hf => ?_) (fun i hi hf ih => ?_) e.length 0 (by omega) hn
      · exact Ev.step (fun k => spec_exGood.l0_eq k _ _ _ _) (Ev.pos (by simpa using hi) (Ev.pos (by simp) (Ev.get hi (Ev.bind (exNode_ev e[i] i (by omega) (by omega)) (Ev.pos (by rw [hf]; rfl) (Ev.now _))))))
      · refine Ev.step (fun k => spec_exGood.l0_eq k _ _ _ _) (Ev.pos (by simpa using hi) (Ev.pos (by simp) (Ev.get hi (Ev.bind (exNode_ev e[i] i (by omega) (by omega)) (Ev.neg (by rw [hf]; rfl) ?_)))))
        rw [next_ok i _ hi (by omega)]
        exact ih
theorem isExpr_ev (e : List Nd) (hl : e.length ≤ 1048576) : Ev (fun k => impl_IsExpr.f k e) (exprOk e) := by
  refine Ev.step (fun k => impl_IsExpr.eq k e) (Ev.here (within_f _ _ _) ?_)
  unfold exprOk
  cases hb : inB (e.length : Int) 1 24 with
  | false => exact Ev.pos rfl (Ev.ret (by simp))
  | true =>
    refine Ev.neg rfl ?_
    have hlen := inB_iff.1 hb
    rw [Bool.true_and]
    cases hn : nodesOk e 0 with
    | true =>
      have key := Ev.loop e.length (fun k i => impl_IsExpr.l0 k e e (e.length : Int) (i : Int)) (fun _ => allUsed e) ?_ ?_ 0 (by omega)
      · simpa using key
      · have hw : IntKind.wrap .i64 ((e.length : Int) - 1) = ((e.length - 1 : Nat) : Int) := by rw [wrap_ok (by omega) (by omega)]; omega
        refine Ev.step (fun k => impl_IsExpr.l0_eq k _ _ _ _) (Ev.neg (by simp) (Ev.bind (uses_ev e hl (nodesOk_parts hn)) ?_))
        rw [hw, usesOf_len]
        refine Ev.pos (by simp) (Ev.pos (by simp) (Ev.bind (containsI_ev _ _ (by rw [List.length_drop, List.length_take, usesOf_len]; omega)) (Ev.ret ?_)))
        simp [allUsed]
      · intro i hi ih
        have := nodesOk_get e 0 hn i hi
        rw [Nat.zero_add] at this
        refine Ev.step (fun k => impl_IsExpr.l0_eq k _ _ _ _) (Ev.pos (by simpa using hi) (Ev.pos (by simp) (Ev.get hi (Ev.bind (isNode_ev e[i] i (by omega) (by omega)) (Ev.neg (by rw [this]; rfl) ?_)))))
        rw [next_ok i _ hi (by omega)]
        exact ih
    | false =>
      refine noneOf (α := Nat) (e := e) (g := fun k i => impl_IsExpr.l0 k e e (e.length : Int) (i : Int)) hl (fun i hi hf => ?_) (fun i hi hf ih => ?_) e.length 0 (by omega) hn
      · exact Ev.step (fun k => impl_IsExpr.l0_eq k _ _ _ _) (Ev.pos (by simpa using hi) (Ev.pos (by simp) (Ev.get hi (Ev.bind (isNode_ev e[i] i (by omega) (by omega)) (Ev.pos (by rw [hf]; rfl) (Ev.now _))))))
      · refine Ev.step (fun k => impl_IsExpr.l0_eq k _ _ _ _) (Ev.pos (by simpa using hi) (Ev.pos (by simp) (Ev.get hi (Ev.bind (isNode_ev e[i] i (by omega) (by omega)) (Ev.neg (by rw [hf]; rfl) ?_)))))
        rw [next_ok i _ hi (by omega)]
        exact ih
end Go.Proofs.Ytiofklineiioaaa.Am
end
section
/- When an expression is a tree: the program's function and the reference's. -/
namespace Go.Proofs.Ytiofklineiioaaa.Am
open Go
set_option linter.unusedVariables false
set_option linter.unusedSimpArgs false

def Bnd (u : List Int) (m : Nat) : Prop := ∀ x ∈ u, 0 ≤ x ∧ x ≤ m
theorem bump_bnd {u : List Int} {m : Nat} (h : Bnd u m) (hm : m ≤ 1000000000) (p : Int) : Bnd (bumpU u p) (m + 1) := by
  intro x hx
  unfold bumpU at hx
  rcases List.mem_or_eq_of_mem_set hx with hx | hx
  · have := h x hx; omega
  · have hd : 0 ≤ u.getD p.toNat 0 ∧ u.getD p.toNat 0 ≤ m := by
      rw [List.getD_eq_getElem?_getD]
      cases hq : u[p.toNat]? with
      | none => simp
      | some y => exact h y (List.mem_of_getElem? hq)
    rw [hx, wrap_ok (by omega) (by omega)]
    omega
theorem fold_bnd : ∀ (l : List Int) (u : List Int) (m : Nat), Bnd u m → m + l.length ≤ 1000000000 → Bnd (l.foldl bumpU u) (m + l.length)
  | [], u, m, h, _ => h
  | p :: l, u, m, h, hm => by
    simp only [List.length_cons] at hm
    rw [List.foldl_cons, List.length_cons, show m + (l.length + 1) = (m + 1) + l.length by omega]
    exact fold_bnd l _ (m + 1) (bump_bnd h (by omega) p) (by omega)
theorem Bnd.mono {u : List Int} {m k : Nat} (h : Bnd u m) (hk : m ≤ k) : Bnd u k := fun x hx => by have := h x hx; omega
theorem folds_bnd : ∀ (l : List Nd) (u : List Int) (m : Nat), Bnd u m → m + 2 * l.length ≤ 1000000000 → Bnd (l.foldl bumps u) (m + 2 * l.length)
  | [], u, m, h, _ => h
  | n :: l, u, m, h, hm => by
    simp only [List.length_cons] at hm
    have hp := parts_le n
    rw [List.foldl_cons, List.length_cons, show m + 2 * (l.length + 1) = (m + 2) + 2 * l.length by omega]
    exact folds_bnd l _ (m + 2) ((fold_bnd (partsOf n) u m h (by omega)).mono (by omega)) (by omega)
theorem uses_bnd (e : List Nd) (hl : e.length ≤ 1048576) : Bnd (usesOf e) (2 * e.length) := by
  have := folds_bnd e (List.replicate e.length 0) 0 (fun x hx => by have := List.eq_of_mem_replicate hx; omega) (by omega)
  simpa [usesOf] using this
/-- is each node at most once an operand -/
def once (e : List Nd) : Bool := (usesOf e).all fun x => decide (x ≤ 1)
theorem exprOk_parts {e : List Nd} (h : exprOk e = true) : nodesOk e 0 = true ∧ 1 ≤ e.length ∧ e.length ≤ 24 := by
  unfold exprOk at h
  simp only [Bool.and_eq_true, inB_iff] at h
  exact ⟨h.2.1, by omega, by omega⟩
end Go.Proofs.Ytiofklineiioaaa.Am
end
section
/- Trees that may be asked for. -/
namespace Go.Proofs.Ytiofklineiioaaa.Am
open Go
set_option linter.unusedVariables false
set_option linter.unusedSimpArgs false

theorem hole_val {n : Nd} {i : Int} (h : nodeOk n i = true) (c : n.1 = tIn) : ∃ v : Nat, v < 2 ∧ n.2.2.2 = (v : Int) := by
  unfold nodeOk at h
  rw [if_pos c] at h
  simp only [Bool.and_eq_true, inB_iff] at h
  exact ⟨n.2.2.2.toNat, by omega, by omega⟩
theorem last_w {n : Nat} (h0 : 1 ≤ n) (h1 : n ≤ 1048576) : IntKind.wrap .i64 ((n : Int) - 1) = ((n - 1 : Nat) : Int) := by
  rw [wrap_ok (by omega) (by omega)]; omega
/-- a tree that may be asked for -/
def treeOk (e : List Nd) : Bool := exprOk e && once e
theorem treeOk_parts {e : List Nd} (h : treeOk e = true) : nodesOk e 0 = true ∧ 1 ≤ e.length ∧ e.length ≤ 24 ∧ once e = true := by
  unfold treeOk at h
  rw [Bool.and_eq_true] at h
  obtain ⟨h1, h2, h3⟩ := exprOk_parts h.1
  exact ⟨h1, h2, h3, h.2⟩
theorem exGood_v (e : List Nd) (hl : e.length ≤ 1048576) : spec_exGood.v e = some (exprOk e) := ev_lim (exGood_ev e hl)
theorem isExpr_v (e : List Nd) (hl : e.length ≤ 1048576) : impl_IsExpr.v e = some (exprOk e) := ev_lim (isExpr_ev e hl)
end Go.Proofs.Ytiofklineiioaaa.Am
end
section
/- What ops make of words, what expressions are for inputs, their tables: the program's functions and the reference's answer alike. -/
namespace Go.Proofs.Ytiofklineiioaaa.Am
open Go
set_option linter.unusedVariables false
set_option linter.unusedSimpArgs false

def word (x : Int) : Prop := 0 ≤ x ∧ x ≤ 63
theorem and63 (x : BitVec 64) : ((x &&& BitVec.ofInt 64 63).toNat) ≤ 63 := by
  rw [BitVec.toNat_and]
  exact Nat.and_le_right
theorem wand63 (x : BitVec 64) : word (IntKind.wrap .i64 (((x &&& BitVec.ofInt 64 63).toNat : Nat) : Int)) := by
  have := and63 x
  rw [wrap_ok (by omega) (by omega)]
  exact ⟨by omega, by omega⟩
def isW (x : Option Int) : Prop := ∃ r, x = some r ∧ word r
theorem isW_ite {c : Prop} [Decidable c] {x y : Option Int} (hx : isW x) (hy : isW y) : isW (if c then x else y) := by split <;> assumption
theorem isW_and (x : BitVec 64) : isW (some (IntKind.wrap .i64 (((x &&& BitVec.ofInt 64 63).toNat : Nat) : Int))) := ⟨_, rfl, wand63 x⟩
theorem apply_some (s : ByteArray) (a b : Int) (hb : 0 ≤ b) : isW (impl_apply.f s a b) := by
  rw [impl_apply.eq]
  simp only [impl_bit.eq, br_if, bd_ite, bd_s, hb, decide_true, if_true]
  repeat' first | exact isW_and _ | apply isW_ite
noncomputable def appP (s : ByteArray) (a b : Int) : Int := (impl_apply.f s a b).getD 0
theorem apply_f (s : ByteArray) (a b : Int) (hb : 0 ≤ b) : impl_apply.f s a b = some (appP s a b) := by
  obtain ⟨r, h, _⟩ := apply_some s a b hb
  unfold appP; rw [h]; rfl
theorem appP_word (s : ByteArray) (a b : Int) (hb : 0 ≤ b) : word (appP s a b) := by
  obtain ⟨r, h, hw⟩ := apply_some s a b hb
  unfold appP; rw [h]; exact hw
theorem exApply_eq (s : ByteArray) (a b : Int) : spec_exApply.f s a b = impl_apply.f s a b := by
  rw [spec_exApply.eq, impl_apply.eq]
  simp only [impl_bit.eq, br_if, bd_ite, bd_s]
  repeat' split
  all_goals first | rfl | simp_all
theorem exApply_f (s : ByteArray) (a b : Int) (hb : 0 ≤ b) : spec_exApply.f s a b = some (appP s a b) := by rw [exApply_eq, apply_f s a b hb]
theorem appP_one {s : ByteArray} (h : isOne s = true) (a b : Int) : appP s a b = appP s a 0 := by
  unfold appP
  rcases isOne_mem h with rfl | rfl <;> rw [impl_apply.eq, impl_apply.eq] <;> simp [br_if, seq_beq]

/-! ### the values of all nodes -/
noncomputable def nVal (x0 x1 : Int) (o : List Int) (n : Nd) : Int :=
  if n.1 = tConst then n.2.2.2 else if n.1 = tIn then (if n.2.2.2 = 0 then x0 else x1)
  else if isOne n.1 = true then appP n.1 (o.getD n.2.1.toNat 0) 0 else appP n.1 (o.getD n.2.1.toNat 0) (o.getD n.2.2.1.toNat 0)
noncomputable def valsP (x0 x1 : Int) (e : List Nd) : List Int := e.foldl (fun o n => o ++ [nVal x0 x1 o n]) []
theorem vals_len (x0 x1 : Int) : ∀ (e : List Nd) (o : List Int), (e.foldl (fun o n => o ++ [nVal x0 x1 o n]) o).length = o.length + e.length
  | [], o => rfl
  | n :: r, o => by rw [List.foldl_cons, vals_len x0 x1 r]; simp; omega
theorem valsP_len (x0 x1 : Int) (e : List Nd) : (valsP x0 x1 e).length = e.length := by unfold valsP; rw [vals_len]; simp
theorem valsP_take (x0 x1 : Int) {e : List Nd} {i : Nat} (h : i < e.length) : valsP x0 x1 (e.take (i + 1)) = valsP x0 x1 (e.take i) ++ [nVal x0 x1 (valsP x0 x1 (e.take i)) e[i]] := take_fold _ _ _ i h
def words (l : List Int) : Prop := ∀ x ∈ l, word x
theorem words_get {l : List Int} (h : words l) (j : Nat) : word (l.getD j 0) := by
  rw [List.getD_eq_getElem?_getD]
  by_cases c : j < l.length
  · rw [List.getElem?_eq_getElem c]; exact h _ (List.getElem_mem c)
  · rw [List.getElem?_eq_none (Nat.le_of_not_lt c)]; exact ⟨by decide, by decide⟩
theorem nVal_word {x0 x1 : Int} (h0 : word x0) (h1 : word x1) {o : List Int} (ho : words o) {n : Nd} {i : Int} (hn : nodeOk n i = true) : word (nVal x0 x1 o n) := by
  unfold nVal
  split
  · rename_i c
    unfold nodeOk at hn
    rw [if_neg (by rw [c]; decide), if_pos c] at hn
    simp only [Bool.and_eq_true, inB_iff] at hn
    exact hn.2
  · split
    · split
      · exact h0
      · exact h1
    · split
      · exact appP_word _ _ _ (by omega)
      · exact appP_word _ _ _ (words_get ho _).1
theorem valsP_words {x0 x1 : Int} (h0 : word x0) (h1 : word x1) {e : List Nd} (hn : nodesOk e 0 = true) : ∀ i, i ≤ e.length → words (valsP x0 x1 (e.take i)) := by
  intro i
  induction i with
  | zero => intro _ x hx; simp [valsP] at hx
  | succ i ih =>
    intro hi
    have ih := ih (by omega)
    rw [valsP_take x0 x1 (by omega)]
    intro x hx
    rcases List.mem_append.1 hx with hx | hx
    · exact ih x hx
    · simp only [List.mem_singleton] at hx
      subst hx
      have := nodesOk_get e 0 hn i (by omega)
      exact nVal_word h0 h1 ih this
theorem in_val {n : Nd} {i : Int} (h : nodeOk n i = true) (c : n.1 = tIn) : n.2.2.2 = 0 ∨ n.2.2.2 = 1 := by
  obtain ⟨v, hv, e⟩ := hole_val h c
  rcases Nat.lt_or_ge v 1 with q | q
  · exact .inl (by omega)
  · exact .inr (by omega)
theorem room8 {n m : Nat} (hn : n ≤ 1000000) (hm : m ≤ 1000000) : decide (n + m ≤ 35184372088832 / (8 + 1)) = true := decide_eq_true (by omega)
theorem getD_at {l : List Int} {p : Int} (h0 : 0 ≤ p) (h : p < l.length) : l[p.toNat]? = some (l.getD p.toNat 0) := by
  have hp : p.toNat < l.length := by omega
  rw [List.getD_eq_getElem?_getD, List.getElem?_eq_getElem hp]; rfl
theorem one_parts {n : Nd} {i : Nat} (h : nodeOk n i = true) (c1 : n.1 ≠ tIn) (c2 : n.1 ≠ tConst) : (0 ≤ n.2.1 ∧ n.2.1 < i) ∧ ((isOne n.1 = true ∧ n.2.2.1 = 0) ∨ (isOne n.1 = false ∧ 0 ≤ n.2.2.1 ∧ n.2.2.1 < i)) := by
  unfold nodeOk at h
  rw [if_neg c1, if_neg c2] at h
  split at h
  · rename_i h1
    simp only [Bool.and_eq_true, inB_iff, decide_eq_true_iff] at h
    exact ⟨by omega, .inl ⟨h1, by omega⟩⟩
  · rename_i h1
    simp only [Bool.and_eq_true, inB_iff, decide_eq_true_iff] at h
    exact ⟨by omega, .inr ⟨by simpa using h1, by omega⟩⟩
theorem exValues_v {e : List Nd} (hn : nodesOk e 0 = true) (hl : e.length ≤ 1000000) {x0 x1 : Int} (h0 : word x0) (h1 : word x1) : spec_exValues.v e x0 x1 = some (valsP x0 x1 e) := by
  have key : ∀ (d i : Nat), i + d = e.length → spec_exValues.v0 x0 x1 e (e.length : Int) (i : Int) (valsP x0 x1 (e.take i)) = some (valsP x0 x1 e) := by
    intro d
    induction d with
    | zero =>
      intro i hi
      refine spec_exValues.v0s _ _ _ _ _ _ ?_
      rw [br_f (by simp; omega), List.take_of_length_le (by omega)]
    | succ d ih =>
      intro i hi
      have hlt : i < e.length := by omega
      have hk := nodesOk_get e 0 hn i hlt
      rw [Nat.zero_add] at hk
      have hw := valsP_words h0 h1 hn i (by omega)
      have hvl : (valsP x0 x1 (e.take i)).length = i := by rw [valsP_len, List.length_take]; omega
      have go := ih (i + 1) (by omega)
      rw [valsP_take x0 x1 hlt] at go
      refine spec_exValues.v0s _ _ _ _ _ _ ?_
      rw [br_t (by simpa using hlt), br_t (by simp), Int.toNat_natCast, gt_at _ hlt, next_ok i _ hlt (by omega), seq_beq, seq_beq]
      have rm : ∀ x : Int, decide ((valsP x0 x1 (e.take i)).length + [x].length ≤ 35184372088832 / (8 + 1)) = true := fun x => room8 (by omega) (by simp)
      unfold nVal at go
      by_cases c2 : e[i].1 = tConst
      · rw [if_pos c2] at go
        rw [br_t (by simpa using c2), br_t (rm _)]; exact go
      · rw [if_neg c2] at go
        rw [br_f (by simpa using c2)]
        by_cases c1 : e[i].1 = tIn
        · rw [if_pos c1] at go
          rw [br_t (by simpa using c1)]
          by_cases v : e[i].2.2.2 = 0
          · rw [if_pos v] at go
            rw [br_t (by simpa using v), br_t (rm _)]; exact go
          · rw [if_neg v] at go
            rw [br_f (by simpa using v), br_t (by simpa using c1), br_t (rm _)]; exact go
        · rw [if_neg c1] at go
          obtain ⟨pa, pb⟩ := one_parts hk c1 c2
          rw [br_f (by simpa using c1), br_f (by simpa using c1), exOne_f, bd_s]
          rcases pb with ⟨ho, hb⟩ | ⟨ho, hb⟩
          · rw [if_pos ho] at go
            rw [br_t ho, br_t (by simpa using pa.1), br_t (by rw [hvl]; simpa using pa.2), gt_some (getD_at pa.1 (by rw [hvl]; exact pa.2)), exApply_f _ _ _ (by omega), bd_s, br_t (rm _)]
            exact go
          · rw [if_neg (by rw [ho]; decide)] at go
            rw [br_f ho, br_t (by simpa using pa.1), br_t (by rw [hvl]; simpa using pa.2), gt_some (getD_at pa.1 (by rw [hvl]; exact pa.2)), br_t (by simpa using hb.1), br_t (by rw [hvl]; simpa using hb.2), gt_some (getD_at hb.1 (by rw [hvl]; exact hb.2)), exApply_f _ _ _ (words_get hw _).1, bd_s, br_t (rm _)]
            exact go
  exact spec_exValues.vs _ _ _ (key e.length 0 (by omega))
theorem get_pad {l : List Int} {p : Int} (h0 : 0 ≤ p) (h : p < l.length) (m : Nat) : (l ++ List.replicate m (0 : Int))[p.toNat]? = some (l.getD p.toNat 0) := by
  rw [List.getElem?_append_left (by omega)]
  exact getD_at h0 h
theorem set_pad (l : List Int) (m : Nat) (x : Int) : (l ++ List.replicate (m + 1) (0 : Int)).set l.length x = (l ++ [x]) ++ List.replicate m 0 := by
  rw [List.replicate_succ, set_mid, List.append_assoc]; rfl
theorem values_v {e : List Nd} (hn : nodesOk e 0 = true) (hl : e.length ≤ 1000000) {x0 x1 : Int} (h0 : word x0) (h1 : word x1) : impl_values.v e x0 x1 = some (valsP x0 x1 e) := by
  have key : ∀ (d i : Nat), i + d = e.length → impl_values.v0 x0 x1 e (e.length : Int) (i : Int) (valsP x0 x1 (e.take i) ++ List.replicate d 0) = some (valsP x0 x1 e) := by
    intro d
    induction d with
    | zero =>
      intro i hi
      refine impl_values.v0s _ _ _ _ _ _ ?_
      rw [br_f (by simp; omega), List.take_of_length_le (by omega)]
      simp
    | succ d ih =>
      intro i hi
      have hlt : i < e.length := by omega
      have hk := nodesOk_get e 0 hn i hlt
      rw [Nat.zero_add] at hk
      have hw := valsP_words h0 h1 hn i (by omega)
      have hvl : (valsP x0 x1 (e.take i)).length = i := by rw [valsP_len, List.length_take]; omega
      have go := ih (i + 1) (by omega)
      rw [valsP_take x0 x1 hlt] at go
      have hs : ∀ x, (valsP x0 x1 (e.take i) ++ List.replicate (d + 1) (0 : Int)).set i x = (valsP x0 x1 (e.take i) ++ [x]) ++ List.replicate d 0 := fun x => by
        have := set_pad (valsP x0 x1 (e.take i)) d x
        rwa [hvl] at this
      have hln : (valsP x0 x1 (e.take i) ++ List.replicate (d + 1) (0 : Int)).length = e.length := by rw [List.length_append, hvl, List.length_replicate]; omega
      have hgi : ∃ z, (valsP x0 x1 (e.take i) ++ List.replicate (d + 1) (0 : Int))[i]? = some z := ⟨_, List.getElem?_eq_getElem (by rw [hln]; exact hlt)⟩
      obtain ⟨z, hz⟩ := hgi
      refine impl_values.v0s _ _ _ _ _ _ ?_
      rw [br_t (by simpa using hlt), br_t (by simp), Int.toNat_natCast, gt_at _ hlt, next_ok i _ hlt (by omega), seq_beq, seq_beq]
      unfold nVal at go
      by_cases c1 : e[i].1 = tIn
      · have c2 : ¬ e[i].1 = tConst := by rw [c1]; decide
        rw [if_neg c2, if_pos c1] at go
        rw [br_t (by simpa using c1)]
        rcases in_val hk c1 with v | v
        · rw [if_pos v] at go
          rw [v, br_t (by simp), br_t (by simp), show (0 : Int).toNat = 0 from rfl, gt_zero, br_t (by simp), br_t (by rw [hln]; simpa using hlt), gt_some hz, hs]
          exact go
        · rw [if_neg (by omega)] at go
          rw [v, br_t (by simp), br_t (by simp), show (1 : Int).toNat = 1 from rfl, gt_one, br_t (by simp), br_t (by rw [hln]; simpa using hlt), gt_some hz, hs]
          exact go
      · rw [br_f (by simpa using c1)]
        by_cases c2 : e[i].1 = tConst
        · rw [if_pos c2] at go
          rw [br_t (by simpa using c2), br_t (by simp), br_t (by rw [hln]; simpa using hlt), gt_some hz, hs]
          exact go
        · rw [if_neg c2, if_neg c1] at go
          rw [br_f (by simpa using c2)]
          obtain ⟨pa, pb⟩ := one_parts hk c1 c2
          have fin : ∀ b : Int, b = e[i].2.2.1 → 0 ≤ b → b < e.length → ∀ y, (valsP x0 x1 (e.take i) ++ List.replicate (d + 1) (0 : Int))[b.toNat]? = some y → 0 ≤ y → appP e[i].1 ((valsP x0 x1 (e.take i)).getD e[i].2.1.toNat 0) y = (if isOne e[i].1 = true then appP e[i].1 ((valsP x0 x1 (e.take i)).getD e[i].2.1.toNat 0) 0 else appP e[i].1 ((valsP x0 x1 (e.take i)).getD e[i].2.1.toNat 0) ((valsP x0 x1 (e.take i)).getD e[i].2.2.1.toNat 0)) →
              (br (decide ((0 : Int) ≤ e[i].2.1)) (br (decide (e[i].2.1 < (((valsP x0 x1 (e.take i) ++ List.replicate (d + 1) (0 : Int)).length : Nat) : Int))) (gt (valsP x0 x1 (e.take i) ++ List.replicate (d + 1) (0 : Int)) (Int.toNat e[i].2.1) fun r4 => br (decide ((0 : Int) ≤ e[i].2.2.1)) (br (decide (e[i].2.2.1 < (((valsP x0 x1 (e.take i) ++ List.replicate (d + 1) (0 : Int)).length : Nat) : Int))) (gt (valsP x0 x1 (e.take i) ++ List.replicate (d + 1) (0 : Int)) (Int.toNat e[i].2.2.1) fun r5 => bd (impl_apply.f e[i].1 r4 r5) fun r6 => br (decide ((0 : Int) ≤ (i : Int))) (br (decide ((i : Int) < (((valsP x0 x1 (e.take i) ++ List.replicate (d + 1) (0 : Int)).length : Nat) : Int))) (gt (valsP x0 x1 (e.take i) ++ List.replicate (d + 1) (0 : Int)) i fun r7 => impl_values.v0 x0 x1 e (e.length : Int) ((i + 1 : Nat) : Int) ((valsP x0 x1 (e.take i) ++ List.replicate (d + 1) (0 : Int)).set i r6)) none) none) none) none) none) none) = some (valsP x0 x1 e) := by
            intro b hb b0 b1 y hy y0 hq
            subst hb
            rw [br_t (by simpa using pa.1), br_t (by rw [hln]; simp; omega), gt_some (get_pad pa.1 (by rw [hvl]; exact pa.2) _), br_t (by simpa using b0), br_t (by rw [hln]; simpa using b1), gt_some hy, apply_f _ _ _ y0, bd_s, br_t (by simp), br_t (by rw [hln]; simpa using hlt), gt_some hz, hs, hq]
            exact go
          rcases pb with ⟨ho, hb⟩ | ⟨ho, hb⟩
          · -- one operand: the other place is 0
            have h00 : ∃ y, (valsP x0 x1 (e.take i) ++ List.replicate (d + 1) (0 : Int))[(0 : Int).toNat]? = some y ∧ 0 ≤ y := by
              by_cases hi0 : i = 0
              · refine ⟨0, ?_, by omega⟩
                have : valsP x0 x1 (e.take i) = [] := List.length_eq_zero_iff.1 (by omega)
                rw [this]; rfl
              · exact ⟨_, get_pad (p := 0) (by omega) (by omega) _, (words_get hw _).1⟩
            obtain ⟨y, hy, hy0⟩ := h00
            exact fin e[i].2.2.1 rfl (by omega) (by omega) y (by rw [hb]; exact hy) hy0 (by rw [if_pos ho, appP_one ho])
          · exact fin e[i].2.2.1 rfl hb.1 (by omega) _ (get_pad hb.1 (by rw [hvl]; exact hb.2) _) (words_get hw _).1 (by rw [if_neg (by rw [ho]; decide)])
  refine impl_values.vs _ _ _ ?_
  rw [br_t (by simp), br_t (by simp; omega), Int.toNat_natCast]
  have := key e.length 0 (by omega)
  simpa [valsP] using this
noncomputable def evalP (e : List Nd) (x0 x1 : Int) : Int := (valsP x0 x1 e).getD (e.length - 1) 0
theorem evalP_word {e : List Nd} (hn : nodesOk e 0 = true) {x0 x1 : Int} (h0 : word x0) (h1 : word x1) : word (evalP e x0 x1) := by
  have := valsP_words h0 h1 hn e.length (Nat.le_refl _)
  rw [List.take_of_length_le (Nat.le_refl _)] at this
  exact words_get this _
theorem eval_last {e : List Nd} (h1 : 1 ≤ e.length) (x0 x1 : Int) : (valsP x0 x1 e)[e.length - 1]? = some (evalP e x0 x1) := by
  unfold evalP
  have hl := valsP_len x0 x1 e
  rw [List.getD_eq_getElem?_getD, List.getElem?_eq_getElem (by omega)]; rfl
theorem exAt_v {e : List Nd} (hn : nodesOk e 0 = true) (hl1 : 1 ≤ e.length) (hl : e.length ≤ 1000000) {x0 x1 : Int} (h0 : word x0) (h1 : word x1) : spec_exAt.v e x0 x1 = some (evalP e x0 x1) := by
  refine spec_exAt.vs _ _ _ ?_
  rw [exValues_v hn hl h0 h1, bd_s, last_w hl1 (by omega), br_t (by simp), Int.toNat_natCast, gt_some (eval_last hl1 x0 x1)]
theorem eval_v {e : List Nd} (hn : nodesOk e 0 = true) (hl1 : 1 ≤ e.length) (hl : e.length ≤ 1000000) {x0 x1 : Int} (h0 : word x0) (h1 : word x1) : impl_eval.v e x0 x1 = some (evalP e x0 x1) := by
  refine impl_eval.vs _ _ _ ?_
  rw [values_v hn hl h0 h1, bd_s, last_w hl1 (by omega), br_t (by simp), Int.toNat_natCast, gt_some (eval_last hl1 x0 x1)]
/-! ### tables -/
noncomputable def tabU (e : List Nd) (m : Nat) : List Int := (List.range m).map fun i => evalP e ((i / 64 : Nat) : Int) ((i % 64 : Nat) : Int)
theorem tabU_len (e : List Nd) (m : Nat) : (tabU e m).length = m := by simp [tabU]
theorem tabU_zero (e : List Nd) : tabU e (64 * 0) = [] := rfl
theorem tabU_succ (e : List Nd) {a b : Nat} (hb : b < 64) : tabU e (64 * a + b) ++ [evalP e (a : Int) (b : Int)] = tabU e (64 * a + (b + 1)) := by
  unfold tabU
  rw [show 64 * a + (b + 1) = (64 * a + b) + 1 by omega, List.range_succ, List.map_append]
  simp only [List.map_cons, List.map_nil]
  rw [show (64 * a + b) / 64 = a by omega, show (64 * a + b) % 64 = b by omega]
noncomputable def tabP (e : List Nd) : List Int := tabU e 4096
theorem exTable_v {e : List Nd} (hn : nodesOk e 0 = true) (hl1 : 1 ≤ e.length) (hl : e.length ≤ 1000000) : spec_exTable.v e = some (tabP e) := by
  have outer : ∀ (d a : Nat), a + d = 64 → spec_exTable.v0 e (a : Int) (tabU e (64 * a)) = some (tabP e) := by
    intro d
    induction d with
    | zero =>
      intro a ha
      obtain rfl : a = 64 := by omega
      exact spec_exTable.v0s _ _ _ (br_f (by decide))
    | succ d ih =>
      intro a ha
      have inner : ∀ (c b : Nat), b + c = 64 → spec_exTable.v1 e (a : Int) (b : Int) (tabU e (64 * a + b)) = some (tabP e) := by
        intro c
        induction c with
        | zero =>
          intro b hb
          obtain rfl : b = 64 := by omega
          refine spec_exTable.v1s _ _ _ _ ?_
          rw [br_f (by decide), next_ok a 64 (by omega) (by omega)]
          exact ih (a + 1) (by omega)
        | succ c ihc =>
          intro b hb
          refine spec_exTable.v1s _ _ _ _ ?_
          rw [br_t (decide_eq_true (by omega)), exAt_v hn hl1 hl ⟨by omega, by omega⟩ ⟨by omega, by omega⟩, bd_s, br_t (room8 (by rw [tabU_len]; omega) (by simp)), next_ok b 64 (by omega) (by omega), tabU_succ e (by omega)]
          exact ihc (b + 1) (by omega)
      refine spec_exTable.v0s _ _ _ ?_
      rw [br_t (decide_eq_true (by omega))]
      exact inner 64 0 (by omega)
  have h := outer 64 0 (by omega)
  rw [tabU_zero] at h
  exact spec_exTable.vs _ h
theorem table_v {e : List Nd} (hn : nodesOk e 0 = true) (hl1 : 1 ≤ e.length) (hl : e.length ≤ 1000000) : impl_tableOf.v e = some (tabP e) := by
  have outer : ∀ (d a : Nat), a + d = 64 → impl_table.v0 e (a : Int) (tabU e (64 * a)) = some (tabP e, ()) := by
    intro d
    induction d with
    | zero =>
      intro a ha
      obtain rfl : a = 64 := by omega
      exact impl_table.v0s _ _ _ (br_f (by decide))
    | succ d ih =>
      intro a ha
      have inner : ∀ (c b : Nat), b + c = 64 → impl_table.v1 e (a : Int) (a : Int) (b : Int) (tabU e (64 * a + b)) = some (tabP e, ()) := by
        intro c
        induction c with
        | zero =>
          intro b hb
          obtain rfl : b = 64 := by omega
          refine impl_table.v1s _ _ _ _ _ ?_
          rw [br_f (by decide), next_ok a 64 (by omega) (by omega)]
          exact ih (a + 1) (by omega)
        | succ c ihc =>
          intro b hb
          refine impl_table.v1s _ _ _ _ _ ?_
          rw [br_t (decide_eq_true (by omega)), show impl_tableOf_1.v (a : Int) (b : Int) e = some (evalP e (a : Int) (b : Int)) from impl_tableOf_1.vs _ _ _ (by rw [eval_v hn hl1 hl ⟨by omega, by omega⟩ ⟨by omega, by omega⟩]; rfl), bd_s, br_t (room8 (by rw [tabU_len]; omega) (by simp)), next_ok b 64 (by omega) (by omega), tabU_succ e (by omega)]
          exact ihc (b + 1) (by omega)
      refine impl_table.v0s _ _ _ ?_
      rw [br_t (decide_eq_true (by omega))]
      exact inner 64 0 (by omega)
  have h := outer 64 0 (by omega)
  rw [tabU_zero] at h
  exact impl_tableOf.vs _ (by rw [impl_table.vs _ h, bd_s])
end Go.Proofs.Ytiofklineiioaaa.Am
end
section
/- What is drawn off bytes: a cursor, numbers. -/
namespace Go.Proofs.Ytiofklineiioaaa.Am
open Go
set_option linter.unusedVariables false
set_option linter.unusedSimpArgs false

abbrev Cur := List Int × Int × Int
/-- a cursor over bytes that stands at n at most -/
def Cu (n : Int) (c : Cur) : Prop := (∀ x ∈ c.1, 0 ≤ x ∧ x ≤ 255) ∧ 0 ≤ c.2.1 ∧ c.2.1 ≤ n
/-- something is drawn -/
def Dr {α : Type} (x : Option (α × Cur)) (n : Int) (P : α → Prop) : Prop := ∃ r c, x = some (r, c) ∧ P r ∧ Cu n c
theorem Cu.mono {n m : Int} {c : Cur} (h : Cu n c) (hm : n ≤ m) : Cu m c := ⟨h.1, h.2.1, by have := h.2.2; omega⟩
section
variable {α β : Type}
theorem Dr.ret {r : α} {c : Cur} {n m : Int} {P : α → Prop} (hc : Cu n c) (hm : n ≤ m) (hr : P r) : Dr (some (r, c)) m P := ⟨r, c, rfl, hr, hc.mono hm⟩
theorem Dr.bd {x : Option (α × Cur)} {g : α × Cur → Option (β × Cur)} {n m : Int} {P : α → Prop} {Q : β → Prop} (h : Dr x n P) (k : ∀ r c, P r → Cu n c → Dr (g (r, c)) m Q) : Dr (Am.bd x g) m Q := by
  obtain ⟨r, c, e, hr, hc⟩ := h
  obtain ⟨s, d, e2, hs, hd⟩ := k r c hr hc
  exact ⟨s, d, by rw [e]; exact e2, hs, hd⟩
theorem Dr.here {γ : Type} {x : Option γ} {v : γ} {g : γ → Option (β × Cur)} {m : Int} {Q : β → Prop} (e : x = some v) (k : Dr (g v) m Q) : Dr (Am.bd x g) m Q := by rw [e]; exact k
theorem Dr.br {b : Bool} {x y : Option (β × Cur)} {m : Int} {Q : β → Prop} (h1 : b = true → Dr x m Q) (h2 : b = false → Dr y m Q) : Dr (Am.br b x y) m Q := by
  cases b with
  | true => exact h1 rfl
  | false => exact h2 rfl
theorem Dr.pos {b : Bool} {x y : Option (β × Cur)} {m : Int} {Q : β → Prop} (hb : b = true) (h : Dr x m Q) : Dr (Am.br b x y) m Q := by rw [br_t hb]; exact h
theorem Dr.neg {b : Bool} {x y : Option (β × Cur)} {m : Int} {Q : β → Prop} (hb : b = false) (h : Dr y m Q) : Dr (Am.br b x y) m Q := by rw [br_f hb]; exact h
theorem Dr.gt {xs : List α} {j : Nat} {f : α → Option (β × Cur)} {m : Int} {Q : β → Prop} (hj : j < xs.length) (h : Dr (f xs[j]) m Q) : Dr (Am.gt xs j f) m Q := by rw [gt_at _ hj]; exact h
theorem Dr.imp {x : Option (α × Cur)} {n m : Int} {P Q : α → Prop} (h : Dr x n P) (hm : n ≤ m) (hp : ∀ r, P r → Q r) : Dr x m Q := by
  obtain ⟨r, c, e, hr, hc⟩ := h
  exact ⟨r, c, e, hp r hr, hc.mono hm⟩
end
theorem byteAnd (x : Int) : 0 ≤ IntKind.wrap .i64 (IntKind.wrap .u64 (((BitVec.toNat ((BitVec.ofInt 64 x) &&& (BitVec.ofInt 64 (255 : Int)))) : Nat) : Int)) ∧ IntKind.wrap .i64 (IntKind.wrap .u64 (((BitVec.toNat ((BitVec.ofInt 64 x) &&& (BitVec.ofInt 64 (255 : Int)))) : Nat) : Int)) ≤ 255 := by
  have h : (BitVec.toNat ((BitVec.ofInt 64 x) &&& (BitVec.ofInt 64 (255 : Int)))) ≤ 255 := by
    rw [BitVec.toNat_and]
    exact Nat.and_le_right
  have hu : ∀ n : Nat, n ≤ 255 → IntKind.wrap .u64 (n : Int) = (n : Int) := by
    intro n hn
    exact IntWalk.u64_in _ ⟨by omega, by omega⟩
  rw [hu _ h, wrap_ok (by omega) (by omega)]
  omega
theorem next_d {n : Int} {c : Cur} (h : Cu n c) (hn : n ≤ 1000000000) : Dr (spec_l1Cur_next.f c.1 c.2.1 c.2.2) (n + 1) fun r => 0 ≤ r ∧ r ≤ 255 := by
  obtain ⟨h1, h2, h3⟩ := h
  rw [spec_l1Cur_next.eq, wrap_ok (x := c.2.1 + 1) (by omega) (by omega)]
  refine Dr.br (fun e => ?_) fun e => ?_
  · have e := of_decide_eq_true e
    have hj : c.2.1.toNat < c.1.length := by omega
    have hb := h1 _ (List.getElem_mem hj)
    refine Dr.pos (decide_eq_true h2) (Dr.gt hj (Dr.pos (decide_eq_true (by omega)) ⟨_, _, rfl, ?_, h1, ?_, ?_⟩))
    · rw [wrap_ok (by omega) (by omega)]; exact hb
    · show 0 ≤ c.2.1 + 1; omega
    · show c.2.1 + 1 ≤ n + 1; omega
  · have e := of_decide_eq_false e
    refine Dr.neg (decide_eq_false (by omega)) ⟨_, _, rfl, byteAnd _, h1, ?_, ?_⟩
    · show 0 ≤ c.2.1 + 1; omega
    · show c.2.1 + 1 ≤ n + 1; omega
theorem tmod_b {x a : Int} (hx : 0 ≤ x) (ha : 1 ≤ a) : 0 ≤ Int.tmod x a ∧ Int.tmod x a < a := ⟨Int.tmod_nonneg _ hx, Int.tmod_lt_of_pos _ (by omega)⟩
theorem pick_d (a : Int) {n : Int} {c : Cur} (h : Cu n c) (hn : n ≤ 999999990) : Dr (spec_l1Cur_pick.f a c.1 c.2.1 c.2.2) (n + 2) fun r => 0 ≤ r ∧ (1 ≤ a → r < a) := by
  rw [spec_l1Cur_pick.eq]
  refine Dr.br (fun e => ?_) fun e => ?_
  · have e := of_decide_eq_true e
    exact ⟨0, c, rfl, ⟨by omega, by omega⟩, h.mono (by omega)⟩
  · have e := of_decide_eq_false e
    have ne : ¬ a = 0 := by omega
    refine Dr.bd (next_d h (by omega)) fun r c1 hr hc => ?_
    refine Dr.br (fun e2 => ?_) fun e2 => ?_
    · refine Dr.bd (next_d hc (by omega)) fun s c2 hs hc2 => ?_
      refine Dr.pos (by simpa using ne) ?_
      dsimp only
      refine ⟨_, _, rfl, ?_, hc2.mono (by omega)⟩
      rw [wrap_ok (x := r * 256) (by omega) (by omega), wrap_ok (by omega) (by omega)]
      have := tmod_b (x := r * 256 + s) (a := a) (by omega) (by omega)
      exact ⟨this.1, fun _ => this.2⟩
    · refine Dr.pos (by simpa using ne) ⟨_, _, rfl, ?_, hc.mono (by omega)⟩
      have := tmod_b (x := r) (a := a) (by omega) (by omega)
      exact ⟨this.1, fun _ => this.2⟩
theorem one_d (a : Int) {n : Int} {c : Cur} (h : Cu n c) (hn : n ≤ 999999990) : Dr (spec_l1Cur_one.f a c.1 c.2.1 c.2.2) (n + 2) fun _ => True := by
  rw [spec_l1Cur_one.eq]
  exact Dr.bd (pick_d a h hn) fun r c1 hr hc => Dr.ret hc (by omega) trivial
theorem of_d (l : List ByteArray) (hl : 1 ≤ l.length) {n : Int} {c : Cur} (h : Cu n c) (hn : n ≤ 999999990) : Dr (spec_l1Cur_of.f l c.1 c.2.1 c.2.2) (n + 2) fun r => r ∈ l := by
  rw [spec_l1Cur_of.eq]
  refine Dr.bd (pick_d _ h hn) fun r c1 hr hc => ?_
  have := hr.2 (by omega)
  refine Dr.pos (decide_eq_true hr.1) (Dr.gt (show (r : Int).toNat < l.length by omega) (Dr.ret hc (by omega) (List.getElem_mem _)))
theorem among_d (l : List Int) (hl : 1 ≤ l.length) {n : Int} {c : Cur} (h : Cu n c) (hn : n ≤ 999999990) : Dr (spec_l1Cur_among.f l c.1 c.2.1 c.2.2) (n + 2) fun r => r ∈ l := by
  rw [spec_l1Cur_among.eq]
  refine Dr.bd (pick_d _ h hn) fun r c1 hr hc => ?_
  have := hr.2 (by omega)
  refine Dr.pos (decide_eq_true hr.1) (Dr.gt (show (r : Int).toNat < l.length by omega) (Dr.ret hc (by omega) (List.getElem_mem _)))
theorem word_d {n : Int} {c : Cur} (h : Cu n c) (hn : n ≤ 999999980) : Dr (spec_l1Cur_word.f c.1 c.2.1 c.2.2) (n + 4) fun r => 0 ≤ r ∧ r ≤ 63 := by
  rw [spec_l1Cur_word.eq]
  refine Dr.bd (one_d 2 h (by omega)) fun r c1 hr hc => Dr.br (fun _ => ?_) fun _ => ?_
  · refine Dr.bd (among_d _ (by simp) hc (by omega)) fun r c2 hr hc2 => Dr.ret hc2 (by omega) ?_
    simp only [List.mem_cons, List.not_mem_nil, or_false] at hr
    omega
  · refine Dr.bd (pick_d 64 hc (by omega)) fun r c2 hr hc2 => Dr.ret hc2 (by omega) ?_
    have := hr.2 (by omega)
    omega
theorem anyWord_d {n : Int} {c : Cur} (h : Cu n c) (hn : n ≤ 999999970) : Dr (spec_l1Cur_anyWord.f c.1 c.2.1 c.2.2) (n + 6) fun _ => True := by
  rw [spec_l1Cur_anyWord.eq]
  refine Dr.bd (one_d 14 h (by omega)) fun r c1 hr hc => Dr.br (fun _ => ?_) fun _ => ?_
  · exact Dr.bd (among_d _ (by simp) hc (by omega)) fun r c2 hr hc2 => Dr.ret hc2 (by omega) trivial
  · exact Dr.bd (word_d hc (by omega)) fun r c2 hr hc2 => Dr.ret hc2 (by omega) trivial
theorem dr_v {α : Type} {v : Option (α × Cur)} {n : Int} {P : α → Prop} {x : Option (α × Cur)} (h : Dr x n P) (vs : ∀ r, x = some r → v = some r) : Dr v n P := by
  obtain ⟨r, c, e, hr, hc⟩ := h
  exact ⟨r, c, vs _ e, hr, hc⟩
def Bytes (l : List Int) : Prop := ∀ x ∈ l, 0 ≤ x ∧ x ≤ 255
theorem Bytes.cu {l : List Int} (h : Bytes l) : Cu 0 (l, 0, 0) := ⟨h, by dsimp only; omega, by dsimp only; omega⟩
end Go.Proofs.Ytiofklineiioaaa.Am
end
section
/- What laws over draws do: rows compared, sizes measured, numbers looked for. -/
namespace Go.Proofs.Ytiofklineiioaaa.Am
open Go
set_option linter.unusedVariables false
set_option linter.unusedSimpArgs false

/-! ### rows that are compared -/
def sameI (a b : List Int) : Bool := decide (a = b)
theorem sameI_cons (x y : Int) (a b : List Int) : sameI (x :: a) (y :: b) = (decide (x = y) && sameI a b) := by
  unfold sameI
  rw [Bool.eq_iff_iff]; simp
/-- draws of no size -/
theorem big_f (a b : List Int) : ∃ r, laws_big.f a b = some r ∧ (r = false → a.length ≤ 1048576 ∧ b.length ≤ 1048576) := by
  rw [laws_big.eq]
  by_cases h : (a.length : Int) > 1048576
  · exact ⟨true, br_t (decide_eq_true h), by simp⟩
  · refine ⟨_, br_f (decide_eq_false h), fun e => ?_⟩
    rw [wrap_ok (by omega) (by omega)] at e
    have := of_decide_eq_false e
    omega
theorem bytes_of {l : List Int} (q : Qd (.sl (.i .u8)) l) : Bytes l := fun x hx => by
  have h := q.2 x hx
  simp only [Qd, Lit.wf] at h
  simpa [IntKind.min, IntKind.max, IntKind.bits, IntKind.signed] using h
end Go.Proofs.Ytiofklineiioaaa.Am
end
section
/- Expressions that are drawn off bytes: there is always an answer, of a bounded size. -/
namespace Go.Proofs.Ytiofklineiioaaa.Am
open Go
set_option linter.unusedVariables false
set_option linter.unusedSimpArgs false

theorem leaf_d {n : Int} {c : Cur} (h : Cu n c) (hn : n ≤ 999999900) : Dr (spec_l1Cur_leaf.f c.1 c.2.1 c.2.2) (n + 6) fun _ => True := by
  rw [spec_l1Cur_leaf.eq]
  refine Dr.bd (one_d 3 h (by omega)) fun r c1 hr hc => Dr.br (fun _ => ?_) fun _ => ?_
  · exact Dr.bd (word_d hc (by omega)) fun r c2 hr hc2 => Dr.ret hc2 (by omega) trivial
  · exact Dr.bd (pick_d 2 hc (by omega)) fun r c2 hr hc2 => Dr.ret hc2 (by omega) trivial
theorem put_d (x : Nd) (s : Bool) (o : List Nd) (ho : o.length ≤ 100000) : ∃ (i : Int) (o' : List Nd), spec_exBuilt_put.v x s o = some (i, (((), s), o')) ∧ o'.length ≤ o.length + 1 := by
  have room : ∀ y : Nd, decide (o.length + [y].length ≤ 35184372088832 / (40 + 1)) = true := fun y => decide_eq_true (by simp; omega)
  have key : ∀ (d i : Nat), i + d = o.length → ∃ (j : Int) (o' : List Nd), spec_exBuilt_put.v0 (o.length : Int) (i : Int) s o x.1 x.2.1 x.2.2.1 x.2.2.2 = some (j, (((), s), o')) ∧ o'.length ≤ o.length + 1 := by
    intro d
    induction d with
    | zero =>
      intro i hi
      exact ⟨IntKind.wrap .i64 ((((o ++ [x]).length : Nat) : Int) - 1), o ++ [x], spec_exBuilt_put.v0s _ _ _ _ _ _ _ _ (by rw [br_f (by simp; omega), br_t (room _)]), by simp⟩
    | succ d ih =>
      intro i hi
      have hlt : i < o.length := by omega
      obtain ⟨j, o', hv, hl⟩ := ih (i + 1) (by omega)
      cases hb : ((o[i].1 == x.1) && ((o[i].2.1 == x.2.1) && ((o[i].2.2.1 == x.2.2.1) && ((o[i].2.2.2 == x.2.2.2) && true)))) with
      | true => exact ⟨i, o, spec_exBuilt_put.v0s _ _ _ _ _ _ _ _ (by rw [br_t (by simpa using hlt), br_t (by simp), br_t (by simpa using hlt), Int.toNat_natCast, gt_at _ hlt, hb, br_t rfl]), by omega⟩
      | false => exact ⟨j, o', spec_exBuilt_put.v0s _ _ _ _ _ _ _ _ (by rw [br_t (by simpa using hlt), br_t (by simp), br_t (by simpa using hlt), Int.toNat_natCast, gt_at _ hlt, hb, br_f rfl, next_ok i _ hlt (by omega), hv]), hl⟩
  cases s with
  | true =>
    obtain ⟨j, o', hv, hl⟩ := key o.length 0 (by omega)
    exact ⟨j, o', spec_exBuilt_put.vs _ _ _ (by rw [br_t rfl]; exact hv), hl⟩
  | false => exact ⟨_, _, spec_exBuilt_put.vs _ _ _ (by rw [br_f rfl, br_t (room _)]), by simp⟩
/-- trees of a depth at most: so many bytes, so many nodes -/
def TreeD (F : Int → List Int → Int → Int → Bool → List Nd → Option (Int × (Cur × ((Unit × Bool) × List Nd)))) (d K : Int) (G : Nat) : Prop :=
  ∀ (n : Int) (c : Cur) (s : Bool) (o : List Nd), Cu n c → n + 4 * K + 100 ≤ 900000000 → o.length ≤ 50000 → ∃ (i : Int) (c' : Cur) (o' : List Nd), F d c.1 c.2.1 c.2.2 s o = some (i, (c', (((), s), o'))) ∧ Cu (n + K) c' ∧ o'.length ≤ o.length + G
theorem tree_zero : TreeD spec_l1Cur_tree.v 0 6 1 := by
  intro n c s o hc hn ho
  obtain ⟨x, c1, e1, _, hc1⟩ := leaf_d hc (by omega)
  obtain ⟨i, o1, e2, hl⟩ := put_d x s o (by omega)
  exact ⟨i, c1, o1, spec_l1Cur_tree.vs _ _ _ _ _ _ (by rw [br_t (show ((0 : Int) == 0) = true from rfl), e1, bd_s, e2, bd_s]), hc1, hl⟩
theorem tree_succ {d K : Int} {G : Nat} (h : TreeD spec_l1Cur_tree.v d K G) (hd : 0 ≤ d) (hd1 : d ≤ 100) (hK : 0 ≤ K) (hK1 : K ≤ 10000) (hG : G ≤ 10000) : TreeD spec_l1Cur_tree.v (d + 1) (2 * K + 20) (2 * G + 1) := by
  intro n c s o hc hn ho
  have w : IntKind.wrap .i64 ((d + 1) - 1) = d := by rw [wrap_ok (by omega) (by omega)]; omega
  have nz : ((d + 1 : Int) == 0) = false := by simp; omega
  have leaf : ∀ {m : Int} {c0 : Cur}, Cu m c0 → m ≤ n + 2 → ∃ (i : Int) (c' : Cur) (o' : List Nd), (bd (spec_l1Cur_leaf.f c0.1 c0.2.1 c0.2.2) fun r0 => (bd (spec_exBuilt_put.v r0.1 s o) fun r1 => (some (r1.1, (r0.2, (((), r1.2.1.2), r1.2.2)))))) = some (i, (c', (((), s), o'))) ∧ Cu (n + (2 * K + 20)) c' ∧ o'.length ≤ o.length + (2 * G + 1) := by
    intro m c0 h0 hm
    obtain ⟨x, c1, e1, _, hc1⟩ := leaf_d h0 (by omega)
    obtain ⟨i, o1, e2, hl⟩ := put_d x s o (by omega)
    exact ⟨i, c1, o1, by rw [e1, bd_s, e2, bd_s], hc1.mono (by omega), by omega⟩
  by_cases h16 : (o.length : Int) > 16
  · obtain ⟨i, c', o', e, h1, h2⟩ := leaf hc (by omega)
    exact ⟨i, c', o', spec_l1Cur_tree.vs _ _ _ _ _ _ (by rw [br_f nz, br_t (decide_eq_true h16)]; exact e), h1, h2⟩
  obtain ⟨b4, c4, e4, _, hc4⟩ := one_d 4 hc (by omega)
  cases b4 with
  | true =>
    obtain ⟨i, c', o', e, h1, h2⟩ := leaf hc4 (by omega)
    exact ⟨i, c', o', spec_l1Cur_tree.vs _ _ _ _ _ _ (by rw [br_f nz, br_f (decide_eq_false h16), e4, bd_s, br_t rfl]; exact e), h1, h2⟩
  | false =>
    obtain ⟨b7, c7, e7, _, hc7⟩ := one_d 5 hc4 (by omega)
    cases b7 with
    | true =>
      obtain ⟨s8, c8, e8, _, hc8⟩ := of_d [(⟨#[110, 111, 116]⟩ : ByteArray), (⟨#[110, 101, 103]⟩ : ByteArray)] (by simp) hc7 (by omega)
      obtain ⟨i9, c9, o9, e9, hc9, l9⟩ := h _ c8 s o hc8 (by omega) ho
      obtain ⟨i, o1, e10, hl⟩ := put_d (s8, (i9, (0, 0))) s o9 (by omega)
      refine ⟨i, c9, o1, spec_l1Cur_tree.vs _ _ _ _ _ _ ?_, hc9.mono (by omega), by omega⟩
      rw [br_f nz, br_f (decide_eq_false h16), e4, bd_s, br_f rfl, e7, bd_s, br_t rfl, e8, bd_s, w]
      dsimp only
      rw [e9, bd_s]
      dsimp only
      rw [e10, bd_s]
    | false =>
      obtain ⟨s12, c12, e12, _, hc12⟩ := of_d opsL (by decide) hc7 (by omega)
      obtain ⟨i13, c13, o13, e13, hc13, l13⟩ := h _ c12 s o hc12 (by omega) ho
      obtain ⟨i14, c14, o14, e14, hc14, l14⟩ := h _ c13 s o13 hc13 (by omega) (by omega)
      obtain ⟨i, o1, e15, hl⟩ := put_d (s12, (i13, (i14, 0))) s o14 (by omega)
      refine ⟨i, c14, o1, spec_l1Cur_tree.vs _ _ _ _ _ _ ?_, hc14.mono (by omega), by omega⟩
      rw [br_f nz, br_f (decide_eq_false h16), e4, bd_s, br_f rfl, e7, bd_s, br_f rfl, show spec_exOps.f = some opsL from spec_exOps.eq, bd_s, e12, bd_s, w]
      dsimp only
      rw [e13, bd_s]
      dsimp only
      rw [e14, bd_s]
      dsimp only
      rw [e15, bd_s]
theorem tree3 : TreeD spec_l1Cur_tree.v 3 188 15 := tree_succ (tree_succ (tree_succ tree_zero (by omega) (by omega) (by omega) (by omega) (by omega)) (by omega) (by omega) (by omega) (by omega) (by omega)) (by omega) (by omega) (by omega) (by omega) (by omega)
theorem expr_d {n : Int} {c : Cur} (h : Cu n c) (hn : n ≤ 800000000) : Dr (spec_l1Cur_expr.v 3 c.1 c.2.1 c.2.2) (n + 200) fun r => 1 ≤ r.length ∧ r.length ≤ 24 := by
  refine dr_v ?_ fun r => spec_l1Cur_expr.vs 3 c.1 c.2.1 c.2.2
  refine Dr.bd (one_d 2 h (by omega)) fun b c1 _ hc1 => ?_
  refine dr_v ?_ fun r => spec_l1Cur_expr.v0s _ _ _ _ _ _
  obtain ⟨i, c2, o, e, hc2, hl⟩ := tree3 _ c1 b [] hc1 (by omega) (by simp)
  have hl : o.length ≤ 15 := by simpa using hl
  rw [e, bd_s]
  dsimp only
  rw [exGood_v o (by omega), bd_s]
  cases hg : exprOk o with
  | false => rw [brn_f]; exact Dr.ret hc2 (by omega) ⟨by simp, by simp⟩
  | true =>
    obtain ⟨_, l1, l2⟩ := exprOk_parts hg
    rw [brn_t]; exact Dr.ret hc2 (by omega) ⟨l1, l2⟩
theorem anyExpr_d {n : Int} {c : Cur} (h : Cu n c) (hn : n ≤ 700000000) : Dr (spec_l1Cur_anyExpr.v 3 c.1 c.2.1 c.2.2) (n + 400) fun r => r.length ≤ 60 := by
  refine dr_v ?_ fun r => spec_l1Cur_anyExpr.vs 3 c.1 c.2.1 c.2.2
  refine Dr.bd (expr_d h (by omega)) fun e c0 he hc0 => Dr.bd (pick_d 16 hc0 (by omega)) fun r1 c1 hr1 hc1 => ?_
  have rm : ∀ (o : List Nd) (y : Nd), o.length ≤ 1000 → decide (o.length + [y].length ≤ 35184372088832 / (40 + 1)) = true := fun o y ho => decide_eq_true (by simp; omega)
  refine Dr.br (fun _ => ?_) fun _ => Dr.br (fun _ => ?_) fun _ => Dr.br (fun _ => ?_) fun _ => Dr.br (fun _ => ?_) fun _ => Dr.br (fun _ => ?_) fun _ => Dr.br (fun _ => ?_) fun _ => ?_
  · refine Dr.bd (pick_d _ hc1 (by omega)) fun r2 c2 hr2 hc2 => Dr.bd (pick_d _ hc2 (by omega)) fun r3 c3 hr3 hc3 => ?_
    have hlt : r2 < (e.length : Int) := hr2.2 (by dsimp only; omega)
    exact Dr.pos (decide_eq_true hr2.1) (Dr.pos (decide_eq_true hlt) (Dr.gt (show r2.toNat < e.length by omega) (Dr.ret hc3 (by omega) (by dsimp only; rw [List.length_set]; omega))))
  · refine Dr.bd (pick_d _ hc1 (by omega)) fun r2 c2 hr2 hc2 => Dr.bd (of_d _ (by simp) hc2 (by omega)) fun r3 c3 hr3 hc3 => ?_
    have hlt : r2 < (e.length : Int) := hr2.2 (by dsimp only; omega)
    exact Dr.pos (decide_eq_true hr2.1) (Dr.pos (decide_eq_true hlt) (Dr.gt (show r2.toNat < e.length by omega) (Dr.ret hc3 (by omega) (by dsimp only; rw [List.length_set]; omega))))
  · refine Dr.bd (pick_d _ hc1 (by omega)) fun r2 c2 hr2 hc2 => Dr.bd (among_d _ (by simp) hc2 (by omega)) fun r3 c3 hr3 hc3 => ?_
    have hlt : r2 < (e.length : Int) := hr2.2 (by dsimp only; omega)
    exact Dr.pos (decide_eq_true hr2.1) (Dr.pos (decide_eq_true hlt) (Dr.gt (show r2.toNat < e.length by omega) (Dr.ret hc3 (by omega) (by dsimp only; rw [List.length_set]; omega))))
  · exact Dr.pos (rm _ _ (by dsimp only; omega)) (Dr.ret hc1 (by omega) (by simp; omega))
  · have key : ∀ (d : Nat) (l : List Nd) (m : Int) (c : Cur), l.length + d = 26 → Cu m c → m + 2 * d ≤ n + 300 → Dr (spec_l1Cur_anyExpr.v0 c.1 c.2.1 c.2.2 l) (n + 400) fun r => r.length ≤ 60 := by
      intro d
      induction d with
      | zero =>
        intro l m c hl hc hm
        refine dr_v ?_ fun r => spec_l1Cur_anyExpr.v0s c.1 c.2.1 c.2.2 l
        refine Dr.bd (pick_d 2 hc (by omega)) fun r c1 hr hc1 => ?_
        have := hr.2 (by omega)
        refine Dr.neg (decide_eq_false (by rw [wrap_ok (by dsimp only; omega) (by dsimp only; omega)]; dsimp only; omega)) (Dr.ret hc1 (by omega) (by omega))
      | succ d ih =>
        intro l m c hl hc hm
        refine dr_v ?_ fun r => spec_l1Cur_anyExpr.v0s c.1 c.2.1 c.2.2 l
        refine Dr.bd (pick_d 2 hc (by omega)) fun r c1 hr hc1 => Dr.br (fun _ => ?_) fun _ => Dr.ret hc1 (by omega) (by omega)
        exact Dr.pos (rm _ _ (by omega)) (ih _ _ c1 (by simp; omega) hc1 (by omega))
    exact key 25 _ _ c1 (by simp) hc1 (by omega)
  · exact Dr.ret hc1 (by omega) (by simp)
  · exact Dr.ret hc1 (by omega) (by dsimp only; omega)
end Go.Proofs.Ytiofklineiioaaa.Am
end
section
/- Tables that are searched: witnesses, least and greatest values, symmetry: the program's functions and the reference's answer alike. -/
namespace Go.Proofs.Ytiofklineiioaaa.Am
open Go
set_option linter.unusedVariables false
set_option linter.unusedSimpArgs false

theorem dv {i : Nat} (h : i ≤ 1000000) : IntKind.wrap .i64 (Int.tdiv (i : Int) 64) = ((i / 64 : Nat) : Int) := by
  rw [Int.tdiv_eq_ediv_of_nonneg (by omega), wrap_ok (by omega) (by omega)]; omega
theorem md (i : Nat) : Int.tmod (i : Int) 64 = ((i % 64 : Nat) : Int) := by
  rw [Int.tmod_eq_emod_of_nonneg (by omega)]; omega
theorem mulw {a : Nat} (h : a ≤ 1000000) : IntKind.wrap .i64 (64 * (a : Int)) = ((64 * a : Nat) : Int) := by rw [wrap_ok (by omega) (by omega)]; omega
theorem addw {a b : Nat} (h : a ≤ 100000000) (h2 : b ≤ 1000000) : IntKind.wrap .i64 ((a : Int) + (b : Int)) = ((a + b : Nat) : Int) := by rw [wrap_ok (by omega) (by omega)]; omega
/-- a place of a table with one input changed -/
def atP (k : Int) (i w : Nat) : Nat := if k = 1 then 64 * (i / 64) + w else 64 * w + i % 64
theorem atP_lt {k : Int} {i w : Nat} (hi : i < 4096) (hw : w < 64) : atP k i w < 4096 := by
  unfold atP; split <;> omega
def tv (T : List Int) (i : Nat) : Int := T.getD i 0
theorem tv_get {T : List Int} {i : Nat} (h : i < T.length) : T[i]? = some (tv T i) := by
  unfold tv
  rw [List.getD_eq_getElem?_getD, List.getElem?_eq_getElem h]; rfl
structure Wit (T : List Int) (k : Int) (i w : Nat) (r : List Int × Bool) : Prop where
  no : r.2 = false → r.1 = [] ∧ ∀ j v : Nat, (j = i ∧ w ≤ v ∨ i < j) → j < 4096 → v < 64 → tv T (atP k j v) = tv T j
  yes : r.2 = true → ∃ j v : Nat, j < 4096 ∧ v < 64 ∧ tv T (atP k j v) ≠ tv T j ∧ r.1 = [((j / 64 : Nat) : Int), ((j % 64 : Nat) : Int), (v : Int)]
theorem tabP_len (e : List Nd) : (tabP e).length = 4096 := tabU_len e 4096
theorem tabP_tv (e : List Nd) {i : Nat} (h : i < 4096) : tv (tabP e) i = evalP e ((i / 64 : Nat) : Int) ((i % 64 : Nat) : Int) := by
  unfold tv tabP tabU
  rw [List.getD_eq_getElem?_getD, List.getElem?_map, List.getElem?_range h]; rfl
theorem exprs {e : List Nd} (h : exprOk e = true) : nodesOk e 0 = true ∧ 1 ≤ e.length ∧ e.length ≤ 1000000 := by
  obtain ⟨h1, h2, h3⟩ := exprOk_parts h
  exact ⟨h1, h2, by omega⟩
theorem tabP_word {e : List Nd} (h : exprOk e = true) {i : Nat} (hi : i < 4096) : word (tv (tabP e) i) := by
  rw [tabP_tv e hi]
  exact evalP_word (exprs h).1 ⟨by omega, by omega⟩ ⟨by omega, by omega⟩
/-! ### least and greatest -/
def Least (T : List Int) (m : Int) : Prop := m ∈ T ∧ ∀ x ∈ T, m ≤ x
def Most (T : List Int) (m : Int) : Prop := m ∈ T ∧ ∀ x ∈ T, x ≤ m
theorem Least.eq {T : List Int} {a b : Int} (ha : Least T a) (hb : Least T b) : a = b := by
  have := ha.2 b hb.1; have := hb.2 a ha.1; omega
theorem Most.eq {T : List Int} {a b : Int} (ha : Most T a) (hb : Most T b) : a = b := by
  have := ha.2 b hb.1; have := hb.2 a ha.1; omega
theorem minI_or (a b : Int) : (minI a b = a ∨ minI a b = b) ∧ minI a b ≤ a ∧ minI a b ≤ b := by
  unfold minI; split <;> omega
theorem maxI_or (a b : Int) : (maxI a b = a ∨ maxI a b = b) ∧ a ≤ maxI a b ∧ b ≤ maxI a b := by
  unfold maxI; split <;> omega
theorem mem_take_succ {T : List Int} {i : Nat} (h : i < T.length) {x : Int} : x ∈ T.take (i + 1) ↔ x ∈ T.take i ∨ x = T[i] := by
  rw [List.take_succ_eq_append_getElem h, List.mem_append, List.mem_singleton]
theorem tabP_mem {e : List Nd} {x : Int} : x ∈ tabP e ↔ ∃ i : Nat, i < 4096 ∧ x = tv (tabP e) i := by
  rw [List.mem_iff_getElem?]
  have hl := tabP_len e
  constructor
  · rintro ⟨i, hi⟩
    have := (List.getElem?_eq_some_iff.1 hi).1
    have h2 := tv_get (T := tabP e) this
    rw [hi] at h2
    exact ⟨i, by omega, Option.some.inj h2⟩
  · rintro ⟨i, hi, hx⟩
    rw [hx]
    exact ⟨i, tv_get (by omega)⟩
/-! ### symmetry -/
def Sym (T : List Int) (r : Bool) : Prop := r = true ↔ ∀ i : Nat, i < 4096 → tv T (64 * (i % 64) + i / 64) = tv T i
end Go.Proofs.Ytiofklineiioaaa.Am
end
section
/- Tables that differ: where first, how often, in which bits: the program's functions and the reference's answer alike. -/
namespace Go.Proofs.Ytiofklineiioaaa.Am
open Go
set_option linter.unusedVariables false
set_option linter.unusedSimpArgs false
set_option maxRecDepth 20000

/-! ### bits of words -/
def orI (a b : Int) : Int := IntKind.wrap .i64 (((BitVec.toNat ((BitVec.ofInt 64 a) ||| (BitVec.ofInt 64 b))) : Nat) : Int)
def xorI (a b : Int) : Int := IntKind.wrap .i64 (((BitVec.toNat ((BitVec.ofInt 64 a) ^^^ (BitVec.ofInt 64 b))) : Nat) : Int)
theorem toN {a : Int} (h : word a) : (BitVec.ofInt 64 a).toNat = a.toNat := by
  rw [BitVec.toNat_ofInt]
  have := h.1
  have := h.2
  congr 1
  omega
theorem orI_eq {a b : Int} (ha : word a) (hb : word b) : orI a b = ((a.toNat ||| b.toNat : Nat) : Int) ∧ word (orI a b) := by
  have h : a.toNat ||| b.toNat < 2 ^ 6 := Nat.or_lt_two_pow (by have := ha.1; have := ha.2; omega) (by have := hb.1; have := hb.2; omega)
  have e : orI a b = ((a.toNat ||| b.toNat : Nat) : Int) := by
    unfold orI
    rw [BitVec.toNat_or, toN ha, toN hb, wrap_ok (by omega) (by omega)]
  exact ⟨e, by rw [e]; exact ⟨by omega, by omega⟩⟩
theorem xorI_eq {a b : Int} (ha : word a) (hb : word b) : xorI a b = ((a.toNat ^^^ b.toNat : Nat) : Int) ∧ word (xorI a b) := by
  have h : a.toNat ^^^ b.toNat < 2 ^ 6 := Nat.xor_lt_two_pow (by have := ha.1; have := ha.2; omega) (by have := hb.1; have := hb.2; omega)
  have e : xorI a b = ((a.toNat ^^^ b.toNat : Nat) : Int) := by
    unfold xorI
    rw [BitVec.toNat_xor, toN ha, toN hb, wrap_ok (by omega) (by omega)]
  exact ⟨e, by rw [e]; exact ⟨by omega, by omega⟩⟩
theorem xorI_self {a : Int} (ha : word a) : xorI a a = 0 := by rw [(xorI_eq ha ha).1, Nat.xor_self]; rfl
theorem xorI_ne {a b : Int} (ha : word a) (hb : word b) (h : a ≠ b) : xorI a b ≠ 0 := by
  rw [(xorI_eq ha hb).1]
  intro q
  have q : a.toNat ^^^ b.toNat = 0 := by omega
  have : a.toNat = b.toNat := calc
    a.toNat = a.toNat ^^^ (b.toNat ^^^ b.toNat) := by rw [Nat.xor_self, Nat.xor_zero]
    _ = (a.toNat ^^^ b.toNat) ^^^ b.toNat := (Nat.xor_assoc _ _ _).symm
    _ = b.toNat := by rw [q, Nat.zero_xor]
  exact h (by have := ha.1; have := hb.1; omega)
theorem orI_zero {a : Int} (ha : word a) : orI a 0 = a := by
  rw [(orI_eq ha ⟨by omega, by omega⟩).1, show Int.toNat 0 = 0 from rfl, Nat.or_zero]
  have := ha.1; omega
theorem orI_nz {a b : Int} (ha : word a) (hb : word b) : orI a b = 0 ↔ a = 0 ∧ b = 0 := by
  rw [(orI_eq ha hb).1]
  have := ha.1
  have := hb.1
  constructor
  · intro h
    have h2 : a.toNat ||| b.toNat = 0 := by omega
    have := Nat.or_eq_zero_iff.1 h2
    omega
  · rintro ⟨rfl, rfl⟩; rfl

/-! ### where tables differ -/
def dU (A B : List Int) (m : Nat) : List Nat := (List.range m).filter fun i => decide (tv A i ≠ tv B i)
def mU (A B : List Int) (m : Nat) : Int := (dU A B m).foldl (fun a i => orI a (xorI (tv A i) (tv B i))) 0
theorem dU_succ (A B : List Int) (m : Nat) : dU A B (m + 1) = if tv A m ≠ tv B m then dU A B m ++ [m] else dU A B m := by
  unfold dU
  rw [List.range_succ, List.filter_append]
  by_cases h : tv A m ≠ tv B m
  · rw [if_pos h, List.filter_cons_of_pos (by simpa using h)]; rfl
  · rw [if_neg h, List.filter_cons_of_neg (by simpa using h), List.filter_nil, List.append_nil]
theorem mU_succ (A B : List Int) (m : Nat) : mU A B (m + 1) = if tv A m ≠ tv B m then orI (mU A B m) (xorI (tv A m) (tv B m)) else mU A B m := by
  unfold mU
  rw [dU_succ]
  by_cases h : tv A m ≠ tv B m
  · rw [if_pos h, if_pos h, List.foldl_append]; rfl
  · rw [if_neg h, if_neg h]
theorem dU_len (A B : List Int) (m : Nat) : (dU A B m).length ≤ m := by
  unfold dU
  exact Nat.le_trans (List.length_filter_le _ _) (by simp)
theorem dU_head {A B : List Int} {m : Nat} (h0 : dU A B m = []) (h1 : tv A m ≠ tv B m) : ∀ d, ∃ r, dU A B (m + 1 + d) = m :: r
  | 0 => ⟨[], by rw [Nat.add_zero, dU_succ, if_pos h1, h0]; rfl⟩
  | d + 1 => by
    obtain ⟨r, hr⟩ := dU_head h0 h1 d
    rw [show m + 1 + (d + 1) = (m + 1 + d) + 1 by omega, dU_succ, hr]
    split
    · exact ⟨r ++ [m + 1 + d], rfl⟩
    · exact ⟨r, rfl⟩
theorem mem_dU {A B : List Int} {m i : Nat} : i ∈ dU A B m ↔ i < m ∧ tv A i ≠ tv B i := by
  unfold dU
  rw [List.mem_filter, List.mem_range, decide_eq_true_iff]
structure Tab (A : List Int) : Prop where
  len : A.length = 4096
  ws : ∀ i : Nat, i < 4096 → word (tv A i)
theorem Tab.of {e : List Nd} (h : exprOk e = true) : Tab (tabP e) := ⟨tabP_len e, fun i hi => tabP_word h hi⟩
section
variable {A B : List Int} (hA : Tab A) (hB : Tab B)
theorem Tab.get (hA : Tab A) {i : Nat} (hi : i < 4096) : A[i]? = some (tv A i) := tv_get (by have := hA.len; omega)
theorem mU_word (hA : Tab A) (hB : Tab B) : ∀ m, m ≤ 4096 → word (mU A B m)
  | 0, _ => ⟨by show (0 : Int) ≤ 0; omega, by show (0 : Int) ≤ 63; omega⟩
  | m + 1, h => by
    rw [mU_succ]
    have ih := mU_word hA hB m (by omega)
    split
    · exact (orI_eq ih (xorI_eq (hA.ws m (by omega)) (hB.ws m (by omega))).2).2
    · exact ih
theorem mU_zero (hA : Tab A) (hB : Tab B) : ∀ m, m ≤ 4096 → (mU A B m = 0 ↔ dU A B m = [])
  | 0, _ => ⟨fun _ => rfl, fun _ => rfl⟩
  | m + 1, h => by
    have ih := mU_zero hA hB m (by omega)
    rw [mU_succ, dU_succ]
    by_cases c : tv A m ≠ tv B m
    · rw [if_pos c, if_pos c]
      have hx := hA.ws m (by omega)
      have hy := hB.ws m (by omega)
      rw [orI_nz (mU_word hA hB m (by omega)) (xorI_eq hx hy).2]
      constructor
      · rintro ⟨_, q⟩; exact absurd q (xorI_ne hx hy c)
      · intro q; simp at q
    · rw [if_neg c, if_neg c]; exact ih
theorem same_iff (hA : Tab A) (hB : Tab B) : A = B ↔ dU A B 4096 = [] := by
  constructor
  · intro h
    subst h
    rw [List.eq_nil_iff_forall_not_mem]
    intro i hi
    exact (mem_dU.1 hi).2 rfl
  · intro h
    have la := hA.len
    have lb := hB.len
    refine List.ext_getElem (by omega) fun i h1 h2 => ?_
    have hi : i < 4096 := by omega
    have ga := hA.get hi
    have gb := hB.get hi
    rw [List.getElem?_eq_getElem h1] at ga
    rw [List.getElem?_eq_getElem h2] at gb
    rw [Option.some.inj ga, Option.some.inj gb]
    refine Decidable.byContradiction fun q => ?_
    have := mem_dU (A := A) (B := B) (m := 4096) (i := i) |>.2 ⟨hi, q⟩
    rw [h] at this
    simp at this
def ints (l : List Nat) : List Int := l.map Int.ofNat
theorem ints_app (l : List Nat) (i : Nat) : ints (l ++ [i]) = ints l ++ [(i : Int)] := by unfold ints; rw [List.map_append]; rfl
theorem ints_len (l : List Nat) : (ints l).length = l.length := by unfold ints; simp
theorem differences_v (hA : Tab A) (hB : Tab B) : impl_differences.v A B = some (ints (dU A B 4096), ()) := by
  have la := hA.len
  have key : ∀ (d i : Nat), i + d = 4096 → impl_differences.v0 B A 4096 (i : Int) (ints (dU A B i)) = some (ints (dU A B 4096), ()) := by
    intro d
    induction d with
    | zero =>
      intro i hi
      obtain rfl : i = 4096 := by omega
      exact impl_differences.v0s _ _ _ _ _ (by rw [br_f (by decide)])
    | succ d ih =>
      intro i hi
      have hlt : i < 4096 := by omega
      have go := ih (i + 1) (by omega)
      have hl := dU_len A B i
      rw [dU_succ] at go
      refine impl_differences.v0s _ _ _ _ _ ?_
      rw [br_t (decide_eq_true (by omega)), br_t (decide_eq_true (by omega)), Int.toNat_natCast, gt_some (hA.get hlt), br_t (decide_eq_true (by omega)), gt_some (hB.get hlt), next_ok i 4096 hlt (by omega)]
      by_cases c : tv A i ≠ tv B i
      · rw [if_pos c, ints_app] at go
        rw [br_t (by simpa using fun q => c q.symm), br_t (decide_eq_true (by rw [ints_len]; simp; omega))]; exact go
      · rw [if_neg c] at go
        have c : tv A i = tv B i := Decidable.not_not.1 c
        rw [br_f (by simp [c])]; exact go
  exact impl_differences.vs _ _ (by rw [show (A.length : Int) = 4096 by omega]; exact key 4096 0 (by omega))
theorem count_l (hA : Tab A) (hB : Tab B) : spec_CountDifferences.v0 B 0 A 4096 0 = some (((dU A B 4096).length : Int), true) := by
  have key : ∀ (d i : Nat), i + d = 4096 → spec_CountDifferences.v0 B ((dU A B i).length : Int) A 4096 (i : Int) = some (((dU A B 4096).length : Int), true) := by
    intro d
    induction d with
    | zero =>
      intro i hi
      obtain rfl : i = 4096 := by omega
      exact spec_CountDifferences.v0s _ _ _ _ _ (by rw [br_f (by decide)])
    | succ d ih =>
      intro i hi
      have hlt : i < 4096 := by omega
      have go := ih (i + 1) (by omega)
      have hl := dU_len A B i
      rw [dU_succ] at go
      refine spec_CountDifferences.v0s _ _ _ _ _ ?_
      rw [br_t (decide_eq_true (by omega)), br_t (decide_eq_true (by omega)), Int.toNat_natCast, gt_some (hA.get hlt), br_t (decide_eq_true (by omega)), gt_some (hB.get hlt), next_ok i 4096 hlt (by omega)]
      by_cases c : tv A i ≠ tv B i
      · rw [if_pos c, List.length_append] at go
        rw [br_t (by simpa using c), wrap_ok (by omega) (by omega)]; exact go
      · rw [if_neg c] at go
        have c : tv A i = tv B i := Decidable.not_not.1 c
        rw [br_f (by simp [c])]; exact go
  exact key 4096 0 (by omega)
theorem eqBits_v (hA : Tab A) (hB : Tab B) : spec_eqBits.v A B = some (mU A B 4096) := by
  have la := hA.len
  have key : ∀ (d i : Nat), i + d = 4096 → spec_eqBits.v0 B (mU A B i) A 4096 (i : Int) = some (mU A B 4096) := by
    intro d
    induction d with
    | zero =>
      intro i hi
      obtain rfl : i = 4096 := by omega
      exact spec_eqBits.v0s _ _ _ _ _ (by rw [br_f (by decide)])
    | succ d ih =>
      intro i hi
      have hlt : i < 4096 := by omega
      have go := ih (i + 1) (by omega)
      rw [mU_succ] at go
      refine spec_eqBits.v0s _ _ _ _ _ ?_
      rw [br_t (decide_eq_true (by omega)), br_t (decide_eq_true (by omega)), Int.toNat_natCast, gt_some (hA.get hlt), br_t (decide_eq_true (by omega)), gt_some (hB.get hlt), next_ok i 4096 hlt (by omega)]
      show spec_eqBits.v0 B (orI (mU A B i) (xorI (tv A i) (tv B i))) A 4096 ((i + 1 : Nat) : Int) = _
      by_cases c : tv A i ≠ tv B i
      · rw [if_pos c] at go; exact go
      · rw [if_neg c] at go
        have c : tv A i = tv B i := Decidable.not_not.1 c
        rw [← c, xorI_self (hA.ws i hlt), orI_zero (mU_word hA hB i (by omega))]
        exact go
  exact spec_eqBits.vs _ _ (by rw [show (A.length : Int) = 4096 by omega]; exact key 4096 0 (by omega))
theorem bits_l (hA : Tab A) (hB : Tab B) (ok : Bool) : ∀ (D : List Nat), (∀ i ∈ D, i < 4096) → D.length ≤ 4096 → impl_DifferentBits.v0 A B ok 0 (D.length : Int) 0 (ints D) = some (D.foldl (fun a i => orI a (xorI (tv A i) (tv B i))) 0, ok) := by
  intro D hD hl
  have key : ∀ (d j : Nat) (m : Int), j + d = D.length → impl_DifferentBits.v0 A B ok m (D.length : Int) (j : Int) (ints D) = some ((D.drop j).foldl (fun a i => orI a (xorI (tv A i) (tv B i))) m, ok) := by
    intro d
    induction d with
    | zero =>
      intro j m hj
      refine impl_DifferentBits.v0s _ _ _ _ _ _ _ ?_
      rw [br_f (by simp; omega), List.drop_eq_nil_of_le (by omega)]; rfl
    | succ d ih =>
      intro j m hj
      have hlt : j < D.length := by omega
      have hi := hD _ (List.getElem_mem hlt)
      have g : (ints D)[j]? = some ((D[j] : Nat) : Int) := by
        unfold ints
        rw [List.getElem?_map, List.getElem?_eq_getElem hlt]; rfl
      refine impl_DifferentBits.v0s _ _ _ _ _ _ _ ?_
      rw [br_t (by simpa using hlt), br_t (by simp), br_t (by rw [ints_len]; simpa using hlt), Int.toNat_natCast, gt_some g, br_t (decide_eq_true (by omega)), Int.toNat_natCast, gt_some (hA.get hi), br_t (decide_eq_true (by omega)), gt_some (hB.get hi), next_ok j _ hlt (by omega), drop_at _ _ hlt]
      exact ih (j + 1) _ (by omega)
  exact key D.length 0 0 (by omega)
theorem eqFirst_v (hA : Tab A) (hB : Tab B) : spec_eqFirst.v A B = some (match dU A B 4096 with | [] => -1 | x :: _ => (x : Int)) := by
  have la := hA.len
  have key : ∀ (d i : Nat), i + d = 4096 → dU A B i = [] → spec_eqFirst.v0 B A 4096 (i : Int) = some (match dU A B 4096 with | [] => -1 | x :: _ => (x : Int)) := by
    intro d
    induction d with
    | zero =>
      intro i hi h
      obtain rfl : i = 4096 := by omega
      refine spec_eqFirst.v0s _ _ _ _ ?_
      rw [br_f (by decide), h]
    | succ d ih =>
      intro i hi h
      have hlt : i < 4096 := by omega
      refine spec_eqFirst.v0s _ _ _ _ ?_
      rw [br_t (decide_eq_true (by omega)), br_t (decide_eq_true (by omega)), Int.toNat_natCast, gt_some (hA.get hlt), br_t (decide_eq_true (by omega)), gt_some (hB.get hlt), next_ok i 4096 hlt (by omega)]
      by_cases c : tv A i ≠ tv B i
      · obtain ⟨r, hr⟩ := dU_head h c d
        rw [show i + 1 + d = 4096 by omega] at hr
        rw [br_t (by simpa using c), hr]
      · have h2 := dU_succ A B i
        rw [if_neg c, h] at h2
        have c : tv A i = tv B i := Decidable.not_not.1 c
        rw [br_f (by simp [c])]
        exact ih (i + 1) (by omega) h2
  exact spec_eqFirst.vs _ _ (by rw [show (A.length : Int) = 4096 by omega]; exact key 4096 0 (by omega) rfl)
end
theorem equalI_v (a b : List Int) (ha : a.length ≤ 1000000) : slices_Equal_int.v a b = some (sameI a b) := by
  have key : ∀ (d i : Nat), i + d = a.length → a.length = b.length → slices_Equal_int.v0 a b (a.length : Int) (i : Int) = some (sameI (a.drop i) (b.drop i)) := by
    intro d
    induction d with
    | zero =>
      intro i hi hab
      refine slices_Equal_int.v0s _ _ _ _ ?_
      rw [br_f (by simp; omega), List.drop_eq_nil_of_le (by omega), List.drop_eq_nil_of_le (by omega)]; rfl
    | succ d ih =>
      intro i hi hab
      have hlt : i < a.length := by omega
      have hlb : i < b.length := by omega
      refine slices_Equal_int.v0s _ _ _ _ ?_
      rw [br_t (by simpa using hlt), br_t (by simp), Int.toNat_natCast, gt_at _ hlt, br_t (by simp), gt_at _ hlb, drop_at _ _ hlt, drop_at _ _ hlb]
      by_cases c : a[i] = b[i]
      · rw [br_f (by simpa using c), next_ok i _ hlt (by omega), ih (i + 1) (by omega) hab, sameI_cons, decide_eq_true c, Bool.true_and]
      · rw [br_t (by simpa using c), sameI_cons, decide_eq_false c, Bool.false_and]
  refine slices_Equal_int.vs _ _ ?_
  by_cases h : a.length = b.length
  · rw [br_f (by simp; omega)]
    have := key a.length 0 (by omega) h
    simpa using this
  · rw [br_t (by simp; omega)]
    unfold sameI; rw [Option.some_inj, eq_comm, decide_eq_false_iff_not]
    intro e; exact h (by rw [e])
theorem l1Same_v (a b : List Int) (ha : a.length ≤ 1000000) : spec_l1Same.v a b = some (sameI a b) := by
  have key : ∀ (d i : Nat), i + d = a.length → a.length = b.length → spec_l1Same.v0 a b (a.length : Int) (i : Int) = some (sameI (a.drop i) (b.drop i)) := by
    intro d
    induction d with
    | zero =>
      intro i hi hab
      refine spec_l1Same.v0s _ _ _ _ ?_
      rw [br_f (by simp; omega), List.drop_eq_nil_of_le (by omega), List.drop_eq_nil_of_le (by omega)]; rfl
    | succ d ih =>
      intro i hi hab
      have hlt : i < a.length := by omega
      have hlb : i < b.length := by omega
      refine spec_l1Same.v0s _ _ _ _ ?_
      rw [br_t (by simpa using hlt), br_t (by simp), Int.toNat_natCast, gt_at _ hlt, br_t (by simp), gt_at _ hlb, drop_at _ _ hlt, drop_at _ _ hlb]
      by_cases c : a[i] = b[i]
      · rw [br_f (by simpa using c), next_ok i _ hlt (by omega), ih (i + 1) (by omega) hab, sameI_cons, decide_eq_true c, Bool.true_and]
      · rw [br_t (by simpa using c), sameI_cons, decide_eq_false c, Bool.false_and]
  refine spec_l1Same.vs _ _ ?_
  by_cases h : a.length = b.length
  · rw [br_f (by simp; omega)]
    have := key a.length 0 (by omega) h
    simpa using this
  · rw [br_t (by simp; omega)]
    unfold sameI; rw [Option.some_inj, eq_comm, decide_eq_false_iff_not]
    intro e; exact h (by rw [e])

/-! ### what is asked of two expressions -/
def both2 (e f : List Nd) : Bool := exprOk e && exprOk f
theorem compared_v (e f : List Nd) (he : e.length ≤ 1048576) (hf : f.length ≤ 1048576) : impl_compared.v e f = some (if both2 e f = true then (tabP e, (tabP f, true)) else ([], ([], false))) := by
  refine impl_compared.vs _ _ ?_
  unfold both2
  rw [isExpr_v e he, bd_s]
  cases h1 : exprOk e with
  | false => rw [brn_f]; rfl
  | true =>
    rw [brn_t, isExpr_v f hf, bd_s]
    cases h2 : exprOk f with
    | false => rw [brn_f]; rfl
    | true =>
      obtain ⟨a1, a2, a3⟩ := exprs h1
      obtain ⟨b1, b2, b3⟩ := exprs h2
      rw [brn_t, table_v a1 a2 a3, bd_s, table_v b1 b2 b3, bd_s]; rfl
noncomputable def firstP (e f : List Nd) : Int × (Int × Bool) := if both2 e f = true then (match dU (tabP e) (tabP f) 4096 with | [] => (0, (0, false)) | x :: _ => (((x / 64 : Nat) : Int), (((x % 64 : Nat) : Int), true))) else (0, (0, false))
noncomputable def countP (e f : List Nd) : Int × Bool := if both2 e f = true then (((dU (tabP e) (tabP f) 4096).length : Int), true) else (0, false)
noncomputable def maskP (e f : List Nd) : Int × Bool := if both2 e f = true then (mU (tabP e) (tabP f) 4096, true) else (0, false)
noncomputable def equalP (e f : List Nd) : Bool × Bool := if both2 e f = true then (sameI (tabP e) (tabP f), true) else (false, false)
section
variable (e f : List Nd) (he : e.length ≤ 1048576) (hf : f.length ≤ 1048576)
theorem diffs_nil : impl_differences.v [] [] = some ([], ()) := impl_differences.vs _ _ (impl_differences.v0s _ _ _ _ _ rfl)
theorem first_v (he : e.length ≤ 1048576) (hf : f.length ≤ 1048576) : impl_FirstDifference.v e f = some (firstP e f) ∧ spec_FirstDifference.v e f = some (firstP e f) := by
  unfold firstP
  refine ⟨impl_FirstDifference.vs _ _ ?_, spec_FirstDifference.vs _ _ ?_⟩
  · rw [compared_v e f he hf, bd_s]
    cases h : both2 e f with
    | false => rw [if_neg (by simp), if_neg (by simp), diffs_nil, bd_s]; rfl
    | true =>
      have h' := h
      unfold both2 at h'
      rw [Bool.and_eq_true] at h'
      rw [if_pos rfl, if_pos rfl, differences_v (Tab.of h'.1) (Tab.of h'.2), bd_s]
      cases hd : dU (tabP e) (tabP f) 4096 with
      | nil => rfl
      | cons x r =>
        have hx : x < 4096 := (mem_dU.1 (by rw [hd]; exact List.mem_cons_self)).1
        have hl : ((ints (x :: r)).length : Int) = (r.length : Int) + 1 := by rw [ints_len]; simp
        dsimp only
        rw [hl, br_f (by simp; omega), br_t (decide_eq_true (by omega)), show Int.toNat (0 : Int) = 0 from rfl, gt_some (show (ints (x :: r))[0]? = some (x : Int) from rfl), impl_inputsAt.eq, bd_s, dv (by omega), md]
  · unfold both2
    rw [exGood_v e he, bd_s]
    cases h1 : exprOk e with
    | false => rw [brn_f]; rfl
    | true =>
      rw [brn_t, exGood_v f hf, bd_s]
      cases h2 : exprOk f with
      | false => rw [brn_f]; rfl
      | true =>
        obtain ⟨a1, a2, a3⟩ := exprs h1
        obtain ⟨b1, b2, b3⟩ := exprs h2
        rw [brn_t, exTable_v a1 a2 a3, bd_s, exTable_v b1 b2 b3, bd_s, eqFirst_v (Tab.of h1) (Tab.of h2), bd_s]
        cases hd : dU (tabP e) (tabP f) 4096 with
        | nil => rfl
        | cons x r =>
          have hx : x < 4096 := (mem_dU.1 (by rw [hd]; exact List.mem_cons_self)).1
          dsimp only
          rw [br_f (decide_eq_false (by omega)), dv (by omega), md]; rfl
theorem count_v (he : e.length ≤ 1048576) (hf : f.length ≤ 1048576) : impl_CountDifferences.v e f = some (countP e f) ∧ spec_CountDifferences.v e f = some (countP e f) := by
  unfold countP
  refine ⟨impl_CountDifferences.vs _ _ ?_, spec_CountDifferences.vs _ _ ?_⟩
  · rw [compared_v e f he hf, bd_s]
    cases h : both2 e f with
    | false => rw [if_neg (by simp), if_neg (by simp), diffs_nil, bd_s]; rfl
    | true =>
      have h' := h
      unfold both2 at h'
      rw [Bool.and_eq_true] at h'
      rw [if_pos rfl, if_pos rfl, differences_v (Tab.of h'.1) (Tab.of h'.2), bd_s, ints_len]
  · unfold both2
    rw [exGood_v e he, bd_s]
    cases h1 : exprOk e with
    | false => rw [brn_f]; rfl
    | true =>
      rw [brn_t, exGood_v f hf, bd_s]
      cases h2 : exprOk f with
      | false => rw [brn_f]; rfl
      | true =>
        obtain ⟨a1, a2, a3⟩ := exprs h1
        obtain ⟨b1, b2, b3⟩ := exprs h2
        rw [brn_t, exTable_v b1 b2 b3, bd_s, exTable_v a1 a2 a3, bd_s, show ((tabP e).length : Int) = 4096 by rw [tabP_len]; rfl, count_l (Tab.of h1) (Tab.of h2)]; rfl
theorem mask_v (he : e.length ≤ 1048576) (hf : f.length ≤ 1048576) : impl_DifferentBits.v e f = some (maskP e f) ∧ spec_DifferentBits.v e f = some (maskP e f) := by
  unfold maskP
  refine ⟨impl_DifferentBits.vs _ _ ?_, spec_DifferentBits.vs _ _ ?_⟩
  · rw [compared_v e f he hf, bd_s]
    cases h : both2 e f with
    | false =>
      rw [if_neg (by simp), if_neg (by simp), diffs_nil, bd_s]
      exact impl_DifferentBits.v0s _ _ _ _ _ _ _ rfl
    | true =>
      have h' := h
      unfold both2 at h'
      rw [Bool.and_eq_true] at h'
      rw [if_pos rfl, if_pos rfl, differences_v (Tab.of h'.1) (Tab.of h'.2), bd_s, ints_len]
      exact bits_l (Tab.of h'.1) (Tab.of h'.2) true _ (fun i hi => (mem_dU.1 hi).1) (dU_len _ _ _)
  · unfold both2
    rw [exGood_v e he, bd_s]
    cases h1 : exprOk e with
    | false => rw [brn_f]; rfl
    | true =>
      rw [brn_t, exGood_v f hf, bd_s]
      cases h2 : exprOk f with
      | false => rw [brn_f]; rfl
      | true =>
        obtain ⟨a1, a2, a3⟩ := exprs h1
        obtain ⟨b1, b2, b3⟩ := exprs h2
        rw [brn_t, exTable_v a1 a2 a3, bd_s, exTable_v b1 b2 b3, bd_s, eqBits_v (Tab.of h1) (Tab.of h2), bd_s]; rfl
theorem equal_v (he : e.length ≤ 1048576) (hf : f.length ≤ 1048576) : impl_AreEqual.v e f = some (equalP e f) ∧ spec_AreEqual.v e f = some (equalP e f) := by
  unfold equalP
  have tl := tabP_len e
  refine ⟨impl_AreEqual.vs _ _ ?_, spec_AreEqual.vs _ _ ?_⟩
  · rw [compared_v e f he hf, bd_s]
    cases h : both2 e f with
    | false => rw [if_neg (by simp), if_neg (by simp)]; rfl
    | true => rw [if_pos rfl, if_pos rfl, br_t rfl, equalI_v _ _ (by dsimp only; omega), bd_s]
  · unfold both2
    rw [exGood_v e he, bd_s]
    cases h1 : exprOk e with
    | false => rw [brn_f]; rfl
    | true =>
      rw [brn_t, exGood_v f hf, bd_s]
      cases h2 : exprOk f with
      | false => rw [brn_f]; rfl
      | true =>
        obtain ⟨a1, a2, a3⟩ := exprs h1
        obtain ⟨b1, b2, b3⟩ := exprs h2
        rw [brn_t, exTable_v a1 a2 a3, bd_s, exTable_v b1 b2 b3, bd_s, l1Same_v _ _ (by omega), bd_s]; rfl
def andI (a b : Int) : Int := IntKind.wrap .i64 (((BitVec.toNat ((BitVec.ofInt 64 a) &&& (BitVec.ofInt 64 b))) : Nat) : Int)
noncomputable def equalAtP (e f : List Nd) (m : Int) : Bool × Bool := if (both2 e f && inB m 0 63) = true then (andI (maskP e f).1 m == 0, true) else (false, false)
theorem equalAt_v (m : Int) (he : e.length ≤ 1048576) (hf : f.length ≤ 1048576) : impl_EqualAt.v e f m = some (equalAtP e f m) ∧ spec_EqualAt.v e f m = some (equalAtP e f m) := by
  refine ⟨impl_EqualAt.vs _ _ _ ?_, spec_EqualAt.vs _ _ _ ?_⟩
  · rw [(mask_v e f he hf).1, bd_s]
    unfold equalAtP maskP
    cases h : both2 e f with
    | false => rfl
    | true =>
      rw [if_pos rfl, br_t rfl, isWord_f, bd_s]
      cases h2 : inB m 0 63 with
      | false => rfl
      | true => rfl
  · unfold equalAtP maskP
    unfold both2
    rw [exGood_v e he, bd_s]
    cases h1 : exprOk e with
    | false => rw [brn_f]; rfl
    | true =>
      rw [brn_t, exGood_v f hf, bd_s]
      cases h2 : exprOk f with
      | false => rw [brn_f]; rfl
      | true =>
        rw [brn_t, exWord_f, bd_s]
        cases h3 : inB m 0 63 with
        | false => rw [brn_f]; rfl
        | true =>
          obtain ⟨a1, a2, a3⟩ := exprs h1
          obtain ⟨b1, b2, b3⟩ := exprs h2
          rw [brn_t, exTable_v a1 a2 a3, bd_s, exTable_v b1 b2 b3, bd_s, eqBits_v (Tab.of h1) (Tab.of h2), bd_s]; rfl
end
end Go.Proofs.Ytiofklineiioaaa.Am
end
section
/- Expressions that are sorted into classes: the program's functions and the reference's answer alike. -/
namespace Go.Proofs.Ytiofklineiioaaa.Am
open Go
set_option linter.unusedVariables false
set_option linter.unusedSimpArgs false
set_option maxRecDepth 20000

/-- the least index of an equal table -/
structure Lst (T : List (List Int)) (i j : Nat) : Prop where
  le : j ≤ i
  eq : T[j]? = T[i]?
  low : ∀ k : Nat, k < j → T[k]? ≠ T[i]?
theorem Lst.uniq {T : List (List Int)} {i j k : Nat} (hj : Lst T i j) (hk : Lst T i k) : j = k := by
  rcases Nat.lt_trichotomy j k with h | h | h
  · exact absurd hj.eq (hk.low j h)
  · exact h
  · exact absurd hk.eq (hj.low k h)
/-- classes of the first m tables -/
structure Cls (T : List (List Int)) (out : List Int) (m : Nat) : Prop where
  len : out.length = m
  mem : ∀ i : Nat, i < m → ∃ j : Nat, out[i]? = some (j : Int) ∧ Lst T i j
theorem Cls.uniq {T : List (List Int)} {a b : List Int} {m : Nat} (ha : Cls T a m) (hb : Cls T b m) : a = b := by
  refine List.ext_getElem? fun i => ?_
  by_cases h : i < m
  · obtain ⟨j, e1, l1⟩ := ha.mem i h
    obtain ⟨k, e2, l2⟩ := hb.mem i h
    rw [e1, e2, l1.uniq l2]
  · rw [List.getElem?_eq_none (by have := ha.len; omega), List.getElem?_eq_none (by have := hb.len; omega)]
theorem Cls.snoc {T : List (List Int)} {a : List Int} {m j : Nat} (ha : Cls T a m) (hj : Lst T m j) : Cls T (a ++ [(j : Int)]) (m + 1) := by
  have hl := ha.len
  refine ⟨by simp [hl], fun i hi => ?_⟩
  by_cases h : i < m
  · obtain ⟨k, e, l⟩ := ha.mem i h
    exact ⟨k, by rw [List.getElem?_append_left (by omega)]; exact e, l⟩
  · obtain rfl : i = m := by omega
    exact ⟨j, by rw [List.getElem?_append_right (by omega), hl, Nat.sub_self]; rfl, hj⟩
def Tabs (T : List (List Int)) : Prop := ∀ x ∈ T, x.length = 4096
theorem idx_v {T : List (List Int)} (hT : Tabs T) {n : Nat} (hn : T.length = n + 1) (hl : n ≤ 1000) : ∃ j : Nat, slices_IndexFunc_RRint.v T T = some (j : Int) ∧ Lst T n j := by
  have hlast : n < T.length := by omega
  have w : IntKind.wrap .i64 ((T.length : Int) - 1) = (n : Int) := by rw [wrap_ok (by omega) (by omega)]; omega
  have cl : ∀ (i : Nat) (hi : i < T.length), impl_ClassesOf_2.v T[i] T = some (sameI T[i] T[n]) := fun i hi => impl_ClassesOf_2.vs _ _ (by
    rw [w, br_t (decide_eq_true (by omega)), Int.toNat_natCast, gt_at _ hlast, equalI_v _ _ (by have := hT _ (List.getElem_mem hi); omega), bd_s])
  have key : ∀ (d i : Nat), i + d = n + 1 → (∀ k : Nat, k < i → T[k]? ≠ T[n]?) → ∃ j : Nat, slices_IndexFunc_RRint.v0 T T (T.length : Int) (i : Int) = some (j : Int) ∧ Lst T n j := by
    intro d
    induction d with
    | zero => intro i hi h; exact absurd rfl (h n (by omega))
    | succ d ih =>
      intro i hi h
      have hlt : i < T.length := by omega
      by_cases c : T[i] = T[n]
      · refine ⟨i, slices_IndexFunc_RRint.v0s _ _ _ _ ?_, ⟨by omega, by rw [List.getElem?_eq_getElem hlt, List.getElem?_eq_getElem hlast, c], h⟩⟩
        rw [br_t (by simpa using hlt), br_t (by simp), Int.toNat_natCast, gt_at _ hlt, cl i hlt, bd_s, br_t (by unfold sameI; exact decide_eq_true c)]
      · obtain ⟨j, hj, lj⟩ := ih (i + 1) (by omega) (fun k hk => by
          by_cases q : k = i
          · rw [q, List.getElem?_eq_getElem hlt, List.getElem?_eq_getElem hlast]
            exact fun e => c (Option.some.inj e)
          · exact h k (by omega))
        refine ⟨j, slices_IndexFunc_RRint.v0s _ _ _ _ ?_, lj⟩
        rw [br_t (by simpa using hlt), br_t (by simp), Int.toNat_natCast, gt_at _ hlt, cl i hlt, bd_s, br_f (by unfold sameI; exact decide_eq_false c), next_ok i _ hlt (by omega)]
        exact hj
  obtain ⟨j, hj, lj⟩ := key (n + 1) 0 (by omega) (fun k hk => by omega)
  exact ⟨j, slices_IndexFunc_RRint.vs _ _ hj, lj⟩
noncomputable def tabsP (L : List (List Nd)) : List (List Int) := L.map tabP
theorem tabsP_tabs (L : List (List Nd)) : Tabs (tabsP L) := fun x hx => by
  unfold tabsP at hx
  rw [List.mem_map] at hx
  obtain ⟨e, _, rfl⟩ := hx
  exact tabP_len e
theorem tabsP_take (L : List (List Nd)) {i : Nat} (h : i < L.length) : (tabsP L).take i ++ [tabP L[i]] = (tabsP L).take (i + 1) := by
  have hT : i < (tabsP L).length := by unfold tabsP; rw [List.length_map]; exact h
  have e : (tabsP L)[i] = tabP L[i] := by simp [tabsP]
  rw [List.take_succ_eq_append_getElem hT, e]
/-- a longer row of tables has the same classes -/
theorem Lst.take {T : List (List Int)} {n i j : Nat} (hi : i < n) (h : Lst (T.take n) i j) : Lst T i j := by
  have e : ∀ k : Nat, k ≤ i → (T.take n)[k]? = T[k]? := fun k hk => by rw [List.getElem?_take, if_pos (by omega)]
  refine ⟨h.le, ?_, fun k hk => ?_⟩
  · have := h.eq; rwa [e _ h.le, e _ (Nat.le_refl _)] at this
  · have := h.low k hk; have hle := h.le; rwa [e _ (by omega), e _ (Nat.le_refl _)] at this
theorem implClasses_l {L : List (List Nd)} (hg : ∀ e ∈ L, exprOk e = true) (hl : L.length ≤ 8) : ∃ out, impl_ClassesOf.v0 L (L.length : Int) 0 [] [] = some (out, true) ∧ Cls (tabsP L) out L.length := by
  have key : ∀ (d i : Nat) (out : List Int), i + d = L.length → Cls (tabsP L) out i → ∃ out', impl_ClassesOf.v0 L (L.length : Int) (i : Int) ((tabsP L).take i) out = some (out', true) ∧ Cls (tabsP L) out' L.length := by
    intro d
    induction d with
    | zero =>
      intro i out hi hc
      obtain rfl : i = L.length := by omega
      exact ⟨out, impl_ClassesOf.v0s _ _ _ _ _ (by rw [br_f (by simp)]), hc⟩
    | succ d ih =>
      intro i out hi hc
      have hlt : i < L.length := by omega
      have hlT : i < (tabsP L).length := by unfold tabsP; rw [List.length_map]; exact hlt
      obtain ⟨n1, n2, n3⟩ := exprs (hg _ (List.getElem_mem hlt))
      have et := tabsP_take L hlt
      have hl1 : ((tabsP L).take (i + 1)).length = i + 1 := by rw [List.length_take]; omega
      obtain ⟨j, hj, lj⟩ := idx_v (T := (tabsP L).take (i + 1)) (fun x hx => tabsP_tabs L x (List.mem_of_mem_take hx)) hl1 (by omega)
      have lj := lj.take (by omega)
      obtain ⟨out', ho, hc'⟩ := ih (i + 1) (out ++ [(j : Int)]) (by omega) (hc.snoc lj)
      have hol := hc.len
      refine ⟨out', impl_ClassesOf.v0s _ _ _ _ _ ?_, hc'⟩
      rw [br_t (by simpa using hlt), br_t (by simp), Int.toNat_natCast, gt_at _ hlt, table_v n1 n2 n3, bd_s, br_t (decide_eq_true (by rw [List.length_take]; simp; omega)), et, hj, bd_s, br_t (decide_eq_true (by simp; omega)), next_ok i _ hlt (by omega)]
      exact ho
  obtain ⟨out, ho, hc⟩ := key L.length 0 [] (by omega) ⟨rfl, fun i hi => by omega⟩
  exact ⟨out, by simpa using ho, hc⟩
theorem specClasses_1 {T : List (List Int)} (hT : Tabs T) (hl : T.length ≤ 8) : ∃ out, spec_ClassesOf.v1 (T.length : Int) 0 T [] = some (out, true) ∧ Cls T out T.length := by
  have key : ∀ (d i : Nat) (out : List Int), i + d = T.length → Cls T out i → ∃ out', spec_ClassesOf.v1 (T.length : Int) (i : Int) T out = some (out', true) ∧ Cls T out' T.length := by
    intro d
    induction d with
    | zero =>
      intro i out hi hc
      obtain rfl : i = T.length := by omega
      exact ⟨out, spec_ClassesOf.v1s _ _ _ _ (by rw [br_f (by simp)]), hc⟩
    | succ d ih =>
      intro i out hi hc
      have hlt : i < T.length := by omega
      have hol := hc.len
      have inner : ∀ (c l : Nat), c ≤ l → l ≤ i → T[l]? = T[i]? → (∀ m : Nat, c ≤ m → m < l → T[m]? ≠ T[i]?) → ∃ out', spec_ClassesOf.v2 T[i] (l : Int) ((c : Int) - 1) (T.length : Int) (i : Int) T out = some (out', true) ∧ Cls T out' T.length := by
        intro c
        induction c with
        | zero =>
          intro l hcl hli he hlow
          obtain ⟨out', ho, hc'⟩ := ih (i + 1) (out ++ [(l : Int)]) (by omega) (hc.snoc ⟨hli, he, fun k hk => hlow k (Nat.zero_le _) hk⟩)
          refine ⟨out', spec_ClassesOf.v2s _ _ _ _ _ _ _ ?_, hc'⟩
          rw [br_f (decide_eq_false (by omega)), br_t (decide_eq_true (by simp; omega)), next_ok i _ hlt (by omega)]
          exact ho
        | succ c ihc =>
          intro l hcl hli he hlow
          have hct : c < T.length := by omega
          have w1 : (((c + 1 : Nat) : Int) - 1) = (c : Int) := by omega
          have w2 : IntKind.wrap .i64 ((c : Int) - 1) = (c : Int) - 1 := wrap_ok (by omega) (by omega)
          have hs := l1Same_v T[c] T[i] (by have := hT _ (List.getElem_mem hct); omega)
          by_cases q : T[c] = T[i]
          · obtain ⟨out', ho, hc'⟩ := ihc c (Nat.le_refl _) (by omega) (by rw [List.getElem?_eq_getElem hct, List.getElem?_eq_getElem hlt, q]) (fun m h1 h2 => by omega)
            refine ⟨out', spec_ClassesOf.v2s _ _ _ _ _ _ _ ?_, hc'⟩
            rw [w1, br_t (decide_eq_true (by omega)), br_t (decide_eq_true (by omega)), br_t (decide_eq_true (by omega)), Int.toNat_natCast, gt_at _ hct, hs, bd_s, br_t (by unfold sameI; exact decide_eq_true q), w2]
            exact ho
          · obtain ⟨out', ho, hc'⟩ := ihc l (by omega) hli he (fun m h1 h2 => by
              by_cases qm : m = c
              · rw [qm, List.getElem?_eq_getElem hct, List.getElem?_eq_getElem hlt]
                exact fun e => q (Option.some.inj e)
              · exact hlow m (by omega) h2)
            refine ⟨out', spec_ClassesOf.v2s _ _ _ _ _ _ _ ?_, hc'⟩
            rw [w1, br_t (decide_eq_true (by omega)), br_t (decide_eq_true (by omega)), br_t (decide_eq_true (by omega)), Int.toNat_natCast, gt_at _ hct, hs, bd_s, br_f (by unfold sameI; exact decide_eq_false q), w2]
            exact ho
      obtain ⟨out', ho, hc'⟩ := inner i i (Nat.le_refl _) (Nat.le_refl _) rfl (fun m h1 h2 => by omega)
      refine ⟨out', spec_ClassesOf.v1s _ _ _ _ ?_, hc'⟩
      rw [br_t (by simpa using hlt), br_t (by simp), br_t (by simpa using hlt), Int.toNat_natCast, gt_at _ hlt, wrap_ok (by omega) (by omega)]
      exact ho
  obtain ⟨out, ho, hc⟩ := key T.length 0 [] (by omega) ⟨rfl, fun i hi => by omega⟩
  exact ⟨out, ho, hc⟩
theorem specClasses_0 {L : List (List Nd)} (hb : ∀ e ∈ L, e.length ≤ 1048576) (hl : L.length ≤ 8) : (L.all exprOk = false → spec_ClassesOf.v0 L (L.length : Int) 0 [] = some ([], false)) ∧
    (L.all exprOk = true → ∀ r, spec_ClassesOf.v1 ((tabsP L).length : Int) 0 (tabsP L) [] = some r → spec_ClassesOf.v0 L (L.length : Int) 0 [] = some r) := by
  have key : ∀ (d i : Nat), i + d = L.length → ((L.drop i).all exprOk = false → spec_ClassesOf.v0 L (L.length : Int) (i : Int) ((tabsP L).take i) = some ([], false)) ∧
      ((L.drop i).all exprOk = true → ∀ r, spec_ClassesOf.v1 ((tabsP L).length : Int) 0 (tabsP L) [] = some r → spec_ClassesOf.v0 L (L.length : Int) (i : Int) ((tabsP L).take i) = some r) := by
    intro d
    induction d with
    | zero =>
      intro i hi
      rw [List.drop_eq_nil_of_le (by omega)]
      refine ⟨(fun h => nomatch h), fun _ r hr => spec_ClassesOf.v0s _ _ _ _ ?_⟩
      rw [br_f (by simp; omega), List.take_of_length_le (by unfold tabsP; rw [List.length_map]; omega)]
      exact hr
    | succ d ih =>
      intro i hi
      have hlt : i < L.length := by omega
      have hlT : i < (tabsP L).length := by unfold tabsP; rw [List.length_map]; exact hlt
      have et := tabsP_take L hlt
      have hg := exGood_v L[i] (hb _ (List.getElem_mem hlt))
      rw [drop_at _ _ hlt, List.all_cons]
      obtain ⟨i1, i2⟩ := ih (i + 1) (by omega)
      cases hi' : exprOk L[i] with
      | false =>
        refine ⟨fun _ => spec_ClassesOf.v0s _ _ _ _ ?_, fun h => nomatch h⟩
        rw [br_t (by simpa using hlt), br_t (by simp), Int.toNat_natCast, gt_at _ hlt, hg, bd_s, hi', brn_f]
      | true =>
        obtain ⟨n1, n2, n3⟩ := exprs hi'
        rw [Bool.true_and]
        refine ⟨fun h => spec_ClassesOf.v0s _ _ _ _ ?_, fun h r hr => spec_ClassesOf.v0s _ _ _ _ ?_⟩
        · rw [br_t (by simpa using hlt), br_t (by simp), Int.toNat_natCast, gt_at _ hlt, hg, bd_s, hi', brn_t, exTable_v n1 n2 n3, bd_s, br_t (decide_eq_true (by rw [List.length_take]; simp; omega)), et, next_ok i _ hlt (by omega)]
          exact i1 h
        · rw [br_t (by simpa using hlt), br_t (by simp), Int.toNat_natCast, gt_at _ hlt, hg, bd_s, hi', brn_t, exTable_v n1 n2 n3, bd_s, br_t (decide_eq_true (by rw [List.length_take]; simp; omega)), et, next_ok i _ hlt (by omega)]
          exact i2 h r hr
  have := key L.length 0 (by omega)
  simpa using this
theorem contGood_v {L : List (List Nd)} (hb : ∀ e ∈ L, e.length ≤ 1048576) (hl : L.length ≤ 1000) : slices_ContainsFunc_Node.v L = some (!L.all exprOk) := by
  have key : ∀ (d i : Nat), i + d = L.length → ∃ r : Int, slices_IndexFunc_Node.v0 L (L.length : Int) (i : Int) = some r ∧ (0 ≤ r ↔ (L.drop i).all exprOk = false) := by
    intro d
    induction d with
    | zero =>
      intro i hi
      refine ⟨-1, slices_IndexFunc_Node.v0s _ _ _ (by rw [br_f (by simp; omega)]), ?_⟩
      rw [List.drop_eq_nil_of_le (by omega)]; simp
    | succ d ih =>
      intro i hi
      have hlt : i < L.length := by omega
      have h1 : impl_ClassesOf_1.v L[i] = some (!exprOk L[i]) := impl_ClassesOf_1.vs _ (by rw [isExpr_v _ (hb _ (List.getElem_mem hlt)), bd_s])
      rw [drop_at _ _ hlt, List.all_cons]
      cases e : exprOk L[i] with
      | false => exact ⟨i, slices_IndexFunc_Node.v0s _ _ _ (by rw [br_t (by simpa using hlt), br_t (by simp), Int.toNat_natCast, gt_at _ hlt, h1, bd_s, e, brn_f]), by simp⟩
      | true =>
        obtain ⟨r, h, hr⟩ := ih (i + 1) (by omega)
        exact ⟨r, slices_IndexFunc_Node.v0s _ _ _ (by rw [br_t (by simpa using hlt), br_t (by simp), Int.toNat_natCast, gt_at _ hlt, h1, bd_s, e, brn_t, next_ok i _ hlt (by omega), h]), by simpa using hr⟩
  obtain ⟨r, h, hr⟩ := key L.length 0 (by omega)
  refine slices_ContainsFunc_Node.vs _ ?_
  rw [slices_IndexFunc_Node.vs _ h, bd_s]
  congr 1
  rw [List.drop_zero] at hr
  rw [Bool.eq_iff_iff, decide_eq_true_iff]
  simpa using hr
/-- both answer with the same classes -/
theorem classes_v {L : List (List Nd)} (hb : ∀ e ∈ L, e.length ≤ 1048576) (hl : L.length ≤ 1000) : ∃ out ok, impl_ClassesOf.v L = some (out, ok) ∧ spec_ClassesOf.v L = some (out, ok) ∧
    (ok = false → out = []) ∧ (ok = true → Cls (tabsP L) out L.length ∧ ∀ e ∈ L, exprOk e = true) ∧ out.length ≤ 8 := by
  cases h1 : inB (L.length : Int) 1 8 with
  | false => exact ⟨[], false, impl_ClassesOf.vs _ (by rw [within_f, bd_s, h1, brn_f]), spec_ClassesOf.vs _ (by rw [l1In_f, bd_s, h1, brn_f]), fun _ => rfl, (fun h => nomatch h), by simp⟩
  | true =>
    obtain ⟨a0, a1⟩ := inB_iff.1 h1
    have hl8 : L.length ≤ 8 := by omega
    obtain ⟨s0, s1⟩ := specClasses_0 hb hl8
    cases h2 : L.all exprOk with
    | false => exact ⟨[], false, impl_ClassesOf.vs _ (by rw [within_f, bd_s, h1, brn_t, contGood_v hb hl, bd_s, h2, brn_f]), spec_ClassesOf.vs _ (by rw [l1In_f, bd_s, h1, brn_t]; exact s0 h2), fun _ => rfl, (fun h => nomatch h), by simp⟩
    | true =>
      have hg : ∀ e ∈ L, exprOk e = true := List.all_eq_true.1 h2
      have tl : (tabsP L).length = L.length := by unfold tabsP; rw [List.length_map]
      obtain ⟨o1, e1, c1⟩ := implClasses_l hg hl8
      obtain ⟨o2, e2, c2⟩ := specClasses_1 (tabsP_tabs L) (by omega)
      rw [tl] at c2
      obtain rfl := c1.uniq c2
      exact ⟨o1, true, impl_ClassesOf.vs _ (by rw [within_f, bd_s, h1, brn_t, contGood_v hb hl, bd_s, h2, brn_t]; exact e1), spec_ClassesOf.vs _ (by rw [l1In_f, bd_s, h1, brn_t]; exact s1 h2 _ e2), (fun h => nomatch h), fun _ => ⟨c1, hg⟩, by have := c1.len; omega⟩
end Go.Proofs.Ytiofklineiioaaa.Am
end
section
/- Expressions that are folded and shared, for the draws: there is always an answer, of a bounded size. -/
namespace Go.Proofs.Ytiofklineiioaaa.Am
open Go
set_option linter.unusedVariables false
set_option linter.unusedSimpArgs false

theorem exParts_w (n : Nd) : spec_exParts.v n = some (partsOf n) := ev_lim (exParts_ev n)
theorem put_p (x : Nd) (s : Bool) (o : List Nd) (ho : o.length ≤ 100000) : ∃ (i : Int) (o' : List Nd), spec_exBuilt_put.v x s o = some (i, (((), s), o')) ∧ o'.length ≤ o.length + 1 ∧ 0 ≤ i := by
  have room : ∀ y : Nd, decide (o.length + [y].length ≤ 35184372088832 / (40 + 1)) = true := fun y => decide_eq_true (by simp; omega)
  have wl : ∀ y : Nd, IntKind.wrap .i64 ((((o ++ [y]).length : Nat) : Int) - 1) = (o.length : Int) := fun y => by
    rw [List.length_append, List.length_singleton, wrap_ok (by omega) (by omega)]; omega
  have key : ∀ (d i : Nat), i + d = o.length → ∃ (j : Int) (o' : List Nd), spec_exBuilt_put.v0 (o.length : Int) (i : Int) s o x.1 x.2.1 x.2.2.1 x.2.2.2 = some (j, (((), s), o')) ∧ o'.length ≤ o.length + 1 ∧ 0 ≤ j := by
    intro d
    induction d with
    | zero =>
      intro i hi
      exact ⟨(o.length : Int), o ++ [x], spec_exBuilt_put.v0s _ _ _ _ _ _ _ _ (by rw [br_f (by simp; omega), br_t (room _), wl]), by simp, by omega⟩
    | succ d ih =>
      intro i hi
      have hlt : i < o.length := by omega
      obtain ⟨j, o', hv, hl⟩ := ih (i + 1) (by omega)
      cases hb : ((o[i].1 == x.1) && ((o[i].2.1 == x.2.1) && ((o[i].2.2.1 == x.2.2.1) && ((o[i].2.2.2 == x.2.2.2) && true)))) with
      | true => exact ⟨i, o, spec_exBuilt_put.v0s _ _ _ _ _ _ _ _ (by rw [br_t (by simpa using hlt), br_t (by simp), br_t (by simpa using hlt), Int.toNat_natCast, gt_at _ hlt, hb, br_t rfl]), by omega, by omega⟩
      | false => exact ⟨j, o', spec_exBuilt_put.v0s _ _ _ _ _ _ _ _ (by rw [br_t (by simpa using hlt), br_t (by simp), br_t (by simpa using hlt), Int.toNat_natCast, gt_at _ hlt, hb, br_f rfl, next_ok i _ hlt (by omega), hv]), hl⟩
  cases s with
  | true =>
    obtain ⟨j, o', hv, hl⟩ := key o.length 0 (by omega)
    exact ⟨j, o', spec_exBuilt_put.vs _ _ _ (by rw [br_t rfl]; exact hv), hl⟩
  | false => exact ⟨(o.length : Int), o ++ [x], spec_exBuilt_put.vs _ _ _ (by rw [br_f rfl, br_t (room _), wl]), by simp, by omega⟩
theorem parts3 (n : Nd) : partsOf n = [] ∨ partsOf n = [n.2.1] ∨ partsOf n = [n.2.1, n.2.2.1] := by
  unfold partsOf
  split
  · exact .inr (.inl rfl)
  · split
    · exact .inr (.inr rfl)
    · exact .inl rfl

/-! ### folded -/
def NG (l : List Nd) : Prop := ∀ (i : Nat) (h : i < l.length), nodeOk l[i] (i : Int) = true
theorem NG.of {l : List Nd} (h : nodesOk l 0 = true) : NG l := fun i hi => by
  have := nodesOk_get l 0 h i hi
  rwa [Nat.zero_add] at this
theorem NG.set {l : List Nd} (h : NG l) {i : Nat} {n : Nd} (hn : nodeOk n (i : Int) = true) : NG (l.set i n) := fun j hj => by
  rw [List.getElem_set]
  split
  · rename_i e; rw [← e]; exact hn
  · exact h j (by simpa using hj)
theorem const_ok {v : Int} (h : word v) (i : Int) : nodeOk (tConst, ((0 : Int), ((0 : Int), v))) i = true := by
  unfold nodeOk
  rw [if_neg (show ¬ tConst = tIn by decide), if_pos rfl, inB_iff.2 h]; rfl
theorem const_val {n : Nd} {i : Int} (h : nodeOk n i = true) (c : n.1 = tConst) : 0 ≤ n.2.2.2 ∧ n.2.2.2 ≤ 63 := by
  unfold nodeOk at h
  rw [if_neg (by rw [c]; decide), if_pos c] at h
  simp only [Bool.and_eq_true, inB_iff] at h
  exact h.2
theorem fold_l {n : Nat} (hn : n ≤ 1000000) : ∀ (d i : Nat) (l : List Nd), i + d = n → l.length = n → NG l → ∃ l', l'.length = n ∧ NG l' ∧
    ∀ r, (bd (spec_exKeep.v l' (IntKind.wrap .i64 ((n : Int) - 1))) fun r2 => some (r2.1, ())) = some r → spec_exFold.v0 (n : Int) (i : Int) l = some r := by
  intro d
  induction d with
  | zero =>
    intro i l hi hl hg
    refine ⟨l, hl, hg, fun r hr => spec_exFold.v0s _ _ _ ?_⟩
    rw [br_f (decide_eq_false (by omega)), show ((l.length : Nat) : Int) = (n : Int) by omega]
    exact hr
  | succ d ih =>
    intro i l hi hl hg
    have hlt : i < l.length := by omega
    have hk := hg i hlt
    have hp : ∀ p ∈ partsOf l[i], 0 ≤ p ∧ p < i := nodeOk_parts hk
    have step : ∃ l', l'.length = n ∧ NG l' ∧ ∀ r, spec_exFold.v0 (n : Int) ((i + 1 : Nat) : Int) l' = some r → spec_exFold.v1 (i : Int) (partsOf l[i]) (decide (((partsOf l[i]).length : Int) > 0)) (n : Int) (i : Int) (partsOf l[i]) ((partsOf l[i]).length : Int) 0 l l[i].1 l[i].2.1 l[i].2.2.1 l[i].2.2.2 = some r := by
      have wn : IntKind.wrap .i64 ((i : Int) + 1) = ((i + 1 : Nat) : Int) := next_ok i n (by omega) (by omega)
      have key : ∀ (dd j : Nat) (c : Bool), j + dd = (partsOf l[i]).length → (c = true → 0 < (partsOf l[i]).length ∧ ∀ (k : Nat) (h : k < (partsOf l[i]).length), k < j → ∃ m, l[(partsOf l[i])[k].toNat]? = some m ∧ m.1 = tConst) →
          ∃ l', l'.length = n ∧ NG l' ∧ ∀ r, spec_exFold.v0 (n : Int) ((i + 1 : Nat) : Int) l' = some r → spec_exFold.v1 (i : Int) (partsOf l[i]) c (n : Int) (i : Int) (partsOf l[i]) ((partsOf l[i]).length : Int) (j : Int) l l[i].1 l[i].2.1 l[i].2.2.1 l[i].2.2.2 = some r := by
        intro dd
        induction dd with
        | zero =>
          intro j c hj hc
          cases c with
          | false => exact ⟨l, hl, hg, fun r hr => spec_exFold.v1s _ _ _ _ _ _ _ _ _ _ _ _ _ (by rw [br_f (by simp; omega), brn_f, wn]; exact hr)⟩
          | true =>
            obtain ⟨h0, hall⟩ := hc rfl
            rcases parts3 l[i] with q | q | q
            · rw [q] at h0; simp at h0
            · have hA := hp l[i].2.1 (by rw [q]; simp)
              have hAl : l[i].2.1.toNat < l.length := by omega
              have hw := appP_word l[i].1 l[l[i].2.1.toNat].2.2.2 0 (Int.le_refl 0)
              refine ⟨l.set i (tConst, ((0 : Int), ((0 : Int), appP l[i].1 l[l[i].2.1.toNat].2.2.2 0))), by rw [List.length_set]; exact hl, hg.set (const_ok hw _), fun r hr => spec_exFold.v1s _ _ _ _ _ _ _ _ _ _ _ _ _ ?_⟩
              rw [br_f (by simp; omega), brn_t, br_f (decide_eq_false (by rw [q]; simp)), br_t (decide_eq_true hA.1), br_t (decide_eq_true (by omega)), gt_at _ hAl, exApply_f _ _ _ (Int.le_refl 0), bd_s, br_t (decide_eq_true (by omega)), br_t (decide_eq_true (by omega)), Int.toNat_natCast, gt_at _ hlt, wn]
              exact hr
            · have hA := hp l[i].2.1 (by rw [q]; simp)
              have hB := hp l[i].2.2.1 (by rw [q]; simp)
              have hAl : l[i].2.1.toNat < l.length := by omega
              have hBl : l[i].2.2.1.toNat < l.length := by omega
              obtain ⟨m, hm, hmc⟩ := hall 1 (by rw [q]; simp) (by have : (partsOf l[i]).length = 2 := by rw [q]; rfl
                                                                  omega)
              have em : m = l[l[i].2.2.1.toNat] := by
                have e1 : (partsOf l[i])[1]'(by rw [q]; simp) = l[i].2.2.1 := by simp [q]
                rw [e1, List.getElem?_eq_getElem hBl] at hm
                exact (Option.some.inj hm).symm
              rw [em] at hmc
              have hb0 := (const_val (hg _ hBl) hmc).1
              have hw := appP_word l[i].1 l[l[i].2.1.toNat].2.2.2 l[l[i].2.2.1.toNat].2.2.2 hb0
              refine ⟨l.set i (tConst, ((0 : Int), ((0 : Int), appP l[i].1 l[l[i].2.1.toNat].2.2.2 l[l[i].2.2.1.toNat].2.2.2))), by rw [List.length_set]; exact hl, hg.set (const_ok hw _), fun r hr => spec_exFold.v1s _ _ _ _ _ _ _ _ _ _ _ _ _ ?_⟩
              rw [br_f (by simp; omega), brn_t, br_t (decide_eq_true (by rw [q]; simp)), br_t (decide_eq_true hB.1), br_t (decide_eq_true (by omega)), gt_at _ hBl, br_t (decide_eq_true hA.1), br_t (decide_eq_true (by omega)), gt_at _ hAl, exApply_f _ _ _ hb0, bd_s, br_t (decide_eq_true (by omega)), br_t (decide_eq_true (by omega)), Int.toNat_natCast, gt_at _ hlt, wn]
              exact hr
        | succ dd ihd =>
          intro j c hj hc
          have hjl : j < (partsOf l[i]).length := by omega
          have hpj := hp _ (List.getElem_mem hjl)
          have hpl : (partsOf l[i])[j].toNat < l.length := by omega
          have wj : IntKind.wrap .i64 ((j : Int) + 1) = ((j + 1 : Nat) : Int) := next_ok j _ hjl (by have := parts_le l[i]; omega)
          cases c with
          | false =>
            obtain ⟨l', h1, h2, h3⟩ := ihd (j + 1) false (by omega) (fun h => nomatch h)
            refine ⟨l', h1, h2, fun r hr => spec_exFold.v1s _ _ _ _ _ _ _ _ _ _ _ _ _ ?_⟩
            rw [br_t (by simpa using hjl), br_t (by simp), Int.toNat_natCast, gt_at _ hjl, br_f rfl, wj]
            exact h3 r hr
          | true =>
            obtain ⟨h0, hall⟩ := hc rfl
            obtain ⟨l', h1, h2, h3⟩ := ihd (j + 1) (seq l[(partsOf l[i])[j].toNat].1 tConst) (by omega) (fun h => ⟨h0, fun k hk hkj => by
              by_cases e : k = j
              · subst e
                exact ⟨_, List.getElem?_eq_getElem hpl, seq_iff.1 h⟩
              · exact hall k hk (by omega)⟩)
            refine ⟨l', h1, h2, fun r hr => spec_exFold.v1s _ _ _ _ _ _ _ _ _ _ _ _ _ ?_⟩
            rw [br_t (by simpa using hjl), br_t (by simp), Int.toNat_natCast, gt_at _ hjl, br_t rfl, br_t (decide_eq_true hpj.1), br_t (decide_eq_true (by omega)), gt_at _ hpl, wj]
            exact h3 r hr
      exact key (partsOf l[i]).length 0 _ (by omega) (fun h => ⟨by have := of_decide_eq_true h; omega, fun k hk h => by omega⟩)
    obtain ⟨l1, e1, g1, v1⟩ := step
    obtain ⟨l', h1, h2, h3⟩ := ih (i + 1) l1 (by omega) e1 g1
    refine ⟨l', h1, h2, fun r hr => spec_exFold.v0s _ _ _ ?_⟩
    rw [br_t (decide_eq_true (by omega)), br_t (decide_eq_true (by omega)), br_t (decide_eq_true (by omega)), Int.toNat_natCast, gt_at _ hlt, exParts_w, bd_s]
    exact v1 r (h3 r hr)

/-! ### what is needed is kept -/
/-- operands stand before their node -/
def PL (f : List Nd) : Prop := ∀ (i : Nat) (h : i < f.length), ∀ p ∈ partsOf f[i], 0 ≤ p ∧ p < i
theorem moved_v (n : Nd) (P : List Int) (h : ∀ p ∈ partsOf n, 0 ≤ p ∧ p < P.length) : ∃ m, spec_exMoved.v n P = some m ∧ partsOf m = (partsOf n).map fun p => P.getD p.toNat 0 := by
  have ar : ∀ (A B v : Int), partsOf (n.1, (A, (B, v))) = if arity n.1 = 1 then [A] else if arity n.1 = 2 then [A, B] else [] := fun _ _ _ => rfl
  have an : partsOf n = if arity n.1 = 1 then [n.2.1] else if arity n.1 = 2 then [n.2.1, n.2.2.1] else [] := rfl
  by_cases c1 : arity n.1 = 1
  · rw [if_pos c1] at an
    have hA := h n.2.1 (by rw [an]; simp)
    refine ⟨(n.1, (P.getD n.2.1.toNat 0, (0, n.2.2.2))), spec_exMoved.vs _ _ ?_, by rw [ar, if_pos c1, an]; rfl⟩
    rw [exParts_w, bd_s, an, br_t (by simp), br_t (decide_eq_true hA.1), gt_some (getD_at hA.1 hA.2), bd_s, br_f (by simp)]
  · rw [if_neg c1] at an
    by_cases c2 : arity n.1 = 2
    · rw [if_pos c2] at an
      have hA := h n.2.1 (by rw [an]; simp)
      have hB := h n.2.2.1 (by rw [an]; simp)
      refine ⟨(n.1, (P.getD n.2.1.toNat 0, (P.getD n.2.2.1.toNat 0, n.2.2.2))), spec_exMoved.vs _ _ ?_, by rw [ar, if_neg c1, if_pos c2, an]; rfl⟩
      rw [exParts_w, bd_s, an, br_t (by simp), br_t (decide_eq_true hA.1), gt_some (getD_at hA.1 hA.2), bd_s, br_t (by simp), br_t (decide_eq_true hB.1), gt_some (getD_at hB.1 hB.2)]
    · rw [if_neg c2] at an
      refine ⟨(n.1, (0, (0, n.2.2.2))), spec_exMoved.vs _ _ ?_, by rw [ar, if_neg c1, if_neg c2, an]; rfl⟩
      rw [exParts_w, bd_s, an, br_f (by simp), bd_s, br_f (by simp)]
def tb (u : List Bool) (j : Nat) : Bool := u.getD j false
theorem tb_get {u : List Bool} {j : Nat} (h : j < u.length) : u[j]? = some (tb u j) := by
  unfold tb
  rw [List.getD_eq_getElem?_getD, List.getElem?_eq_getElem h]; rfl
theorem tb_set (u : List Bool) (k : Nat) (b : Bool) (j : Nat) (hk : k < u.length) : tb (u.set k b) j = if j = k then b else tb u j := by
  unfold tb
  rw [List.getD_eq_getElem?_getD, List.getD_eq_getElem?_getD, List.getElem?_set]
  by_cases h : k = j
  · rw [if_pos h, if_pos h.symm, if_pos (by omega)]; rfl
  · rw [if_neg h, if_neg (fun q => h q.symm)]
/-- from i on: what is needed has operands that are needed -/
structure Need (l : List Nd) (n i : Nat) (u : List Bool) : Prop where
  len : u.length = n
  root : tb u (n - 1) = true
  clo : ∀ (j : Nat) (h : j < l.length), i ≤ j → tb u j = true → ∀ p ∈ partsOf l[j], tb u p.toNat = true
theorem keep_l {l : List Nd} {n : Nat} (hl : l.length = n) (h1 : 1 ≤ n) (hn : n ≤ 100000) (hg : PL l) : ∃ f, spec_exKeep.v l ((n : Int) - 1) = some (f, ()) ∧ PL f ∧ 1 ≤ f.length ∧ f.length ≤ n := by
  have w0 : IntKind.wrap .i64 (((n : Int) - 1) + 1) = (n : Int) := by rw [wrap_ok (by omega) (by omega)]; omega
  have rl : ∀ b : Bool, (List.replicate n b).length = n := fun b => List.length_replicate
  -- the last rounds: what is needed goes over
  have last : ∀ (u : List Bool), Need l n 0 u → ∀ (d i : Nat) (P : List Int) (o : List Nd), i + d = n → P.length = n → o.length ≤ i → PL o → (∀ j : Nat, j < i → tb u j = true → 0 ≤ P.getD j 0 ∧ P.getD j 0 < o.length) → (n ≤ i → 1 ≤ o.length) → (∀ j : Nat, j < i → tb u j = true → 1 ≤ o.length) →
      ∃ f, spec_exKeep.v2 l ((n : Int) - 1) (i : Int) u P o = some (f, ()) ∧ PL f ∧ 1 ≤ f.length ∧ f.length ≤ n := by
    intro u hu d
    induction d with
    | zero =>
      intro i P o hi hP ho hpl hpo h1o _
      exact ⟨o, spec_exKeep.v2s _ _ _ _ _ _ (by rw [br_f (decide_eq_false (by omega))]), hpl, h1o (by omega), by omega⟩
    | succ d ih =>
      intro i P o hi hP ho hpl hpo h1o hone
      have hlt : i < n := by omega
      have hil : i < l.length := by omega
      have ul := hu.len
      have wi : IntKind.wrap .i64 ((i : Int) + 1) = ((i + 1 : Nat) : Int) := next_ok i n hlt (by omega)
      cases hb : tb u i with
      | false =>
        obtain ⟨f, hf, h2, h3, h4⟩ := ih (i + 1) P o (by omega) hP (by omega) hpl (fun j hj hjb => by
          by_cases e : j = i
          · rw [e, hb] at hjb; cases hjb
          · exact hpo j (by omega) hjb) (fun hni => by
            have hr := hu.root
            by_cases e : n - 1 = i
            · rw [e, hb] at hr; cases hr
            · omega) (fun j hj hjb => by
          by_cases e : j = i
          · rw [e, hb] at hjb; cases hjb
          · exact hone j (by omega) hjb)
        refine ⟨f, spec_exKeep.v2s _ _ _ _ _ _ ?_, h2, h3, h4⟩
        rw [br_t (decide_eq_true (by omega)), br_t (decide_eq_true (by omega)), br_t (decide_eq_true (by omega)), Int.toNat_natCast, gt_some (tb_get (by omega)), hb, br_f rfl, wi]
        exact hf
      | true =>
        have hparts := hg i hil
        obtain ⟨m, hm, hmp⟩ := moved_v l[i] (P.set i (o.length : Int)) (fun p hp => by have := hparts p hp; rw [List.length_set]; omega)
        have hpm : ∀ q ∈ partsOf m, 0 ≤ q ∧ q < o.length := fun q hq => by
          rw [hmp, List.mem_map] at hq
          obtain ⟨p, hp, rfl⟩ := hq
          have hpi := hparts p hp
          have hnb := hu.clo i hil (Nat.zero_le _) hb p hp
          have := hpo p.toNat (by omega) hnb
          have e : (P.set i (o.length : Int)).getD p.toNat 0 = P.getD p.toNat 0 := by
            rw [List.getD_eq_getElem?_getD, List.getD_eq_getElem?_getD, List.getElem?_set, if_neg (by omega)]
          rw [e]; exact this
        obtain ⟨f, hf, h2, h3, h4⟩ := ih (i + 1) (P.set i (o.length : Int)) (o ++ [m]) (by omega) (by rw [List.length_set]; exact hP) (by simp; omega) (fun j hj => by
          rw [List.length_append, List.length_singleton] at hj
          by_cases e : j < o.length
          · rw [List.getElem_append_left e]; exact hpl j e
          · have e2 : j = o.length := by omega
            subst e2
            rw [List.getElem_append_right (by omega)]
            simp only [Nat.sub_self, List.getElem_cons_zero]
            exact hpm) (fun j hj hjb => by
          rw [List.length_append, List.length_singleton, List.getD_eq_getElem?_getD, List.getElem?_set]
          by_cases e : i = j
          · rw [if_pos e, if_pos (by omega)]
            exact ⟨by show (0 : Int) ≤ (o.length : Int); omega, by show (o.length : Int) < _; omega⟩
          · rw [if_neg e, ← List.getD_eq_getElem?_getD]
            have := hpo j (by omega) hjb
            omega) (fun _ => by simp) (fun _ _ _ => by simp)
        refine ⟨f, spec_exKeep.v2s _ _ _ _ _ _ ?_, h2, h3, h4⟩
        rw [br_t (decide_eq_true (by omega)), br_t (decide_eq_true (by omega)), br_t (decide_eq_true (by omega)), Int.toNat_natCast, gt_some (tb_get (by omega)), hb, br_t rfl, br_t (decide_eq_true (by omega)), br_t (decide_eq_true (by omega)), gt_at _ (show i < P.length by omega), br_t (decide_eq_true (by omega)), gt_at _ hil, hm, bd_s, br_t (decide_eq_true (by simp; omega)), wi]
        exact hf
  -- the first rounds: what is needed is marked
  have first : ∀ (i : Nat) (u : List Bool), i ≤ n → Need l n i u → ∃ f, spec_exKeep.v0 l ((n : Int) - 1) ((i : Int) - 1) u = some (f, ()) ∧ PL f ∧ 1 ≤ f.length ∧ f.length ≤ n := by
    intro i
    induction i with
    | zero =>
      intro u hi hu
      obtain ⟨f, hf, h2⟩ := last u hu n 0 (List.replicate n 0) [] (by omega) List.length_replicate (by simp) (fun i hi => by simp at hi) (fun j hj => by omega) (fun h => by omega) (fun j hj => by omega)
      refine ⟨f, spec_exKeep.v0s _ _ _ _ ?_, h2⟩
      rw [br_f (decide_eq_false (by omega)), w0, br_t (decide_eq_true (by omega)), br_t (decide_eq_true (by omega)), br_t (decide_eq_true (by omega)), Int.toNat_natCast]
      exact hf
    | succ i ih =>
      intro u hi hu
      have hil : i < l.length := by omega
      have hparts := hg i hil
      have inner : ∀ (dd j : Nat) (v : List Bool), j + dd = (partsOf l[i]).length → Need l n (i + 1) v → (tb v i = true → ∀ (k : Nat) (h : k < (partsOf l[i]).length), k < j → tb v (partsOf l[i])[k].toNat = true) →
          ∃ f, spec_exKeep.v1 l ((n : Int) - 1) (i : Int) (partsOf l[i]) ((partsOf l[i]).length : Int) (j : Int) v = some (f, ()) ∧ PL f ∧ 1 ≤ f.length ∧ f.length ≤ n := by
        intro dd
        induction dd with
        | zero =>
          intro j v hj hv hk
          have hv2 : Need l n i v := ⟨hv.len, hv.root, fun j' h' hle hb p hp => by
            by_cases e : j' = i
            · subst e
              obtain ⟨k, hkl, rfl⟩ := List.getElem_of_mem hp
              exact hk hb k hkl (by omega)
            · exact hv.clo j' h' (by omega) hb p hp⟩
          obtain ⟨f, hf, h2⟩ := ih v (by omega) hv2
          refine ⟨f, spec_exKeep.v1s _ _ _ _ _ _ _ ?_, h2⟩
          rw [br_f (by simp; omega), wrap_ok (by omega) (by omega)]
          exact hf
        | succ dd ihd =>
          intro j v hj hv hk
          have hjl : j < (partsOf l[i]).length := by omega
          have hpj := hparts _ (List.getElem_mem hjl)
          have vl := hv.len
          have hpv : (partsOf l[i])[j].toNat < v.length := by omega
          have wj : IntKind.wrap .i64 ((j : Int) + 1) = ((j + 1 : Nat) : Int) := next_ok j _ hjl (by have := parts_le l[i]; omega)
          -- a mark that is set keeps all that was needed
          have upd : ∀ b : Bool, (tb v (partsOf l[i])[j].toNat = true → b = true) → (tb v i = true → b = true) → ∃ f, spec_exKeep.v1 l ((n : Int) - 1) (i : Int) (partsOf l[i]) ((partsOf l[i]).length : Int) ((j + 1 : Nat) : Int) (v.set (partsOf l[i])[j].toNat b) = some (f, ()) ∧ PL f ∧ 1 ≤ f.length ∧ f.length ≤ n := by
            intro b hb1 hb2
            have mono : ∀ q : Nat, tb v q = true → tb (v.set (partsOf l[i])[j].toNat b) q = true := fun q hq => by
              rw [tb_set _ _ _ _ hpv]
              split
              · rename_i e; rw [e] at hq; exact hb1 hq
              · exact hq
            have same : ∀ q : Nat, i ≤ q → tb (v.set (partsOf l[i])[j].toNat b) q = tb v q := fun q hq => by
              rw [tb_set _ _ _ _ hpv, if_neg (by omega)]
            refine ihd (j + 1) _ (by omega) ⟨by rw [List.length_set]; exact vl, by rw [same _ (by omega)]; exact hv.root, fun j' h' hle hq p hp => ?_⟩ (fun hq k hkl hkj => ?_)
            · rw [same _ (by omega)] at hq
              exact mono _ (hv.clo j' h' hle hq p hp)
            · rw [same _ (Nat.le_refl _)] at hq
              by_cases e : k = j
              · subst e
                rw [tb_set _ _ _ _ hpv, if_pos rfl]; exact hb2 hq
              · exact mono _ (hk hq k hkl (by omega))
          cases hb : tb v (partsOf l[i])[j].toNat with
          | true =>
            obtain ⟨f, hf, h2⟩ := upd true (fun _ => rfl) (fun _ => rfl)
            refine ⟨f, spec_exKeep.v1s _ _ _ _ _ _ _ ?_, h2⟩
            rw [br_t (by simpa using hjl), br_t (by simp), Int.toNat_natCast, gt_at _ hjl, br_t (decide_eq_true hpj.1), br_t (decide_eq_true (by omega)), gt_some (tb_get hpv), hb, br_t rfl, br_t (decide_eq_true hpj.1), br_t (decide_eq_true (by omega)), gt_some (tb_get hpv), wj]
            exact hf
          | false =>
            obtain ⟨f, hf, h2⟩ := upd (tb v i) (fun h => by rw [hb] at h; cases h) (fun h => h)
            refine ⟨f, spec_exKeep.v1s _ _ _ _ _ _ _ ?_, h2⟩
            rw [br_t (by simpa using hjl), br_t (by simp), Int.toNat_natCast, gt_at _ hjl, br_t (decide_eq_true hpj.1), br_t (decide_eq_true (by omega)), gt_some (tb_get hpv), hb, br_f rfl, br_t (decide_eq_true (by omega)), br_t (decide_eq_true (by omega)), Int.toNat_natCast, gt_some (tb_get (show i < v.length by omega)), br_t (decide_eq_true hpj.1), br_t (decide_eq_true (by omega)), gt_some (tb_get hpv), wj]
            exact hf
      obtain ⟨f, hf, h2⟩ := inner (partsOf l[i]).length 0 u (by omega) hu (fun _ k hk h => by omega)
      refine ⟨f, spec_exKeep.v0s _ _ _ _ ?_, h2⟩
      rw [show (((i + 1 : Nat) : Int) - 1) = (i : Int) by omega, br_t (decide_eq_true (by omega)), br_t (decide_eq_true (by omega)), Int.toNat_natCast, gt_at _ hil, exParts_w, bd_s]
      exact hf
  obtain ⟨f, hf, h2⟩ := first n ((List.replicate n false).set (n - 1) true) (Nat.le_refl _) ⟨by rw [List.length_set, rl], by rw [tb_set _ _ _ _ (by rw [rl]; omega), if_pos rfl], fun j h hle => by omega⟩
  refine ⟨f, spec_exKeep.vs _ _ ?_, h2⟩
  rw [w0, br_t (decide_eq_true (by omega)), br_t (decide_eq_true (by omega)), br_t (decide_eq_true (by omega)), br_t (decide_eq_true (by omega)), Int.toNat_natCast, rl, br_t (decide_eq_true (by omega)), gt_at _ (show ((n : Int) - 1).toNat < (List.replicate n false).length by rw [rl]; omega), show ((n : Int) - 1).toNat = n - 1 by omega]
  exact hf
theorem exFold_v {e : List Nd} (hn : nodesOk e 0 = true) (h1 : 1 ≤ e.length) (hl : e.length ≤ 24) : ∃ f, spec_exFold.v e = some (f, ()) ∧ PL f ∧ 1 ≤ f.length ∧ f.length ≤ 24 := by
  obtain ⟨l, hll, hg, hv⟩ := fold_l (n := e.length) (by omega) e.length 0 e (by omega) rfl (NG.of hn)
  obtain ⟨f, hf, h2, h3, h4⟩ := keep_l hll h1 (by omega) (fun i hi => nodeOk_parts (hg i hi))
  refine ⟨f, spec_exFold.vs _ ?_, h2, h3, by omega⟩
  rw [br_t (decide_eq_true (by omega)), List.nil_append]
  exact hv _ (by rw [wrap_ok (by omega) (by omega), hf, bd_s])

/-! ### shared -/
def cnt : List Int → Nat
  | [] => 0
  | x :: r => (if 0 ≤ x then 1 else 0) + cnt r
theorem cnt_le : ∀ l : List Int, cnt l ≤ l.length
  | [] => Nat.le_refl _
  | x :: r => by
    have := cnt_le r
    simp only [cnt, List.length_cons]
    split <;> omega
theorem cnt_set : ∀ (l : List Int) (i : Nat) (v : Int) (h : i < l.length), l[i] < 0 → 0 ≤ v → cnt (l.set i v) = cnt l + 1
  | x :: r, 0, v, h, hx, hv => by
    have hx : x < 0 := hx
    simp only [List.set_cons_zero, cnt]
    rw [if_pos hv, if_neg (by omega)]; omega
  | x :: r, i + 1, v, h, hx, hv => by
    have := cnt_set r i v (by simpa using h) (by simpa using hx) hv
    simp only [List.set_cons_succ, cnt, this]
    omega
theorem cnt_rep (n : Nat) : cnt (List.replicate n (-1)) = 0 := by
  induction n with
  | zero => rfl
  | succ n ih => rw [List.replicate_succ]; simp only [cnt, ih]; rfl
theorem once_d {f : List Nd} (hf : PL f) (hn : f.length ≤ 1000) : ∀ (i : Nat), i < f.length → ∀ (s : Bool) (o : List Nd) (dn : List Int), dn.length = f.length → o.length ≤ cnt dn →
    ∃ r o' dn', spec_exBuilt_once.v f (i : Int) s o dn = some (r, (((), s), (o', dn'))) ∧ dn'.length = f.length ∧ o'.length ≤ cnt dn' ∧ ∀ j : Nat, i < j → dn'[j]? = dn[j]? := by
  intro i
  induction i using Nat.strongRecOn with
  | _ i ih =>
    intro hi s o dn hd ho
    have hid : i < dn.length := by omega
    have q0 : decide ((0 : Int) ≤ (i : Int)) = true := decide_eq_true (by omega)
    have ql : ∀ d' : List Int, d'.length = f.length → decide ((i : Int) < (d'.length : Int)) = true := fun d' h => decide_eq_true (by omega)
    have gf : f[Int.toNat (i : Int)]? = some f[i] := by rw [Int.toNat_natCast]; exact List.getElem?_eq_getElem hi
    by_cases c : 0 ≤ dn[i]
    · refine ⟨dn[i], o, dn, spec_exBuilt_once.vs _ _ _ _ _ ?_, hd, ho, fun _ _ => rfl⟩
      rw [br_t q0, br_t (ql _ hd), Int.toNat_natCast, gt_at _ hid, br_t (decide_eq_true c), br_t q0, br_t (ql _ hd), gt_at _ hid]
    · have hpl := hf i hi
      -- a node is put, and its place is told
      have fin : ∀ (n : Nd) (o1 : List Nd) (d1 : List Int), d1.length = f.length → o1.length ≤ cnt d1 → d1[i]? = dn[i]? → (∀ j : Nat, i < j → d1[j]? = dn[j]?) →
          ∃ r o' dn', (bd (spec_exBuilt_put.v n s o1) fun r12 => (br (decide ((0 : Int) ≤ (i : Int))) (br (decide ((i : Int) < (((List.length d1) : Nat) : Int))) (gt d1 (Int.toNat (i : Int)) fun r13 => (br (decide ((0 : Int) ≤ (i : Int))) (br (decide ((i : Int) < (((List.length (List.set d1 (Int.toNat (i : Int)) r12.1)) : Nat) : Int))) (gt (List.set d1 (Int.toNat (i : Int)) r12.1) (Int.toNat (i : Int)) fun r14 => (some (r14, (((), r12.2.1.2), (r12.2.2, (List.set d1 (Int.toNat (i : Int)) r12.1)))))) none) none)) none) none)) = some (r, (((), s), (o', dn'))) ∧ dn'.length = f.length ∧ o'.length ≤ cnt dn' ∧ ∀ j : Nat, i < j → dn'[j]? = dn[j]? := by
        intro n o1 d1 h1 h2 h3 h4
        have hc := cnt_le d1
        obtain ⟨v, o2, hp, hlo, hv0⟩ := put_p n s o1 (by omega)
        have hi1 : i < d1.length := by omega
        have hneg : d1[i] < 0 := by
          rw [List.getElem?_eq_getElem hi1, List.getElem?_eq_getElem hid] at h3
          have := Option.some.inj h3
          omega
        have hcs := cnt_set d1 i v hi1 hneg hv0
        have hsl : i < (d1.set i v).length := by rw [List.length_set]; exact hi1
        refine ⟨(d1.set i v)[i], o2, d1.set i v, ?_, by rw [List.length_set]; exact h1, by omega, fun j hj => by rw [List.getElem?_set, if_neg (by omega)]; exact h4 j hj⟩
        rw [hp, bd_s, br_t q0, br_t (ql _ h1), Int.toNat_natCast, gt_at _ hi1, br_t q0, br_t (ql _ (by rw [List.length_set]; exact h1)), gt_at _ hsl]
      rcases parts3 f[i] with q | q | q
      · obtain ⟨r, o', dn', e, h2⟩ := fin (f[i].1, ((0 : Int), ((0 : Int), f[i].2.2.2))) o dn hd ho rfl (fun _ _ => rfl)
        refine ⟨r, o', dn', spec_exBuilt_once.vs _ _ _ _ _ ?_, h2⟩
        rw [br_t q0, br_t (ql _ hd), Int.toNat_natCast, gt_at _ hid, br_f (decide_eq_false (by omega)), br_t q0, gt_at _ hi, br_t q0, gt_at _ hi, br_t q0, gt_at _ hi, exParts_w, bd_s, q, br_f (by simp), br_t q0, gt_at _ hi, exParts_w, bd_s, q, br_f (by simp)]
        rw [Int.toNat_natCast] at e
        exact e
      · have hA := hpl f[i].2.1 (by rw [q]; simp)
        obtain ⟨a, ha⟩ : ∃ a : Nat, f[i].2.1 = (a : Int) := ⟨f[i].2.1.toNat, by omega⟩
        obtain ⟨r7, o7, d7, e7, l7, c7, k7⟩ := ih a (by omega) (by omega) s o dn hd ho
        obtain ⟨r, o', dn', e, h2⟩ := fin (f[i].1, (r7, ((0 : Int), f[i].2.2.2))) o7 d7 l7 c7 (k7 i (by omega)) (fun j hj => k7 j (by omega))
        refine ⟨r, o', dn', spec_exBuilt_once.vs _ _ _ _ _ ?_, h2⟩
        rw [br_t q0, br_t (ql _ hd), Int.toNat_natCast, gt_at _ hid, br_f (decide_eq_false (by omega)), br_t q0, gt_at _ hi, br_t q0, gt_at _ hi, br_t q0, gt_at _ hi, exParts_w, bd_s, q, br_t (by simp), br_t q0, gt_at _ hi, ha, e7, bd_s, br_t q0, gt_at _ hi, exParts_w, bd_s, q, br_f (by simp)]
        rw [Int.toNat_natCast] at e
        exact e
      · have hA := hpl f[i].2.1 (by rw [q]; simp)
        have hB := hpl f[i].2.2.1 (by rw [q]; simp)
        obtain ⟨a, ha⟩ : ∃ a : Nat, f[i].2.1 = (a : Int) := ⟨f[i].2.1.toNat, by omega⟩
        obtain ⟨b, hb⟩ : ∃ b : Nat, f[i].2.2.1 = (b : Int) := ⟨f[i].2.2.1.toNat, by omega⟩
        obtain ⟨r7, o7, d7, e7, l7, c7, k7⟩ := ih a (by omega) (by omega) s o dn hd ho
        obtain ⟨r8, o8, d8, e8, l8, c8, k8⟩ := ih b (by omega) (by omega) s o7 d7 l7 c7
        obtain ⟨r, o', dn', e, h2⟩ := fin (f[i].1, (r7, (r8, f[i].2.2.2))) o8 d8 l8 c8 ((k8 i (by omega)).trans (k7 i (by omega))) (fun j hj => (k8 j (by omega)).trans (k7 j (by omega)))
        refine ⟨r, o', dn', spec_exBuilt_once.vs _ _ _ _ _ ?_, h2⟩
        rw [br_t q0, br_t (ql _ hd), Int.toNat_natCast, gt_at _ hid, br_f (decide_eq_false (by omega)), br_t q0, gt_at _ hi, br_t q0, gt_at _ hi, br_t q0, gt_at _ hi, exParts_w, bd_s, q, br_t (by simp), br_t q0, gt_at _ hi, ha, e7, bd_s, br_t q0, gt_at _ hi, exParts_w, bd_s, q, br_t (by simp), br_t q0, gt_at _ hi, hb]
        dsimp only
        rw [e8, bd_s]
        rw [Int.toNat_natCast] at e
        exact e
theorem exShare_v {f : List Nd} (hf : PL f) (h1 : 1 ≤ f.length) (hn : f.length ≤ 24) : ∃ g, spec_exShare.v f = some (g, ()) ∧ g.length ≤ 24 := by
  have key : ∀ (d i : Nat), i + d = f.length → ∃ g, spec_exShare.v0 f (f.length : Int) (i : Int) true [] (List.replicate i (-1) ++ List.replicate d 0) = some (g, ()) ∧ g.length ≤ 24 := by
    intro d
    induction d with
    | zero =>
      intro i hi
      obtain rfl : i = f.length := by omega
      obtain ⟨r, o, dn, e, hl, ho, _⟩ := once_d hf (by omega) (f.length - 1) (by omega) true [] (List.replicate f.length (-1)) List.length_replicate (by rw [cnt_rep]; simp)
      have hc := cnt_le dn
      refine ⟨o, spec_exShare.v0s _ _ _ _ _ _ ?_, by omega⟩
      rw [br_f (by simp), wrap_ok (by omega) (by omega), show ((f.length : Int) - 1) = ((f.length - 1 : Nat) : Int) by omega, List.replicate_zero, List.append_nil, e, bd_s]
    | succ d ih =>
      intro i hi
      obtain ⟨g, hg, h2⟩ := ih (i + 1) (by omega)
      have hlen : (List.replicate i (-1 : Int) ++ List.replicate (d + 1) 0).length = f.length := by simp; omega
      have hset : (List.replicate i (-1 : Int) ++ List.replicate (d + 1) 0).set i (-1) = List.replicate (i + 1) (-1) ++ List.replicate d 0 := by
        rw [List.replicate_succ, List.set_append_right _ _ (by simp)]
        simp only [List.length_replicate, Nat.sub_self, List.set_cons_zero]
        rw [List.replicate_succ', List.append_assoc]; rfl
      refine ⟨g, spec_exShare.v0s _ _ _ _ _ _ ?_, h2⟩
      rw [br_t (decide_eq_true (by omega)), br_t (decide_eq_true (by omega)), br_t (decide_eq_true (by rw [hlen]; omega)), Int.toNat_natCast, gt_at _ (show i < (List.replicate i (-1 : Int) ++ List.replicate (d + 1) 0).length by rw [hlen]; omega), next_ok i f.length (by omega) (by omega), hset]
      exact hg
  obtain ⟨g, hg, h2⟩ := key f.length 0 (by omega)
  refine ⟨g, spec_exShare.vs _ ?_, h2⟩
  rw [br_t (decide_eq_true (by omega)), br_t (decide_eq_true (by omega)), Int.toNat_natCast, List.length_replicate]
  simpa using hg
end Go.Proofs.Ytiofklineiioaaa.Am
end
section
/- Seven expressions that are read: what the reference answers for their texts. -/
namespace Go.Proofs.Ytiofklineiioaaa.Am
open Go
set_option maxRecDepth 1000000
theorem read1 (k : Nat) : spec_ParseExpr.f (k + 40) (⟨#[115, 117, 98, 40, 120, 48, 44, 120, 49, 41]⟩ : ByteArray) = some (([((⟨#[105, 110]⟩ : ByteArray), ((0 : Int), ((0 : Int), (0 : Int)))), ((⟨#[105, 110]⟩ : ByteArray), ((0 : Int), ((0 : Int), (1 : Int)))), ((⟨#[115, 117, 98]⟩ : ByteArray), ((0 : Int), ((1 : Int), (0 : Int))))], true), ()) := by kernel_rfl
theorem read2 (k : Nat) : spec_ParseExpr.f (k + 40) (⟨#[97, 100, 100, 40, 120, 48, 44, 120, 48, 41]⟩ : ByteArray) = some (([((⟨#[105, 110]⟩ : ByteArray), ((0 : Int), ((0 : Int), (0 : Int)))), ((⟨#[105, 110]⟩ : ByteArray), ((0 : Int), ((0 : Int), (0 : Int)))), ((⟨#[97, 100, 100]⟩ : ByteArray), ((0 : Int), ((1 : Int), (0 : Int))))], true), ()) := by kernel_rfl
theorem read3 (k : Nat) : spec_ParseExpr.f (k + 40) (⟨#[120, 111, 114, 40, 120, 48, 44, 120, 49, 41]⟩ : ByteArray) = some (([((⟨#[105, 110]⟩ : ByteArray), ((0 : Int), ((0 : Int), (0 : Int)))), ((⟨#[105, 110]⟩ : ByteArray), ((0 : Int), ((0 : Int), (1 : Int)))), ((⟨#[120, 111, 114]⟩ : ByteArray), ((0 : Int), ((1 : Int), (0 : Int))))], true), ()) := by kernel_rfl
theorem read4 (k : Nat) : spec_ParseExpr.f (k + 40) (⟨#[97, 100, 100, 40, 120, 48, 44, 110, 101, 103, 40, 120, 49, 41, 41]⟩ : ByteArray) = some (([((⟨#[105, 110]⟩ : ByteArray), ((0 : Int), ((0 : Int), (0 : Int)))), ((⟨#[105, 110]⟩ : ByteArray), ((0 : Int), ((0 : Int), (1 : Int)))), ((⟨#[110, 101, 103]⟩ : ByteArray), ((1 : Int), ((0 : Int), (0 : Int)))), ((⟨#[97, 100, 100]⟩ : ByteArray), ((0 : Int), ((2 : Int), (0 : Int))))], true), ()) := by kernel_rfl
theorem read5 (k : Nat) : spec_ParseExpr.f (k + 40) (⟨#[115, 104, 108, 40, 120, 48, 44, 49, 41]⟩ : ByteArray) = some (([((⟨#[105, 110]⟩ : ByteArray), ((0 : Int), ((0 : Int), (0 : Int)))), ((⟨#[99, 111, 110, 115, 116]⟩ : ByteArray), ((0 : Int), ((0 : Int), (1 : Int)))), ((⟨#[115, 104, 108]⟩ : ByteArray), ((0 : Int), ((1 : Int), (0 : Int))))], true), ()) := by kernel_rfl
theorem read6 (k : Nat) : spec_ParseExpr.f (k + 40) (⟨#[115, 117, 98, 40, 111, 114, 40, 120, 48, 44, 120, 49, 41, 44, 97, 110, 100, 40, 120, 48, 44, 120, 49, 41, 41]⟩ : ByteArray) = some (([((⟨#[105, 110]⟩ : ByteArray), ((0 : Int), ((0 : Int), (0 : Int)))), ((⟨#[105, 110]⟩ : ByteArray), ((0 : Int), ((0 : Int), (1 : Int)))), ((⟨#[111, 114]⟩ : ByteArray), ((0 : Int), ((1 : Int), (0 : Int)))), ((⟨#[105, 110]⟩ : ByteArray), ((0 : Int), ((0 : Int), (0 : Int)))), ((⟨#[105, 110]⟩ : ByteArray), ((0 : Int), ((0 : Int), (1 : Int)))), ((⟨#[97, 110, 100]⟩ : ByteArray), ((3 : Int), ((4 : Int), (0 : Int)))), ((⟨#[115, 117, 98]⟩ : ByteArray), ((2 : Int), ((5 : Int), (0 : Int))))], true), ()) := by kernel_rfl
theorem read7 (k : Nat) : spec_ParseExpr.f (k + 40) (⟨#[109, 117, 108, 40, 120, 48, 44, 50, 41]⟩ : ByteArray) = some (([((⟨#[105, 110]⟩ : ByteArray), ((0 : Int), ((0 : Int), (0 : Int)))), ((⟨#[99, 111, 110, 115, 116]⟩ : ByteArray), ((0 : Int), ((0 : Int), (2 : Int)))), ((⟨#[109, 117, 108]⟩ : ByteArray), ((0 : Int), ((1 : Int), (0 : Int))))], true), ()) := by kernel_rfl
def threeT : List ByteArray := [(⟨#[115, 117, 98, 40, 120, 48, 44, 120, 49, 41]⟩ : ByteArray), (⟨#[97, 100, 100, 40, 120, 48, 44, 120, 48, 41]⟩ : ByteArray), (⟨#[120, 111, 114, 40, 120, 48, 44, 120, 49, 41]⟩ : ByteArray)]
def fourT : List ByteArray := [(⟨#[97, 100, 100, 40, 120, 48, 44, 110, 101, 103, 40, 120, 49, 41, 41]⟩ : ByteArray), (⟨#[115, 104, 108, 40, 120, 48, 44, 49, 41]⟩ : ByteArray), (⟨#[115, 117, 98, 40, 111, 114, 40, 120, 48, 44, 120, 49, 41, 44, 97, 110, 100, 40, 120, 48, 44, 120, 49, 41, 41]⟩ : ByteArray), (⟨#[109, 117, 108, 40, 120, 48, 44, 50, 41]⟩ : ByteArray)]
theorem late7 {α : Type} {f : Nat → Option α} {a : α} (h : ∀ k, f (k + 40) = some a) : lim (fun _ k => f k) = some a := ev_lim ⟨40, fun k hk => by
  have := h (k - 40)
  rwa [show k - 40 + 40 = k by omega] at this⟩
theorem read3_v {s : ByteArray} (h : s ∈ threeT) : ∃ o : List (ByteArray × Int × Int × Int), spec_ParseExpr.v s = some ((o, true), ()) ∧ o.length ≤ 60 := by
  unfold threeT at h
  simp only [List.mem_cons, List.not_mem_nil, or_false] at h
  rcases h with rfl | rfl | rfl
  · exact ⟨_, late7 read1, by simp⟩
  · exact ⟨_, late7 read2, by simp⟩
  · exact ⟨_, late7 read3, by simp⟩
theorem read4_v {s : ByteArray} (h : s ∈ fourT) : ∃ o : List (ByteArray × Int × Int × Int), spec_ParseExpr.v s = some ((o, true), ()) ∧ o.length ≤ 60 := by
  unfold fourT at h
  simp only [List.mem_cons, List.not_mem_nil, or_false] at h
  rcases h with rfl | rfl | rfl | rfl
  · exact ⟨_, late7 read4, by simp⟩
  · exact ⟨_, late7 read5, by simp⟩
  · exact ⟨_, late7 read6, by simp⟩
  · exact ⟨_, late7 read7, by simp⟩
end Go.Proofs.Ytiofklineiioaaa.Am
end
section
/- Pairs of expressions that are drawn, often equal ones. -/
namespace Go.Proofs.Ytiofklineiioaaa.Am
open Go
set_option linter.unusedVariables false
set_option linter.unusedSimpArgs false

theorem twins_d {n : Int} {c : Cur} (h : Cu n c) (hn : n ≤ 500000000) : Dr (spec_l1Cur_twins.v c.1 c.2.1 c.2.2) (n + 2000) fun r => r.1.length ≤ 60 ∧ r.2.length ≤ 60 := by
  refine dr_v ?_ fun r => spec_l1Cur_twins.vs c.1 c.2.1 c.2.2
  refine Dr.bd (anyExpr_d h (by omega)) fun e c0 he hc0 => ?_
  dsimp only
  refine Dr.here (exGood_v e (by omega)) ?_
  cases hg : exprOk e with
  | false =>
    rw [brn_f]
    exact Dr.bd (anyExpr_d hc0 (by omega)) fun f c1 hf hc1 => Dr.ret hc1 (by omega) ⟨he, hf⟩
  | true =>
    rw [brn_t]
    obtain ⟨n1, n2, n3⟩ := exprOk_parts hg
    obtain ⟨g, eg, pl, g1, g2⟩ := exFold_v n1 n2 n3
    obtain ⟨f, ef, hfl⟩ := exShare_v pl g1 g2
    refine Dr.bd (one_d 3 hc0 (by omega)) fun b c1 _ hc1 => Dr.br (fun _ => ?_) fun _ => ?_
    · exact Dr.bd (anyExpr_d hc1 (by omega)) fun f c2 hf hc2 => Dr.ret hc2 (by omega) ⟨he, hf⟩
    refine Dr.bd (of_d threeT (by simp [threeT]) hc1 (by omega)) fun s c2 hs hc2 => ?_
    obtain ⟨o, ho, hol⟩ := read3_v hs
    dsimp only
    rw [ho, bd_s]
    dsimp only
    refine Dr.pos rfl (Dr.bd (one_d 4 hc2 (by omega)) fun b c3 _ hc3 => Dr.br (fun _ => ?_) fun _ => ?_)
    · refine Dr.bd (of_d fourT (by simp [fourT]) hc3 (by omega)) fun s4 c4 hs4 hc4 => ?_
      obtain ⟨o4, ho4, hol4⟩ := read4_v hs4
      dsimp only
      rw [ho4, bd_s]
      exact Dr.ret hc4 (by omega) ⟨hol, hol4⟩
    · rw [eg, bd_s]
      dsimp only
      rw [ef, bd_s]
      dsimp only
      refine Dr.bd (one_d 3 hc3 (by omega)) fun b c4 _ hc4 => Dr.br (fun _ => ?_) fun _ => Dr.ret hc4 (by omega) ⟨he, by dsimp only; omega⟩
      refine Dr.br (fun h24 => ?_) fun _ => Dr.ret hc4 (by omega) ⟨he, by dsimp only; omega⟩
      refine Dr.pos (decide_eq_true (by omega)) (Dr.bd (of_d _ (by simp) hc4 (by omega)) fun s5 c5 _ hc5 => ?_)
      exact Dr.pos (decide_eq_true (by simp; omega)) (Dr.ret hc5 (by omega) ⟨he, by simp; omega⟩)
theorem drawFirst_v {l : List Int} (h : Bytes l) : ∃ (e f : List Nd), spec_DrawFirstDifference.v l = some (e, f) ∧ e.length ≤ 60 ∧ f.length ≤ 60 := by
  obtain ⟨⟨e, f⟩, c, he, hl, _⟩ := twins_d h.cu (by omega)
  exact ⟨e, f, spec_DrawFirstDifference.vs _ (by rw [spec_DrawAreEqual.vs _ (by rw [he, bd_s])]; rfl), hl.1, hl.2⟩
theorem drawAt_v {l : List Int} (h : Bytes l) : ∃ (e f : List Nd) (m : Int), spec_DrawEqualAt.v l = some (e, f, m) ∧ e.length ≤ 60 ∧ f.length ≤ 60 := by
  obtain ⟨⟨e, f⟩, c, he, hl, hc⟩ := twins_d h.cu (by omega)
  obtain ⟨m, c1, e1, _, _⟩ := anyWord_d hc (by omega)
  exact ⟨e, f, m, spec_DrawEqualAt.vs _ (by rw [he, bd_s]; dsimp only; rw [e1, bd_s]), hl.1, hl.2⟩
def Small (L : List (List Nd)) : Prop := ∀ e ∈ L, e.length ≤ 60
theorem drawClasses_v {l : List Int} (h : Bytes l) : ∃ (L : List (List Nd)), spec_DrawClassesOf.v l = some L ∧ Small L ∧ L.length ≤ 20 := by
  have tail : ∀ (d : Nat) (L : List (List Nd)) (m : Int) (c : Cur), L.length + d = 16 → Small L → Cu m c → m + 2 * d ≤ 100000 → ∃ L', spec_DrawClassesOf.v1 c.1 c.2.1 c.2.2 L = some L' ∧ Small L' ∧ L'.length ≤ 20 := by
    intro d
    induction d with
    | zero =>
      intro L m c hL hs hc hm
      obtain ⟨r, c1, e1, hr, _⟩ := pick_d 2 hc (by omega)
      have := hr.2 (by omega)
      exact ⟨L, spec_DrawClassesOf.v1s _ _ _ _ (by rw [e1, bd_s]; dsimp only; rw [br_f (decide_eq_false (by rw [wrap_ok (by omega) (by omega)]; omega))]), hs, by omega⟩
    | succ d ih =>
      intro L m c hL hs hc hm
      obtain ⟨r, c1, e1, hr, hc1⟩ := pick_d 2 hc (by omega)
      by_cases q : (L.length : Int) < IntKind.wrap .i64 (8 + r)
      · obtain ⟨L', h1, h2⟩ := ih (L ++ [[((⟨#[105, 110]⟩ : ByteArray), ((0 : Int), ((0 : Int), (0 : Int))))]]) _ c1 (by simp; omega) (fun e he => by
          rcases List.mem_append.1 he with he | he
          · exact hs e he
          · rw [List.mem_singleton] at he; subst he; simp) hc1 (by omega)
        exact ⟨L', spec_DrawClassesOf.v1s _ _ _ _ (by rw [e1, bd_s]; dsimp only; rw [br_t (decide_eq_true q), br_t (decide_eq_true (by simp; omega))]; exact h1), h2⟩
      · exact ⟨L, spec_DrawClassesOf.v1s _ _ _ _ (by rw [e1, bd_s]; dsimp only; rw [br_f (decide_eq_false q)]), hs, by omega⟩
  have head : ∀ (k : Nat) (L : List (List Nd)) (m : Int) (c : Cur), L.length + 2 * k ≤ 8 → Small L → Cu m c → m + 3000 * k ≤ 50000 → ∃ L', spec_DrawClassesOf.v0 (k : Int) c.1 c.2.1 c.2.2 L = some L' ∧ Small L' ∧ L'.length ≤ 20 := by
    intro k
    induction k with
    | zero =>
      intro L m c hL hs hc hm
      obtain ⟨b, c1, e1, _, hc1⟩ := one_d 20 hc (by omega)
      cases b with
      | false => exact ⟨L, spec_DrawClassesOf.v0s _ _ _ _ _ (by rw [br_f (by decide), e1, bd_s, br_f rfl]), hs, by omega⟩
      | true =>
        obtain ⟨L', h1, h2⟩ := tail (16 - L.length) L _ c1 (by omega) hs hc1 (by omega)
        exact ⟨L', spec_DrawClassesOf.v0s _ _ _ _ _ (by rw [br_f (by decide), e1, bd_s, br_t rfl]; exact h1), h2⟩
    | succ k ih =>
      intro L m c hL hs hc hm
      obtain ⟨⟨e, f⟩, c1, e1, hl, hc1⟩ := twins_d hc (by omega)
      obtain ⟨L', h1, h2⟩ := ih (L ++ [e, f]) _ c1 (by simp; omega) (fun x hx => by
        rcases List.mem_append.1 hx with hx | hx
        · exact hs x hx
        · simp only [List.mem_cons, List.not_mem_nil, or_false] at hx
          rcases hx with rfl | rfl
          · exact hl.1
          · exact hl.2) hc1 (by omega)
      refine ⟨L', spec_DrawClassesOf.v0s _ _ _ _ _ ?_, h2⟩
      rw [br_t (decide_eq_true (by omega)), e1, bd_s, br_t (decide_eq_true (by simp; omega)), wrap_ok (by omega) (by omega), show (((k + 1 : Nat) : Int) - 1) = (k : Int) by omega]
      exact h1
  obtain ⟨r, c, e, hr, hc⟩ := among_d [0, 1, 2, 3] (by simp) h.cu (by omega)
  simp only [List.mem_cons, List.not_mem_nil, or_false] at hr
  obtain ⟨k, rfl⟩ : ∃ k : Nat, r = (k : Int) := ⟨r.toNat, by omega⟩
  obtain ⟨L, h1, h2⟩ := head k [] _ c (by simp; omega) (fun e he => by simp at he) hc (by omega)
  exact ⟨L, spec_DrawClassesOf.vs _ (by rw [e, bd_s]; exact h1), h2⟩
end Go.Proofs.Ytiofklineiioaaa.Am
end
section
/- The law laws_FnEqualOrWitness over the machine of values. -/
set_option linter.unusedVariables false
set_option maxRecDepth 100000
set_option maxHeartbeats 1000000
namespace Go.Proofs.Ytiofklineiioaaa.Am
open Go
noncomputable def laws_FnEqualOrWitness.E : En := ⟨P0, M0, [(24, ⟨[1, 7, 8, 17, 21, 27, 29, 30, 31, 192, 193, 194], [], [], []⟩), (46, ⟨[43, 44, 305, 306, 307], [], [], []⟩), (5, ⟨[1, 5, 6, 7, 8, 9], [], [], []⟩), (7, ⟨[1, 5, 6, 7, 8, 9, 10, 11, 12, 13, 14], [], [], []⟩), (9, ⟨[1, 5, 6, 7, 8, 9, 10, 11, 12, 13, 14, 15, 16, 17, 18], [], [], []⟩), (11, ⟨[1, 5, 6, 7, 8, 9, 10, 11, 12, 13, 14, 15, 16, 17, 18, 19, 20, 21, 22], [], [], []⟩), (12, ⟨[1, 5, 6, 7, 8, 9, 10, 11, 12, 13, 14, 15, 16, 17, 18, 19, 20, 21, 22, 23, 24], [], [], []⟩), (14, ⟨[1, 5, 6, 7, 8, 9, 13, 14, 17, 21], [], [], []⟩), (16, ⟨[1, 5, 6, 7, 8, 9, 17, 21], [], [], []⟩), (18, ⟨[1, 6, 7, 8, 17, 21, 25, 26], [], [], []⟩), (21, ⟨[1, 7, 8, 17, 21, 25, 27], [], [], []⟩), (29, ⟨[1, 7, 8, 17, 21, 27, 29, 30, 31, 32, 33, 192, 193, 194], [], [], []⟩), (32, ⟨[1, 7, 8, 17, 21, 29, 30, 31], [], [], []⟩), (34, ⟨[1], [], [], []⟩), (36, ⟨[1, 34, 35, 36, 37, 38], [], [], []⟩), (38, ⟨[1, 36, 37, 38, 39, 40, 41, 42], [], [], []⟩), (40, ⟨[1], [], [], []⟩), (42, ⟨[43, 44, 45], [], [], []⟩), (45, ⟨[43, 44], [], [], []⟩)], ntOf P0 4, [5, 7, 9, 11, 12, 14, 16, 18, 21, 29, 32, 34, 36, 38, 40, 42, 45]⟩
noncomputable def laws_FnEqualOrWitness.g : St → Option Bool := fun st => fin0 (cV false .b) (finA P0 (resOf P0 4) 0 [.id] [] st)
noncomputable def laws_FnEqualOrWitness.T (k : Nat) : Table := tabs [(6, (laws_big.tab)), (12, (laws_gSame.tab k)), (23, (spec_DrawFirstDifference.tab k)), (24, (impl_FirstDifference.tab k)), (25, (spec_FirstDifference.tab k)), (26, (impl_AreEqual.tab k)), (27, (spec_AreEqual.tab k)), (28, (impl_CountDifferences.tab k)), (29, (spec_CountDifferences.tab k)), (30, (impl_DifferentBits.tab k)), (31, (spec_DifferentBits.tab k)), (32, (impl_TableOf.tab k)), (33, (spec_DrawEqualAt.tab k)), (34, (impl_EqualAt.tab k)), (35, (spec_EqualAt.tab k)), (36, (spec_DrawClassesOf.tab k)), (37, (impl_ClassesOf.tab k)), (38, (spec_ClassesOf.tab k))]
noncomputable def laws_FnEqualOrWitness.f (k : Nat) (a0 : (List Int)) (a1 : (List Int)) : Option Bool := go laws_FnEqualOrWitness.E laws_FnEqualOrWitness.T laws_FnEqualOrWitness.g k [.code (bodyOf P0 4)] (initA [mkP false (.sl (.i .u8)) a0, mkP false (.sl (.i .u8)) a1] [])
noncomputable def laws_FnEqualOrWitness.tab (k : Nat) : List AV → List AO → Option Pack := tabI [.v false (.sl (.i .u8)), .v false (.sl (.i .u8))] [] (enc0 (cV false .b)) (laws_FnEqualOrWitness.f k)
noncomputable def laws_FnEqualOrWitness.l0 (k : Nat) (x0 : List Int) (x1 : List (ByteArray × (Int × (Int × Int)))) (x2 : List (ByteArray × (Int × (Int × Int)))) (x3 : Int) (x4 : Int) (x5 : Bool) := go laws_FnEqualOrWitness.E laws_FnEqualOrWitness.T laws_FnEqualOrWitness.g k (headOf P0 4 0 [5, 7, 9, 11, 12, 14, 16, 18, 21, 29, 32, 34, 36, 38, 40, 42, 45]) ⟨[(1, (.lst (.i .u8) x0)), (5, (.lst (.pr .s (.pr (.i .i64) (.pr (.i .i64) (.i .i64)))) x1)), (6, (.lst (.pr .s (.pr (.i .i64) (.pr (.i .i64) (.i .i64)))) x2)), (7, (.i .i64 x3)), (8, (.i .i64 x4)), (9, (.b x5))], []⟩
noncomputable def laws_FnEqualOrWitness.l1 (k : Nat) (x0 : List Int) (x1 : List (ByteArray × (Int × (Int × Int)))) (x2 : List (ByteArray × (Int × (Int × Int)))) (x3 : Int) (x4 : Int) (x5 : Bool) (x6 : Int) (x7 : Int) (x8 : Bool) (x9 : Bool) (x10 : Bool) := go laws_FnEqualOrWitness.E laws_FnEqualOrWitness.T laws_FnEqualOrWitness.g k (headOf P0 4 1 [5, 7, 9, 11, 12, 14, 16, 18, 21, 29, 32, 34, 36, 38, 40, 42, 45]) ⟨[(1, (.lst (.i .u8) x0)), (5, (.lst (.pr .s (.pr (.i .i64) (.pr (.i .i64) (.i .i64)))) x1)), (6, (.lst (.pr .s (.pr (.i .i64) (.pr (.i .i64) (.i .i64)))) x2)), (7, (.i .i64 x3)), (8, (.i .i64 x4)), (9, (.b x5)), (10, (.i .i64 x6)), (11, (.i .i64 x7)), (12, (.b x8)), (13, (.b x9)), (14, (.b x10))], []⟩
noncomputable def laws_FnEqualOrWitness.l2 (k : Nat) (x0 : List Int) (x1 : List (ByteArray × (Int × (Int × Int)))) (x2 : List (ByteArray × (Int × (Int × Int)))) (x3 : Int) (x4 : Int) (x5 : Bool) (x6 : Int) (x7 : Int) (x8 : Bool) (x9 : Bool) (x10 : Bool) (x11 : Bool) (x12 : Bool) (x13 : Int) (x14 : Bool) := go laws_FnEqualOrWitness.E laws_FnEqualOrWitness.T laws_FnEqualOrWitness.g k (headOf P0 4 2 [5, 7, 9, 11, 12, 14, 16, 18, 21, 29, 32, 34, 36, 38, 40, 42, 45]) ⟨[(1, (.lst (.i .u8) x0)), (5, (.lst (.pr .s (.pr (.i .i64) (.pr (.i .i64) (.i .i64)))) x1)), (6, (.lst (.pr .s (.pr (.i .i64) (.pr (.i .i64) (.i .i64)))) x2)), (7, (.i .i64 x3)), (8, (.i .i64 x4)), (9, (.b x5)), (10, (.i .i64 x6)), (11, (.i .i64 x7)), (12, (.b x8)), (13, (.b x9)), (14, (.b x10)), (15, (.b x11)), (16, (.b x12)), (17, (.i .i64 x13)), (18, (.b x14))], []⟩
noncomputable def laws_FnEqualOrWitness.l3 (k : Nat) (x0 : List Int) (x1 : List (ByteArray × (Int × (Int × Int)))) (x2 : List (ByteArray × (Int × (Int × Int)))) (x3 : Int) (x4 : Int) (x5 : Bool) (x6 : Int) (x7 : Int) (x8 : Bool) (x9 : Bool) (x10 : Bool) (x11 : Bool) (x12 : Bool) (x13 : Int) (x14 : Bool) (x15 : Int) (x16 : Bool) (x17 : Int) (x18 : Bool) := go laws_FnEqualOrWitness.E laws_FnEqualOrWitness.T laws_FnEqualOrWitness.g k (headOf P0 4 3 [5, 7, 9, 11, 12, 14, 16, 18, 21, 29, 32, 34, 36, 38, 40, 42, 45]) ⟨[(1, (.lst (.i .u8) x0)), (5, (.lst (.pr .s (.pr (.i .i64) (.pr (.i .i64) (.i .i64)))) x1)), (6, (.lst (.pr .s (.pr (.i .i64) (.pr (.i .i64) (.i .i64)))) x2)), (7, (.i .i64 x3)), (8, (.i .i64 x4)), (9, (.b x5)), (10, (.i .i64 x6)), (11, (.i .i64 x7)), (12, (.b x8)), (13, (.b x9)), (14, (.b x10)), (15, (.b x11)), (16, (.b x12)), (17, (.i .i64 x13)), (18, (.b x14)), (19, (.i .i64 x15)), (20, (.b x16)), (21, (.i .i64 x17)), (22, (.b x18))], []⟩
noncomputable def laws_FnEqualOrWitness.l4 (k : Nat) (x0 : List Int) (x1 : List (ByteArray × (Int × (Int × Int)))) (x2 : List (ByteArray × (Int × (Int × Int)))) (x3 : Int) (x4 : Int) (x5 : Bool) (x6 : Int) (x7 : Int) (x8 : Bool) (x9 : Bool) (x10 : Bool) (x11 : Bool) (x12 : Bool) (x13 : Int) (x14 : Bool) (x15 : Int) (x16 : Bool) (x17 : Int) (x18 : Bool) (x19 : Int) (x20 : Bool) := go laws_FnEqualOrWitness.E laws_FnEqualOrWitness.T laws_FnEqualOrWitness.g k (headOf P0 4 4 [5, 7, 9, 11, 12, 14, 16, 18, 21, 29, 32, 34, 36, 38, 40, 42, 45]) ⟨[(1, (.lst (.i .u8) x0)), (5, (.lst (.pr .s (.pr (.i .i64) (.pr (.i .i64) (.i .i64)))) x1)), (6, (.lst (.pr .s (.pr (.i .i64) (.pr (.i .i64) (.i .i64)))) x2)), (7, (.i .i64 x3)), (8, (.i .i64 x4)), (9, (.b x5)), (10, (.i .i64 x6)), (11, (.i .i64 x7)), (12, (.b x8)), (13, (.b x9)), (14, (.b x10)), (15, (.b x11)), (16, (.b x12)), (17, (.i .i64 x13)), (18, (.b x14)), (19, (.i .i64 x15)), (20, (.b x16)), (21, (.i .i64 x17)), (22, (.b x18)), (23, (.i .i64 x19)), (24, (.b x20))], []⟩
noncomputable def laws_FnEqualOrWitness.l5 (k : Nat) (x0 : List Int) (x1 : List (ByteArray × (Int × (Int × Int)))) (x2 : List (ByteArray × (Int × (Int × Int)))) (x3 : Int) (x4 : Int) (x5 : Bool) (x6 : Bool) (x7 : Bool) (x8 : Int) (x9 : Int) := go laws_FnEqualOrWitness.E laws_FnEqualOrWitness.T laws_FnEqualOrWitness.g k (headOf P0 4 5 [5, 7, 9, 11, 12, 14, 16, 18, 21, 29, 32, 34, 36, 38, 40, 42, 45]) ⟨[(1, (.lst (.i .u8) x0)), (5, (.lst (.pr .s (.pr (.i .i64) (.pr (.i .i64) (.i .i64)))) x1)), (6, (.lst (.pr .s (.pr (.i .i64) (.pr (.i .i64) (.i .i64)))) x2)), (7, (.i .i64 x3)), (8, (.i .i64 x4)), (9, (.b x5)), (13, (.b x6)), (14, (.b x7)), (17, (.i .i64 x8)), (21, (.i .i64 x9))], []⟩
noncomputable def laws_FnEqualOrWitness.l6 (k : Nat) (x0 : List Int) (x1 : List (ByteArray × (Int × (Int × Int)))) (x2 : List (ByteArray × (Int × (Int × Int)))) (x3 : Int) (x4 : Int) (x5 : Bool) (x6 : Int) (x7 : Int) := go laws_FnEqualOrWitness.E laws_FnEqualOrWitness.T laws_FnEqualOrWitness.g k (headOf P0 4 6 [5, 7, 9, 11, 12, 14, 16, 18, 21, 29, 32, 34, 36, 38, 40, 42, 45]) ⟨[(1, (.lst (.i .u8) x0)), (5, (.lst (.pr .s (.pr (.i .i64) (.pr (.i .i64) (.i .i64)))) x1)), (6, (.lst (.pr .s (.pr (.i .i64) (.pr (.i .i64) (.i .i64)))) x2)), (7, (.i .i64 x3)), (8, (.i .i64 x4)), (9, (.b x5)), (17, (.i .i64 x6)), (21, (.i .i64 x7))], []⟩
noncomputable def laws_FnEqualOrWitness.l7 (k : Nat) (x0 : List Int) (x1 : List (ByteArray × (Int × (Int × Int)))) (x2 : Int) (x3 : Int) (x4 : Int) (x5 : Int) (x6 : List Int) (x7 : Bool) := go laws_FnEqualOrWitness.E laws_FnEqualOrWitness.T laws_FnEqualOrWitness.g k (headOf P0 4 7 [5, 7, 9, 11, 12, 14, 16, 18, 21, 29, 32, 34, 36, 38, 40, 42, 45]) ⟨[(1, (.lst (.i .u8) x0)), (6, (.lst (.pr .s (.pr (.i .i64) (.pr (.i .i64) (.i .i64)))) x1)), (7, (.i .i64 x2)), (8, (.i .i64 x3)), (17, (.i .i64 x4)), (21, (.i .i64 x5)), (25, (.lst (.i .i64) x6)), (26, (.b x7))], []⟩
noncomputable def laws_FnEqualOrWitness.l12 (k : Nat) (x0 : List Int) := go laws_FnEqualOrWitness.E laws_FnEqualOrWitness.T laws_FnEqualOrWitness.g k (headOf P0 4 12 [5, 7, 9, 11, 12, 14, 16, 18, 21, 29, 32, 34, 36, 38, 40, 42, 45]) ⟨[(1, (.lst (.i .u8) x0))], []⟩
noncomputable def laws_FnEqualOrWitness.l8 (k : Nat) (x0 : List Int) (x1 : Int) (x2 : Int) (x3 : Int) (x4 : Int) (x5 : List Int) (x6 : List Int) := go laws_FnEqualOrWitness.E laws_FnEqualOrWitness.T laws_FnEqualOrWitness.g k (headOf P0 4 8 [5, 7, 9, 11, 12, 14, 16, 18, 21, 29, 32, 34, 36, 38, 40, 42, 45]) ⟨[(1, (.lst (.i .u8) x0)), (7, (.i .i64 x1)), (8, (.i .i64 x2)), (17, (.i .i64 x3)), (21, (.i .i64 x4)), (25, (.lst (.i .i64) x5)), (27, (.lst (.i .i64) x6))], []⟩
noncomputable def laws_FnEqualOrWitness.l13 (k : Nat) (x0 : List Int) (x1 : List (ByteArray × (Int × (Int × Int)))) (x2 : List (ByteArray × (Int × (Int × Int)))) (x3 : Int) (x4 : Bool) (x5 : Bool) := go laws_FnEqualOrWitness.E laws_FnEqualOrWitness.T laws_FnEqualOrWitness.g k (headOf P0 4 13 [5, 7, 9, 11, 12, 14, 16, 18, 21, 29, 32, 34, 36, 38, 40, 42, 45]) ⟨[(1, (.lst (.i .u8) x0)), (34, (.lst (.pr .s (.pr (.i .i64) (.pr (.i .i64) (.i .i64)))) x1)), (35, (.lst (.pr .s (.pr (.i .i64) (.pr (.i .i64) (.i .i64)))) x2)), (36, (.i .i64 x3)), (37, (.b x4)), (38, (.b x5))], []⟩
noncomputable def laws_FnEqualOrWitness.l9 (k : Nat) (x0 : List Int) (x1 : Int) (x2 : Int) (x3 : Int) (x4 : Int) (x5 : List Int) (x6 : Int) (x7 : Int) (x8 : Int) (x9 : List Int) (x10 : Int) (x11 : Int) := go laws_FnEqualOrWitness.E laws_FnEqualOrWitness.T laws_FnEqualOrWitness.g k (headOf P0 4 9 [5, 7, 9, 11, 12, 14, 16, 18, 21, 29, 32, 34, 36, 38, 40, 42, 45]) ⟨[(1, (.lst (.i .u8) x0)), (7, (.i .i64 x1)), (8, (.i .i64 x2)), (17, (.i .i64 x3)), (21, (.i .i64 x4)), (27, (.lst (.i .i64) x5)), (29, (.i .i64 x6)), (30, (.i .i64 x7)), (31, (.i .i64 x8)), (192, (.lst (.i .i64) x9)), (193, (.i .i64 x10)), (194, (.i .i64 x11))], []⟩
noncomputable def laws_FnEqualOrWitness.l14 (k : Nat) (x0 : List Int) (x1 : Int) (x2 : Bool) (x3 : Bool) (x4 : Bool) (x5 : Bool) (x6 : Int) (x7 : Bool) := go laws_FnEqualOrWitness.E laws_FnEqualOrWitness.T laws_FnEqualOrWitness.g k (headOf P0 4 14 [5, 7, 9, 11, 12, 14, 16, 18, 21, 29, 32, 34, 36, 38, 40, 42, 45]) ⟨[(1, (.lst (.i .u8) x0)), (36, (.i .i64 x1)), (37, (.b x2)), (38, (.b x3)), (39, (.b x4)), (40, (.b x5)), (41, (.i .i64 x6)), (42, (.b x7))], []⟩
noncomputable def laws_FnEqualOrWitness.l10 (k : Nat) (x0 : List Int) (x1 : Int) (x2 : Int) (x3 : Int) (x4 : Int) (x5 : List Int) (x6 : Int) (x7 : Int) (x8 : Int) (x9 : Int) (x10 : Int) (x11 : List Int) (x12 : Int) (x13 : Int) := go laws_FnEqualOrWitness.E laws_FnEqualOrWitness.T laws_FnEqualOrWitness.g k (headOf P0 4 10 [5, 7, 9, 11, 12, 14, 16, 18, 21, 29, 32, 34, 36, 38, 40, 42, 45]) ⟨[(1, (.lst (.i .u8) x0)), (7, (.i .i64 x1)), (8, (.i .i64 x2)), (17, (.i .i64 x3)), (21, (.i .i64 x4)), (27, (.lst (.i .i64) x5)), (29, (.i .i64 x6)), (30, (.i .i64 x7)), (31, (.i .i64 x8)), (32, (.i .i64 x9)), (33, (.i .i64 x10)), (192, (.lst (.i .i64) x11)), (193, (.i .i64 x12)), (194, (.i .i64 x13))], []⟩
noncomputable def laws_FnEqualOrWitness.l11 (k : Nat) (x0 : List Int) (x1 : Int) (x2 : Int) (x3 : Int) (x4 : Int) (x5 : Int) (x6 : Int) (x7 : Int) := go laws_FnEqualOrWitness.E laws_FnEqualOrWitness.T laws_FnEqualOrWitness.g k (headOf P0 4 11 [5, 7, 9, 11, 12, 14, 16, 18, 21, 29, 32, 34, 36, 38, 40, 42, 45]) ⟨[(1, (.lst (.i .u8) x0)), (7, (.i .i64 x1)), (8, (.i .i64 x2)), (17, (.i .i64 x3)), (21, (.i .i64 x4)), (29, (.i .i64 x5)), (30, (.i .i64 x6)), (31, (.i .i64 x7))], []⟩
noncomputable def laws_FnEqualOrWitness.l15 (k : Nat) (x0 : List Int) := go laws_FnEqualOrWitness.E laws_FnEqualOrWitness.T laws_FnEqualOrWitness.g k (headOf P0 4 15 [5, 7, 9, 11, 12, 14, 16, 18, 21, 29, 32, 34, 36, 38, 40, 42, 45]) ⟨[(1, (.lst (.i .u8) x0))], []⟩
noncomputable def laws_FnEqualOrWitness.l16 (k : Nat) (x0 : List (List (ByteArray × (Int × (Int × Int))))) (x1 : List Int) (x2 : Bool) := go laws_FnEqualOrWitness.E laws_FnEqualOrWitness.T laws_FnEqualOrWitness.g k (headOf P0 4 16 [5, 7, 9, 11, 12, 14, 16, 18, 21, 29, 32, 34, 36, 38, 40, 42, 45]) ⟨[(43, (.lst (.sl (.pr .s (.pr (.i .i64) (.pr (.i .i64) (.i .i64))))) x0)), (44, (.lst (.i .i64) x1)), (45, (.b x2))], []⟩
noncomputable def laws_FnEqualOrWitness.l17 (k : Nat) (x0 : List (List (ByteArray × (Int × (Int × Int))))) (x1 : List Int) := go laws_FnEqualOrWitness.E laws_FnEqualOrWitness.T laws_FnEqualOrWitness.g k (headOf P0 4 17 [5, 7, 9, 11, 12, 14, 16, 18, 21, 29, 32, 34, 36, 38, 40, 42, 45]) ⟨[(43, (.lst (.sl (.pr .s (.pr (.i .i64) (.pr (.i .i64) (.i .i64))))) x0)), (44, (.lst (.i .i64) x1))], []⟩
noncomputable def laws_FnEqualOrWitness.l18 (k : Nat) (x0 : List (List (ByteArray × (Int × (Int × Int))))) (x1 : List Int) (x2 : List Int) (x3 : Int) (x4 : Int) := go laws_FnEqualOrWitness.E laws_FnEqualOrWitness.T laws_FnEqualOrWitness.g k (headOf P0 4 18 [5, 7, 9, 11, 12, 14, 16, 18, 21, 29, 32, 34, 36, 38, 40, 42, 45]) ⟨[(43, (.lst (.sl (.pr .s (.pr (.i .i64) (.pr (.i .i64) (.i .i64))))) x0)), (44, (.lst (.i .i64) x1)), (305, (.lst (.i .i64) x2)), (306, (.i .i64 x3)), (307, (.i .i64 x4))], []⟩
theorem laws_FnEqualOrWitness.eq (k : Nat) (a0 : (List Int)) (a1 : (List Int)) : laws_FnEqualOrWitness.f (k + 1) a0 a1 = (bd (laws_big.f a0 a1) fun r0 => (br r0 (some true) (bd (spec_DrawFirstDifference.f k a0) fun r1 => (bd (impl_FirstDifference.f k r1.1 r1.2) fun r2 => (laws_FnEqualOrWitness.l0 k a1 r1.1 r1.2 r2.1 r2.2.1 r2.2.2))))) := by kernel_rfl
theorem laws_FnEqualOrWitness.l0_eq (k : Nat) (x0 : List Int) (x1 : List (ByteArray × (Int × (Int × Int)))) (x2 : List (ByteArray × (Int × (Int × Int)))) (x3 : Int) (x4 : Int) (x5 : Bool) : laws_FnEqualOrWitness.l0 (k + 1) x0 x1 x2 x3 x4 x5 = (bd (spec_FirstDifference.f k x1 x2) fun r3 => (bd (impl_AreEqual.f k x1 x2) fun r4 => (laws_FnEqualOrWitness.l1 k x0 x1 x2 x3 x4 x5 r3.1 r3.2.1 r3.2.2 r4.1 r4.2))) := by kernel_rfl
theorem laws_FnEqualOrWitness.l1_eq (k : Nat) (x0 : List Int) (x1 : List (ByteArray × (Int × (Int × Int)))) (x2 : List (ByteArray × (Int × (Int × Int)))) (x3 : Int) (x4 : Int) (x5 : Bool) (x6 : Int) (x7 : Int) (x8 : Bool) (x9 : Bool) (x10 : Bool) : laws_FnEqualOrWitness.l1 (k + 1) x0 x1 x2 x3 x4 x5 x6 x7 x8 x9 x10 = (bd (spec_AreEqual.f k x1 x2) fun r5 => (bd (impl_CountDifferences.f k x1 x2) fun r6 => (laws_FnEqualOrWitness.l2 k x0 x1 x2 x3 x4 x5 x6 x7 x8 x9 x10 r5.1 r5.2 r6.1 r6.2))) := by kernel_rfl
theorem laws_FnEqualOrWitness.l2_eq (k : Nat) (x0 : List Int) (x1 : List (ByteArray × (Int × (Int × Int)))) (x2 : List (ByteArray × (Int × (Int × Int)))) (x3 : Int) (x4 : Int) (x5 : Bool) (x6 : Int) (x7 : Int) (x8 : Bool) (x9 : Bool) (x10 : Bool) (x11 : Bool) (x12 : Bool) (x13 : Int) (x14 : Bool) : laws_FnEqualOrWitness.l2 (k + 1) x0 x1 x2 x3 x4 x5 x6 x7 x8 x9 x10 x11 x12 x13 x14 = (bd (spec_CountDifferences.f k x1 x2) fun r7 => (bd (impl_DifferentBits.f k x1 x2) fun r8 => (laws_FnEqualOrWitness.l3 k x0 x1 x2 x3 x4 x5 x6 x7 x8 x9 x10 x11 x12 x13 x14 r7.1 r7.2 r8.1 r8.2))) := by kernel_rfl
theorem laws_FnEqualOrWitness.l3_eq (k : Nat) (x0 : List Int) (x1 : List (ByteArray × (Int × (Int × Int)))) (x2 : List (ByteArray × (Int × (Int × Int)))) (x3 : Int) (x4 : Int) (x5 : Bool) (x6 : Int) (x7 : Int) (x8 : Bool) (x9 : Bool) (x10 : Bool) (x11 : Bool) (x12 : Bool) (x13 : Int) (x14 : Bool) (x15 : Int) (x16 : Bool) (x17 : Int) (x18 : Bool) : laws_FnEqualOrWitness.l3 (k + 1) x0 x1 x2 x3 x4 x5 x6 x7 x8 x9 x10 x11 x12 x13 x14 x15 x16 x17 x18 = (bd (spec_DifferentBits.f k x1 x2) fun r9 => (laws_FnEqualOrWitness.l4 k x0 x1 x2 x3 x4 x5 x6 x7 x8 x9 x10 x11 x12 x13 x14 x15 x16 x17 x18 r9.1 r9.2)) := by kernel_rfl
theorem laws_FnEqualOrWitness.l4_eq (k : Nat) (x0 : List Int) (x1 : List (ByteArray × (Int × (Int × Int)))) (x2 : List (ByteArray × (Int × (Int × Int)))) (x3 : Int) (x4 : Int) (x5 : Bool) (x6 : Int) (x7 : Int) (x8 : Bool) (x9 : Bool) (x10 : Bool) (x11 : Bool) (x12 : Bool) (x13 : Int) (x14 : Bool) (x15 : Int) (x16 : Bool) (x17 : Int) (x18 : Bool) (x19 : Int) (x20 : Bool) : laws_FnEqualOrWitness.l4 (k + 1) x0 x1 x2 x3 x4 x5 x6 x7 x8 x9 x10 x11 x12 x13 x14 x15 x16 x17 x18 x19 x20 = (br (Bool.not (x5 == x8)) (some false) (br (x3 != x6) (some false) (br (x4 != x7) (some false) (br (Bool.not (x10 == x12)) (some false) (br (Bool.not (x9 == x11)) (some false) (br (Bool.not (x14 == x16)) (some false) (br (x13 != x15) (some false) (br (Bool.not (x18 == x20)) (some false) (br (x17 != x19) (some false) (br x10 (br (Bool.not (x5 == (Bool.not x9))) (some false) (laws_FnEqualOrWitness.l5 k x0 x1 x2 x3 x4 x5 x9 x10 x13 x17)) (br (Bool.not (x5 == false)) (some false) (laws_FnEqualOrWitness.l5 k x0 x1 x2 x3 x4 x5 x9 x10 x13 x17)))))))))))) := by kernel_rfl
theorem laws_FnEqualOrWitness.l5_eq (k : Nat) (x0 : List Int) (x1 : List (ByteArray × (Int × (Int × Int)))) (x2 : List (ByteArray × (Int × (Int × Int)))) (x3 : Int) (x4 : Int) (x5 : Bool) (x6 : Bool) (x7 : Bool) (x8 : Int) (x9 : Int) : laws_FnEqualOrWitness.l5 (k + 1) x0 x1 x2 x3 x4 x5 x6 x7 x8 x9 = (br x7 (br (Bool.not (x6 == (x8 == (0 : Int)))) (some false) (br (Bool.not (x6 == (x9 == (0 : Int)))) (some false) (laws_FnEqualOrWitness.l6 k x0 x1 x2 x3 x4 x5 x8 x9))) (laws_FnEqualOrWitness.l6 k x0 x1 x2 x3 x4 x5 x8 x9)) := by kernel_rfl
theorem laws_FnEqualOrWitness.l6_eq (k : Nat) (x0 : List Int) (x1 : List (ByteArray × (Int × (Int × Int)))) (x2 : List (ByteArray × (Int × (Int × Int)))) (x3 : Int) (x4 : Int) (x5 : Bool) (x6 : Int) (x7 : Int) : laws_FnEqualOrWitness.l6 (k + 1) x0 x1 x2 x3 x4 x5 x6 x7 = (br x5 (bd (impl_TableOf.f k x1) fun r10 => (laws_FnEqualOrWitness.l7 k x0 x2 x3 x4 x6 x7 r10.1 r10.2)) (laws_FnEqualOrWitness.l12 k x0)) := by kernel_rfl
theorem laws_FnEqualOrWitness.l7_eq (k : Nat) (x0 : List Int) (x1 : List (ByteArray × (Int × (Int × Int)))) (x2 : Int) (x3 : Int) (x4 : Int) (x5 : Int) (x6 : List Int) (x7 : Bool) : laws_FnEqualOrWitness.l7 (k + 1) x0 x1 x2 x3 x4 x5 x6 x7 = (bd (impl_TableOf.f k x1) fun r11 => (br (Bool.not x7) (some false) (br (Bool.not r11.2) (some false) (laws_FnEqualOrWitness.l8 k x0 x2 x3 x4 x5 x6 r11.1)))) := by kernel_rfl
theorem laws_FnEqualOrWitness.l12_eq (k : Nat) (x0 : List Int) : laws_FnEqualOrWitness.l12 (k + 1) x0 = (bd (spec_DrawEqualAt.f k x0) fun r12 => (bd (impl_EqualAt.f k r12.1 r12.2.1 r12.2.2) fun r13 => (laws_FnEqualOrWitness.l13 k x0 r12.1 r12.2.1 r12.2.2 r13.1 r13.2))) := by kernel_rfl
theorem laws_FnEqualOrWitness.l8_eq (k : Nat) (x0 : List Int) (x1 : Int) (x2 : Int) (x3 : Int) (x4 : Int) (x5 : List Int) (x6 : List Int) : laws_FnEqualOrWitness.l8 (k + 1) x0 x1 x2 x3 x4 x5 x6 = (laws_FnEqualOrWitness.l9 k x0 x1 x2 x3 x4 x6 (0 : Int) (0 : Int) (-1 : Int) x5 (((List.length x5) : Nat) : Int) (0 : Int)) := by kernel_rfl
theorem laws_FnEqualOrWitness.l13_eq (k : Nat) (x0 : List Int) (x1 : List (ByteArray × (Int × (Int × Int)))) (x2 : List (ByteArray × (Int × (Int × Int)))) (x3 : Int) (x4 : Bool) (x5 : Bool) : laws_FnEqualOrWitness.l13 (k + 1) x0 x1 x2 x3 x4 x5 = (bd (spec_EqualAt.f k x1 x2 x3) fun r14 => (bd (impl_DifferentBits.f k x1 x2) fun r15 => (laws_FnEqualOrWitness.l14 k x0 x3 x4 x5 r14.1 r14.2 r15.1 r15.2))) := by kernel_rfl
theorem laws_FnEqualOrWitness.l9_eq (k : Nat) (x0 : List Int) (x1 : Int) (x2 : Int) (x3 : Int) (x4 : Int) (x5 : List Int) (x6 : Int) (x7 : Int) (x8 : Int) (x9 : List Int) (x10 : Int) (x11 : Int) : laws_FnEqualOrWitness.l9 (k + 1) x0 x1 x2 x3 x4 x5 x6 x7 x8 x9 x10 x11 = (br (decide (x11 < x10)) (br (decide ((0 : Int) ≤ x11)) (gt x9 (Int.toNat x11) fun r16 => (br (decide ((0 : Int) ≤ x11)) (gt x5 (Int.toNat x11) fun r17 => (br (r16 != r17) (br (decide (x8 < (0 : Int))) (laws_FnEqualOrWitness.l10 k x0 x1 x2 x3 x4 x5 x6 x7 x11 x11 r16 x9 x10 x11) (laws_FnEqualOrWitness.l10 k x0 x1 x2 x3 x4 x5 x6 x7 x8 x11 r16 x9 x10 x11)) (laws_FnEqualOrWitness.l9 k x0 x1 x2 x3 x4 x5 x6 x7 x8 x9 x10 (Go.IntKind.wrap .i64 (x11 + (1 : Int)))))) none)) none) (laws_FnEqualOrWitness.l11 k x0 x1 x2 x3 x4 x6 x7 x8)) := by kernel_rfl
theorem laws_FnEqualOrWitness.l14_eq (k : Nat) (x0 : List Int) (x1 : Int) (x2 : Bool) (x3 : Bool) (x4 : Bool) (x5 : Bool) (x6 : Int) (x7 : Bool) : laws_FnEqualOrWitness.l14 (k + 1) x0 x1 x2 x3 x4 x5 x6 x7 = (br (Bool.not (x3 == x5)) (some false) (br (Bool.not (x2 == x4)) (some false) (br x3 (br (Bool.not x7) (some false) (br (Bool.not (x2 == ((Go.IntKind.wrap .i64 (((BitVec.toNat ((BitVec.ofInt 64 x6) &&& (BitVec.ofInt 64 x1))) : Nat) : Int)) == (0 : Int)))) (some false) (laws_FnEqualOrWitness.l15 k x0))) (laws_FnEqualOrWitness.l15 k x0)))) := by kernel_rfl
theorem laws_FnEqualOrWitness.l10_eq (k : Nat) (x0 : List Int) (x1 : Int) (x2 : Int) (x3 : Int) (x4 : Int) (x5 : List Int) (x6 : Int) (x7 : Int) (x8 : Int) (x9 : Int) (x10 : Int) (x11 : List Int) (x12 : Int) (x13 : Int) : laws_FnEqualOrWitness.l10 (k + 1) x0 x1 x2 x3 x4 x5 x6 x7 x8 x9 x10 x11 x12 x13 = (br (decide ((0 : Int) ≤ x9)) (gt x5 (Int.toNat x9) fun r18 => (laws_FnEqualOrWitness.l9 k x0 x1 x2 x3 x4 x5 (Go.IntKind.wrap .i64 (x6 + (1 : Int))) (Go.IntKind.wrap .i64 (((BitVec.toNat ((BitVec.ofInt 64 x7) ||| (BitVec.ofInt 64 (Go.IntKind.wrap .i64 (((BitVec.toNat ((BitVec.ofInt 64 x10) ^^^ (BitVec.ofInt 64 r18))) : Nat) : Int))))) : Nat) : Int)) x8 x11 x12 (Go.IntKind.wrap .i64 (x13 + (1 : Int))))) none) := by kernel_rfl
theorem laws_FnEqualOrWitness.l11_eq (k : Nat) (x0 : List Int) (x1 : Int) (x2 : Int) (x3 : Int) (x4 : Int) (x5 : Int) (x6 : Int) (x7 : Int) : laws_FnEqualOrWitness.l11 (k + 1) x0 x1 x2 x3 x4 x5 x6 x7 = (br (x7 != (Go.IntKind.wrap .i64 ((Go.IntKind.wrap .i64 ((64 : Int) * x1)) + x2))) (some false) (br (x5 != x3) (some false) (br (x6 != x4) (some false) (laws_FnEqualOrWitness.l12 k x0)))) := by kernel_rfl
theorem laws_FnEqualOrWitness.l15_eq (k : Nat) (x0 : List Int) : laws_FnEqualOrWitness.l15 (k + 1) x0 = (bd (spec_DrawClassesOf.f k x0) fun r19 => (bd (impl_ClassesOf.f k r19) fun r20 => (laws_FnEqualOrWitness.l16 k r19 r20.1 r20.2))) := by kernel_rfl
theorem laws_FnEqualOrWitness.l16_eq (k : Nat) (x0 : List (List (ByteArray × (Int × (Int × Int))))) (x1 : List Int) (x2 : Bool) : laws_FnEqualOrWitness.l16 (k + 1) x0 x1 x2 = (bd (spec_ClassesOf.f k x0) fun r21 => (br (Bool.not (x2 == r21.2)) (some false) (bd (laws_gSame.f k x1 r21.1) fun r22 => (br (Bool.not r22) (some false) (laws_FnEqualOrWitness.l17 k x0 x1))))) := by kernel_rfl
theorem laws_FnEqualOrWitness.l17_eq (k : Nat) (x0 : List (List (ByteArray × (Int × (Int × Int))))) (x1 : List Int) : laws_FnEqualOrWitness.l17 (k + 1) x0 x1 = (laws_FnEqualOrWitness.l18 k x0 x1 x1 (((List.length x1) : Nat) : Int) (0 : Int)) := by kernel_rfl
theorem laws_FnEqualOrWitness.l18_eq (k : Nat) (x0 : List (List (ByteArray × (Int × (Int × Int))))) (x1 : List Int) (x2 : List Int) (x3 : Int) (x4 : Int) : laws_FnEqualOrWitness.l18 (k + 1) x0 x1 x2 x3 x4 = (br (decide (x4 < x3)) (br (decide ((0 : Int) ≤ x4)) (gt x2 (Int.toNat x4) fun r23 => (br (decide ((0 : Int) ≤ x4)) (gt x0 (Int.toNat x4) fun r24 => (br (decide ((0 : Int) ≤ r23)) (gt x0 (Int.toNat r23) fun r25 => (bd (impl_AreEqual.f k r24 r25) fun r26 => (br (decide (r23 > x4)) (some false) (br (Bool.not r26.2) (some false) (br (Bool.not r26.1) (some false) (br (decide ((0 : Int) ≤ r23)) (gt x1 (Int.toNat r23) fun r27 => (br (r27 != r23) (some false) (laws_FnEqualOrWitness.l18 k x0 x1 x2 x3 (Go.IntKind.wrap .i64 (x4 + (1 : Int)))))) none)))))) none)) none)) none) (some true)) := by kernel_rfl
theorem laws_FnEqualOrWitness.b : fnB P0 4 (ntOf P0 4) = true := by kernel_rfl
theorem laws_FnEqualOrWitness.Tok (k : Nat) : TS P0 (laws_FnEqualOrWitness.T k) := (tabs_cons (laws_big.tok) (tabs_cons (laws_gSame.tok k) (tabs_cons (spec_DrawFirstDifference.tok k) (tabs_cons (impl_FirstDifference.tok k) (tabs_cons (spec_FirstDifference.tok k) (tabs_cons (impl_AreEqual.tok k) (tabs_cons (spec_AreEqual.tok k) (tabs_cons (impl_CountDifferences.tok k) (tabs_cons (spec_CountDifferences.tok k) (tabs_cons (impl_DifferentBits.tok k) (tabs_cons (spec_DifferentBits.tok k) (tabs_cons (impl_TableOf.tok k) (tabs_cons (spec_DrawEqualAt.tok k) (tabs_cons (impl_EqualAt.tok k) (tabs_cons (spec_EqualAt.tok k) (tabs_cons (spec_DrawClassesOf.tok k) (tabs_cons (impl_ClassesOf.tok k) (tabs_cons (spec_ClassesOf.tok k) tabs_nil))))))))))))))))))
theorem laws_FnEqualOrWitness.calls (k : Nat) (a0 : (List Int)) (a1 : (List Int)) {r : Bool} (h : laws_FnEqualOrWitness.f k a0 a1 = some r) : ACalls P0 4 [mkP false (.sl (.i .u8)) a0, mkP false (.sl (.i .u8)) a1] [] (enc0 (cV false .b) r) := fn0 (E := laws_FnEqualOrWitness.E) mix (T := laws_FnEqualOrWitness.T) laws_FnEqualOrWitness.Tok (f := 4) laws_FnEqualOrWitness.b (cd := (cV false .b)) (cV_ok _ _) (cvs := [.id]) h
noncomputable def laws_FnEqualOrWitness.v (a0 : (List Int)) (a1 : (List Int)) := lim fun _ k => laws_FnEqualOrWitness.f k a0 a1
noncomputable def laws_FnEqualOrWitness.v0 (x0 : List Int) (x1 : List (ByteArray × (Int × (Int × Int)))) (x2 : List (ByteArray × (Int × (Int × Int)))) (x3 : Int) (x4 : Int) (x5 : Bool) := lim fun _ k => laws_FnEqualOrWitness.l0 k x0 x1 x2 x3 x4 x5
noncomputable def laws_FnEqualOrWitness.v1 (x0 : List Int) (x1 : List (ByteArray × (Int × (Int × Int)))) (x2 : List (ByteArray × (Int × (Int × Int)))) (x3 : Int) (x4 : Int) (x5 : Bool) (x6 : Int) (x7 : Int) (x8 : Bool) (x9 : Bool) (x10 : Bool) := lim fun _ k => laws_FnEqualOrWitness.l1 k x0 x1 x2 x3 x4 x5 x6 x7 x8 x9 x10
noncomputable def laws_FnEqualOrWitness.v2 (x0 : List Int) (x1 : List (ByteArray × (Int × (Int × Int)))) (x2 : List (ByteArray × (Int × (Int × Int)))) (x3 : Int) (x4 : Int) (x5 : Bool) (x6 : Int) (x7 : Int) (x8 : Bool) (x9 : Bool) (x10 : Bool) (x11 : Bool) (x12 : Bool) (x13 : Int) (x14 : Bool) := lim fun _ k => laws_FnEqualOrWitness.l2 k x0 x1 x2 x3 x4 x5 x6 x7 x8 x9 x10 x11 x12 x13 x14
noncomputable def laws_FnEqualOrWitness.v3 (x0 : List Int) (x1 : List (ByteArray × (Int × (Int × Int)))) (x2 : List (ByteArray × (Int × (Int × Int)))) (x3 : Int) (x4 : Int) (x5 : Bool) (x6 : Int) (x7 : Int) (x8 : Bool) (x9 : Bool) (x10 : Bool) (x11 : Bool) (x12 : Bool) (x13 : Int) (x14 : Bool) (x15 : Int) (x16 : Bool) (x17 : Int) (x18 : Bool) := lim fun _ k => laws_FnEqualOrWitness.l3 k x0 x1 x2 x3 x4 x5 x6 x7 x8 x9 x10 x11 x12 x13 x14 x15 x16 x17 x18
noncomputable def laws_FnEqualOrWitness.v4 (x0 : List Int) (x1 : List (ByteArray × (Int × (Int × Int)))) (x2 : List (ByteArray × (Int × (Int × Int)))) (x3 : Int) (x4 : Int) (x5 : Bool) (x6 : Int) (x7 : Int) (x8 : Bool) (x9 : Bool) (x10 : Bool) (x11 : Bool) (x12 : Bool) (x13 : Int) (x14 : Bool) (x15 : Int) (x16 : Bool) (x17 : Int) (x18 : Bool) (x19 : Int) (x20 : Bool) := lim fun _ k => laws_FnEqualOrWitness.l4 k x0 x1 x2 x3 x4 x5 x6 x7 x8 x9 x10 x11 x12 x13 x14 x15 x16 x17 x18 x19 x20
noncomputable def laws_FnEqualOrWitness.v5 (x0 : List Int) (x1 : List (ByteArray × (Int × (Int × Int)))) (x2 : List (ByteArray × (Int × (Int × Int)))) (x3 : Int) (x4 : Int) (x5 : Bool) (x6 : Bool) (x7 : Bool) (x8 : Int) (x9 : Int) := lim fun _ k => laws_FnEqualOrWitness.l5 k x0 x1 x2 x3 x4 x5 x6 x7 x8 x9
noncomputable def laws_FnEqualOrWitness.v6 (x0 : List Int) (x1 : List (ByteArray × (Int × (Int × Int)))) (x2 : List (ByteArray × (Int × (Int × Int)))) (x3 : Int) (x4 : Int) (x5 : Bool) (x6 : Int) (x7 : Int) := lim fun _ k => laws_FnEqualOrWitness.l6 k x0 x1 x2 x3 x4 x5 x6 x7
noncomputable def laws_FnEqualOrWitness.v7 (x0 : List Int) (x1 : List (ByteArray × (Int × (Int × Int)))) (x2 : Int) (x3 : Int) (x4 : Int) (x5 : Int) (x6 : List Int) (x7 : Bool) := lim fun _ k => laws_FnEqualOrWitness.l7 k x0 x1 x2 x3 x4 x5 x6 x7
noncomputable def laws_FnEqualOrWitness.v12 (x0 : List Int) := lim fun _ k => laws_FnEqualOrWitness.l12 k x0
noncomputable def laws_FnEqualOrWitness.v8 (x0 : List Int) (x1 : Int) (x2 : Int) (x3 : Int) (x4 : Int) (x5 : List Int) (x6 : List Int) := lim fun _ k => laws_FnEqualOrWitness.l8 k x0 x1 x2 x3 x4 x5 x6
noncomputable def laws_FnEqualOrWitness.v13 (x0 : List Int) (x1 : List (ByteArray × (Int × (Int × Int)))) (x2 : List (ByteArray × (Int × (Int × Int)))) (x3 : Int) (x4 : Bool) (x5 : Bool) := lim fun _ k => laws_FnEqualOrWitness.l13 k x0 x1 x2 x3 x4 x5
noncomputable def laws_FnEqualOrWitness.v9 (x0 : List Int) (x1 : Int) (x2 : Int) (x3 : Int) (x4 : Int) (x5 : List Int) (x6 : Int) (x7 : Int) (x8 : Int) (x9 : List Int) (x10 : Int) (x11 : Int) := lim fun _ k => laws_FnEqualOrWitness.l9 k x0 x1 x2 x3 x4 x5 x6 x7 x8 x9 x10 x11
noncomputable def laws_FnEqualOrWitness.v14 (x0 : List Int) (x1 : Int) (x2 : Bool) (x3 : Bool) (x4 : Bool) (x5 : Bool) (x6 : Int) (x7 : Bool) := lim fun _ k => laws_FnEqualOrWitness.l14 k x0 x1 x2 x3 x4 x5 x6 x7
noncomputable def laws_FnEqualOrWitness.v10 (x0 : List Int) (x1 : Int) (x2 : Int) (x3 : Int) (x4 : Int) (x5 : List Int) (x6 : Int) (x7 : Int) (x8 : Int) (x9 : Int) (x10 : Int) (x11 : List Int) (x12 : Int) (x13 : Int) := lim fun _ k => laws_FnEqualOrWitness.l10 k x0 x1 x2 x3 x4 x5 x6 x7 x8 x9 x10 x11 x12 x13
noncomputable def laws_FnEqualOrWitness.v11 (x0 : List Int) (x1 : Int) (x2 : Int) (x3 : Int) (x4 : Int) (x5 : Int) (x6 : Int) (x7 : Int) := lim fun _ k => laws_FnEqualOrWitness.l11 k x0 x1 x2 x3 x4 x5 x6 x7
noncomputable def laws_FnEqualOrWitness.v15 (x0 : List Int) := lim fun _ k => laws_FnEqualOrWitness.l15 k x0
noncomputable def laws_FnEqualOrWitness.v16 (x0 : List (List (ByteArray × (Int × (Int × Int))))) (x1 : List Int) (x2 : Bool) := lim fun _ k => laws_FnEqualOrWitness.l16 k x0 x1 x2
noncomputable def laws_FnEqualOrWitness.v17 (x0 : List (List (ByteArray × (Int × (Int × Int))))) (x1 : List Int) := lim fun _ k => laws_FnEqualOrWitness.l17 k x0 x1
noncomputable def laws_FnEqualOrWitness.v18 (x0 : List (List (ByteArray × (Int × (Int × Int))))) (x1 : List Int) (x2 : List Int) (x3 : Int) (x4 : Int) := lim fun _ k => laws_FnEqualOrWitness.l18 k x0 x1 x2 x3 x4
theorem laws_FnEqualOrWitness.vs (a0 : (List Int)) (a1 : (List Int)) {r} (h : (bd (laws_big.f a0 a1) fun r0 => (br r0 (some true) (bd (spec_DrawFirstDifference.v a0) fun r1 => (bd (impl_FirstDifference.v r1.1 r1.2) fun r2 => (laws_FnEqualOrWitness.v0 a1 r1.1 r1.2 r2.1 r2.2.1 r2.2.2))))) = some r) : laws_FnEqualOrWitness.v a0 a1 = some r := vstep (fun d k => laws_FnEqualOrWitness.eq k a0 a1) h
theorem laws_FnEqualOrWitness.v0s (x0 : List Int) (x1 : List (ByteArray × (Int × (Int × Int)))) (x2 : List (ByteArray × (Int × (Int × Int)))) (x3 : Int) (x4 : Int) (x5 : Bool) {r} (h : (bd (spec_FirstDifference.v x1 x2) fun r3 => (bd (impl_AreEqual.v x1 x2) fun r4 => (laws_FnEqualOrWitness.v1 x0 x1 x2 x3 x4 x5 r3.1 r3.2.1 r3.2.2 r4.1 r4.2))) = some r) : laws_FnEqualOrWitness.v0 x0 x1 x2 x3 x4 x5 = some r := vstep (fun d k => laws_FnEqualOrWitness.l0_eq k x0 x1 x2 x3 x4 x5) h
theorem laws_FnEqualOrWitness.v1s (x0 : List Int) (x1 : List (ByteArray × (Int × (Int × Int)))) (x2 : List (ByteArray × (Int × (Int × Int)))) (x3 : Int) (x4 : Int) (x5 : Bool) (x6 : Int) (x7 : Int) (x8 : Bool) (x9 : Bool) (x10 : Bool) {r} (h : (bd (spec_AreEqual.v x1 x2) fun r5 => (bd (impl_CountDifferences.v x1 x2) fun r6 => (laws_FnEqualOrWitness.v2 x0 x1 x2 x3 x4 x5 x6 x7 x8 x9 x10 r5.1 r5.2 r6.1 r6.2))) = some r) : laws_FnEqualOrWitness.v1 x0 x1 x2 x3 x4 x5 x6 x7 x8 x9 x10 = some r := vstep (fun d k => laws_FnEqualOrWitness.l1_eq k x0 x1 x2 x3 x4 x5 x6 x7 x8 x9 x10) h
theorem laws_FnEqualOrWitness.v2s (x0 : List Int) (x1 : List (ByteArray × (Int × (Int × Int)))) (x2 : List (ByteArray × (Int × (Int × Int)))) (x3 : Int) (x4 : Int) (x5 : Bool) (x6 : Int) (x7 : Int) (x8 : Bool) (x9 : Bool) (x10 : Bool) (x11 : Bool) (x12 : Bool) (x13 : Int) (x14 : Bool) {r} (h : (bd (spec_CountDifferences.v x1 x2) fun r7 => (bd (impl_DifferentBits.v x1 x2) fun r8 => (laws_FnEqualOrWitness.v3 x0 x1 x2 x3 x4 x5 x6 x7 x8 x9 x10 x11 x12 x13 x14 r7.1 r7.2 r8.1 r8.2))) = some r) : laws_FnEqualOrWitness.v2 x0 x1 x2 x3 x4 x5 x6 x7 x8 x9 x10 x11 x12 x13 x14 = some r := vstep (fun d k => laws_FnEqualOrWitness.l2_eq k x0 x1 x2 x3 x4 x5 x6 x7 x8 x9 x10 x11 x12 x13 x14) h
theorem laws_FnEqualOrWitness.v3s (x0 : List Int) (x1 : List (ByteArray × (Int × (Int × Int)))) (x2 : List (ByteArray × (Int × (Int × Int)))) (x3 : Int) (x4 : Int) (x5 : Bool) (x6 : Int) (x7 : Int) (x8 : Bool) (x9 : Bool) (x10 : Bool) (x11 : Bool) (x12 : Bool) (x13 : Int) (x14 : Bool) (x15 : Int) (x16 : Bool) (x17 : Int) (x18 : Bool) {r} (h : (bd (spec_DifferentBits.v x1 x2) fun r9 => (laws_FnEqualOrWitness.v4 x0 x1 x2 x3 x4 x5 x6 x7 x8 x9 x10 x11 x12 x13 x14 x15 x16 x17 x18 r9.1 r9.2)) = some r) : laws_FnEqualOrWitness.v3 x0 x1 x2 x3 x4 x5 x6 x7 x8 x9 x10 x11 x12 x13 x14 x15 x16 x17 x18 = some r := vstep (fun d k => laws_FnEqualOrWitness.l3_eq k x0 x1 x2 x3 x4 x5 x6 x7 x8 x9 x10 x11 x12 x13 x14 x15 x16 x17 x18) h
theorem laws_FnEqualOrWitness.v4s (x0 : List Int) (x1 : List (ByteArray × (Int × (Int × Int)))) (x2 : List (ByteArray × (Int × (Int × Int)))) (x3 : Int) (x4 : Int) (x5 : Bool) (x6 : Int) (x7 : Int) (x8 : Bool) (x9 : Bool) (x10 : Bool) (x11 : Bool) (x12 : Bool) (x13 : Int) (x14 : Bool) (x15 : Int) (x16 : Bool) (x17 : Int) (x18 : Bool) (x19 : Int) (x20 : Bool) {r} (h : (br (Bool.not (x5 == x8)) (some false) (br (x3 != x6) (some false) (br (x4 != x7) (some false) (br (Bool.not (x10 == x12)) (some false) (br (Bool.not (x9 == x11)) (some false) (br (Bool.not (x14 == x16)) (some false) (br (x13 != x15) (some false) (br (Bool.not (x18 == x20)) (some false) (br (x17 != x19) (some false) (br x10 (br (Bool.not (x5 == (Bool.not x9))) (some false) (laws_FnEqualOrWitness.v5 x0 x1 x2 x3 x4 x5 x9 x10 x13 x17)) (br (Bool.not (x5 == false)) (some false) (laws_FnEqualOrWitness.v5 x0 x1 x2 x3 x4 x5 x9 x10 x13 x17)))))))))))) = some r) : laws_FnEqualOrWitness.v4 x0 x1 x2 x3 x4 x5 x6 x7 x8 x9 x10 x11 x12 x13 x14 x15 x16 x17 x18 x19 x20 = some r := vstep (fun d k => laws_FnEqualOrWitness.l4_eq k x0 x1 x2 x3 x4 x5 x6 x7 x8 x9 x10 x11 x12 x13 x14 x15 x16 x17 x18 x19 x20) h
theorem laws_FnEqualOrWitness.v5s (x0 : List Int) (x1 : List (ByteArray × (Int × (Int × Int)))) (x2 : List (ByteArray × (Int × (Int × Int)))) (x3 : Int) (x4 : Int) (x5 : Bool) (x6 : Bool) (x7 : Bool) (x8 : Int) (x9 : Int) {r} (h : (br x7 (br (Bool.not (x6 == (x8 == (0 : Int)))) (some false) (br (Bool.not (x6 == (x9 == (0 : Int)))) (some false) (laws_FnEqualOrWitness.v6 x0 x1 x2 x3 x4 x5 x8 x9))) (laws_FnEqualOrWitness.v6 x0 x1 x2 x3 x4 x5 x8 x9)) = some r) : laws_FnEqualOrWitness.v5 x0 x1 x2 x3 x4 x5 x6 x7 x8 x9 = some r := vstep (fun d k => laws_FnEqualOrWitness.l5_eq k x0 x1 x2 x3 x4 x5 x6 x7 x8 x9) h
theorem laws_FnEqualOrWitness.v6s (x0 : List Int) (x1 : List (ByteArray × (Int × (Int × Int)))) (x2 : List (ByteArray × (Int × (Int × Int)))) (x3 : Int) (x4 : Int) (x5 : Bool) (x6 : Int) (x7 : Int) {r} (h : (br x5 (bd (impl_TableOf.v x1) fun r10 => (laws_FnEqualOrWitness.v7 x0 x2 x3 x4 x6 x7 r10.1 r10.2)) (laws_FnEqualOrWitness.v12 x0)) = some r) : laws_FnEqualOrWitness.v6 x0 x1 x2 x3 x4 x5 x6 x7 = some r := vstep (fun d k => laws_FnEqualOrWitness.l6_eq k x0 x1 x2 x3 x4 x5 x6 x7) h
theorem laws_FnEqualOrWitness.v7s (x0 : List Int) (x1 : List (ByteArray × (Int × (Int × Int)))) (x2 : Int) (x3 : Int) (x4 : Int) (x5 : Int) (x6 : List Int) (x7 : Bool) {r} (h : (bd (impl_TableOf.v x1) fun r11 => (br (Bool.not x7) (some false) (br (Bool.not r11.2) (some false) (laws_FnEqualOrWitness.v8 x0 x2 x3 x4 x5 x6 r11.1)))) = some r) : laws_FnEqualOrWitness.v7 x0 x1 x2 x3 x4 x5 x6 x7 = some r := vstep (fun d k => laws_FnEqualOrWitness.l7_eq k x0 x1 x2 x3 x4 x5 x6 x7) h
theorem laws_FnEqualOrWitness.v12s (x0 : List Int) {r} (h : (bd (spec_DrawEqualAt.v x0) fun r12 => (bd (impl_EqualAt.v r12.1 r12.2.1 r12.2.2) fun r13 => (laws_FnEqualOrWitness.v13 x0 r12.1 r12.2.1 r12.2.2 r13.1 r13.2))) = some r) : laws_FnEqualOrWitness.v12 x0 = some r := vstep (fun d k => laws_FnEqualOrWitness.l12_eq k x0) h
theorem laws_FnEqualOrWitness.v8s (x0 : List Int) (x1 : Int) (x2 : Int) (x3 : Int) (x4 : Int) (x5 : List Int) (x6 : List Int) {r} (h : (laws_FnEqualOrWitness.v9 x0 x1 x2 x3 x4 x6 (0 : Int) (0 : Int) (-1 : Int) x5 (((List.length x5) : Nat) : Int) (0 : Int)) = some r) : laws_FnEqualOrWitness.v8 x0 x1 x2 x3 x4 x5 x6 = some r := vstep (fun d k => laws_FnEqualOrWitness.l8_eq k x0 x1 x2 x3 x4 x5 x6) h
theorem laws_FnEqualOrWitness.v13s (x0 : List Int) (x1 : List (ByteArray × (Int × (Int × Int)))) (x2 : List (ByteArray × (Int × (Int × Int)))) (x3 : Int) (x4 : Bool) (x5 : Bool) {r} (h : (bd (spec_EqualAt.v x1 x2 x3) fun r14 => (bd (impl_DifferentBits.v x1 x2) fun r15 => (laws_FnEqualOrWitness.v14 x0 x3 x4 x5 r14.1 r14.2 r15.1 r15.2))) = some r) : laws_FnEqualOrWitness.v13 x0 x1 x2 x3 x4 x5 = some r := vstep (fun d k => laws_FnEqualOrWitness.l13_eq k x0 x1 x2 x3 x4 x5) h
theorem laws_FnEqualOrWitness.v9s (x0 : List Int) (x1 : Int) (x2 : Int) (x3 : Int) (x4 : Int) (x5 : List Int) (x6 : Int) (x7 : Int) (x8 : Int) (x9 : List Int) (x10 : Int) (x11 : Int) {r} (h : (br (decide (x11 < x10)) (br (decide ((0 : Int) ≤ x11)) (gt x9 (Int.toNat x11) fun r16 => (br (decide ((0 : Int) ≤ x11)) (gt x5 (Int.toNat x11) fun r17 => (br (r16 != r17) (br (decide (x8 < (0 : Int))) (laws_FnEqualOrWitness.v10 x0 x1 x2 x3 x4 x5 x6 x7 x11 x11 r16 x9 x10 x11) (laws_FnEqualOrWitness.v10 x0 x1 x2 x3 x4 x5 x6 x7 x8 x11 r16 x9 x10 x11)) (laws_FnEqualOrWitness.v9 x0 x1 x2 x3 x4 x5 x6 x7 x8 x9 x10 (Go.IntKind.wrap .i64 (x11 + (1 : Int)))))) none)) none) (laws_FnEqualOrWitness.v11 x0 x1 x2 x3 x4 x6 x7 x8)) = some r) : laws_FnEqualOrWitness.v9 x0 x1 x2 x3 x4 x5 x6 x7 x8 x9 x10 x11 = some r := vstep (fun d k => laws_FnEqualOrWitness.l9_eq k x0 x1 x2 x3 x4 x5 x6 x7 x8 x9 x10 x11) h
theorem laws_FnEqualOrWitness.v14s (x0 : List Int) (x1 : Int) (x2 : Bool) (x3 : Bool) (x4 : Bool) (x5 : Bool) (x6 : Int) (x7 : Bool) {r} (h : (br (Bool.not (x3 == x5)) (some false) (br (Bool.not (x2 == x4)) (some false) (br x3 (br (Bool.not x7) (some false) (br (Bool.not (x2 == ((Go.IntKind.wrap .i64 (((BitVec.toNat ((BitVec.ofInt 64 x6) &&& (BitVec.ofInt 64 x1))) : Nat) : Int)) == (0 : Int)))) (some false) (laws_FnEqualOrWitness.v15 x0))) (laws_FnEqualOrWitness.v15 x0)))) = some r) : laws_FnEqualOrWitness.v14 x0 x1 x2 x3 x4 x5 x6 x7 = some r := vstep (fun d k => laws_FnEqualOrWitness.l14_eq k x0 x1 x2 x3 x4 x5 x6 x7) h
theorem laws_FnEqualOrWitness.v10s (x0 : List Int) (x1 : Int) (x2 : Int) (x3 : Int) (x4 : Int) (x5 : List Int) (x6 : Int) (x7 : Int) (x8 : Int) (x9 : Int) (x10 : Int) (x11 : List Int) (x12 : Int) (x13 : Int) {r} (h : (br (decide ((0 : Int) ≤ x9)) (gt x5 (Int.toNat x9) fun r18 => (laws_FnEqualOrWitness.v9 x0 x1 x2 x3 x4 x5 (Go.IntKind.wrap .i64 (x6 + (1 : Int))) (Go.IntKind.wrap .i64 (((BitVec.toNat ((BitVec.ofInt 64 x7) ||| (BitVec.ofInt 64 (Go.IntKind.wrap .i64 (((BitVec.toNat ((BitVec.ofInt 64 x10) ^^^ (BitVec.ofInt 64 r18))) : Nat) : Int))))) : Nat) : Int)) x8 x11 x12 (Go.IntKind.wrap .i64 (x13 + (1 : Int))))) none) = some r) : laws_FnEqualOrWitness.v10 x0 x1 x2 x3 x4 x5 x6 x7 x8 x9 x10 x11 x12 x13 = some r := vstep (fun d k => laws_FnEqualOrWitness.l10_eq k x0 x1 x2 x3 x4 x5 x6 x7 x8 x9 x10 x11 x12 x13) h
theorem laws_FnEqualOrWitness.v11s (x0 : List Int) (x1 : Int) (x2 : Int) (x3 : Int) (x4 : Int) (x5 : Int) (x6 : Int) (x7 : Int) {r} (h : (br (x7 != (Go.IntKind.wrap .i64 ((Go.IntKind.wrap .i64 ((64 : Int) * x1)) + x2))) (some false) (br (x5 != x3) (some false) (br (x6 != x4) (some false) (laws_FnEqualOrWitness.v12 x0)))) = some r) : laws_FnEqualOrWitness.v11 x0 x1 x2 x3 x4 x5 x6 x7 = some r := vstep (fun d k => laws_FnEqualOrWitness.l11_eq k x0 x1 x2 x3 x4 x5 x6 x7) h
theorem laws_FnEqualOrWitness.v15s (x0 : List Int) {r} (h : (bd (spec_DrawClassesOf.v x0) fun r19 => (bd (impl_ClassesOf.v r19) fun r20 => (laws_FnEqualOrWitness.v16 r19 r20.1 r20.2))) = some r) : laws_FnEqualOrWitness.v15 x0 = some r := vstep (fun d k => laws_FnEqualOrWitness.l15_eq k x0) h
theorem laws_FnEqualOrWitness.v16s (x0 : List (List (ByteArray × (Int × (Int × Int))))) (x1 : List Int) (x2 : Bool) {r} (h : (bd (spec_ClassesOf.v x0) fun r21 => (br (Bool.not (x2 == r21.2)) (some false) (bd (laws_gSame.v x1 r21.1) fun r22 => (br (Bool.not r22) (some false) (laws_FnEqualOrWitness.v17 x0 x1))))) = some r) : laws_FnEqualOrWitness.v16 x0 x1 x2 = some r := vstep (fun d k => laws_FnEqualOrWitness.l16_eq k x0 x1 x2) h
theorem laws_FnEqualOrWitness.v17s (x0 : List (List (ByteArray × (Int × (Int × Int))))) (x1 : List Int) {r} (h : (laws_FnEqualOrWitness.v18 x0 x1 x1 (((List.length x1) : Nat) : Int) (0 : Int)) = some r) : laws_FnEqualOrWitness.v17 x0 x1 = some r := vstep (fun d k => laws_FnEqualOrWitness.l17_eq k x0 x1) h
theorem laws_FnEqualOrWitness.v18s (x0 : List (List (ByteArray × (Int × (Int × Int))))) (x1 : List Int) (x2 : List Int) (x3 : Int) (x4 : Int) {r} (h : (br (decide (x4 < x3)) (br (decide ((0 : Int) ≤ x4)) (gt x2 (Int.toNat x4) fun r23 => (br (decide ((0 : Int) ≤ x4)) (gt x0 (Int.toNat x4) fun r24 => (br (decide ((0 : Int) ≤ r23)) (gt x0 (Int.toNat r23) fun r25 => (bd (impl_AreEqual.v r24 r25) fun r26 => (br (decide (r23 > x4)) (some false) (br (Bool.not r26.2) (some false) (br (Bool.not r26.1) (some false) (br (decide ((0 : Int) ≤ r23)) (gt x1 (Int.toNat r23) fun r27 => (br (r27 != r23) (some false) (laws_FnEqualOrWitness.v18 x0 x1 x2 x3 (Go.IntKind.wrap .i64 (x4 + (1 : Int)))))) none)))))) none)) none)) none) (some true)) = some r) : laws_FnEqualOrWitness.v18 x0 x1 x2 x3 x4 = some r := vstep (fun d k => laws_FnEqualOrWitness.l18_eq k x0 x1 x2 x3 x4) h
end Go.Proofs.Ytiofklineiioaaa.Am
end
section
/- The law FnEqualOrWitness, in plain Lean. -/
namespace Go.Proofs.Ytiofklineiioaaa.Am
open Go
set_option linter.unusedVariables false
set_option linter.unusedSimpArgs false
set_option maxRecDepth 20000

theorem gSameE_self (a : List Int) (ha : a.length ≤ 1000000) : laws_gSame.v a a = some true := by
  have key : ∀ (d i : Nat), i + d = a.length → laws_gSame.v0 a a (a.length : Int) (i : Int) = some true := by
    intro d
    induction d with
    | zero =>
      intro i hi
      refine laws_gSame.v0s _ _ _ _ ?_
      rw [br_f (by simp; omega)]
    | succ d ih =>
      intro i hi
      have hlt : i < a.length := by omega
      refine laws_gSame.v0s _ _ _ _ ?_
      rw [br_t (by simpa using hlt), br_t (by simp), Int.toNat_natCast, gt_at _ hlt, br_t (by simp), gt_at _ hlt, br_f (by simp), next_ok i _ hlt (by omega)]
      exact ih (i + 1) (by omega)
  exact laws_gSame.vs _ _ (by rw [br_f (by simp)]; exact key a.length 0 (by omega))
theorem tableOf_t {e : List Nd} (hg : exprOk e = true) (hl : e.length ≤ 1048576) : impl_TableOf.v e = some (tabP e, true) := by
  obtain ⟨n1, n2, n3⟩ := exprs hg
  exact impl_TableOf.vs _ (by rw [isExpr_v e hl, bd_s, hg, brn_t, table_v n1 n2 n3, bd_s])
/-! ### classes -/
theorem eq18 {L : List (List Nd)} {out : List Int} (hs : Small L) (hc : Cls (tabsP L) out L.length) (hg : ∀ e ∈ L, exprOk e = true) (hl : L.length ≤ 20) : laws_FnEqualOrWitness.v18 L out out (out.length : Int) 0 = some true := by
  have ol := hc.len
  have tl : (tabsP L).length = L.length := by unfold tabsP; rw [List.length_map]
  have key : ∀ (d i : Nat), i + d = out.length → laws_FnEqualOrWitness.v18 L out out (out.length : Int) (i : Int) = some true := by
    intro d
    induction d with
    | zero =>
      intro i hi
      exact laws_FnEqualOrWitness.v18s _ _ _ _ _ (by rw [br_f (by simp; omega)])
    | succ d ih =>
      intro i hi
      have hio : i < out.length := by omega
      have hil : i < L.length := by omega
      obtain ⟨j, ej, lj⟩ := hc.mem i hil
      have hji := lj.le
      have hjl : j < L.length := by omega
      obtain ⟨k, ek, lk⟩ := hc.mem j hjl
      have hjj : Lst (tabsP L) j j := ⟨Nat.le_refl _, rfl, fun m hm => by rw [lj.eq]; exact lj.low m hm⟩
      obtain rfl := lk.uniq hjj
      have gi := hg _ (List.getElem_mem hil)
      have gj := hg _ (List.getElem_mem hjl)
      have si := hs _ (List.getElem_mem hil)
      have sj := hs _ (List.getElem_mem hjl)
      have te : tabP L[i] = tabP L[k] := by
        have h := lj.eq
        rw [List.getElem?_eq_getElem (by omega), List.getElem?_eq_getElem (by omega)] at h
        have := Option.some.inj h
        simpa [tabsP] using this.symm
      have he : impl_AreEqual.v L[i] L[k] = some (true, true) := by
        rw [(equal_v L[i] L[k] (by omega) (by omega)).1]
        unfold equalP both2
        rw [gi, gj, te]
        simp [sameI]
      refine laws_FnEqualOrWitness.v18s _ _ _ _ _ ?_
      rw [br_t (by simpa using hio), br_t (by simp), Int.toNat_natCast, gt_some ej, br_t (by simp), gt_at _ hil, br_t (decide_eq_true (by omega)), Int.toNat_natCast, gt_at _ hjl, he, bd_s, br_f (decide_eq_false (by omega)), brn_t, brn_t, br_t (decide_eq_true (by omega)), gt_some ek, br_f (by simp), next_ok i _ hio (by omega)]
      exact ih (i + 1) (by omega)
  exact key out.length 0 (by omega)
theorem eq15 {x1 : List Int} (h : Bytes x1) : laws_FnEqualOrWitness.v15 x1 = some true := by
  obtain ⟨L, hd, hs, hl⟩ := drawClasses_v h
  obtain ⟨out, ok, e1, e2, h0, h1, ol⟩ := classes_v (L := L) (fun e he => by have := hs e he; omega) (by omega)
  refine laws_FnEqualOrWitness.v15s _ ?_
  rw [hd, bd_s, e1, bd_s]
  refine laws_FnEqualOrWitness.v16s _ _ _ ?_
  rw [e2, bd_s, br_f (by simp), gSameE_self _ (by dsimp only; omega), bd_s, brn_t]
  refine laws_FnEqualOrWitness.v17s _ _ ?_
  cases ok with
  | false =>
    rw [h0 rfl]
    exact laws_FnEqualOrWitness.v18s _ _ _ _ _ rfl
  | true =>
    obtain ⟨hc, hg⟩ := h1 rfl
    exact eq18 hs hc hg hl
theorem eq12 {x1 : List Int} (h : Bytes x1) : laws_FnEqualOrWitness.v12 x1 = some true := by
  obtain ⟨e, f, m, hd, he, hf⟩ := drawAt_v h
  obtain ⟨a1, a2⟩ := equalAt_v e f m (by omega) (by omega)
  refine laws_FnEqualOrWitness.v12s _ ?_
  rw [hd, bd_s]
  dsimp only
  rw [a1, bd_s]
  refine laws_FnEqualOrWitness.v13s _ _ _ _ _ _ ?_
  rw [a2, bd_s, (mask_v e f (by omega) (by omega)).1, bd_s]
  refine laws_FnEqualOrWitness.v14s _ _ _ _ _ _ _ _ ?_
  rw [br_f (by simp), br_f (by simp)]
  cases h7 : (equalAtP e f m).2 with
  | false => rw [br_f rfl]; exact eq15 h
  | true =>
    have hb : (both2 e f && inB m 0 63) = true := by
      unfold equalAtP at h7
      cases q : (both2 e f && inB m 0 63) with
      | false => rw [q] at h7; cases h7
      | true => rfl
    have e1 : (equalAtP e f m).1 = (andI (maskP e f).1 m == 0) := by
      unfold equalAtP; rw [if_pos hb]
    have e2 : (maskP e f).2 = true := by
      unfold maskP
      rw [Bool.and_eq_true] at hb
      rw [if_pos hb.1]
    rw [br_t rfl, e2, brn_t, e1]
    have e3 : ((andI (maskP e f).1 m == 0) == (IntKind.wrap .i64 (((BitVec.toNat ((BitVec.ofInt 64 (maskP e f).1) &&& (BitVec.ofInt 64 m))) : Nat) : Int) == (0 : Int))) = true := by
      unfold andI; simp
    rw [e3, brn_t]
    exact eq15 h

/-! ### the first difference -/
def headI : List Nat → Int
  | [] => -1
  | x :: _ => (x : Int)
theorem eq9 {A B : List Int} (hA : Tab A) (hB : Tab B) {x1 : List Int} (hx : Bytes x1) {x : Nat} {r : List Nat} (hd : dU A B 4096 = x :: r) :
    laws_FnEqualOrWitness.v9 x1 ((x / 64 : Nat) : Int) ((x % 64 : Nat) : Int) ((dU A B 4096).length : Int) (mU A B 4096) B 0 0 (-1) A 4096 0 = some true := by
  have hxl : x < 4096 := (mem_dU.1 (by rw [hd]; exact List.mem_cons_self)).1
  have key : ∀ (d i : Nat), i + d = 4096 → laws_FnEqualOrWitness.v9 x1 ((x / 64 : Nat) : Int) ((x % 64 : Nat) : Int) ((dU A B 4096).length : Int) (mU A B 4096) B ((dU A B i).length : Int) (mU A B i) (headI (dU A B i)) A 4096 (i : Int) = some true := by
    intro d
    induction d with
    | zero =>
      intro i hi
      obtain rfl : i = 4096 := by omega
      refine laws_FnEqualOrWitness.v9s _ _ _ _ _ _ _ _ _ _ _ _ ?_
      rw [br_f (by decide)]
      refine laws_FnEqualOrWitness.v11s _ _ _ _ _ _ _ _ ?_
      have hh : headI (dU A B 4096) = (x : Int) := by rw [hd]; rfl
      rw [hh, mulw (by omega), addw (by omega) (by omega), show 64 * (x / 64) + x % 64 = x by omega, br_f (by simp), br_f (by simp), br_f (by simp)]
      exact eq12 hx
    | succ d ih =>
      intro i hi
      have hlt : i < 4096 := by omega
      have go := ih (i + 1) (by omega)
      have hl := dU_len A B i
      rw [dU_succ A B i, mU_succ A B i] at go
      refine laws_FnEqualOrWitness.v9s _ _ _ _ _ _ _ _ _ _ _ _ ?_
      rw [br_t (decide_eq_true (by omega)), br_t (decide_eq_true (by omega)), Int.toNat_natCast, gt_some (hA.get hlt), br_t (decide_eq_true (by omega)), gt_some (hB.get hlt), next_ok i 4096 hlt (by omega)]
      by_cases c : tv A i ≠ tv B i
      · rw [if_pos c, if_pos c, List.length_append] at go
        have v10 : laws_FnEqualOrWitness.v10 x1 ((x / 64 : Nat) : Int) ((x % 64 : Nat) : Int) ((dU A B 4096).length : Int) (mU A B 4096) B ((dU A B i).length : Int) (mU A B i) (headI (dU A B i ++ [i])) (i : Int) (tv A i) A 4096 (i : Int) = some true := by
          refine laws_FnEqualOrWitness.v10s _ _ _ _ _ _ _ _ _ _ _ _ _ _ ?_
          rw [br_t (decide_eq_true (by omega)), Int.toNat_natCast, gt_some (hB.get hlt), next_ok i 4096 hlt (by omega), wrap_ok (x := ((dU A B i).length : Int) + 1) (by omega) (by omega)]
          exact go
        rw [br_t (by simpa using c)]
        cases hq : dU A B i with
        | nil =>
          rw [hq] at v10
          rw [br_t (by decide)]
          exact v10
        | cons y t =>
          rw [hq] at v10
          rw [br_f (decide_eq_false (by show ¬ ((y : Int) < 0); omega))]
          exact v10
      · rw [if_neg c, if_neg c] at go
        have c : tv A i = tv B i := Decidable.not_not.1 c
        rw [br_f (by simp [c])]; exact go
  exact key 4096 0 (by omega)
theorem eq6 {e f : List Nd} {x1 : List Int} (hx : Bytes x1) (he : e.length ≤ 60) (hf : f.length ≤ 60) : laws_FnEqualOrWitness.v6 x1 e f (firstP e f).1 (firstP e f).2.1 (firstP e f).2.2 (countP e f).1 (maskP e f).1 = some true := by
  refine laws_FnEqualOrWitness.v6s _ _ _ _ _ _ _ _ ?_
  unfold firstP countP maskP
  cases hb : both2 e f with
  | false => rw [if_neg (by simp), br_f rfl]; exact eq12 hx
  | true =>
    rw [if_pos rfl, if_pos rfl, if_pos rfl]
    have hb' := hb
    unfold both2 at hb'
    rw [Bool.and_eq_true] at hb'
    have hA := Tab.of hb'.1
    have hB := Tab.of hb'.2
    cases hd : dU (tabP e) (tabP f) 4096 with
    | nil => exact eq12 hx
    | cons x r =>
      dsimp only
      rw [br_t rfl, tableOf_t hb'.1 (by omega), bd_s]
      refine laws_FnEqualOrWitness.v7s _ _ _ _ _ _ _ _ ?_
      rw [tableOf_t hb'.2 (by omega), bd_s, brn_t, brn_t]
      refine laws_FnEqualOrWitness.v8s _ _ _ _ _ _ _ ?_
      have := eq9 hA hB hx hd
      rw [hd] at this
      rw [show ((tabP e).length : Int) = 4096 by rw [tabP_len]; rfl]
      exact this
theorem equal_pure (x0 x1 : List Int) (q0 : Qd (.sl (.i .u8)) x0) (q1 : Qd (.sl (.i .u8)) x1) : ∃ k, laws_FnEqualOrWitness.f k x0 x1 = some true := by
  refine Ev.some (lim_ev (laws_FnEqualOrWitness.vs x0 x1 ?_))
  obtain ⟨r, hr, _⟩ := big_f x0 x1
  rw [hr, bd_s]
  cases r with
  | true => rfl
  | false =>
    rw [br_f rfl]
    obtain ⟨e, f, hd, he, hf⟩ := drawFirst_v (bytes_of q0)
    have tail := eq6 (e := e) (f := f) (bytes_of q1) he hf
    obtain ⟨a1, a2⟩ := first_v e f (by omega) (by omega)
    obtain ⟨b1, b2⟩ := equal_v e f (by omega) (by omega)
    obtain ⟨c1, c2⟩ := count_v e f (by omega) (by omega)
    obtain ⟨d1, d2⟩ := mask_v e f (by omega) (by omega)
    rw [hd, bd_s]
    dsimp only
    rw [a1, bd_s]
    refine laws_FnEqualOrWitness.v0s _ _ _ _ _ _ ?_
    rw [a2, bd_s, b1, bd_s]
    refine laws_FnEqualOrWitness.v1s _ _ _ _ _ _ _ _ _ _ _ ?_
    rw [b2, bd_s, c1, bd_s]
    refine laws_FnEqualOrWitness.v2s _ _ _ _ _ _ _ _ _ _ _ _ _ _ _ ?_
    rw [c2, bd_s, d1, bd_s]
    refine laws_FnEqualOrWitness.v3s _ _ _ _ _ _ _ _ _ _ _ _ _ _ _ _ _ _ _ ?_
    rw [d2, bd_s]
    refine laws_FnEqualOrWitness.v4s _ _ _ _ _ _ _ _ _ _ _ _ _ _ _ _ _ _ _ _ _ ?_
    rw [br_f (by simp), br_f (by simp), br_f (by simp), br_f (by simp), br_f (by simp), br_f (by simp), br_f (by simp), br_f (by simp), br_f (by simp)]
    have go5 : laws_FnEqualOrWitness.v5 x1 e f (firstP e f).1 (firstP e f).2.1 (firstP e f).2.2 (equalP e f).1 (equalP e f).2 (countP e f).1 (maskP e f).1 = some true := by
      refine laws_FnEqualOrWitness.v5s _ _ _ _ _ _ _ _ _ _ ?_
      cases hb : both2 e f with
      | false =>
        have : (equalP e f).2 = false := by unfold equalP; rw [hb]; rfl
        rw [this, br_f rfl]; exact tail
      | true =>
        have hb' := hb
        unfold both2 at hb'
        rw [Bool.and_eq_true] at hb'
        have hA := Tab.of hb'.1
        have hB := Tab.of hb'.2
        have e2 : (equalP e f).2 = true := by unfold equalP; rw [hb]; rfl
        have e1 : (equalP e f).1 = sameI (tabP e) (tabP f) := by unfold equalP; rw [hb]; rfl
        have ec : (countP e f).1 = ((dU (tabP e) (tabP f) 4096).length : Int) := by unfold countP; rw [hb]; rfl
        have em : (maskP e f).1 = mU (tabP e) (tabP f) 4096 := by unfold maskP; rw [hb]; rfl
        have h1 : ((equalP e f).1 == ((countP e f).1 == 0)) = true := by
          rw [e1, ec]
          by_cases q : dU (tabP e) (tabP f) 4096 = []
          · rw [show sameI (tabP e) (tabP f) = true from decide_eq_true ((same_iff hA hB).2 q), q]; rfl
          · have hne : ¬ ((dU (tabP e) (tabP f) 4096).length : Int) = 0 := fun z => q (List.length_eq_zero_iff.1 (by omega))
            rw [show sameI (tabP e) (tabP f) = false from decide_eq_false (fun z => q ((same_iff hA hB).1 z)), beq_eq_false_iff_ne.2 hne]
            rfl
        have h2 : ((equalP e f).1 == ((maskP e f).1 == 0)) = true := by
          rw [e1, em]
          by_cases q : dU (tabP e) (tabP f) 4096 = []
          · rw [show sameI (tabP e) (tabP f) = true from decide_eq_true ((same_iff hA hB).2 q), (mU_zero hA hB 4096 (Nat.le_refl _)).2 q]; rfl
          · have hne : ¬ mU (tabP e) (tabP f) 4096 = 0 := fun z => q ((mU_zero hA hB 4096 (Nat.le_refl _)).1 z)
            rw [show sameI (tabP e) (tabP f) = false from decide_eq_false (fun z => q ((same_iff hA hB).1 z)), beq_eq_false_iff_ne.2 hne]
            rfl
        rw [e2, br_t rfl, h1, brn_t, h2, brn_t]; exact tail
    cases hb : both2 e f with
    | false =>
      have e2 : (equalP e f).2 = false := by unfold equalP; rw [hb]; rfl
      have e3 : (firstP e f).2.2 = false := by unfold firstP; rw [hb]; rfl
      have z : (!((firstP e f).2.2 == false)) = false := by rw [e3]; rfl
      rw [e2, br_f rfl, z, br_f rfl, ← e2]
      exact go5
    | true =>
      have hb' := hb
      unfold both2 at hb'
      rw [Bool.and_eq_true] at hb'
      have hA := Tab.of hb'.1
      have hB := Tab.of hb'.2
      have e2 : (equalP e f).2 = true := by unfold equalP; rw [hb]; rfl
      have e1 : (equalP e f).1 = sameI (tabP e) (tabP f) := by unfold equalP; rw [hb]; rfl
      have h1 : (!((firstP e f).2.2 == !(equalP e f).1)) = false := by
        rw [e1]
        unfold firstP
        rw [if_pos hb]
        cases hq : dU (tabP e) (tabP f) 4096 with
        | nil => rw [show sameI (tabP e) (tabP f) = true from decide_eq_true ((same_iff hA hB).2 hq)]; rfl
        | cons x r => rw [show sameI (tabP e) (tabP f) = false from decide_eq_false (fun z => by have := (same_iff hA hB).1 z; rw [hq] at this; cases this)]; rfl
      have g := go5
      rw [e2] at g
      rw [e2, br_t rfl, h1, br_f rfl]
      exact g
end Go.Proofs.Ytiofklineiioaaa.Am
end
