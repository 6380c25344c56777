/- Plain texts: what the functions answer (part 0). -/
import Derived.Test.YtiofklineiioaaaKF1
section
/- What the laws do around the functions: arguments are measured, copied and compared. -/
namespace Go.Proofs.Ytiofklineiioaaa.Am
open Go
set_option linter.unusedVariables false
set_option linter.unusedSimpArgs false

abbrev Nd := ByteArray × Int × Int × Int
abbrev Rl := List Nd × List Nd × ByteArray
theorem brn_t {α : Type} (x y : Option α) : br (!true) x y = y := rfl
theorem brn_f {α : Type} (x y : Option α) : br (!false) x y = x := rfl
@[simp] theorem seq_self (x : ByteArray) : seq x x = true := seq_iff.2 rfl
theorem gt_mid {α β : Type} (l : List β) (x : β) (r : List β) (f : β → Option α) : gt (l ++ x :: r) l.length f = f x := gt_some (by simp)
theorem set_mid {β : Type} (l : List β) (x y : β) (r : List β) : (l ++ x :: r).set l.length y = l ++ y :: r := by simp
end Go.Proofs.Ytiofklineiioaaa.Am
end
section
/- Lists of texts and numbers that are searched; numbers within bounds. -/
namespace Go.Proofs.Ytiofklineiioaaa.Am
open Go
set_option linter.unusedVariables false
set_option linter.unusedSimpArgs false

theorem seq_beq (x y : ByteArray) : seq x y = decide (x = y) := by
  by_cases h : x = y
  · rw [decide_eq_true h]; exact seq_iff.2 h
  · rw [decide_eq_false h]
    cases e : seq x y with
    | false => rfl
    | true => exact absurd (seq_iff.1 e) h
/-- is a text among these -/
def isIn (l : List ByteArray) (s : ByteArray) : Bool := l.any fun x => decide (x = s)
theorem drop_at {α : Type} (l : List α) (i : Nat) (h : i < l.length) : l.drop i = l[i] :: l.drop (i + 1) := List.drop_eq_getElem_cons h
theorem l1HasS_ev (l : List ByteArray) (s : ByteArray) (hl : l.length ≤ 9223372036854775000) : Ev (fun k => spec_l1HasS.f k l s) (isIn l s) := by
  refine Ev.step (fun k => spec_l1HasS.eq k l s) ?_
  have := Ev.loop l.length (fun k i => spec_l1HasS.l0 k s l (l.length : Int) (i : Int)) (fun i => isIn (l.drop i) s) ?_ ?_ 0 (by omega)
  · exact this
  · exact Ev.step (fun k => spec_l1HasS.l0_eq k s l _ _) (Ev.neg (by simp) (Ev.ret (by simp [isIn])))
  · intro i hi ih
    refine Ev.step (fun k => spec_l1HasS.l0_eq k s l _ _) (Ev.pos (by simpa using hi) (Ev.pos (by simp) (Ev.get hi ?_)))
    rw [next_ok i _ hi hl, seq_beq]
    by_cases c : l[i] = s
    · exact Ev.pos (by simp [c]) (Ev.ret (by unfold isIn; rw [drop_at _ _ hi, List.any_cons]; simp [c]))
    · exact Ev.neg (by simp [c]) (Ev.eq ih (by unfold isIn; rw [drop_at _ _ hi, List.any_cons]; simp [c]))
theorem containsS_ev (l : List ByteArray) (s : ByteArray) (hl : l.length ≤ 9223372036854775000) : Ev (fun k => slices_Contains_string.f k l s) (isIn l s) := by
  have key : ∀ (d : Nat) (i : Nat), i + d = l.length → ∃ r : Int, Ev (fun k => slices_Index_string.l0 k l s (l.length : Int) (i : Int)) r ∧ (0 ≤ r ↔ isIn (l.drop i) s = true) := by
    intro d
    induction d with
    | zero =>
      intro i h
      refine ⟨-1, Ev.step (fun k => slices_Index_string.l0_eq k l s _ _) (Ev.neg (by simp; omega) (Ev.now _)), ?_⟩
      rw [List.drop_eq_nil_of_le (by omega)]; simp [isIn]
    | succ d ih =>
      intro i h
      have hi : i < l.length := by omega
      by_cases c : l[i] = s
      · refine ⟨i, Ev.step (fun k => slices_Index_string.l0_eq k l s _ _) (Ev.pos (by simpa using hi) (Ev.pos (by simp) (Ev.get hi (Ev.pos (by rw [seq_beq]; simp [c]) (Ev.now _))))), ?_⟩
        unfold isIn; rw [drop_at _ _ hi, List.any_cons]; simp [c]
      · obtain ⟨r, hev, hiff⟩ := ih (i + 1) (by omega)
        refine ⟨r, Ev.step (fun k => slices_Index_string.l0_eq k l s _ _) (Ev.pos (by simpa using hi) (Ev.pos (by simp) (Ev.get hi (Ev.neg (by rw [seq_beq]; simp only [decide_eq_false_iff_not]; exact fun e => c e.symm) (by rw [next_ok i _ hi hl]; exact hev))))), ?_⟩
        rw [hiff]; unfold isIn; rw [drop_at _ _ hi, List.any_cons]; simp [c]
  obtain ⟨r, hev, hiff⟩ := key l.length 0 (by omega)
  refine Ev.step (fun k => slices_Contains_string.eq k l s) (Ev.bind (b := r) (Ev.step (fun k => slices_Index_string.eq k l s) hev) (Ev.ret ?_))
  rw [Bool.eq_iff_iff, decide_eq_true_iff]
  exact hiff
theorem containsI_ev (l : List Int) (s : Int) (hl : l.length ≤ 9223372036854775000) : Ev (fun k => slices_Contains_int.f k l s) (decide (s ∈ l)) := by
  have key : ∀ (d : Nat) (i : Nat), i + d = l.length → ∃ r : Int, Ev (fun k => slices_Index_int.l0 k l s (l.length : Int) (i : Int)) r ∧ (0 ≤ r ↔ s ∈ l.drop i) := by
    intro d
    induction d with
    | zero =>
      intro i h
      refine ⟨-1, Ev.step (fun k => slices_Index_int.l0_eq k l s _ _) (Ev.neg (by simp; omega) (Ev.now _)), ?_⟩
      rw [List.drop_eq_nil_of_le (by omega)]; simp
    | succ d ih =>
      intro i h
      have hi : i < l.length := by omega
      by_cases c : s = l[i]
      · refine ⟨i, Ev.step (fun k => slices_Index_int.l0_eq k l s _ _) (Ev.pos (by simpa using hi) (Ev.pos (by simp) (Ev.get hi (Ev.pos (by simp [c]) (Ev.now _))))), ?_⟩
        rw [drop_at _ _ hi, List.mem_cons]; simp [c]
      · obtain ⟨r, hev, hiff⟩ := ih (i + 1) (by omega)
        refine ⟨r, Ev.step (fun k => slices_Index_int.l0_eq k l s _ _) (Ev.pos (by simpa using hi) (Ev.pos (by simp) (Ev.get hi (Ev.neg (by simp [c]) (by rw [next_ok i _ hi hl]; exact hev))))), ?_⟩
        rw [hiff, drop_at _ _ hi, List.mem_cons]; simp [c]
  obtain ⟨r, hev, hiff⟩ := key l.length 0 (by omega)
  refine Ev.step (fun k => slices_Contains_int.eq k l s) (Ev.bind (b := r) (Ev.step (fun k => slices_Index_int.eq k l s) hev) (Ev.ret ?_))
  rw [Bool.eq_iff_iff, decide_eq_true_iff, decide_eq_true_iff]
  exact hiff
theorem l1Has_ev (l : List Int) (s : Int) (hl : l.length ≤ 9223372036854775000) : Ev (fun k => spec_l1Has.f k l s) (decide (s ∈ l)) := by
  refine Ev.step (fun k => spec_l1Has.eq k l s) ?_
  have := Ev.loop l.length (fun k i => spec_l1Has.l0 k s l (l.length : Int) (i : Int)) (fun i => decide (s ∈ l.drop i)) ?_ ?_ 0 (by omega)
  · exact this
  · exact Ev.step (fun k => spec_l1Has.l0_eq k s l _ _) (Ev.neg (by simp) (Ev.ret (by simp)))
  · intro i hi ih
    refine Ev.step (fun k => spec_l1Has.l0_eq k s l _ _) (Ev.pos (by simpa using hi) (Ev.pos (by simp) (Ev.get hi ?_)))
    rw [next_ok i _ hi hl]
    by_cases c : l[i] = s
    · exact Ev.pos (by simp [c]) (Ev.ret (by rw [drop_at _ _ hi]; simp only [List.mem_cons]; simp [c]))
    · exact Ev.neg (by simp [c]) (Ev.eq ih (by rw [drop_at _ _ hi]; simp only [List.mem_cons]; have e : ¬ s = l[i] := fun e => c e.symm; simp [e]))
/-- is a number within these bounds -/
def inB (n lo hi : Int) : Bool := decide (lo ≤ n) && decide (n ≤ hi)
theorem l1In_f (n lo hi : Int) : spec_l1In.f n lo hi = some (inB n lo hi) := by
  rw [spec_l1In.eq]; unfold inB
  by_cases h : lo ≤ n
  · rw [br_t (by simpa using h)]; simp [h]
  · rw [br_f (by simpa using h)]; simp [h]
theorem within_f (n lo hi : Int) : impl_within.f n lo hi = some (inB n lo hi) := by
  rw [impl_within.eq]; unfold inB
  by_cases h : lo ≤ n
  · rw [br_t (by simpa using h)]; simp [h]
  · rw [br_f (by simpa using h)]; simp [h]
theorem exWord_f (n : Int) : spec_exWord.f n = some (inB n 0 63) := by rw [spec_exWord.eq, l1In_f]; rfl
theorem isWord_f (n : Int) : impl_isWord.f n = some (inB n 0 63) := by rw [impl_isWord.eq, within_f]; rfl
end Go.Proofs.Ytiofklineiioaaa.Am
end
section
/- Expressions: which operands a node has, where a node may stand; the program's functions and the reference's answer alike. -/
namespace Go.Proofs.Ytiofklineiioaaa.Am
open Go
set_option linter.unusedVariables false
set_option linter.unusedSimpArgs false

abbrev tIn : ByteArray := ⟨#[105, 110]⟩
abbrev tConst : ByteArray := ⟨#[99, 111, 110, 115, 116]⟩
abbrev tNot : ByteArray := ⟨#[110, 111, 116]⟩
abbrev tNeg : ByteArray := ⟨#[110, 101, 103]⟩
def opsL : List ByteArray := [(⟨#[97, 100, 100]⟩ : ByteArray), (⟨#[115, 117, 98]⟩ : ByteArray), (⟨#[109, 117, 108]⟩ : ByteArray), (⟨#[97, 110, 100]⟩ : ByteArray), (⟨#[111, 114]⟩ : ByteArray), (⟨#[120, 111, 114]⟩ : ByteArray), (⟨#[115, 104, 108]⟩ : ByteArray), (⟨#[115, 104, 114]⟩ : ByteArray), (⟨#[108, 101, 115, 115]⟩ : ByteArray), (⟨#[101, 113]⟩ : ByteArray)]
def isTwo (s : ByteArray) : Bool := isIn opsL s
def isOne (s : ByteArray) : Bool := decide (s = tNot) || decide (s = tNeg)
/-- how many operands an op has; -1: it is none -/
def arity (s : ByteArray) : Int := if s = tIn then 0 else if s = tConst then 0 else if isOne s = true then 1 else if isTwo s = true then 2 else -1
theorem isOne_mem {s : ByteArray} (h : isOne s = true) : s = tNot ∨ s = tNeg := by
  unfold isOne at h
  simpa using h
theorem arity_one {s : ByteArray} (h : isOne s = true) : arity s = 1 := by
  unfold arity
  rw [if_neg (by rcases isOne_mem h with e | e <;> rw [e] <;> decide), if_neg (by rcases isOne_mem h with e | e <;> rw [e] <;> decide), if_pos h]
theorem isTwo_not {s : ByteArray} (h : isTwo s = true) : s ≠ tIn ∧ s ≠ tConst ∧ isOne s = false := by
  refine ⟨fun e => ?_, fun e => ?_, ?_⟩
  · rw [e] at h; revert h; decide
  · rw [e] at h; revert h; decide
  · cases h1 : isOne s with
    | false => rfl
    | true => rcases isOne_mem h1 with e | e <;> (rw [e] at h; revert h; decide)
theorem arity_two {s : ByteArray} (h : isTwo s = true) : arity s = 2 := by
  obtain ⟨h1, h2, h3⟩ := isTwo_not h
  unfold arity
  rw [if_neg h1, if_neg h2, if_neg (by simp [h3]), if_pos h]
theorem arity_cases (s : ByteArray) : (arity s = -1 ∧ isOne s = false ∧ isTwo s = false) ∨ (arity s = 0 ∧ isOne s = false ∧ isTwo s = false) ∨ (arity s = 1 ∧ isOne s = true ∧ isTwo s = false) ∨ (arity s = 2 ∧ isOne s = false ∧ isTwo s = true) := by
  by_cases h2 : isTwo s = true
  · exact .inr (.inr (.inr ⟨arity_two h2, (isTwo_not h2).2.2, h2⟩))
  · have h2' : isTwo s = false := by simpa using h2
    by_cases h1 : isOne s = true
    · exact .inr (.inr (.inl ⟨arity_one h1, h1, h2'⟩))
    · have h1' : isOne s = false := by simpa using h1
      by_cases c : s = tIn
      · exact .inr (.inl ⟨by unfold arity; rw [if_pos c], h1', h2'⟩)
      · by_cases c2 : s = tConst
        · exact .inr (.inl ⟨by unfold arity; rw [if_neg c, if_pos c2], h1', h2'⟩)
        · exact .inl ⟨by unfold arity; rw [if_neg c, if_neg c2, if_neg h1, if_neg h2], h1', h2'⟩
theorem arity_eq_one {s : ByteArray} : arity s = 1 ↔ isOne s = true := by
  rcases arity_cases s with ⟨h, h1, h2⟩ | ⟨h, h1, h2⟩ | ⟨h, h1, h2⟩ | ⟨h, h1, h2⟩ <;> rw [h, h1] <;> simp
theorem arity_eq_two {s : ByteArray} : arity s = 2 ↔ isTwo s = true := by
  rcases arity_cases s with ⟨h, h1, h2⟩ | ⟨h, h1, h2⟩ | ⟨h, h1, h2⟩ | ⟨h, h1, h2⟩ <;> rw [h, h2] <;> simp
theorem seq_t {x y : ByteArray} (h : x = y) : seq x y = true := seq_iff.2 h
theorem seq_f {x y : ByteArray} (h : ¬ x = y) : seq x y = false := by rw [seq_beq]; simp [h]
theorem exOne_f (s : ByteArray) : spec_exOne.f s = some (isOne s) := by
  rw [spec_exOne.eq, seq_beq, seq_beq]
  unfold isOne
  by_cases h : s = tNot
  · rw [br_t (by simpa using h)]; simp [h]
  · rw [br_f (by simpa using h)]; simp [h]
theorem exTwo_ev (s : ByteArray) : Ev (fun k => spec_exTwo.f k s) (isTwo s) := Ev.step (fun k => spec_exTwo.eq k s) (Ev.here spec_exOps.eq (Ev.bind (l1HasS_ev opsL s (by decide)) (Ev.now _)))
theorem operands_ev (s : ByteArray) : Ev (fun k => impl_operands.f k s) (arity s) := by
  refine Ev.step (fun k => impl_operands.eq k s) ?_
  unfold arity
  by_cases c : s = tIn
  · rw [if_pos c]; exact Ev.pos (seq_t c) (Ev.now _)
  · refine Ev.neg (seq_f c) ?_
    rw [if_neg c]
    by_cases c2 : s = tConst
    · rw [if_pos c2]; exact Ev.pos (seq_t c2) (Ev.now _)
    · refine Ev.neg (seq_f c2) ?_
      rw [if_neg c2]
      by_cases c3 : s = tNot
      · rw [if_pos (by unfold isOne; simp [c3])]; exact Ev.pos (seq_t c3) (Ev.now _)
      · refine Ev.neg (seq_f c3) ?_
        by_cases c4 : s = tNeg
        · rw [if_pos (by unfold isOne; simp [c4])]; exact Ev.pos (seq_t c4) (Ev.now _)
        · refine Ev.neg (seq_f c4) (Ev.here impl_binary.eq (Ev.bind (containsS_ev opsL s (by decide)) ?_))
          rw [if_neg (by unfold isOne; simp [c3, c4])]
          by_cases h : isTwo s = true
          · rw [if_pos h]; exact Ev.pos h (Ev.now _)
          · have h' : isTwo s = false := by simpa using h
            rw [if_neg h]; exact Ev.neg h' (Ev.now _)

/-! ### nodes -/
/-- the operands of a node -/
def partsOf (n : Nd) : List Int := if arity n.1 = 1 then [n.2.1] else if arity n.1 = 2 then [n.2.1, n.2.2.1] else []
theorem parts_le (n : Nd) : (partsOf n).length ≤ 2 := by unfold partsOf; split <;> (try split) <;> simp
theorem exParts_ev (n : Nd) : Ev (fun k => spec_exParts.f k n) (partsOf n) := by
  refine Ev.step (fun k => spec_exParts.eq k n) (Ev.here (exOne_f _) ?_)
  unfold partsOf
  by_cases h : isOne n.1 = true
  · exact Ev.pos h (Ev.ret (by rw [if_pos (arity_one h)]))
  · refine Ev.neg (by simpa using h) (Ev.bind (exTwo_ev n.1) ?_)
    rw [if_neg (fun e => h (arity_eq_one.1 e))]
    by_cases h2 : isTwo n.1 = true
    · exact Ev.pos h2 (Ev.ret (by rw [if_pos (arity_two h2)]))
    · exact Ev.neg (by simpa using h2) (Ev.ret (by rw [if_neg (fun e => h2 (arity_eq_two.1 e))]))
theorem of_ev (n : Nd) : Ev (fun k => impl_Node_of.f k n) (partsOf n) := by
  refine Ev.step (fun k => impl_Node_of.eq k n) (Ev.bind (operands_ev n.1) ?_)
  unfold partsOf
  rcases arity_cases n.1 with ⟨h, _⟩ | ⟨h, _⟩ | ⟨h, _⟩ | ⟨h, _⟩ <;> rw [h] <;> exact Ev.pos (by decide) (Ev.pos (by simp [maxI]) (Ev.ret (by simp [maxI])))
/-- may this node stand at place i -/
def nodeOk (n : Nd) (i : Int) : Bool :=
  if n.1 = tIn then decide (n.2.1 = 0) && decide (n.2.2.1 = 0) && inB n.2.2.2 0 1
  else if n.1 = tConst then decide (n.2.1 = 0) && decide (n.2.2.1 = 0) && inB n.2.2.2 0 63
  else if isOne n.1 = true then inB n.2.1 0 (i - 1) && decide (n.2.2.1 = 0) && decide (n.2.2.2 = 0)
  else isTwo n.1 && inB n.2.1 0 (i - 1) && inB n.2.2.1 0 (i - 1) && decide (n.2.2.2 = 0)
theorem exNode_ev (n : Nd) (i : Int) (h0 : 0 ≤ i) (h1 : i ≤ 9223372036854775807) : Ev (fun k => spec_exNode.f k n i) (nodeOk n i) := by
  refine Ev.step (fun k => spec_exNode.eq k n i) ?_
  unfold nodeOk
  rw [wrap_ok (by omega) (by omega)]
  simp only [l1In_f, exWord_f, exOne_f]
  by_cases c : n.1 = tIn
  · refine Ev.pos (seq_t c) ?_
    rw [if_pos c]
    by_cases a : n.2.1 = 0
    · by_cases b : n.2.2.1 = 0
      · exact Ev.pos (by simpa using a) (Ev.pos (by simpa using b) (Ev.here rfl (Ev.ret (by simp [a, b]))))
      · exact Ev.pos (by simpa using a) (Ev.neg (by simpa using b) (Ev.ret (by simp [b])))
    · exact Ev.neg (by simpa using a) (Ev.ret (by simp [a]))
  · refine Ev.neg (seq_f c) ?_
    rw [if_neg c]
    by_cases c2 : n.1 = tConst
    · refine Ev.pos (seq_t c2) ?_
      rw [if_pos c2]
      by_cases a : n.2.1 = 0
      · by_cases b : n.2.2.1 = 0
        · exact Ev.pos (by simpa using a) (Ev.pos (by simpa using b) (Ev.here rfl (Ev.ret (by simp [a, b]))))
        · exact Ev.pos (by simpa using a) (Ev.neg (by simpa using b) (Ev.ret (by simp [b])))
      · exact Ev.neg (by simpa using a) (Ev.ret (by simp [a]))
    · refine Ev.neg (seq_f c2) ?_
      rw [if_neg c2]
      refine Ev.here rfl ?_
      by_cases h : isOne n.1 = true
      · refine Ev.pos h (Ev.here rfl ?_)
        rw [if_pos h]
        cases hb : inB n.2.1 0 (i - 1)
        · exact Ev.neg rfl (Ev.ret (by simp))
        · by_cases b : n.2.2.1 = 0
          · exact Ev.pos rfl (Ev.pos (by simpa using b) (Ev.ret (by simp [b]; rfl)))
          · exact Ev.pos rfl (Ev.neg (by simpa using b) (Ev.ret (by simp [b])))
      · refine Ev.neg (by simpa using h) (Ev.bind (exTwo_ev n.1) ?_)
        rw [if_neg h]
        cases h2 : isTwo n.1
        · exact Ev.neg rfl (Ev.ret (by simp))
        · refine Ev.pos rfl (Ev.here rfl ?_)
          cases hb : inB n.2.1 0 (i - 1)
          · exact Ev.neg rfl (Ev.ret (by simp))
          · refine Ev.pos rfl (Ev.here rfl ?_)
            cases hb2 : inB n.2.2.1 0 (i - 1)
            · exact Ev.neg rfl (Ev.ret (by simp))
            · exact Ev.pos rfl (Ev.ret (by simp; rfl))
end Go.Proofs.Ytiofklineiioaaa.Am
end
section
/- The forms of ops and their costs: the program's and the reference's. -/
namespace Go.Proofs.Ytiofklineiioaaa.Am
open Go
set_option linter.unusedVariables false
set_option linter.unusedSimpArgs false

abbrev tSet : ByteArray := ⟨#[115, 101, 116]⟩
abbrev tMov : ByteArray := ⟨#[109, 111, 118]⟩
abbrev tMul : ByteArray := ⟨#[109, 117, 108]⟩
abbrev tShl : ByteArray := ⟨#[115, 104, 108]⟩
abbrev tShr : ByteArray := ⟨#[115, 104, 114]⟩
abbrev tAddi : ByteArray := ⟨#[97, 100, 100, 105]⟩
abbrev tAndi : ByteArray := ⟨#[97, 110, 100, 105]⟩
abbrev tXori : ByteArray := ⟨#[120, 111, 114, 105]⟩
abbrev tShli : ByteArray := ⟨#[115, 104, 108, 105]⟩
abbrev tShri : ByteArray := ⟨#[115, 104, 114, 105]⟩
abbrev tLea : ByteArray := ⟨#[108, 101, 97]⟩
/-- the cost of an op -/
def opCost (s : ByteArray) : Int := if s = tMul then 4 else if s = tShl then 2 else if s = tShr then 2 else 1
theorem cdCost_f (s : ByteArray) : spec_cdCost.f s = some (opCost s) := by
  rw [spec_cdCost.eq]
  unfold opCost
  simp only [seq_beq, br_if, decide_eq_true_eq]
  repeat' split
  all_goals first | rfl | simp_all
theorem opCost_pos (s : ByteArray) : 1 ≤ opCost s ∧ opCost s ≤ 4 := by
  unfold opCost
  repeat' split
  all_goals omega
abbrev Form := Bool × Bool × Int × Int × Int × ByteArray
/-- the form of an op -/
def formP (s : ByteArray) : Form × Bool :=
  if s = tSet then ((false, false, 0, 63, 1, s), true)
  else if s = tMov then ((true, false, 1, 0, 1, s), true)
  else if isOne s = true then ((true, false, 1, 0, 1, s), true)
  else if isTwo s = true then ((true, true, 1, 0, opCost s, s), true)
  else if s = tAddi then ((true, false, 0, 63, 1, s.extract 0 3), true)
  else if s = tAndi then ((true, false, 0, 63, 1, s.extract 0 3), true)
  else if s = tXori then ((true, false, 0, 63, 1, s.extract 0 3), true)
  else if s = tShli then ((true, false, 1, 5, 1, s.extract 0 3), true)
  else if s = tShri then ((true, false, 1, 5, 1, s.extract 0 3), true)
  else if s = tLea then ((true, true, 1, 3, 1, s), true)
  else ((false, false, 0, 0, 0, ⟨#[]⟩), false)
theorem containsS_v (l : List ByteArray) (s : ByteArray) (hl : l.length ≤ 9223372036854775000) : slices_Contains_string.v l s = some (isIn l s) := ev_lim (containsS_ev l s hl)
theorem formOf_v (s : ByteArray) : impl_formOf.v s = some (formP s) := by
  refine impl_formOf.vs _ ?_
  have hc := containsS_v opsL s (by decide)
  unfold opsL at hc
  simp only [impl_binary.eq, bd_s, hc, seq_beq, br_if, decide_eq_true_eq]
  have e2 : isIn [(⟨#[97, 100, 100]⟩ : ByteArray), (⟨#[115, 117, 98]⟩ : ByteArray), (⟨#[109, 117, 108]⟩ : ByteArray), (⟨#[97, 110, 100]⟩ : ByteArray), (⟨#[111, 114]⟩ : ByteArray), (⟨#[120, 111, 114]⟩ : ByteArray), (⟨#[115, 104, 108]⟩ : ByteArray), (⟨#[115, 104, 114]⟩ : ByteArray), (⟨#[108, 101, 115, 115]⟩ : ByteArray), (⟨#[101, 113]⟩ : ByteArray)] s = isTwo s := rfl
  rw [e2]
  by_cases c1 : s = tSet
  · subst c1; simp [formP]
  by_cases c2 : s = tMov
  · subst c2; simp [formP]
  by_cases c3 : s = tNot
  · subst c3; simp [formP, isOne]
  by_cases c4 : s = tNeg
  · subst c4; simp [formP, isOne]
  have h1 : isOne s = false := by unfold isOne; simp [c3, c4]
  by_cases h2 : isTwo s = true
  · simp only [formP, c1, c2, c3, c4, h1, h2, if_false, if_true, Bool.false_eq_true, opCost]
    by_cases d1 : s = tShl
    · subst d1; rfl
    by_cases d2 : s = tShr
    · subst d2; rfl
    by_cases d3 : s = tMul
    · subst d3; rfl
    simp only [d1, d2, d3, if_false]
  by_cases c5 : s = tAddi
  · subst c5; simp [formP, h2, isOne]; decide
  by_cases c6 : s = tAndi
  · subst c6; simp [formP, h2, isOne]; decide
  by_cases c7 : s = tXori
  · subst c7; simp [formP, h2, isOne]; decide
  by_cases c8 : s = tShli
  · subst c8; simp [formP, h2, isOne]; decide
  by_cases c9 : s = tShri
  · subst c9; simp [formP, h2, isOne]; decide
  by_cases c10 : s = tLea
  · subst c10; simp [formP, h2, isOne]
  simp only [formP, c1, c2, c3, c4, h1, h2, c5, c6, c7, c8, c9, c10, if_false, Bool.false_eq_true]
theorem formP_cost {s : ByteArray} (h : 0 < arity s) : (formP s).1.2.2.2.2.1 = opCost s := by
  rcases arity_cases s with ⟨e, _⟩ | ⟨e, _⟩ | ⟨_, e, _⟩ | ⟨_, _, e⟩
  · omega
  · omega
  · rcases isOne_mem e with rfl | rfl <;> decide
  · have h1 := (isTwo_not e).2.2
    have d1 : s ≠ tSet := fun q => by subst q; revert e; decide
    have d2 : s ≠ tMov := fun q => by subst q; revert e; decide
    simp only [formP, d1, d2, h1, e, if_false, if_true, Bool.false_eq_true]
end Go.Proofs.Ytiofklineiioaaa.Am
end
section
/- Where a node may stand: the program's function; how often each node is an operand. -/
namespace Go.Proofs.Ytiofklineiioaaa.Am
open Go
set_option linter.unusedVariables false
set_option linter.unusedSimpArgs false

theorem isNode_ev (n : Nd) (i : Int) (h0 : 0 ≤ i) (h1 : i ≤ 9223372036854775807) : Ev (fun k => impl_Node_isNode.f k n i) (nodeOk n i) := by
  refine Ev.step (fun k => impl_Node_isNode.eq k n i) (Ev.bind (operands_ev n.1) ?_)
  -- behind both places
  have hend : ∀ m : Int, m = arity n.1 → Ev (fun k => impl_Node_isNode.l0 k i m 2 2 n.1 n.2.1 n.2.2.1 n.2.2.2 [n.2.1, n.2.2.1]) (if n.1 = tIn then inB n.2.2.2 0 1 else if n.1 = tConst then inB n.2.2.2 0 63 else decide (m > 0) && decide (n.2.2.2 = 0)) := by
    intro m hm
    refine Ev.step (fun k => impl_Node_isNode.l0_eq k _ _ _ _ _ _ _ _ _) (Ev.neg (by simp) ?_)
    by_cases c : n.1 = tIn
    · exact Ev.pos (seq_t c) (Ev.here (within_f _ _ _) (Ev.ret (by rw [if_pos c])))
    · refine Ev.neg (seq_f c) ?_
      rw [if_neg c]
      by_cases c2 : n.1 = tConst
      · exact Ev.pos (seq_t c2) (Ev.here (isWord_f _) (Ev.ret (by rw [if_pos c2])))
      · refine Ev.neg (seq_f c2) ?_
        rw [if_neg c2]
        by_cases p : m > 0
        · exact Ev.pos (by simpa using p) (Ev.ret (by simp [p]; rfl))
        · exact Ev.neg (by simpa using p) (Ev.ret (by simp [p]))
  -- one place
  have hone : ∀ (m : Int) (j : Nat) (x : Int) (R : Bool), j < 2 → [n.2.1, n.2.2.1][j]? = some x → Ev (fun k => impl_Node_isNode.l0 k i m 2 ((j + 1 : Nat) : Int) n.1 n.2.1 n.2.2.1 n.2.2.2 [n.2.1, n.2.2.1]) R →
      Ev (fun k => impl_Node_isNode.l0 k i m 2 (j : Int) n.1 n.2.1 n.2.2.1 n.2.2.2 [n.2.1, n.2.2.1]) ((if (j : Int) < m then inB x 0 (i - 1) else decide (x = 0)) && R) := by
    intro m j x R hj hx hR
    refine Ev.step (fun k => impl_Node_isNode.l0_eq k _ _ _ _ _ _ _ _ _) (Ev.pos (by simp; omega) (Ev.pos (by simp) (Ev.pos (by simp; omega) (Ev.at (b := x) (by rw [Int.toNat_natCast]; exact hx) ?_))))
    rw [wrap_ok (x := i - 1) (by omega) (by omega), next_ok j 2 hj (by omega)]
    by_cases hm : (j : Int) < m
    · refine Ev.pos (by simpa using hm) (Ev.here (within_f _ _ _) ?_)
      rw [if_pos hm]
      cases hb : inB x 0 (i - 1) with
      | true => exact Ev.neg rfl (Ev.neg (by simp; omega) (by simpa using hR))
      | false => exact Ev.pos rfl (Ev.ret (by simp))
    · refine Ev.neg (by simpa using hm) (Ev.pos (by simp; omega) ?_)
      rw [if_neg hm]
      by_cases h0 : x = 0
      · exact Ev.neg (by simp [h0]) (by simpa [h0] using hR)
      · exact Ev.pos (by simpa using h0) (Ev.ret (by simp [h0]))
  have h1' := hone (arity n.1) 1 n.2.2.1 _ (by omega) rfl (hend (arity n.1) rfl)
  have h0' := hone (arity n.1) 0 n.2.1 _ (by omega) rfl h1'
  refine Ev.eq h0' ?_
  unfold nodeOk
  by_cases c : n.1 = tIn
  · have ha : arity n.1 = 0 := by unfold arity; rw [if_pos c]
    rw [ha, if_pos c, if_pos c]
    simp [Bool.and_assoc]
  · rw [if_neg c, if_neg c]
    by_cases c2 : n.1 = tConst
    · have ha : arity n.1 = 0 := by unfold arity; rw [if_neg c, if_pos c2]
      rw [ha, if_pos c2, if_pos c2]
      simp [Bool.and_assoc]
    · rw [if_neg c2, if_neg c2]
      rcases arity_cases n.1 with ⟨ha, h1, h2⟩ | ⟨ha, h1, h2⟩ | ⟨ha, h1, h2⟩ | ⟨ha, h1, h2⟩ <;> rw [ha, h1, h2] <;> simp [Bool.and_assoc]

/-! ### how often each node is an operand -/
def bumpU (u : List Int) (p : Int) : List Int := u.set p.toNat (IntKind.wrap .i64 (u.getD p.toNat 0 + 1))
def bumps (u : List Int) (n : Nd) : List Int := (partsOf n).foldl bumpU u
def usesOf (e : List Nd) : List Int := e.foldl bumps (List.replicate e.length 0)
theorem bump_len (u : List Int) (p : Int) : (bumpU u p).length = u.length := by simp [bumpU]
theorem fold_bump_len (l : List Int) (u : List Int) : (l.foldl bumpU u).length = u.length := by
  induction l generalizing u with
  | nil => rfl
  | cons p l ih => rw [List.foldl_cons, ih, bump_len]
theorem bumps_len (u : List Int) (n : Nd) : (bumps u n).length = u.length := fold_bump_len _ _
theorem fold_bumps_len (l : List Nd) (u : List Int) : (l.foldl bumps u).length = u.length := by
  induction l generalizing u with
  | nil => rfl
  | cons p l ih => rw [List.foldl_cons, ih, bumps_len]
theorem usesOf_len (e : List Nd) : (usesOf e).length = e.length := by unfold usesOf; rw [fold_bumps_len, List.length_replicate]
/-- all operands lie below this bound -/
def PartsIn (e : List Nd) (m : Nat) : Prop := ∀ n ∈ e, ∀ p ∈ partsOf n, 0 ≤ p ∧ p < m
theorem take_fold {α β : Type} (f : β → α → β) (l : List α) (b : β) (i : Nat) (h : i < l.length) : (l.take (i + 1)).foldl f b = f ((l.take i).foldl f b) l[i] := by
  rw [List.take_succ_eq_append_getElem h, List.foldl_append]; rfl
theorem bump_at {u : List Int} {p : Int} (h0 : 0 ≤ p) (h : p < u.length) : u[p.toNat]? = some (u.getD p.toNat 0) := by
  have hp : p.toNat < u.length := by omega
  rw [List.getElem?_eq_getElem hp, List.getD_eq_getElem?_getD, List.getElem?_eq_getElem hp]; rfl
theorem exUses_ev (e : List Nd) (hl : e.length ≤ 1048576) (hp : PartsIn e e.length) : Ev (fun k => spec_exUses.f k e) (usesOf e) := by
  refine Ev.step (fun k => spec_exUses.eq k e) (Ev.pos (by simp) (Ev.pos (by simp; omega) ?_))
  rw [Int.toNat_natCast]
  have key := Ev.loop e.length (fun k i => spec_exUses.l0 k e (e.length : Int) (i : Int) ((e.take i).foldl bumps (List.replicate e.length 0))) (fun _ => usesOf e) ?_ ?_ 0 (by omega)
  · simpa using key
  · exact Ev.step (fun k => spec_exUses.l0_eq k _ _ _ _) (Ev.neg (by simp) (Ev.ret (by rw [List.take_of_length_le (Nat.le_refl _)]; rfl)))
  · intro i hi ih
    refine Ev.step (fun k => spec_exUses.l0_eq k _ _ _ _) (Ev.pos (by simpa using hi) (Ev.pos (by simp) (Ev.get hi (Ev.bind (exParts_ev e[i]) ?_))))
    have hps : ∀ p ∈ partsOf e[i], 0 ≤ p ∧ p < e.length := hp _ (List.getElem_mem hi)
    have inner := Ev.loop (partsOf e[i]).length (fun k j => spec_exUses.l1 k e (e.length : Int) (i : Int) (partsOf e[i]) ((partsOf e[i]).length : Int) (j : Int) (((partsOf e[i]).take j).foldl bumpU ((e.take i).foldl bumps (List.replicate e.length 0)))) (fun _ => usesOf e) ?_ ?_ 0 (by omega)
    · simpa using inner
    · refine Ev.step (fun k => spec_exUses.l1_eq k _ _ _ _ _ _ _) (Ev.neg (by simp) ?_)
      rw [List.take_of_length_le (Nat.le_refl _), next_ok i _ hi (by omega)]
      rw [take_fold bumps e _ i hi] at ih
      exact ih
    · intro j hj ihj
      have hpj := hps _ (List.getElem_mem hj)
      have h2 := parts_le e[i]
      have hlen : (((partsOf e[i]).take j).foldl bumpU ((e.take i).foldl bumps (List.replicate e.length 0))).length = e.length := by rw [fold_bump_len, fold_bumps_len, List.length_replicate]
      refine Ev.step (fun k => spec_exUses.l1_eq k _ _ _ _ _ _ _) (Ev.pos (by simpa using hj) (Ev.pos (by simp) (Ev.get hj (Ev.pos (by simpa using hpj.1) (Ev.pos (by rw [hlen]; simpa using hpj.2) (Ev.at (bump_at hpj.1 (by rw [hlen]; exact hpj.2)) (Ev.pos (by simpa using hpj.1) (Ev.pos (by rw [hlen]; simpa using hpj.2) (Ev.at (bump_at hpj.1 (by rw [hlen]; exact hpj.2)) ?_)))))))))
      rw [take_fold bumpU (partsOf e[i]) _ j hj] at ihj
      rw [next_ok j _ hj (by omega)]
      exact ihj
theorem uses_ev (e : List Nd) (hl : e.length ≤ 1048576) (hp : PartsIn e e.length) : Ev (fun k => impl_uses.f k e) (usesOf e) := by
  refine Ev.step (fun k => impl_uses.eq k e) (Ev.pos (by simp) (Ev.pos (by simp; omega) ?_))
  rw [Int.toNat_natCast]
  have key := Ev.loop e.length (fun k i => impl_uses.l0 k e (e.length : Int) (i : Int) ((e.take i).foldl bumps (List.replicate e.length 0))) (fun _ => usesOf e) ?_ ?_ 0 (by omega)
  · simpa using key
  · exact Ev.step (fun k => impl_uses.l0_eq k _ _ _ _) (Ev.neg (by simp) (Ev.ret (by rw [List.take_of_length_le (Nat.le_refl _)]; rfl)))
  · intro i hi ih
    refine Ev.step (fun k => impl_uses.l0_eq k _ _ _ _) (Ev.pos (by simpa using hi) (Ev.pos (by simp) (Ev.get hi (Ev.bind (of_ev e[i]) ?_))))
    have hps : ∀ p ∈ partsOf e[i], 0 ≤ p ∧ p < e.length := hp _ (List.getElem_mem hi)
    have inner := Ev.loop (partsOf e[i]).length (fun k j => impl_uses.l1 k e (e.length : Int) (i : Int) (partsOf e[i]) ((partsOf e[i]).length : Int) (j : Int) (((partsOf e[i]).take j).foldl bumpU ((e.take i).foldl bumps (List.replicate e.length 0)))) (fun _ => usesOf e) ?_ ?_ 0 (by omega)
    · simpa using inner
    · refine Ev.step (fun k => impl_uses.l1_eq k _ _ _ _ _ _ _) (Ev.neg (by simp) ?_)
      rw [List.take_of_length_le (Nat.le_refl _), next_ok i _ hi (by omega)]
      rw [take_fold bumps e _ i hi] at ih
      exact ih
    · intro j hj ihj
      have hpj := hps _ (List.getElem_mem hj)
      have h2 := parts_le e[i]
      have hlen : (((partsOf e[i]).take j).foldl bumpU ((e.take i).foldl bumps (List.replicate e.length 0))).length = e.length := by rw [fold_bump_len, fold_bumps_len, List.length_replicate]
      refine Ev.step (fun k => impl_uses.l1_eq k _ _ _ _ _ _ _) (Ev.pos (by simpa using hj) (Ev.pos (by simp) (Ev.get hj (Ev.pos (by simpa using hpj.1) (Ev.pos (by rw [hlen]; simpa using hpj.2) (Ev.at (bump_at hpj.1 (by rw [hlen]; exact hpj.2)) (Ev.pos (by simpa using hpj.1) (Ev.pos (by rw [hlen]; simpa using hpj.2) (Ev.at (bump_at hpj.1 (by rw [hlen]; exact hpj.2)) ?_)))))))))
      rw [take_fold bumpU (partsOf e[i]) _ j hj] at ihj
      rw [next_ok j _ hj (by omega)]
      exact ihj
end Go.Proofs.Ytiofklineiioaaa.Am
end
section
/- When a list of nodes is an expression, and a tree. -/
namespace Go.Proofs.Ytiofklineiioaaa.Am
open Go
set_option linter.unusedVariables false
set_option linter.unusedSimpArgs false

/-- all nodes from place i on may stand where they stand -/
def nodesOk : List Nd → Nat → Bool
  | [], _ => true
  | n :: r, i => nodeOk n i && nodesOk r (i + 1)
theorem nodesOk_at {e : List Nd} {i : Nat} (h : i < e.length) : nodesOk (e.drop i) i = (nodeOk e[i] i && nodesOk (e.drop (i + 1)) (i + 1)) := by
  rw [drop_at e i h]; rfl
theorem inB_iff {n lo hi : Int} : inB n lo hi = true ↔ lo ≤ n ∧ n ≤ hi := by unfold inB; simp
theorem nodeOk_parts {n : Nd} {i : Nat} (h : nodeOk n i = true) : ∀ p ∈ partsOf n, 0 ≤ p ∧ p < i := by
  intro p hp
  unfold partsOf at hp
  unfold nodeOk at h
  rcases arity_cases n.1 with ⟨ha, h1, h2⟩ | ⟨ha, h1, h2⟩ | ⟨ha, h1, h2⟩ | ⟨ha, h1, h2⟩
  · rw [ha] at hp; simp at hp
  · rw [ha] at hp; simp at hp
  · have n1 : n.1 ≠ tIn := fun e => by rw [e] at h1; revert h1; decide
    have n2 : n.1 ≠ tConst := fun e => by rw [e] at h1; revert h1; decide
    rw [if_neg n1, if_neg n2, if_pos h1] at h
    rw [ha] at hp
    simp only [Bool.and_eq_true, inB_iff] at h
    simp at hp
    omega
  · obtain ⟨n1, n2, _⟩ := isTwo_not h2
    rw [if_neg n1, if_neg n2, if_neg (by simp [h1])] at h
    rw [ha] at hp
    simp only [Bool.and_eq_true, inB_iff] at h
    simp at hp
    omega
theorem nodesOk_get : ∀ (e : List Nd) (i : Nat), nodesOk e i = true → ∀ (j : Nat) (h : j < e.length), nodeOk e[j] ((i + j : Nat) : Int) = true
  | [], i, _, j, h => by simp at h
  | n :: r, i, hn, j, h => by
    simp only [nodesOk, Bool.and_eq_true] at hn
    cases j with
    | zero => simpa using hn.1
    | succ j =>
      have := nodesOk_get r (i + 1) hn.2 j (by simpa using h)
      rw [show i + (j + 1) = i + 1 + j by omega]
      simpa using this
theorem nodesOk_parts {e : List Nd} (h : nodesOk e 0 = true) : PartsIn e e.length := fun n hn p hp => by
  obtain ⟨j, hj, e1⟩ := List.getElem_of_mem hn
  have := nodesOk_get e 0 h j hj
  rw [e1] at this
  have := nodeOk_parts (i := 0 + j) this p hp
  omega
/-- is each node but the last one an operand -/
def allUsed (e : List Nd) : Bool := !decide ((0 : Int) ∈ (usesOf e).take (e.length - 1))
def exprOk (e : List Nd) : Bool := inB e.length 1 24 && (nodesOk e 0 && allUsed e)
theorem noneOf {α : Type} {e : List Nd} {g : Nat → Nat → Option Bool} (hl : e.length ≤ 1048576) (hbad : ∀ i (h : i < e.length), nodeOk e[i] i = false → Ev (fun k => g k i) false) (hgo : ∀ i (h : i < e.length), nodeOk e[i] i = true → Ev (fun k => g k (i + 1)) false → Ev (fun k => g k i) false) : ∀ (d i : Nat), i + d = e.length → nodesOk (e.drop i) i = false → Ev (fun k => g k i) false := by
  intro d
  induction d with
  | zero =>
    intro i hi h
    rw [List.drop_eq_nil_of_le (by omega)] at h
    cases h
  | succ d ih =>
    intro i hi h
    have hlt : i < e.length := by omega
    rw [nodesOk_at hlt] at h
    cases hn : nodeOk e[i] i with
    | false => exact hbad i hlt hn
    | true =>
      rw [hn, Bool.true_and] at h
      exact hgo i hlt hn (ih (i + 1) (by omega) h)
theorem exGood_ev (e : List Nd) (hl : e.length ≤ 1048576) : Ev (fun k => spec_exGood.f k e) (exprOk e) := by
  refine Ev.step (fun k => spec_exGood.eq k e) (Ev.here (l1In_f _ _ _) ?_)
  unfold exprOk
  cases hb : inB (e.length : Int) 1 24 with
  | false => exact Ev.pos rfl (Ev.ret (by simp))
  | true =>
    refine Ev.neg rfl ?_
    have hlen := inB_iff.1 hb
    rw [Bool.true_and]
    cases hn : nodesOk e 0 with
    | true =>
      have key := Ev.loop e.length (fun k i => spec_exGood.l0 k e e (e.length : Int) (i : Int)) (fun _ => allUsed e) ?_ ?_ 0 (by omega)
      · simpa using key
      · have hw : IntKind.wrap .i64 ((e.length : Int) - 1) = ((e.length - 1 : Nat) : Int) := by rw [wrap_ok (by omega) (by omega)]; omega
        refine Ev.step (fun k => spec_exGood.l0_eq k _ _ _ _) (Ev.neg (by simp) (Ev.bind (exUses_ev e hl (nodesOk_parts hn)) ?_))
        rw [hw, usesOf_len]
        refine Ev.pos (by simp) (Ev.pos (by simp) (Ev.bind (l1Has_ev _ _ (by rw [List.length_drop, List.length_take, usesOf_len]; omega)) (Ev.ret ?_)))
        simp [allUsed]
      · intro i hi ih
        have := nodesOk_get e 0 hn i hi
        rw [Nat.zero_add] at this
        refine Ev.step (fun k => spec_exGood.l0_eq k _ _ _ _) (Ev.pos (by simpa using hi) (Ev.pos (by simp) (Ev.get hi (Ev.bind (exNode_ev e[i] i (by omega) (by omega)) (Ev.neg (by rw [this]; rfl) ?_)))))
        rw [next_ok i _ hi (by omega)]
        exact ih
    | false =>
      refine noneOf (α := Nat) (e := e) (g := fun k i => spec_exGood.l0 k e e (e.length : Int) (i : Int)) hl (fun i hi hf => ?_) (fun i hi hf ih => ?_) e.length 0 (by omega) hn
      · exact Ev.step (fun k => spec_exGood.l0_eq k _ _ _ _) (Ev.pos (by simpa using hi) (Ev.pos (by simp) (Ev.get hi (Ev.bind (exNode_ev e[i] i (by omega) (by omega)) (Ev.pos (by rw [hf]; rfl) (Ev.now _))))))
      · refine Ev.step (fun k => spec_exGood.l0_eq k _ _ _ _) (Ev.pos (by simpa using hi) (Ev.pos (by simp) (Ev.get hi (Ev.bind (exNode_ev e[i] i (by omega) (by omega)) (Ev.neg (by rw [hf]; rfl) ?_)))))
        rw [next_ok i _ hi (by omega)]
        exact ih
theorem isExpr_ev (e : List Nd) (hl : e.length ≤ 1048576) : Ev (fun k => impl_IsExpr.f k e) (exprOk e) := by
  refine Ev.step (fun k => impl_IsExpr.eq k e) (Ev.here (within_f _ _ _) ?_)
  unfold exprOk
  cases hb : inB (e.length : Int) 1 24 with
  | false => exact Ev.pos rfl (Ev.ret (by simp))
  | true =>
    refine Ev.neg rfl ?_
    have hlen := inB_iff.1 hb
    rw [Bool.true_and]
    cases hn : nodesOk e 0 with
    | true =>
      have key := Ev.loop e.length (fun k i => impl_IsExpr.l0 k e e (e.length : Int) (i : Int)) (fun _ => allUsed e) ?_ ?_ 0 (by omega)
      · simpa using key
      · have hw : IntKind.wrap .i64 ((e.length : Int) - 1) = ((e.length - 1 : Nat) : Int) := by rw [wrap_ok (by omega) (by omega)]; omega
        refine Ev.step (fun k => impl_IsExpr.l0_eq k _ _ _ _) (Ev.neg (by simp) (Ev.bind (uses_ev e hl (nodesOk_parts hn)) ?_))
        rw [hw, usesOf_len]
        refine Ev.pos (by simp) (Ev.pos (by simp) (Ev.bind (containsI_ev _ _ (by rw [List.length_drop, List.length_take, usesOf_len]; omega)) (Ev.ret ?_)))
        simp [allUsed]
      · intro i hi ih
        have := nodesOk_get e 0 hn i hi
        rw [Nat.zero_add] at this
        refine Ev.step (fun k => impl_IsExpr.l0_eq k _ _ _ _) (Ev.pos (by simpa using hi) (Ev.pos (by simp) (Ev.get hi (Ev.bind (isNode_ev e[i] i (by omega) (by omega)) (Ev.neg (by rw [this]; rfl) ?_)))))
        rw [next_ok i _ hi (by omega)]
        exact ih
    | false =>
      refine noneOf (α := Nat) (e := e) (g := fun k i => impl_IsExpr.l0 k e e (e.length : Int) (i : Int)) hl (fun i hi hf => ?_) (fun i hi hf ih => ?_) e.length 0 (by omega) hn
      · exact Ev.step (fun k => impl_IsExpr.l0_eq k _ _ _ _) (Ev.pos (by simpa using hi) (Ev.pos (by simp) (Ev.get hi (Ev.bind (isNode_ev e[i] i (by omega) (by omega)) (Ev.pos (by rw [hf]; rfl) (Ev.now _))))))
      · refine Ev.step (fun k => impl_IsExpr.l0_eq k _ _ _ _) (Ev.pos (by simpa using hi) (Ev.pos (by simp) (Ev.get hi (Ev.bind (isNode_ev e[i] i (by omega) (by omega)) (Ev.neg (by rw [hf]; rfl) ?_)))))
        rw [next_ok i _ hi (by omega)]
        exact ih
end Go.Proofs.Ytiofklineiioaaa.Am
end
section
/- When an expression is a tree: the program's function and the reference's. -/
namespace Go.Proofs.Ytiofklineiioaaa.Am
open Go
set_option linter.unusedVariables false
set_option linter.unusedSimpArgs false

def Bnd (u : List Int) (m : Nat) : Prop := ∀ x ∈ u, 0 ≤ x ∧ x ≤ m
theorem bump_bnd {u : List Int} {m : Nat} (h : Bnd u m) (hm : m ≤ 1000000000) (p : Int) : Bnd (bumpU u p) (m + 1) := by
  intro x hx
  unfold bumpU at hx
  rcases List.mem_or_eq_of_mem_set hx with hx | hx
  · have := h x hx; omega
  · have hd : 0 ≤ u.getD p.toNat 0 ∧ u.getD p.toNat 0 ≤ m := by
      rw [List.getD_eq_getElem?_getD]
      cases hq : u[p.toNat]? with
      | none => simp
      | some y => exact h y (List.mem_of_getElem? hq)
    rw [hx, wrap_ok (by omega) (by omega)]
    omega
theorem fold_bnd : ∀ (l : List Int) (u : List Int) (m : Nat), Bnd u m → m + l.length ≤ 1000000000 → Bnd (l.foldl bumpU u) (m + l.length)
  | [], u, m, h, _ => h
  | p :: l, u, m, h, hm => by
    simp only [List.length_cons] at hm
    rw [List.foldl_cons, List.length_cons, show m + (l.length + 1) = (m + 1) + l.length by omega]
    exact fold_bnd l _ (m + 1) (bump_bnd h (by omega) p) (by omega)
theorem Bnd.mono {u : List Int} {m k : Nat} (h : Bnd u m) (hk : m ≤ k) : Bnd u k := fun x hx => by have := h x hx; omega
theorem folds_bnd : ∀ (l : List Nd) (u : List Int) (m : Nat), Bnd u m → m + 2 * l.length ≤ 1000000000 → Bnd (l.foldl bumps u) (m + 2 * l.length)
  | [], u, m, h, _ => h
  | n :: l, u, m, h, hm => by
    simp only [List.length_cons] at hm
    have hp := parts_le n
    rw [List.foldl_cons, List.length_cons, show m + 2 * (l.length + 1) = (m + 2) + 2 * l.length by omega]
    exact folds_bnd l _ (m + 2) ((fold_bnd (partsOf n) u m h (by omega)).mono (by omega)) (by omega)
theorem uses_bnd (e : List Nd) (hl : e.length ≤ 1048576) : Bnd (usesOf e) (2 * e.length) := by
  have := folds_bnd e (List.replicate e.length 0) 0 (fun x hx => by have := List.eq_of_mem_replicate hx; omega) (by omega)
  simpa [usesOf] using this
/-- is each node at most once an operand -/
def once (e : List Nd) : Bool := (usesOf e).all fun x => decide (x ≤ 1)
theorem l1All_ev (l : List Int) (hl : l.length ≤ 9223372036854775000) (hb : ∀ x ∈ l, 0 ≤ x) : Ev (fun k => spec_l1All.f k l 0 1) (l.all fun x => decide (x ≤ 1)) := by
  refine Ev.step (fun k => spec_l1All.eq k l 0 1) ?_
  have key := Ev.loop l.length (fun k i => spec_l1All.l0 k 0 1 l (l.length : Int) (i : Int)) (fun i => (l.drop i).all fun x => decide (x ≤ 1)) ?_ ?_ 0 (by omega)
  · exact key
  · exact Ev.step (fun k => spec_l1All.l0_eq k _ _ _ _ _) (Ev.neg (by simp) (Ev.ret (by simp)))
  · intro i hi ih
    refine Ev.step (fun k => spec_l1All.l0_eq k _ _ _ _ _) (Ev.pos (by simpa using hi) (Ev.pos (by simp) (Ev.get hi (Ev.here (l1In_f _ _ _) ?_))))
    have h0 := hb _ (List.getElem_mem hi)
    rw [next_ok i _ hi hl]
    rw [drop_at _ _ hi, List.all_cons]
    by_cases c : l[i] ≤ 1
    · exact Ev.neg (by rw [inB_iff.2 ⟨h0, c⟩]; rfl) (Ev.eq ih (by simp [c]))
    · have : inB l[i] 0 1 = false := by
        cases hq : inB l[i] 0 1 with
        | false => rfl
        | true => exact absurd (inB_iff.1 hq).2 c
      exact Ev.pos (by rw [this]; rfl) (Ev.ret (by simp [c]))
theorem many_ev (l : List Int) (hl : l.length ≤ 9223372036854775000) : Ev (fun k => slices_ContainsFunc_int_isTree.f k l) (!(l.all fun x => decide (x ≤ 1))) := by
  have key : ∀ (d : Nat) (i : Nat), i + d = l.length → ∃ r : Int, Ev (fun k => slices_IndexFunc_int_isTree.l0 k l (l.length : Int) (i : Int)) r ∧ (0 ≤ r ↔ ((l.drop i).all fun x => decide (x ≤ 1)) = false) := by
    intro d
    induction d with
    | zero =>
      intro i h
      refine ⟨-1, Ev.step (fun k => slices_IndexFunc_int_isTree.l0_eq k _ _ _) (Ev.neg (by simp; omega) (Ev.now _)), ?_⟩
      rw [List.drop_eq_nil_of_le (by omega)]; simp
    | succ d ih =>
      intro i h
      have hi : i < l.length := by omega
      by_cases c : l[i] > 1
      · refine ⟨i, Ev.step (fun k => slices_IndexFunc_int_isTree.l0_eq k _ _ _) (Ev.pos (by simpa using hi) (Ev.pos (by simp) (Ev.get hi (Ev.here (impl_isTree_1.eq _) (Ev.pos (by simpa using c) (Ev.now _)))))), ?_⟩
        have c' : ¬ l[i] ≤ 1 := by omega
        rw [drop_at _ _ hi, List.all_cons]; simp [c']
      · obtain ⟨r, hev, hiff⟩ := ih (i + 1) (by omega)
        refine ⟨r, Ev.step (fun k => slices_IndexFunc_int_isTree.l0_eq k _ _ _) (Ev.pos (by simpa using hi) (Ev.pos (by simp) (Ev.get hi (Ev.here (impl_isTree_1.eq _) (Ev.neg (by simpa using c) (by rw [next_ok i _ hi hl]; exact hev)))))), ?_⟩
        have c' : l[i] ≤ 1 := by omega
        rw [hiff, drop_at _ _ hi, List.all_cons]; simp [c']
  obtain ⟨r, hev, hiff⟩ := key l.length 0 (by omega)
  refine Ev.step (fun k => slices_ContainsFunc_int_isTree.eq k l) (Ev.bind (b := r) (Ev.step (fun k => slices_IndexFunc_int_isTree.eq k l) hev) (Ev.ret ?_))
  rw [List.drop_zero] at hiff
  cases hq : l.all fun x => decide (x ≤ 1) with
  | true => rw [hq] at hiff; have : ¬ 0 ≤ r := fun h => by have := hiff.1 h; cases this
            simp [this]
  | false => rw [hq] at hiff; have : 0 ≤ r := hiff.2 rfl
             simp [this]
theorem exTree_ev (e : List Nd) (hl : e.length ≤ 1048576) (hg : exprOk e = true) : Ev (fun k => spec_exTree.f k e) (once e) := by
  unfold exprOk at hg
  simp only [Bool.and_eq_true] at hg
  exact Ev.step (fun k => spec_exTree.eq k e) (Ev.bind (exUses_ev e hl (nodesOk_parts hg.2.1)) (Ev.bind (l1All_ev _ (by rw [usesOf_len]; omega) fun x hx => (uses_bnd e hl x hx).1) (Ev.now _)))
theorem isTree_ev (e : List Nd) (hl : e.length ≤ 1048576) : Ev (fun k => impl_isTree.f k e) (exprOk e && once e) := by
  refine Ev.step (fun k => impl_isTree.eq k e) (Ev.bind (isExpr_ev e hl) ?_)
  cases hg : exprOk e with
  | false => exact Ev.neg rfl (Ev.ret (by simp))
  | true =>
    have hg' := hg
    unfold exprOk at hg'
    simp only [Bool.and_eq_true] at hg'
    exact Ev.pos rfl (Ev.bind (uses_ev e hl (nodesOk_parts hg'.2.1)) (Ev.bind (many_ev _ (by rw [usesOf_len]; omega)) (Ev.ret (by simp [once]))))
theorem exprOk_parts {e : List Nd} (h : exprOk e = true) : nodesOk e 0 = true ∧ 1 ≤ e.length ∧ e.length ≤ 24 := by
  unfold exprOk at h
  simp only [Bool.and_eq_true, inB_iff] at h
  exact ⟨h.2.1, by omega, by omega⟩
end Go.Proofs.Ytiofklineiioaaa.Am
end
section
/- Trees that may be asked for. -/
namespace Go.Proofs.Ytiofklineiioaaa.Am
open Go
set_option linter.unusedVariables false
set_option linter.unusedSimpArgs false

theorem hole_val {n : Nd} {i : Int} (h : nodeOk n i = true) (c : n.1 = tIn) : ∃ v : Nat, v < 2 ∧ n.2.2.2 = (v : Int) := by
  unfold nodeOk at h
  rw [if_pos c] at h
  simp only [Bool.and_eq_true, inB_iff] at h
  exact ⟨n.2.2.2.toNat, by omega, by omega⟩
theorem last_w {n : Nat} (h0 : 1 ≤ n) (h1 : n ≤ 1048576) : IntKind.wrap .i64 ((n : Int) - 1) = ((n - 1 : Nat) : Int) := by
  rw [wrap_ok (by omega) (by omega)]; omega
/-- a tree that may be asked for -/
def treeOk (e : List Nd) : Bool := exprOk e && once e
theorem treeOk_parts {e : List Nd} (h : treeOk e = true) : nodesOk e 0 = true ∧ 1 ≤ e.length ∧ e.length ≤ 24 ∧ once e = true := by
  unfold treeOk at h
  rw [Bool.and_eq_true] at h
  obtain ⟨h1, h2, h3⟩ := exprOk_parts h.1
  exact ⟨h1, h2, h3, h.2⟩
theorem isTree_v (e : List Nd) (hl : e.length ≤ 1048576) : impl_isTree.v e = some (treeOk e) := ev_lim (isTree_ev e hl)
theorem exGood_v (e : List Nd) (hl : e.length ≤ 1048576) : spec_exGood.v e = some (exprOk e) := ev_lim (exGood_ev e hl)
theorem isExpr_v (e : List Nd) (hl : e.length ≤ 1048576) : impl_IsExpr.v e = some (exprOk e) := ev_lim (isExpr_ev e hl)
theorem exTree_v (e : List Nd) (hl : e.length ≤ 1048576) (hg : exprOk e = true) : spec_exTree.v e = some (once e) := ev_lim (exTree_ev e hl hg)
end Go.Proofs.Ytiofklineiioaaa.Am
end
section
/- What ops make of words, what expressions are for inputs, their tables: the program's functions and the reference's answer alike. -/
namespace Go.Proofs.Ytiofklineiioaaa.Am
open Go
set_option linter.unusedVariables false
set_option linter.unusedSimpArgs false

def word (x : Int) : Prop := 0 ≤ x ∧ x ≤ 63
theorem and63 (x : BitVec 64) : ((x &&& BitVec.ofInt 64 63).toNat) ≤ 63 := by
  rw [BitVec.toNat_and]
  exact Nat.and_le_right
theorem wand63 (x : BitVec 64) : word (IntKind.wrap .i64 (((x &&& BitVec.ofInt 64 63).toNat : Nat) : Int)) := by
  have := and63 x
  rw [wrap_ok (by omega) (by omega)]
  exact ⟨by omega, by omega⟩
def isW (x : Option Int) : Prop := ∃ r, x = some r ∧ word r
theorem isW_ite {c : Prop} [Decidable c] {x y : Option Int} (hx : isW x) (hy : isW y) : isW (if c then x else y) := by split <;> assumption
theorem isW_and (x : BitVec 64) : isW (some (IntKind.wrap .i64 (((x &&& BitVec.ofInt 64 63).toNat : Nat) : Int))) := ⟨_, rfl, wand63 x⟩
theorem apply_some (s : ByteArray) (a b : Int) (hb : 0 ≤ b) : isW (impl_apply.f s a b) := by
  rw [impl_apply.eq]
  simp only [impl_bit.eq, br_if, bd_ite, bd_s, hb, decide_true, if_true]
  repeat' first | exact isW_and _ | apply isW_ite
noncomputable def appP (s : ByteArray) (a b : Int) : Int := (impl_apply.f s a b).getD 0
theorem apply_f (s : ByteArray) (a b : Int) (hb : 0 ≤ b) : impl_apply.f s a b = some (appP s a b) := by
  obtain ⟨r, h, _⟩ := apply_some s a b hb
  unfold appP; rw [h]; rfl
theorem appP_word (s : ByteArray) (a b : Int) (hb : 0 ≤ b) : word (appP s a b) := by
  obtain ⟨r, h, hw⟩ := apply_some s a b hb
  unfold appP; rw [h]; exact hw
theorem exApply_eq (s : ByteArray) (a b : Int) : spec_exApply.f s a b = impl_apply.f s a b := by
  rw [spec_exApply.eq, impl_apply.eq]
  simp only [impl_bit.eq, br_if, bd_ite, bd_s]
  repeat' split
  all_goals first | rfl | simp_all
theorem exApply_f (s : ByteArray) (a b : Int) (hb : 0 ≤ b) : spec_exApply.f s a b = some (appP s a b) := by rw [exApply_eq, apply_f s a b hb]
theorem appP_one {s : ByteArray} (h : isOne s = true) (a b : Int) : appP s a b = appP s a 0 := by
  unfold appP
  rcases isOne_mem h with rfl | rfl <;> rw [impl_apply.eq, impl_apply.eq] <;> simp [br_if, seq_beq]

/-! ### the values of all nodes -/
noncomputable def nVal (x0 x1 : Int) (o : List Int) (n : Nd) : Int :=
  if n.1 = tConst then n.2.2.2 else if n.1 = tIn then (if n.2.2.2 = 0 then x0 else x1)
  else if isOne n.1 = true then appP n.1 (o.getD n.2.1.toNat 0) 0 else appP n.1 (o.getD n.2.1.toNat 0) (o.getD n.2.2.1.toNat 0)
noncomputable def valsP (x0 x1 : Int) (e : List Nd) : List Int := e.foldl (fun o n => o ++ [nVal x0 x1 o n]) []
theorem vals_len (x0 x1 : Int) : ∀ (e : List Nd) (o : List Int), (e.foldl (fun o n => o ++ [nVal x0 x1 o n]) o).length = o.length + e.length
  | [], o => rfl
  | n :: r, o => by rw [List.foldl_cons, vals_len x0 x1 r]; simp; omega
theorem valsP_len (x0 x1 : Int) (e : List Nd) : (valsP x0 x1 e).length = e.length := by unfold valsP; rw [vals_len]; simp
theorem valsP_take (x0 x1 : Int) {e : List Nd} {i : Nat} (h : i < e.length) : valsP x0 x1 (e.take (i + 1)) = valsP x0 x1 (e.take i) ++ [nVal x0 x1 (valsP x0 x1 (e.take i)) e[i]] := take_fold _ _ _ i h
def words (l : List Int) : Prop := ∀ x ∈ l, word x
theorem words_get {l : List Int} (h : words l) (j : Nat) : word (l.getD j 0) := by
  rw [List.getD_eq_getElem?_getD]
  by_cases c : j < l.length
  · rw [List.getElem?_eq_getElem c]; exact h _ (List.getElem_mem c)
  · rw [List.getElem?_eq_none (Nat.le_of_not_lt c)]; exact ⟨by decide, by decide⟩
theorem nVal_word {x0 x1 : Int} (h0 : word x0) (h1 : word x1) {o : List Int} (ho : words o) {n : Nd} {i : Int} (hn : nodeOk n i = true) : word (nVal x0 x1 o n) := by
  unfold nVal
  split
  · rename_i c
    unfold nodeOk at hn
    rw [if_neg (by rw [c]; decide), if_pos c] at hn
    simp only [Bool.and_eq_true, inB_iff] at hn
    exact hn.2
  · split
    · split
      · exact h0
      · exact h1
    · split
      · exact appP_word _ _ _ (by omega)
      · exact appP_word _ _ _ (words_get ho _).1
theorem valsP_words {x0 x1 : Int} (h0 : word x0) (h1 : word x1) {e : List Nd} (hn : nodesOk e 0 = true) : ∀ i, i ≤ e.length → words (valsP x0 x1 (e.take i)) := by
  intro i
  induction i with
  | zero => intro _ x hx; simp [valsP] at hx
  | succ i ih =>
    intro hi
    have ih := ih (by omega)
    rw [valsP_take x0 x1 (by omega)]
    intro x hx
    rcases List.mem_append.1 hx with hx | hx
    · exact ih x hx
    · simp only [List.mem_singleton] at hx
      subst hx
      have := nodesOk_get e 0 hn i (by omega)
      exact nVal_word h0 h1 ih this
theorem in_val {n : Nd} {i : Int} (h : nodeOk n i = true) (c : n.1 = tIn) : n.2.2.2 = 0 ∨ n.2.2.2 = 1 := by
  obtain ⟨v, hv, e⟩ := hole_val h c
  rcases Nat.lt_or_ge v 1 with q | q
  · exact .inl (by omega)
  · exact .inr (by omega)
theorem room8 {n m : Nat} (hn : n ≤ 1000000) (hm : m ≤ 1000000) : decide (n + m ≤ 35184372088832 / (8 + 1)) = true := decide_eq_true (by omega)
theorem getD_at {l : List Int} {p : Int} (h0 : 0 ≤ p) (h : p < l.length) : l[p.toNat]? = some (l.getD p.toNat 0) := by
  have hp : p.toNat < l.length := by omega
  rw [List.getD_eq_getElem?_getD, List.getElem?_eq_getElem hp]; rfl
theorem one_parts {n : Nd} {i : Nat} (h : nodeOk n i = true) (c1 : n.1 ≠ tIn) (c2 : n.1 ≠ tConst) : (0 ≤ n.2.1 ∧ n.2.1 < i) ∧ ((isOne n.1 = true ∧ n.2.2.1 = 0) ∨ (isOne n.1 = false ∧ 0 ≤ n.2.2.1 ∧ n.2.2.1 < i)) := by
  unfold nodeOk at h
  rw [if_neg c1, if_neg c2] at h
  split at h
  · rename_i h1
    simp only [Bool.and_eq_true, inB_iff, decide_eq_true_iff] at h
    exact ⟨by omega, .inl ⟨h1, by omega⟩⟩
  · rename_i h1
    simp only [Bool.and_eq_true, inB_iff, decide_eq_true_iff] at h
    exact ⟨by omega, .inr ⟨by simpa using h1, by omega⟩⟩
theorem exValues_v {e : List Nd} (hn : nodesOk e 0 = true) (hl : e.length ≤ 1000000) {x0 x1 : Int} (h0 : word x0) (h1 : word x1) : spec_exValues.v e x0 x1 = some (valsP x0 x1 e) := by
  have key : ∀ (d i : Nat), i + d = e.length → spec_exValues.v0 x0 x1 e (e.length : Int) (i : Int) (valsP x0 x1 (e.take i)) = some (valsP x0 x1 e) := by
    intro d
    induction d with
    | zero =>
      intro i hi
      refine spec_exValues.v0s _ _ _ _ _ _ ?_
      rw [br_f (by simp; omega), List.take_of_length_le (by omega)]
    | succ d ih =>
      intro i hi
      have hlt : i < e.length := by omega
      have hk := nodesOk_get e 0 hn i hlt
      rw [Nat.zero_add] at hk
      have hw := valsP_words h0 h1 hn i (by omega)
      have hvl : (valsP x0 x1 (e.take i)).length = i := by rw [valsP_len, List.length_take]; omega
      have go := ih (i + 1) (by omega)
      rw [valsP_take x0 x1 hlt] at go
      refine spec_exValues.v0s _ _ _ _ _ _ ?_
      rw [br_t (by simpa using hlt), br_t (by simp), Int.toNat_natCast, gt_at _ hlt, next_ok i _ hlt (by omega), seq_beq, seq_beq]
      have rm : ∀ x : Int, decide ((valsP x0 x1 (e.take i)).length + [x].length ≤ 35184372088832 / (8 + 1)) = true := fun x => room8 (by omega) (by simp)
      unfold nVal at go
      by_cases c2 : e[i].1 = tConst
      · rw [if_pos c2] at go
        rw [br_t (by simpa using c2), br_t (rm _)]; exact go
      · rw [if_neg c2] at go
        rw [br_f (by simpa using c2)]
        by_cases c1 : e[i].1 = tIn
        · rw [if_pos c1] at go
          rw [br_t (by simpa using c1)]
          by_cases v : e[i].2.2.2 = 0
          · rw [if_pos v] at go
            rw [br_t (by simpa using v), br_t (rm _)]; exact go
          · rw [if_neg v] at go
            rw [br_f (by simpa using v), br_t (by simpa using c1), br_t (rm _)]; exact go
        · rw [if_neg c1] at go
          obtain ⟨pa, pb⟩ := one_parts hk c1 c2
          rw [br_f (by simpa using c1), br_f (by simpa using c1), exOne_f, bd_s]
          rcases pb with ⟨ho, hb⟩ | ⟨ho, hb⟩
          · rw [if_pos ho] at go
            rw [br_t ho, br_t (by simpa using pa.1), br_t (by rw [hvl]; simpa using pa.2), gt_some (getD_at pa.1 (by rw [hvl]; exact pa.2)), exApply_f _ _ _ (by omega), bd_s, br_t (rm _)]
            exact go
          · rw [if_neg (by rw [ho]; decide)] at go
            rw [br_f ho, br_t (by simpa using pa.1), br_t (by rw [hvl]; simpa using pa.2), gt_some (getD_at pa.1 (by rw [hvl]; exact pa.2)), br_t (by simpa using hb.1), br_t (by rw [hvl]; simpa using hb.2), gt_some (getD_at hb.1 (by rw [hvl]; exact hb.2)), exApply_f _ _ _ (words_get hw _).1, bd_s, br_t (rm _)]
            exact go
  exact spec_exValues.vs _ _ _ (key e.length 0 (by omega))
theorem get_pad {l : List Int} {p : Int} (h0 : 0 ≤ p) (h : p < l.length) (m : Nat) : (l ++ List.replicate m (0 : Int))[p.toNat]? = some (l.getD p.toNat 0) := by
  rw [List.getElem?_append_left (by omega)]
  exact getD_at h0 h
theorem set_pad (l : List Int) (m : Nat) (x : Int) : (l ++ List.replicate (m + 1) (0 : Int)).set l.length x = (l ++ [x]) ++ List.replicate m 0 := by
  rw [List.replicate_succ, set_mid, List.append_assoc]; rfl
theorem values_v {e : List Nd} (hn : nodesOk e 0 = true) (hl : e.length ≤ 1000000) {x0 x1 : Int} (h0 : word x0) (h1 : word x1) : impl_values.v e x0 x1 = some (valsP x0 x1 e) := by
  have key : ∀ (d i : Nat), i + d = e.length → impl_values.v0 x0 x1 e (e.length : Int) (i : Int) (valsP x0 x1 (e.take i) ++ List.replicate d 0) = some (valsP x0 x1 e) := by
    intro d
    induction d with
    | zero =>
      intro i hi
      refine impl_values.v0s _ _ _ _ _ _ ?_
      rw [br_f (by simp; omega), List.take_of_length_le (by omega)]
      simp
    | succ d ih =>
      intro i hi
      have hlt : i < e.length := by omega
      have hk := nodesOk_get e 0 hn i hlt
      rw [Nat.zero_add] at hk
      have hw := valsP_words h0 h1 hn i (by omega)
      have hvl : (valsP x0 x1 (e.take i)).length = i := by rw [valsP_len, List.length_take]; omega
      have go := ih (i + 1) (by omega)
      rw [valsP_take x0 x1 hlt] at go
      have hs : ∀ x, (valsP x0 x1 (e.take i) ++ List.replicate (d + 1) (0 : Int)).set i x = (valsP x0 x1 (e.take i) ++ [x]) ++ List.replicate d 0 := fun x => by
        have := set_pad (valsP x0 x1 (e.take i)) d x
        rwa [hvl] at this
      have hln : (valsP x0 x1 (e.take i) ++ List.replicate (d + 1) (0 : Int)).length = e.length := by rw [List.length_append, hvl, List.length_replicate]; omega
      have hgi : ∃ z, (valsP x0 x1 (e.take i) ++ List.replicate (d + 1) (0 : Int))[i]? = some z := ⟨_, List.getElem?_eq_getElem (by rw [hln]; exact hlt)⟩
      obtain ⟨z, hz⟩ := hgi
      refine impl_values.v0s _ _ _ _ _ _ ?_
      rw [br_t (by simpa using hlt), br_t (by simp), Int.toNat_natCast, gt_at _ hlt, next_ok i _ hlt (by omega), seq_beq, seq_beq]
      unfold nVal at go
      by_cases c1 : e[i].1 = tIn
      · have c2 : ¬ e[i].1 = tConst := by rw [c1]; decide
        rw [if_neg c2, if_pos c1] at go
        rw [br_t (by simpa using c1)]
        rcases in_val hk c1 with v | v
        · rw [if_pos v] at go
          rw [v, br_t (by simp), br_t (by simp), show (0 : Int).toNat = 0 from rfl, gt_zero, br_t (by simp), br_t (by rw [hln]; simpa using hlt), gt_some hz, hs]
          exact go
        · rw [if_neg (by omega)] at go
          rw [v, br_t (by simp), br_t (by simp), show (1 : Int).toNat = 1 from rfl, gt_one, br_t (by simp), br_t (by rw [hln]; simpa using hlt), gt_some hz, hs]
          exact go
      · rw [br_f (by simpa using c1)]
        by_cases c2 : e[i].1 = tConst
        · rw [if_pos c2] at go
          rw [br_t (by simpa using c2), br_t (by simp), br_t (by rw [hln]; simpa using hlt), gt_some hz, hs]
          exact go
        · rw [if_neg c2, if_neg c1] at go
          rw [br_f (by simpa using c2)]
          obtain ⟨pa, pb⟩ := one_parts hk c1 c2
          have fin : ∀ b : Int, b = e[i].2.2.1 → 0 ≤ b → b < e.length → ∀ y, (valsP x0 x1 (e.take i) ++ List.replicate (d + 1) (0 : Int))[b.toNat]? = some y → 0 ≤ y → appP e[i].1 ((valsP x0 x1 (e.take i)).getD e[i].2.1.toNat 0) y = (if isOne e[i].1 = true then appP e[i].1 ((valsP x0 x1 (e.take i)).getD e[i].2.1.toNat 0) 0 else appP e[i].1 ((valsP x0 x1 (e.take i)).getD e[i].2.1.toNat 0) ((valsP x0 x1 (e.take i)).getD e[i].2.2.1.toNat 0)) →
              (br (decide ((0 : Int) ≤ e[i].2.1)) (br (decide (e[i].2.1 < (((valsP x0 x1 (e.take i) ++ List.replicate (d + 1) (0 : Int)).length : Nat) : Int))) (gt (valsP x0 x1 (e.take i) ++ List.replicate (d + 1) (0 : Int)) (Int.toNat e[i].2.1) fun r4 => br (decide ((0 : Int) ≤ e[i].2.2.1)) (br (decide (e[i].2.2.1 < (((valsP x0 x1 (e.take i) ++ List.replicate (d + 1) (0 : Int)).length : Nat) : Int))) (gt (valsP x0 x1 (e.take i) ++ List.replicate (d + 1) (0 : Int)) (Int.toNat e[i].2.2.1) fun r5 => bd (impl_apply.f e[i].1 r4 r5) fun r6 => br (decide ((0 : Int) ≤ (i : Int))) (br (decide ((i : Int) < (((valsP x0 x1 (e.take i) ++ List.replicate (d + 1) (0 : Int)).length : Nat) : Int))) (gt (valsP x0 x1 (e.take i) ++ List.replicate (d + 1) (0 : Int)) i fun r7 => impl_values.v0 x0 x1 e (e.length : Int) ((i + 1 : Nat) : Int) ((valsP x0 x1 (e.take i) ++ List.replicate (d + 1) (0 : Int)).set i r6)) none) none) none) none) none) none) = some (valsP x0 x1 e) := by
            intro b hb b0 b1 y hy y0 hq
            subst hb
            rw [br_t (by simpa using pa.1), br_t (by rw [hln]; simp; omega), gt_some (get_pad pa.1 (by rw [hvl]; exact pa.2) _), br_t (by simpa using b0), br_t (by rw [hln]; simpa using b1), gt_some hy, apply_f _ _ _ y0, bd_s, br_t (by simp), br_t (by rw [hln]; simpa using hlt), gt_some hz, hs, hq]
            exact go
          rcases pb with ⟨ho, hb⟩ | ⟨ho, hb⟩
          · -- one operand: the other place is 0
            have h00 : ∃ y, (valsP x0 x1 (e.take i) ++ List.replicate (d + 1) (0 : Int))[(0 : Int).toNat]? = some y ∧ 0 ≤ y := by
              by_cases hi0 : i = 0
              · refine ⟨0, ?_, by omega⟩
                have : valsP x0 x1 (e.take i) = [] := List.length_eq_zero_iff.1 (by omega)
                rw [this]; rfl
              · exact ⟨_, get_pad (p := 0) (by omega) (by omega) _, (words_get hw _).1⟩
            obtain ⟨y, hy, hy0⟩ := h00
            exact fin e[i].2.2.1 rfl (by omega) (by omega) y (by rw [hb]; exact hy) hy0 (by rw [if_pos ho, appP_one ho])
          · exact fin e[i].2.2.1 rfl hb.1 (by omega) _ (get_pad hb.1 (by rw [hvl]; exact hb.2) _) (words_get hw _).1 (by rw [if_neg (by rw [ho]; decide)])
  refine impl_values.vs _ _ _ ?_
  rw [br_t (by simp), br_t (by simp; omega), Int.toNat_natCast]
  have := key e.length 0 (by omega)
  simpa [valsP] using this
noncomputable def evalP (e : List Nd) (x0 x1 : Int) : Int := (valsP x0 x1 e).getD (e.length - 1) 0
theorem evalP_word {e : List Nd} (hn : nodesOk e 0 = true) {x0 x1 : Int} (h0 : word x0) (h1 : word x1) : word (evalP e x0 x1) := by
  have := valsP_words h0 h1 hn e.length (Nat.le_refl _)
  rw [List.take_of_length_le (Nat.le_refl _)] at this
  exact words_get this _
theorem eval_last {e : List Nd} (h1 : 1 ≤ e.length) (x0 x1 : Int) : (valsP x0 x1 e)[e.length - 1]? = some (evalP e x0 x1) := by
  unfold evalP
  have hl := valsP_len x0 x1 e
  rw [List.getD_eq_getElem?_getD, List.getElem?_eq_getElem (by omega)]; rfl
theorem exAt_v {e : List Nd} (hn : nodesOk e 0 = true) (hl1 : 1 ≤ e.length) (hl : e.length ≤ 1000000) {x0 x1 : Int} (h0 : word x0) (h1 : word x1) : spec_exAt.v e x0 x1 = some (evalP e x0 x1) := by
  refine spec_exAt.vs _ _ _ ?_
  rw [exValues_v hn hl h0 h1, bd_s, last_w hl1 (by omega), br_t (by simp), Int.toNat_natCast, gt_some (eval_last hl1 x0 x1)]
theorem eval_v {e : List Nd} (hn : nodesOk e 0 = true) (hl1 : 1 ≤ e.length) (hl : e.length ≤ 1000000) {x0 x1 : Int} (h0 : word x0) (h1 : word x1) : impl_eval.v e x0 x1 = some (evalP e x0 x1) := by
  refine impl_eval.vs _ _ _ ?_
  rw [values_v hn hl h0 h1, bd_s, last_w hl1 (by omega), br_t (by simp), Int.toNat_natCast, gt_some (eval_last hl1 x0 x1)]
/-! ### tables -/
noncomputable def tabU (e : List Nd) (m : Nat) : List Int := (List.range m).map fun i => evalP e ((i / 64 : Nat) : Int) ((i % 64 : Nat) : Int)
theorem tabU_len (e : List Nd) (m : Nat) : (tabU e m).length = m := by simp [tabU]
theorem tabU_zero (e : List Nd) : tabU e (64 * 0) = [] := rfl
theorem tabU_succ (e : List Nd) {a b : Nat} (hb : b < 64) : tabU e (64 * a + b) ++ [evalP e (a : Int) (b : Int)] = tabU e (64 * a + (b + 1)) := by
  unfold tabU
  rw [show 64 * a + (b + 1) = (64 * a + b) + 1 by omega, List.range_succ, List.map_append]
  simp only [List.map_cons, List.map_nil]
  rw [show (64 * a + b) / 64 = a by omega, show (64 * a + b) % 64 = b by omega]
noncomputable def tabP (e : List Nd) : List Int := tabU e 4096
theorem exTable_v {e : List Nd} (hn : nodesOk e 0 = true) (hl1 : 1 ≤ e.length) (hl : e.length ≤ 1000000) : spec_exTable.v e = some (tabP e) := by
  have outer : ∀ (d a : Nat), a + d = 64 → spec_exTable.v0 e (a : Int) (tabU e (64 * a)) = some (tabP e) := by
    intro d
    induction d with
    | zero =>
      intro a ha
      obtain rfl : a = 64 := by omega
      exact spec_exTable.v0s _ _ _ (br_f (by decide))
    | succ d ih =>
      intro a ha
      have inner : ∀ (c b : Nat), b + c = 64 → spec_exTable.v1 e (a : Int) (b : Int) (tabU e (64 * a + b)) = some (tabP e) := by
        intro c
        induction c with
        | zero =>
          intro b hb
          obtain rfl : b = 64 := by omega
          refine spec_exTable.v1s _ _ _ _ ?_
          rw [br_f (by decide), next_ok a 64 (by omega) (by omega)]
          exact ih (a + 1) (by omega)
        | succ c ihc =>
          intro b hb
          refine spec_exTable.v1s _ _ _ _ ?_
          rw [br_t (decide_eq_true (by omega)), exAt_v hn hl1 hl ⟨by omega, by omega⟩ ⟨by omega, by omega⟩, bd_s, br_t (room8 (by rw [tabU_len]; omega) (by simp)), next_ok b 64 (by omega) (by omega), tabU_succ e (by omega)]
          exact ihc (b + 1) (by omega)
      refine spec_exTable.v0s _ _ _ ?_
      rw [br_t (decide_eq_true (by omega))]
      exact inner 64 0 (by omega)
  have h := outer 64 0 (by omega)
  rw [tabU_zero] at h
  exact spec_exTable.vs _ h
theorem table_v {e : List Nd} (hn : nodesOk e 0 = true) (hl1 : 1 ≤ e.length) (hl : e.length ≤ 1000000) : impl_tableOf.v e = some (tabP e) := by
  have outer : ∀ (d a : Nat), a + d = 64 → impl_table.v0 e (a : Int) (tabU e (64 * a)) = some (tabP e, ()) := by
    intro d
    induction d with
    | zero =>
      intro a ha
      obtain rfl : a = 64 := by omega
      exact impl_table.v0s _ _ _ (br_f (by decide))
    | succ d ih =>
      intro a ha
      have inner : ∀ (c b : Nat), b + c = 64 → impl_table.v1 e (a : Int) (a : Int) (b : Int) (tabU e (64 * a + b)) = some (tabP e, ()) := by
        intro c
        induction c with
        | zero =>
          intro b hb
          obtain rfl : b = 64 := by omega
          refine impl_table.v1s _ _ _ _ _ ?_
          rw [br_f (by decide), next_ok a 64 (by omega) (by omega)]
          exact ih (a + 1) (by omega)
        | succ c ihc =>
          intro b hb
          refine impl_table.v1s _ _ _ _ _ ?_
          rw [br_t (decide_eq_true (by omega)), show impl_tableOf_1.v (a : Int) (b : Int) e = some (evalP e (a : Int) (b : Int)) from impl_tableOf_1.vs _ _ _ (by rw [eval_v hn hl1 hl ⟨by omega, by omega⟩ ⟨by omega, by omega⟩]; rfl), bd_s, br_t (room8 (by rw [tabU_len]; omega) (by simp)), next_ok b 64 (by omega) (by omega), tabU_succ e (by omega)]
          exact ihc (b + 1) (by omega)
      refine impl_table.v0s _ _ _ ?_
      rw [br_t (decide_eq_true (by omega))]
      exact inner 64 0 (by omega)
  have h := outer 64 0 (by omega)
  rw [tabU_zero] at h
  exact impl_tableOf.vs _ (by rw [impl_table.vs _ h, bd_s])
end Go.Proofs.Ytiofklineiioaaa.Am
end
section
/- What is drawn off bytes: a cursor, numbers. -/
namespace Go.Proofs.Ytiofklineiioaaa.Am
open Go
set_option linter.unusedVariables false
set_option linter.unusedSimpArgs false

abbrev Cur := List Int × Int × Int
/-- a cursor over bytes that stands at n at most -/
def Cu (n : Int) (c : Cur) : Prop := (∀ x ∈ c.1, 0 ≤ x ∧ x ≤ 255) ∧ 0 ≤ c.2.1 ∧ c.2.1 ≤ n
/-- something is drawn -/
def Dr {α : Type} (x : Option (α × Cur)) (n : Int) (P : α → Prop) : Prop := ∃ r c, x = some (r, c) ∧ P r ∧ Cu n c
theorem Cu.mono {n m : Int} {c : Cur} (h : Cu n c) (hm : n ≤ m) : Cu m c := ⟨h.1, h.2.1, by have := h.2.2; omega⟩
section
variable {α β : Type}
theorem Dr.ret {r : α} {c : Cur} {n m : Int} {P : α → Prop} (hc : Cu n c) (hm : n ≤ m) (hr : P r) : Dr (some (r, c)) m P := ⟨r, c, rfl, hr, hc.mono hm⟩
theorem Dr.bd {x : Option (α × Cur)} {g : α × Cur → Option (β × Cur)} {n m : Int} {P : α → Prop} {Q : β → Prop} (h : Dr x n P) (k : ∀ r c, P r → Cu n c → Dr (g (r, c)) m Q) : Dr (Am.bd x g) m Q := by
  obtain ⟨r, c, e, hr, hc⟩ := h
  obtain ⟨s, d, e2, hs, hd⟩ := k r c hr hc
  exact ⟨s, d, by rw [e]; exact e2, hs, hd⟩
theorem Dr.here {γ : Type} {x : Option γ} {v : γ} {g : γ → Option (β × Cur)} {m : Int} {Q : β → Prop} (e : x = some v) (k : Dr (g v) m Q) : Dr (Am.bd x g) m Q := by rw [e]; exact k
theorem Dr.br {b : Bool} {x y : Option (β × Cur)} {m : Int} {Q : β → Prop} (h1 : b = true → Dr x m Q) (h2 : b = false → Dr y m Q) : Dr (Am.br b x y) m Q := by
  cases b with
  | true => exact h1 rfl
  | false => exact h2 rfl
theorem Dr.pos {b : Bool} {x y : Option (β × Cur)} {m : Int} {Q : β → Prop} (hb : b = true) (h : Dr x m Q) : Dr (Am.br b x y) m Q := by rw [br_t hb]; exact h
theorem Dr.neg {b : Bool} {x y : Option (β × Cur)} {m : Int} {Q : β → Prop} (hb : b = false) (h : Dr y m Q) : Dr (Am.br b x y) m Q := by rw [br_f hb]; exact h
theorem Dr.gt {xs : List α} {j : Nat} {f : α → Option (β × Cur)} {m : Int} {Q : β → Prop} (hj : j < xs.length) (h : Dr (f xs[j]) m Q) : Dr (Am.gt xs j f) m Q := by rw [gt_at _ hj]; exact h
theorem Dr.imp {x : Option (α × Cur)} {n m : Int} {P Q : α → Prop} (h : Dr x n P) (hm : n ≤ m) (hp : ∀ r, P r → Q r) : Dr x m Q := by
  obtain ⟨r, c, e, hr, hc⟩ := h
  exact ⟨r, c, e, hp r hr, hc.mono hm⟩
end
theorem byteAnd (x : Int) : 0 ≤ IntKind.wrap .i64 (IntKind.wrap .u64 (((BitVec.toNat ((BitVec.ofInt 64 x) &&& (BitVec.ofInt 64 (255 : Int)))) : Nat) : Int)) ∧ IntKind.wrap .i64 (IntKind.wrap .u64 (((BitVec.toNat ((BitVec.ofInt 64 x) &&& (BitVec.ofInt 64 (255 : Int)))) : Nat) : Int)) ≤ 255 := by
  have h : (BitVec.toNat ((BitVec.ofInt 64 x) &&& (BitVec.ofInt 64 (255 : Int)))) ≤ 255 := by
    rw [BitVec.toNat_and]
    exact Nat.and_le_right
  have hu : ∀ n : Nat, n ≤ 255 → IntKind.wrap .u64 (n : Int) = (n : Int) := by
    intro n hn
    exact IntWalk.u64_in _ ⟨by omega, by omega⟩
  rw [hu _ h, wrap_ok (by omega) (by omega)]
  omega
theorem next_d {n : Int} {c : Cur} (h : Cu n c) (hn : n ≤ 1000000000) : Dr (spec_l1Cur_next.f c.1 c.2.1 c.2.2) (n + 1) fun r => 0 ≤ r ∧ r ≤ 255 := by
  obtain ⟨h1, h2, h3⟩ := h
  rw [spec_l1Cur_next.eq, wrap_ok (x := c.2.1 + 1) (by omega) (by omega)]
  refine Dr.br (fun e => ?_) fun e => ?_
  · have e := of_decide_eq_true e
    have hj : c.2.1.toNat < c.1.length := by omega
    have hb := h1 _ (List.getElem_mem hj)
    refine Dr.pos (decide_eq_true h2) (Dr.gt hj (Dr.pos (decide_eq_true (by omega)) ⟨_, _, rfl, ?_, h1, ?_, ?_⟩))
    · rw [wrap_ok (by omega) (by omega)]; exact hb
    · show 0 ≤ c.2.1 + 1; omega
    · show c.2.1 + 1 ≤ n + 1; omega
  · have e := of_decide_eq_false e
    refine Dr.neg (decide_eq_false (by omega)) ⟨_, _, rfl, byteAnd _, h1, ?_, ?_⟩
    · show 0 ≤ c.2.1 + 1; omega
    · show c.2.1 + 1 ≤ n + 1; omega
theorem tmod_b {x a : Int} (hx : 0 ≤ x) (ha : 1 ≤ a) : 0 ≤ Int.tmod x a ∧ Int.tmod x a < a := ⟨Int.tmod_nonneg _ hx, Int.tmod_lt_of_pos _ (by omega)⟩
theorem pick_d (a : Int) {n : Int} {c : Cur} (h : Cu n c) (hn : n ≤ 999999990) : Dr (spec_l1Cur_pick.f a c.1 c.2.1 c.2.2) (n + 2) fun r => 0 ≤ r ∧ (1 ≤ a → r < a) := by
  rw [spec_l1Cur_pick.eq]
  refine Dr.br (fun e => ?_) fun e => ?_
  · have e := of_decide_eq_true e
    exact ⟨0, c, rfl, ⟨by omega, by omega⟩, h.mono (by omega)⟩
  · have e := of_decide_eq_false e
    have ne : ¬ a = 0 := by omega
    refine Dr.bd (next_d h (by omega)) fun r c1 hr hc => ?_
    refine Dr.br (fun e2 => ?_) fun e2 => ?_
    · refine Dr.bd (next_d hc (by omega)) fun s c2 hs hc2 => ?_
      refine Dr.pos (by simpa using ne) ?_
      dsimp only
      refine ⟨_, _, rfl, ?_, hc2.mono (by omega)⟩
      rw [wrap_ok (x := r * 256) (by omega) (by omega), wrap_ok (by omega) (by omega)]
      have := tmod_b (x := r * 256 + s) (a := a) (by omega) (by omega)
      exact ⟨this.1, fun _ => this.2⟩
    · refine Dr.pos (by simpa using ne) ⟨_, _, rfl, ?_, hc.mono (by omega)⟩
      have := tmod_b (x := r) (a := a) (by omega) (by omega)
      exact ⟨this.1, fun _ => this.2⟩
theorem one_d (a : Int) {n : Int} {c : Cur} (h : Cu n c) (hn : n ≤ 999999990) : Dr (spec_l1Cur_one.f a c.1 c.2.1 c.2.2) (n + 2) fun _ => True := by
  rw [spec_l1Cur_one.eq]
  exact Dr.bd (pick_d a h hn) fun r c1 hr hc => Dr.ret hc (by omega) trivial
theorem of_d (l : List ByteArray) (hl : 1 ≤ l.length) {n : Int} {c : Cur} (h : Cu n c) (hn : n ≤ 999999990) : Dr (spec_l1Cur_of.f l c.1 c.2.1 c.2.2) (n + 2) fun r => r ∈ l := by
  rw [spec_l1Cur_of.eq]
  refine Dr.bd (pick_d _ h hn) fun r c1 hr hc => ?_
  have := hr.2 (by omega)
  refine Dr.pos (decide_eq_true hr.1) (Dr.gt (show (r : Int).toNat < l.length by omega) (Dr.ret hc (by omega) (List.getElem_mem _)))
theorem among_d (l : List Int) (hl : 1 ≤ l.length) {n : Int} {c : Cur} (h : Cu n c) (hn : n ≤ 999999990) : Dr (spec_l1Cur_among.f l c.1 c.2.1 c.2.2) (n + 2) fun r => r ∈ l := by
  rw [spec_l1Cur_among.eq]
  refine Dr.bd (pick_d _ h hn) fun r c1 hr hc => ?_
  have := hr.2 (by omega)
  refine Dr.pos (decide_eq_true hr.1) (Dr.gt (show (r : Int).toNat < l.length by omega) (Dr.ret hc (by omega) (List.getElem_mem _)))
theorem word_d {n : Int} {c : Cur} (h : Cu n c) (hn : n ≤ 999999980) : Dr (spec_l1Cur_word.f c.1 c.2.1 c.2.2) (n + 4) fun r => 0 ≤ r ∧ r ≤ 63 := by
  rw [spec_l1Cur_word.eq]
  refine Dr.bd (one_d 2 h (by omega)) fun r c1 hr hc => Dr.br (fun _ => ?_) fun _ => ?_
  · refine Dr.bd (among_d _ (by simp) hc (by omega)) fun r c2 hr hc2 => Dr.ret hc2 (by omega) ?_
    simp only [List.mem_cons, List.not_mem_nil, or_false] at hr
    omega
  · refine Dr.bd (pick_d 64 hc (by omega)) fun r c2 hr hc2 => Dr.ret hc2 (by omega) ?_
    have := hr.2 (by omega)
    omega
theorem dr_v {α : Type} {v : Option (α × Cur)} {n : Int} {P : α → Prop} {x : Option (α × Cur)} (h : Dr x n P) (vs : ∀ r, x = some r → v = some r) : Dr v n P := by
  obtain ⟨r, c, e, hr, hc⟩ := h
  exact ⟨r, c, vs _ e, hr, hc⟩
def Bytes (l : List Int) : Prop := ∀ x ∈ l, 0 ≤ x ∧ x ≤ 255
theorem Bytes.cu {l : List Int} (h : Bytes l) : Cu 0 (l, 0, 0) := ⟨h, by dsimp only; omega, by dsimp only; omega⟩
end Go.Proofs.Ytiofklineiioaaa.Am
end
section
/- What laws over draws do: rows compared, sizes measured, numbers looked for. -/
namespace Go.Proofs.Ytiofklineiioaaa.Am
open Go
set_option linter.unusedVariables false
set_option linter.unusedSimpArgs false

/-! ### rows that are compared -/
def sameI (a b : List Int) : Bool := decide (a = b)
theorem sameI_cons (x y : Int) (a b : List Int) : sameI (x :: a) (y :: b) = (decide (x = y) && sameI a b) := by
  unfold sameI
  rw [Bool.eq_iff_iff]; simp
theorem pSame_v (a b : List Int) (ha : a.length ≤ 1000000) : laws_pSame.v a b = some (sameI a b) := by
  have key : ∀ (d i : Nat), i + d = a.length → a.length = b.length → laws_pSame.v0 a b (a.length : Int) (i : Int) = some (sameI (a.drop i) (b.drop i)) := by
    intro d
    induction d with
    | zero =>
      intro i hi hab
      refine laws_pSame.v0s _ _ _ _ ?_
      rw [br_f (by simp; omega), List.drop_eq_nil_of_le (by omega), List.drop_eq_nil_of_le (by omega)]; rfl
    | succ d ih =>
      intro i hi hab
      have hlt : i < a.length := by omega
      have hlb : i < b.length := by omega
      refine laws_pSame.v0s _ _ _ _ ?_
      rw [br_t (by simpa using hlt), br_t (by simp), Int.toNat_natCast, gt_at _ hlt, br_t (by simp), gt_at _ hlb, drop_at _ _ hlt, drop_at _ _ hlb]
      by_cases c : a[i] = b[i]
      · rw [br_f (by simpa using c), next_ok i _ hlt (by omega), ih (i + 1) (by omega) hab, sameI_cons, decide_eq_true c, Bool.true_and]
      · rw [br_t (by simpa using c), sameI_cons, decide_eq_false c, Bool.false_and]
  refine laws_pSame.vs _ _ ?_
  by_cases h : a.length = b.length
  · rw [br_f (by simp; omega)]
    have := key a.length 0 (by omega) h
    simpa using this
  · rw [br_t (by simp; omega)]
    unfold sameI; rw [Option.some_inj, eq_comm, decide_eq_false_iff_not]
    intro e; exact h (by rw [e])
theorem pSame_self (a : List Int) (ha : a.length ≤ 1000000) : laws_pSame.v a a = some true := by rw [pSame_v a a ha]; simp [sameI]
/-- draws of no size -/
theorem big_f (a b : List Int) : ∃ r, laws_big.f a b = some r ∧ (r = false → a.length ≤ 1048576 ∧ b.length ≤ 1048576) := by
  rw [laws_big.eq]
  by_cases h : (a.length : Int) > 1048576
  · exact ⟨true, br_t (decide_eq_true h), by simp⟩
  · refine ⟨_, br_f (decide_eq_false h), fun e => ?_⟩
    rw [wrap_ok (by omega) (by omega)] at e
    have := of_decide_eq_false e
    omega
theorem bytes_of {l : List Int} (q : Qd (.sl (.i .u8)) l) : Bytes l := fun x hx => by
  have h := q.2 x hx
  simp only [Qd, Lit.wf] at h
  simpa [IntKind.min, IntKind.max, IntKind.bits, IntKind.signed] using h
theorem pHas_v (l : List Int) (s : Int) (hl : l.length ≤ 1000000) : laws_pHas.v l s = some (decide (s ∈ l)) := by
  have key : ∀ (d i : Nat), i + d = l.length → laws_pHas.v0 s l (l.length : Int) (i : Int) = some (decide (s ∈ l.drop i)) := by
    intro d
    induction d with
    | zero =>
      intro i hi
      refine laws_pHas.v0s _ _ _ _ ?_
      rw [br_f (by simp; omega), List.drop_eq_nil_of_le (by omega)]; simp
    | succ d ih =>
      intro i hi
      have hlt : i < l.length := by omega
      refine laws_pHas.v0s _ _ _ _ ?_
      rw [br_t (by simpa using hlt), br_t (by simp), Int.toNat_natCast, gt_at _ hlt, drop_at _ _ hlt]
      by_cases c : l[i] = s
      · rw [br_t (by simpa using c), c]; simp
      · rw [br_f (by simpa using c), next_ok i _ hlt (by omega), ih (i + 1) (by omega)]
        have e : ¬ s = l[i] := fun q => c q.symm
        rw [Option.some_inj, decide_eq_decide, List.mem_cons]
        exact ⟨.inr, fun h => h.resolve_left e⟩
  exact laws_pHas.vs _ _ (by have := key l.length 0 (by omega); simpa using this)
end Go.Proofs.Ytiofklineiioaaa.Am
end
section
/- Expressions that are drawn off bytes: there is always an answer, of a bounded size. -/
namespace Go.Proofs.Ytiofklineiioaaa.Am
open Go
set_option linter.unusedVariables false
set_option linter.unusedSimpArgs false

theorem leaf_d {n : Int} {c : Cur} (h : Cu n c) (hn : n ≤ 999999900) : Dr (spec_l1Cur_leaf.f c.1 c.2.1 c.2.2) (n + 6) fun _ => True := by
  rw [spec_l1Cur_leaf.eq]
  refine Dr.bd (one_d 3 h (by omega)) fun r c1 hr hc => Dr.br (fun _ => ?_) fun _ => ?_
  · exact Dr.bd (word_d hc (by omega)) fun r c2 hr hc2 => Dr.ret hc2 (by omega) trivial
  · exact Dr.bd (pick_d 2 hc (by omega)) fun r c2 hr hc2 => Dr.ret hc2 (by omega) trivial
theorem put_d (x : Nd) (s : Bool) (o : List Nd) (ho : o.length ≤ 100000) : ∃ (i : Int) (o' : List Nd), spec_exBuilt_put.v x s o = some (i, (((), s), o')) ∧ o'.length ≤ o.length + 1 := by
  have room : ∀ y : Nd, decide (o.length + [y].length ≤ 35184372088832 / (40 + 1)) = true := fun y => decide_eq_true (by simp; omega)
  have key : ∀ (d i : Nat), i + d = o.length → ∃ (j : Int) (o' : List Nd), spec_exBuilt_put.v0 (o.length : Int) (i : Int) s o x.1 x.2.1 x.2.2.1 x.2.2.2 = some (j, (((), s), o')) ∧ o'.length ≤ o.length + 1 := by
    intro d
    induction d with
    | zero =>
      intro i hi
      exact ⟨IntKind.wrap .i64 ((((o ++ [x]).length : Nat) : Int) - 1), o ++ [x], spec_exBuilt_put.v0s _ _ _ _ _ _ _ _ (by rw [br_f (by simp; omega), br_t (room _)]), by simp⟩
    | succ d ih =>
      intro i hi
      have hlt : i < o.length := by omega
      obtain ⟨j, o', hv, hl⟩ := ih (i + 1) (by omega)
      cases hb : ((o[i].1 == x.1) && ((o[i].2.1 == x.2.1) && ((o[i].2.2.1 == x.2.2.1) && ((o[i].2.2.2 == x.2.2.2) && true)))) with
      | true => exact ⟨i, o, spec_exBuilt_put.v0s _ _ _ _ _ _ _ _ (by rw [br_t (by simpa using hlt), br_t (by simp), br_t (by simpa using hlt), Int.toNat_natCast, gt_at _ hlt, hb, br_t rfl]), by omega⟩
      | false => exact ⟨j, o', spec_exBuilt_put.v0s _ _ _ _ _ _ _ _ (by rw [br_t (by simpa using hlt), br_t (by simp), br_t (by simpa using hlt), Int.toNat_natCast, gt_at _ hlt, hb, br_f rfl, next_ok i _ hlt (by omega), hv]), hl⟩
  cases s with
  | true =>
    obtain ⟨j, o', hv, hl⟩ := key o.length 0 (by omega)
    exact ⟨j, o', spec_exBuilt_put.vs _ _ _ (by rw [br_t rfl]; exact hv), hl⟩
  | false => exact ⟨_, _, spec_exBuilt_put.vs _ _ _ (by rw [br_f rfl, br_t (room _)]), by simp⟩
/-- trees of a depth at most: so many bytes, so many nodes -/
def TreeD (F : Int → List Int → Int → Int → Bool → List Nd → Option (Int × (Cur × ((Unit × Bool) × List Nd)))) (d K : Int) (G : Nat) : Prop :=
  ∀ (n : Int) (c : Cur) (s : Bool) (o : List Nd), Cu n c → n + 4 * K + 100 ≤ 900000000 → o.length ≤ 50000 → ∃ (i : Int) (c' : Cur) (o' : List Nd), F d c.1 c.2.1 c.2.2 s o = some (i, (c', (((), s), o'))) ∧ Cu (n + K) c' ∧ o'.length ≤ o.length + G
theorem tree_zero : TreeD spec_l1Cur_tree.v 0 6 1 := by
  intro n c s o hc hn ho
  obtain ⟨x, c1, e1, _, hc1⟩ := leaf_d hc (by omega)
  obtain ⟨i, o1, e2, hl⟩ := put_d x s o (by omega)
  exact ⟨i, c1, o1, spec_l1Cur_tree.vs _ _ _ _ _ _ (by rw [br_t (show ((0 : Int) == 0) = true from rfl), e1, bd_s, e2, bd_s]), hc1, hl⟩
theorem tree_succ {d K : Int} {G : Nat} (h : TreeD spec_l1Cur_tree.v d K G) (hd : 0 ≤ d) (hd1 : d ≤ 100) (hK : 0 ≤ K) (hK1 : K ≤ 10000) (hG : G ≤ 10000) : TreeD spec_l1Cur_tree.v (d + 1) (2 * K + 20) (2 * G + 1) := by
  intro n c s o hc hn ho
  have w : IntKind.wrap .i64 ((d + 1) - 1) = d := by rw [wrap_ok (by omega) (by omega)]; omega
  have nz : ((d + 1 : Int) == 0) = false := by simp; omega
  have leaf : ∀ {m : Int} {c0 : Cur}, Cu m c0 → m ≤ n + 2 → ∃ (i : Int) (c' : Cur) (o' : List Nd), (bd (spec_l1Cur_leaf.f c0.1 c0.2.1 c0.2.2) fun r0 => (bd (spec_exBuilt_put.v r0.1 s o) fun r1 => (some (r1.1, (r0.2, (((), r1.2.1.2), r1.2.2)))))) = some (i, (c', (((), s), o'))) ∧ Cu (n + (2 * K + 20)) c' ∧ o'.length ≤ o.length + (2 * G + 1) := by
    intro m c0 h0 hm
    obtain ⟨x, c1, e1, _, hc1⟩ := leaf_d h0 (by omega)
    obtain ⟨i, o1, e2, hl⟩ := put_d x s o (by omega)
    exact ⟨i, c1, o1, by rw [e1, bd_s, e2, bd_s], hc1.mono (by omega), by omega⟩
  by_cases h16 : (o.length : Int) > 16
  · obtain ⟨i, c', o', e, h1, h2⟩ := leaf hc (by omega)
    exact ⟨i, c', o', spec_l1Cur_tree.vs _ _ _ _ _ _ (by rw [br_f nz, br_t (decide_eq_true h16)]; exact e), h1, h2⟩
  obtain ⟨b4, c4, e4, _, hc4⟩ := one_d 4 hc (by omega)
  cases b4 with
  | true =>
    obtain ⟨i, c', o', e, h1, h2⟩ := leaf hc4 (by omega)
    exact ⟨i, c', o', spec_l1Cur_tree.vs _ _ _ _ _ _ (by rw [br_f nz, br_f (decide_eq_false h16), e4, bd_s, br_t rfl]; exact e), h1, h2⟩
  | false =>
    obtain ⟨b7, c7, e7, _, hc7⟩ := one_d 5 hc4 (by omega)
    cases b7 with
    | true =>
      obtain ⟨s8, c8, e8, _, hc8⟩ := of_d [(⟨#[110, 111, 116]⟩ : ByteArray), (⟨#[110, 101, 103]⟩ : ByteArray)] (by simp) hc7 (by omega)
      obtain ⟨i9, c9, o9, e9, hc9, l9⟩ := h _ c8 s o hc8 (by omega) ho
      obtain ⟨i, o1, e10, hl⟩ := put_d (s8, (i9, (0, 0))) s o9 (by omega)
      refine ⟨i, c9, o1, spec_l1Cur_tree.vs _ _ _ _ _ _ ?_, hc9.mono (by omega), by omega⟩
      rw [br_f nz, br_f (decide_eq_false h16), e4, bd_s, br_f rfl, e7, bd_s, br_t rfl, e8, bd_s, w]
      dsimp only
      rw [e9, bd_s]
      dsimp only
      rw [e10, bd_s]
    | false =>
      obtain ⟨s12, c12, e12, _, hc12⟩ := of_d opsL (by decide) hc7 (by omega)
      obtain ⟨i13, c13, o13, e13, hc13, l13⟩ := h _ c12 s o hc12 (by omega) ho
      obtain ⟨i14, c14, o14, e14, hc14, l14⟩ := h _ c13 s o13 hc13 (by omega) (by omega)
      obtain ⟨i, o1, e15, hl⟩ := put_d (s12, (i13, (i14, 0))) s o14 (by omega)
      refine ⟨i, c14, o1, spec_l1Cur_tree.vs _ _ _ _ _ _ ?_, hc14.mono (by omega), by omega⟩
      rw [br_f nz, br_f (decide_eq_false h16), e4, bd_s, br_f rfl, e7, bd_s, br_f rfl, show spec_exOps.f = some opsL from spec_exOps.eq, bd_s, e12, bd_s, w]
      dsimp only
      rw [e13, bd_s]
      dsimp only
      rw [e14, bd_s]
      dsimp only
      rw [e15, bd_s]
theorem tree3 : TreeD spec_l1Cur_tree.v 3 188 15 := tree_succ (tree_succ (tree_succ tree_zero (by omega) (by omega) (by omega) (by omega) (by omega)) (by omega) (by omega) (by omega) (by omega) (by omega)) (by omega) (by omega) (by omega) (by omega) (by omega)
theorem expr_d {n : Int} {c : Cur} (h : Cu n c) (hn : n ≤ 800000000) : Dr (spec_l1Cur_expr.v 3 c.1 c.2.1 c.2.2) (n + 200) fun r => 1 ≤ r.length ∧ r.length ≤ 24 := by
  refine dr_v ?_ fun r => spec_l1Cur_expr.vs 3 c.1 c.2.1 c.2.2
  refine Dr.bd (one_d 2 h (by omega)) fun b c1 _ hc1 => ?_
  refine dr_v ?_ fun r => spec_l1Cur_expr.v0s _ _ _ _ _ _
  obtain ⟨i, c2, o, e, hc2, hl⟩ := tree3 _ c1 b [] hc1 (by omega) (by simp)
  have hl : o.length ≤ 15 := by simpa using hl
  rw [e, bd_s]
  dsimp only
  rw [exGood_v o (by omega), bd_s]
  cases hg : exprOk o with
  | false => rw [brn_f]; exact Dr.ret hc2 (by omega) ⟨by simp, by simp⟩
  | true =>
    obtain ⟨_, l1, l2⟩ := exprOk_parts hg
    rw [brn_t]; exact Dr.ret hc2 (by omega) ⟨l1, l2⟩
theorem anyExpr_d {n : Int} {c : Cur} (h : Cu n c) (hn : n ≤ 700000000) : Dr (spec_l1Cur_anyExpr.v 3 c.1 c.2.1 c.2.2) (n + 400) fun r => r.length ≤ 60 := by
  refine dr_v ?_ fun r => spec_l1Cur_anyExpr.vs 3 c.1 c.2.1 c.2.2
  refine Dr.bd (expr_d h (by omega)) fun e c0 he hc0 => Dr.bd (pick_d 16 hc0 (by omega)) fun r1 c1 hr1 hc1 => ?_
  have rm : ∀ (o : List Nd) (y : Nd), o.length ≤ 1000 → decide (o.length + [y].length ≤ 35184372088832 / (40 + 1)) = true := fun o y ho => decide_eq_true (by simp; omega)
  refine Dr.br (fun _ => ?_) fun _ => Dr.br (fun _ => ?_) fun _ => Dr.br (fun _ => ?_) fun _ => Dr.br (fun _ => ?_) fun _ => Dr.br (fun _ => ?_) fun _ => Dr.br (fun _ => ?_) fun _ => ?_
  · refine Dr.bd (pick_d _ hc1 (by omega)) fun r2 c2 hr2 hc2 => Dr.bd (pick_d _ hc2 (by omega)) fun r3 c3 hr3 hc3 => ?_
    have hlt : r2 < (e.length : Int) := hr2.2 (by dsimp only; omega)
    exact Dr.pos (decide_eq_true hr2.1) (Dr.pos (decide_eq_true hlt) (Dr.gt (show r2.toNat < e.length by omega) (Dr.ret hc3 (by omega) (by dsimp only; rw [List.length_set]; omega))))
  · refine Dr.bd (pick_d _ hc1 (by omega)) fun r2 c2 hr2 hc2 => Dr.bd (of_d _ (by simp) hc2 (by omega)) fun r3 c3 hr3 hc3 => ?_
    have hlt : r2 < (e.length : Int) := hr2.2 (by dsimp only; omega)
    exact Dr.pos (decide_eq_true hr2.1) (Dr.pos (decide_eq_true hlt) (Dr.gt (show r2.toNat < e.length by omega) (Dr.ret hc3 (by omega) (by dsimp only; rw [List.length_set]; omega))))
  · refine Dr.bd (pick_d _ hc1 (by omega)) fun r2 c2 hr2 hc2 => Dr.bd (among_d _ (by simp) hc2 (by omega)) fun r3 c3 hr3 hc3 => ?_
    have hlt : r2 < (e.length : Int) := hr2.2 (by dsimp only; omega)
    exact Dr.pos (decide_eq_true hr2.1) (Dr.pos (decide_eq_true hlt) (Dr.gt (show r2.toNat < e.length by omega) (Dr.ret hc3 (by omega) (by dsimp only; rw [List.length_set]; omega))))
  · exact Dr.pos (rm _ _ (by dsimp only; omega)) (Dr.ret hc1 (by omega) (by simp; omega))
  · have key : ∀ (d : Nat) (l : List Nd) (m : Int) (c : Cur), l.length + d = 26 → Cu m c → m + 2 * d ≤ n + 300 → Dr (spec_l1Cur_anyExpr.v0 c.1 c.2.1 c.2.2 l) (n + 400) fun r => r.length ≤ 60 := by
      intro d
      induction d with
      | zero =>
        intro l m c hl hc hm
        refine dr_v ?_ fun r => spec_l1Cur_anyExpr.v0s c.1 c.2.1 c.2.2 l
        refine Dr.bd (pick_d 2 hc (by omega)) fun r c1 hr hc1 => ?_
        have := hr.2 (by omega)
        refine Dr.neg (decide_eq_false (by rw [wrap_ok (by dsimp only; omega) (by dsimp only; omega)]; dsimp only; omega)) (Dr.ret hc1 (by omega) (by omega))
      | succ d ih =>
        intro l m c hl hc hm
        refine dr_v ?_ fun r => spec_l1Cur_anyExpr.v0s c.1 c.2.1 c.2.2 l
        refine Dr.bd (pick_d 2 hc (by omega)) fun r c1 hr hc1 => Dr.br (fun _ => ?_) fun _ => Dr.ret hc1 (by omega) (by omega)
        exact Dr.pos (rm _ _ (by omega)) (ih _ _ c1 (by simp; omega) hc1 (by omega))
    exact key 25 _ _ c1 (by simp) hc1 (by omega)
  · exact Dr.ret hc1 (by omega) (by simp)
  · exact Dr.ret hc1 (by omega) (by dsimp only; omega)
theorem tileTree_zero : TreeD spec_l1Cur_tileTree.v 0 6 1 := by
  intro n c s o hc hn ho
  obtain ⟨x, c1, e1, _, hc1⟩ := leaf_d hc (by omega)
  obtain ⟨i, o1, e2, hl⟩ := put_d x s o (by omega)
  exact ⟨i, c1, o1, spec_l1Cur_tileTree.vs _ _ _ _ _ _ (by rw [br_t (show ((0 : Int) == 0) = true from rfl), e1, bd_s, e2, bd_s]), hc1, hl⟩
theorem tileTree_succ {d K : Int} {G : Nat} (h : TreeD spec_l1Cur_tileTree.v d K G) (hd : 0 ≤ d) (hd1 : d ≤ 100) (hK : 0 ≤ K) (hK1 : K ≤ 10000) (hG : G ≤ 10000) : TreeD spec_l1Cur_tileTree.v (d + 1) (2 * K + 20) (2 * G + 2) := by
  intro n c s o hc hn ho
  have w : IntKind.wrap .i64 ((d + 1) - 1) = d := by rw [wrap_ok (by omega) (by omega)]; omega
  have nz : ((d + 1 : Int) == 0) = false := by simp; omega
  have leaf : ∀ {m : Int} {c0 : Cur}, Cu m c0 → m ≤ n + 2 → ∃ (i : Int) (c' : Cur) (o' : List Nd), (bd (spec_l1Cur_leaf.f c0.1 c0.2.1 c0.2.2) fun r0 => (bd (spec_exBuilt_put.v r0.1 s o) fun r1 => (some (r1.1, (r0.2, (((), r1.2.1.2), r1.2.2)))))) = some (i, (c', (((), s), o'))) ∧ Cu (n + (2 * K + 20)) c' ∧ o'.length ≤ o.length + (2 * G + 2) := by
    intro m c0 h0 hm
    obtain ⟨x, c1, e1, _, hc1⟩ := leaf_d h0 (by omega)
    obtain ⟨i, o1, e2, hl⟩ := put_d x s o (by omega)
    exact ⟨i, c1, o1, by rw [e1, bd_s, e2, bd_s], hc1.mono (by omega), by omega⟩
  by_cases h16 : (o.length : Int) > 14
  · obtain ⟨i, c', o', e, h1, h2⟩ := leaf hc (by omega)
    exact ⟨i, c', o', spec_l1Cur_tileTree.vs _ _ _ _ _ _ (by rw [br_f nz, br_t (decide_eq_true h16)]; exact e), h1, h2⟩
  obtain ⟨b4, c4, e4, _, hc4⟩ := one_d 5 hc (by omega)
  cases b4 with
  | true =>
    obtain ⟨i, c', o', e, h1, h2⟩ := leaf hc4 (by omega)
    exact ⟨i, c', o', spec_l1Cur_tileTree.vs _ _ _ _ _ _ (by rw [br_f nz, br_f (decide_eq_false h16), e4, bd_s, br_t rfl]; exact e), h1, h2⟩
  | false =>
    obtain ⟨s7, c7, e7, _, hc7⟩ := of_d [(⟨#[97, 100, 100]⟩ : ByteArray), (⟨#[97, 100, 100]⟩ : ByteArray), (⟨#[115, 117, 98]⟩ : ByteArray), (⟨#[97, 110, 100]⟩ : ByteArray), (⟨#[120, 111, 114]⟩ : ByteArray), (⟨#[115, 104, 108]⟩ : ByteArray), (⟨#[115, 104, 114]⟩ : ByteArray), (⟨#[109, 117, 108]⟩ : ByteArray), (⟨#[109, 117, 108]⟩ : ByteArray), (⟨#[111, 114]⟩ : ByteArray), (⟨#[108, 101, 115, 115]⟩ : ByteArray)] (by simp) hc4 (by omega)
    obtain ⟨b8, c8, e8, _, hc8⟩ := one_d 2 hc7 (by omega)
    obtain ⟨i9, c9, o9, e9, hc9, l9⟩ := h _ c8 s o hc8 (by omega) ho
    cases b8 with
    | true =>
      obtain ⟨v10, c10, e10, _, hc10⟩ := among_d [1, 2, 2, 3, 4, 5, 8, 16, 63] (by simp) hc9 (by omega)
      obtain ⟨i11, o11, e11, l11⟩ := put_d ((⟨#[99, 111, 110, 115, 116]⟩ : ByteArray), (0, (0, v10))) s o9 (by omega)
      obtain ⟨i12, o12, e12, l12⟩ := put_d (s7, (i9, (i11, 0))) s o11 (by omega)
      refine ⟨i12, c10, o12, spec_l1Cur_tileTree.vs _ _ _ _ _ _ ?_, hc10.mono (by omega), by omega⟩
      rw [br_f nz, br_f (decide_eq_false h16), e4, bd_s, br_f rfl, e7, bd_s, e8, bd_s, br_t rfl, w]
      dsimp only
      rw [e9, bd_s]
      dsimp only
      rw [e10, bd_s]
      dsimp only
      rw [e11, bd_s]
      dsimp only
      rw [e12, bd_s]
    | false =>
      obtain ⟨i14, c14, o14, e14, hc14, l14⟩ := h _ c9 s o9 hc9 (by omega) (by omega)
      obtain ⟨i, o1, e15, hl⟩ := put_d (s7, (i9, (i14, 0))) s o14 (by omega)
      refine ⟨i, c14, o1, spec_l1Cur_tileTree.vs _ _ _ _ _ _ ?_, hc14.mono (by omega), by omega⟩
      rw [br_f nz, br_f (decide_eq_false h16), e4, bd_s, br_f rfl, e7, bd_s, e8, bd_s, br_f rfl, w]
      dsimp only
      rw [e9, bd_s]
      dsimp only
      rw [e14, bd_s]
      dsimp only
      rw [e15, bd_s]
theorem tileTree4 : TreeD spec_l1Cur_tileTree.v 4 396 46 := tileTree_succ (tileTree_succ (tileTree_succ (tileTree_succ tileTree_zero (by omega) (by omega) (by omega) (by omega) (by omega)) (by omega) (by omega) (by omega) (by omega) (by omega)) (by omega) (by omega) (by omega) (by omega) (by omega)) (by omega) (by omega) (by omega) (by omega) (by omega)
theorem trees_d {n : Int} {c : Cur} (h : Cu n c) (hn : n ≤ 600000000) : Dr (spec_l1Cur_trees.v c.1 c.2.1 c.2.2) (n + 1000) fun r => r.length ≤ 60 := by
  refine dr_v ?_ fun r => spec_l1Cur_trees.vs c.1 c.2.1 c.2.2
  refine dr_v ?_ fun r => spec_l1Cur_trees.v0s _ _ _ _ _
  obtain ⟨i, c2, o, e, hc2, hl⟩ := tileTree4 _ c false [] h (by omega) (by simp)
  have hl : o.length ≤ 46 := by simpa using hl
  rw [e, bd_s]
  refine Dr.bd (one_d 8 hc2 (by omega)) fun b c3 _ hc3 => Dr.br (fun _ => ?_) fun _ => ?_
  · exact Dr.bd (anyExpr_d hc3 (by omega)) fun r c4 hr hc4 => Dr.ret hc4 (by omega) hr
  · refine Dr.here (exGood_v o (by omega)) (Dr.br (fun _ => ?_) fun _ => ?_)
    · exact Dr.bd (anyExpr_d hc3 (by omega)) fun r c4 hr hc4 => Dr.ret hc4 (by omega) hr
    · exact Dr.ret hc3 (by omega) (by dsimp only; omega)
end Go.Proofs.Ytiofklineiioaaa.Am
end
section
/- Tables that are searched: witnesses, least and greatest values, symmetry: the program's functions and the reference's answer alike. -/
namespace Go.Proofs.Ytiofklineiioaaa.Am
open Go
set_option linter.unusedVariables false
set_option linter.unusedSimpArgs false

theorem dv {i : Nat} (h : i ≤ 1000000) : IntKind.wrap .i64 (Int.tdiv (i : Int) 64) = ((i / 64 : Nat) : Int) := by
  rw [Int.tdiv_eq_ediv_of_nonneg (by omega), wrap_ok (by omega) (by omega)]; omega
theorem md (i : Nat) : Int.tmod (i : Int) 64 = ((i % 64 : Nat) : Int) := by
  rw [Int.tmod_eq_emod_of_nonneg (by omega)]; omega
theorem mulw {a : Nat} (h : a ≤ 1000000) : IntKind.wrap .i64 (64 * (a : Int)) = ((64 * a : Nat) : Int) := by rw [wrap_ok (by omega) (by omega)]; omega
theorem addw {a b : Nat} (h : a ≤ 100000000) (h2 : b ≤ 1000000) : IntKind.wrap .i64 ((a : Int) + (b : Int)) = ((a + b : Nat) : Int) := by rw [wrap_ok (by omega) (by omega)]; omega
/-- a place of a table with one input changed -/
def atP (k : Int) (i w : Nat) : Nat := if k = 1 then 64 * (i / 64) + w else 64 * w + i % 64
theorem atP_lt {k : Int} {i w : Nat} (hi : i < 4096) (hw : w < 64) : atP k i w < 4096 := by
  unfold atP; split <;> omega
def tv (T : List Int) (i : Nat) : Int := T.getD i 0
theorem tv_get {T : List Int} {i : Nat} (h : i < T.length) : T[i]? = some (tv T i) := by
  unfold tv
  rw [List.getD_eq_getElem?_getD, List.getElem?_eq_getElem h]; rfl
structure Wit (T : List Int) (k : Int) (i w : Nat) (r : List Int × Bool) : Prop where
  no : r.2 = false → r.1 = [] ∧ ∀ j v : Nat, (j = i ∧ w ≤ v ∨ i < j) → j < 4096 → v < 64 → tv T (atP k j v) = tv T j
  yes : r.2 = true → ∃ j v : Nat, j < 4096 ∧ v < 64 ∧ tv T (atP k j v) ≠ tv T j ∧ r.1 = [((j / 64 : Nat) : Int), ((j % 64 : Nat) : Int), (v : Int)]
theorem wit_l {T : List Int} (hT : T.length = 4096) (k : Int) : ∀ (d i : Nat), i + d = 4096 → ∃ r, impl_DependWitness.v0 k T T 4096 (i : Int) = some r ∧ spec_eqWitness.v0 k T T 4096 (i : Int) = some r ∧ Wit T k i 0 r := by
  intro d
  induction d with
  | zero =>
    intro i hi
    refine ⟨([], false), impl_DependWitness.v0s _ _ _ _ _ (by rw [br_f (decide_eq_false (by omega))]), spec_eqWitness.v0s _ _ _ _ _ (by rw [br_f (decide_eq_false (by omega))]), ⟨fun _ => ⟨rfl, fun j v h hj hv => by omega⟩, fun h => nomatch h⟩⟩
  | succ d ih =>
    intro i hi
    have hlt : i < 4096 := by omega
    obtain ⟨r1, e1, e2, w1⟩ := ih (i + 1) (by omega)
    have inner : ∀ (c w : Nat), w + c = 64 → ∃ r, impl_DependWitness.v1 k T (tv T i) ((i / 64 : Nat) : Int) ((i % 64 : Nat) : Int) T 4096 (i : Int) (w : Int) = some r ∧ spec_eqWitness.v1 k T (i : Int) (tv T i) (w : Int) T 4096 (i : Int) = some r ∧ Wit T k i w r := by
      intro c
      induction c with
      | zero =>
        intro w hw
        refine ⟨r1, impl_DependWitness.v1s _ _ _ _ _ _ _ _ _ ?_, spec_eqWitness.v1s _ _ _ _ _ _ _ _ ?_, ⟨fun h => ⟨(w1.no h).1, fun j v hj h1 h2 => ?_⟩, w1.yes⟩⟩
        · rw [br_f (decide_eq_false (by omega)), next_ok i 4096 hlt (by omega)]; exact e1
        · rw [br_f (decide_eq_false (by omega)), next_ok i 4096 hlt (by omega)]; exact e2
        · refine (w1.no h).2 j v ?_ h1 h2
          by_cases q : j = i + 1
          · exact .inl ⟨q, Nat.zero_le _⟩
          · exact .inr (by omega)
      | succ c ihc =>
        intro w hw
        have hwl : w < 64 := by omega
        obtain ⟨r2, g1, g2, w2⟩ := ihc (w + 1) (by omega)
        have hget : T[atP k i w]? = some (tv T (atP k i w)) := tv_get (by rw [hT]; exact atP_lt hlt hwl)
        have ea : ∀ (F G : Option (List Int × Bool)), br (k == 1) (br (decide ((0 : Int) ≤ IntKind.wrap .i64 (IntKind.wrap .i64 (64 * ((i / 64 : Nat) : Int)) + (w : Int)))) (gt T (Int.toNat (IntKind.wrap .i64 (IntKind.wrap .i64 (64 * ((i / 64 : Nat) : Int)) + (w : Int)))) fun r5 => br (r5 != tv T i) F G) none)
            (br (decide ((0 : Int) ≤ IntKind.wrap .i64 (IntKind.wrap .i64 (64 * (w : Int)) + ((i % 64 : Nat) : Int)))) (gt T (Int.toNat (IntKind.wrap .i64 (IntKind.wrap .i64 (64 * (w : Int)) + ((i % 64 : Nat) : Int)))) fun r6 => br (r6 != tv T i) F G) none) = br (tv T (atP k i w) != tv T i) F G := fun F G => by
          unfold atP at hget ⊢
          by_cases hk : k = 1
          · rw [if_pos hk] at hget ⊢
            rw [br_t (by simpa using hk), mulw (by omega), addw (by omega) (by omega), br_t (decide_eq_true (by omega)), Int.toNat_natCast, gt_some hget]
          · rw [if_neg hk] at hget ⊢
            rw [br_f (by simpa using hk), mulw (by omega), addw (by omega) (by omega), br_t (decide_eq_true (by omega)), Int.toNat_natCast, gt_some hget]
        by_cases hd : tv T (atP k i w) = tv T i
        · refine ⟨r2, impl_DependWitness.v1s _ _ _ _ _ _ _ _ _ ?_, spec_eqWitness.v1s _ _ _ _ _ _ _ _ ?_, ⟨fun h => ⟨(w2.no h).1, fun j v hj h1 h2 => ?_⟩, w2.yes⟩⟩
          · rw [br_t (decide_eq_true (by omega)), ea, br_f (by simpa using hd), next_ok w 64 hwl (by omega)]; exact g1
          · rw [br_t (decide_eq_true (by omega)), dv (by omega), md, ea, br_f (by simpa using hd), next_ok w 64 hwl (by omega)]; exact g2
          · by_cases q : j = i ∧ v = w
            · rw [q.1, q.2]; exact hd
            · exact (w2.no h).2 j v (by omega) h1 h2
        · refine ⟨([((i / 64 : Nat) : Int), ((i % 64 : Nat) : Int), (w : Int)], true), impl_DependWitness.v1s _ _ _ _ _ _ _ _ _ ?_, spec_eqWitness.v1s _ _ _ _ _ _ _ _ ?_, ⟨(fun h => nomatch h), fun _ => ⟨i, w, hlt, hwl, hd, rfl⟩⟩⟩
          · rw [br_t (decide_eq_true (by omega)), ea, br_t (by simpa using hd)]
          · rw [br_t (decide_eq_true (by omega)), dv (by omega), md, ea, br_t (by simpa using hd)]
    obtain ⟨r, g1, g2, w⟩ := inner 64 0 (by omega)
    have hget : T[i]? = some (tv T i) := tv_get (by omega)
    refine ⟨r, impl_DependWitness.v0s _ _ _ _ _ ?_, spec_eqWitness.v0s _ _ _ _ _ ?_, w⟩
    · rw [br_t (decide_eq_true (by omega)), br_t (decide_eq_true (by omega)), Int.toNat_natCast, gt_some hget, impl_inputsAt.eq, bd_s, dv (by omega), md]; exact g1
    · rw [br_t (decide_eq_true (by omega)), br_t (decide_eq_true (by omega)), Int.toNat_natCast, gt_some hget]; exact g2
theorem tabP_len (e : List Nd) : (tabP e).length = 4096 := tabU_len e 4096
theorem tabP_tv (e : List Nd) {i : Nat} (h : i < 4096) : tv (tabP e) i = evalP e ((i / 64 : Nat) : Int) ((i % 64 : Nat) : Int) := by
  unfold tv tabP tabU
  rw [List.getD_eq_getElem?_getD, List.getElem?_map, List.getElem?_range h]; rfl
theorem exprs {e : List Nd} (h : exprOk e = true) : nodesOk e 0 = true ∧ 1 ≤ e.length ∧ e.length ≤ 1000000 := by
  obtain ⟨h1, h2, h3⟩ := exprOk_parts h
  exact ⟨h1, h2, by omega⟩
theorem tabP_word {e : List Nd} (h : exprOk e = true) {i : Nat} (hi : i < 4096) : word (tv (tabP e) i) := by
  rw [tabP_tv e hi]
  exact evalP_word (exprs h).1 ⟨by omega, by omega⟩ ⟨by omega, by omega⟩
theorem evalExpr_v (e : List Nd) (hl : e.length ≤ 1048576) (x0 x1 : Int) : impl_EvalExpr.v e x0 x1 = some (if (exprOk e && (inB x0 0 63 && inB x1 0 63)) = true then (evalP e x0 x1, true) else (0, false)) := by
  refine impl_EvalExpr.vs _ _ _ ?_
  have ar : impl_areRight.v e x0 x1 = some (exprOk e && (inB x0 0 63 && inB x1 0 63)) := by
    refine impl_areRight.vs _ _ _ ?_
    rw [isExpr_v e hl, bd_s]
    cases exprOk e with
    | false => rfl
    | true =>
      rw [br_t rfl, isWord_f, bd_s]
      cases inB x0 0 63 with
      | false => rfl
      | true => rw [br_t rfl, isWord_f, bd_s]; rfl
  rw [ar, bd_s]
  cases h : (exprOk e && (inB x0 0 63 && inB x1 0 63)) with
  | false => rw [brn_f]; rfl
  | true =>
    simp only [Bool.and_eq_true, inB_iff] at h
    obtain ⟨h1, h2, h3⟩ := exprs h.1
    rw [brn_t, eval_v h1 h2 h3 h.2.1 h.2.2, bd_s]; rfl
theorem evalExpr_t {e : List Nd} (hg : exprOk e = true) (hl : e.length ≤ 1048576) {x0 x1 : Int} (h0 : word x0) (h1 : word x1) : impl_EvalExpr.v e x0 x1 = some (evalP e x0 x1, true) := by
  rw [evalExpr_v e hl, hg, inB_iff.2 h0, inB_iff.2 h1]; rfl
/-- both answer with the same witness -/
theorem witness_v (e : List Nd) (hl : e.length ≤ 1048576) (k : Int) : ∃ r, impl_DependWitness.v e k = some r ∧ spec_DependWitness.v e k = some r ∧ impl_DependsOn.v e k = some (r.2, (exprOk e && inB k 0 1)) ∧ spec_DependsOn.v e k = some (r.2, (exprOk e && inB k 0 1)) ∧
    ((exprOk e && inB k 0 1) = false → r = ([], false)) ∧ ((exprOk e && inB k 0 1) = true → Wit (tabP e) k 0 0 r) := by
  cases hg : exprOk e with
  | false =>
    have h1 : impl_DependWitness.v e k = some ([], false) := impl_DependWitness.vs _ _ (by rw [isExpr_v e hl, bd_s, hg, brn_f])
    refine ⟨([], false), h1, spec_DependWitness.vs _ _ (by rw [exGood_v e hl, bd_s, hg, brn_f]), impl_DependsOn.vs _ _ (by rw [h1, bd_s, isExpr_v e hl, bd_s, hg, br_f rfl]; rfl), spec_DependsOn.vs _ _ (by rw [exGood_v e hl, bd_s, hg, brn_f]; rfl), fun _ => rfl, fun h => nomatch h⟩
  | true =>
    cases hk : inB k 0 1 with
    | false =>
      have h1 : impl_DependWitness.v e k = some ([], false) := impl_DependWitness.vs _ _ (by rw [isExpr_v e hl, bd_s, hg, brn_t, within_f, bd_s, hk, brn_f])
      refine ⟨([], false), h1, spec_DependWitness.vs _ _ (by rw [exGood_v e hl, bd_s, hg, brn_t, l1In_f, bd_s, hk, brn_f]), impl_DependsOn.vs _ _ (by rw [h1, bd_s, isExpr_v e hl, bd_s, hg, br_t rfl, within_f, bd_s, hk]; rfl), spec_DependsOn.vs _ _ (by rw [exGood_v e hl, bd_s, hg, brn_t, l1In_f, bd_s, hk, brn_f]; rfl), fun _ => rfl, fun h => nomatch h⟩
    | true =>
      obtain ⟨n1, n2, n3⟩ := exprs hg
      obtain ⟨r, e1, e2, w⟩ := wit_l (tabP_len e) k 4096 0 (by omega)
      have tl : ((tabP e).length : Int) = 4096 := by rw [tabP_len]; rfl
      have h1 : impl_DependWitness.v e k = some r := impl_DependWitness.vs _ _ (by rw [isExpr_v e hl, bd_s, hg, brn_t, within_f, bd_s, hk, brn_t, table_v n1 n2 n3, bd_s, tl]; exact e1)
      have h2 : spec_eqWitness.v e k = some r := spec_eqWitness.vs _ _ (by rw [exTable_v n1 n2 n3, bd_s, tl]; exact e2)
      exact ⟨r, h1, spec_DependWitness.vs _ _ (by rw [exGood_v e hl, bd_s, hg, brn_t, l1In_f, bd_s, hk, brn_t, h2, bd_s]), impl_DependsOn.vs _ _ (by rw [h1, bd_s, isExpr_v e hl, bd_s, hg, br_t rfl, within_f, bd_s, hk]; rfl), spec_DependsOn.vs _ _ (by rw [exGood_v e hl, bd_s, hg, brn_t, l1In_f, bd_s, hk, brn_t, h2, bd_s]; rfl), (fun h => nomatch h), fun _ => w⟩

/-! ### least and greatest -/
def Least (T : List Int) (m : Int) : Prop := m ∈ T ∧ ∀ x ∈ T, m ≤ x
def Most (T : List Int) (m : Int) : Prop := m ∈ T ∧ ∀ x ∈ T, x ≤ m
theorem Least.eq {T : List Int} {a b : Int} (ha : Least T a) (hb : Least T b) : a = b := by
  have := ha.2 b hb.1; have := hb.2 a ha.1; omega
theorem Most.eq {T : List Int} {a b : Int} (ha : Most T a) (hb : Most T b) : a = b := by
  have := ha.2 b hb.1; have := hb.2 a ha.1; omega
theorem minI_or (a b : Int) : (minI a b = a ∨ minI a b = b) ∧ minI a b ≤ a ∧ minI a b ≤ b := by
  unfold minI; split <;> omega
theorem maxI_or (a b : Int) : (maxI a b = a ∨ maxI a b = b) ∧ a ≤ maxI a b ∧ b ≤ maxI a b := by
  unfold maxI; split <;> omega
theorem mem_take_succ {T : List Int} {i : Nat} (h : i < T.length) {x : Int} : x ∈ T.take (i + 1) ↔ x ∈ T.take i ∨ x = T[i] := by
  rw [List.take_succ_eq_append_getElem h, List.mem_append, List.mem_singleton]
theorem min_v (T : List Int) (h1 : 1 ≤ T.length) (hl : T.length ≤ 1000000) : ∃ m, slices_Min_int.v T = some m ∧ Least T m := by
  have key : ∀ (d i : Nat) (m : Int), i + d = T.length → Least (T.take i) m → ∃ m', slices_Min_int.v0 T m (i : Int) = some m' ∧ Least T m' := by
    intro d
    induction d with
    | zero =>
      intro i m hi hm
      rw [List.take_of_length_le (by omega)] at hm
      exact ⟨m, slices_Min_int.v0s _ _ _ (by rw [br_f (by simp; omega)]), hm⟩
    | succ d ih =>
      intro i m hi hm
      have hlt : i < T.length := by omega
      obtain ⟨q1, q2, q3⟩ := minI_or m T[i]
      obtain ⟨m', hv, hl'⟩ := ih (i + 1) (minI m T[i]) (by omega) ⟨by
        rw [mem_take_succ hlt]
        rcases q1 with q | q
        · rw [q]; exact .inl hm.1
        · rw [q]; exact .inr rfl, fun x hx => by
        rcases (mem_take_succ hlt).1 hx with h | h
        · have := hm.2 x h; omega
        · rw [h]; exact q3⟩
      exact ⟨m', slices_Min_int.v0s _ _ _ (by rw [br_t (by simpa using hlt), br_t (by simp), Int.toNat_natCast, gt_at _ hlt, next_ok i _ hlt (by omega), hv]), hl'⟩
  obtain ⟨m', hv, hm⟩ := key (T.length - 1) 1 T[0] (by omega) ⟨by rw [mem_take_succ (by omega)]; exact .inr rfl, fun x hx => by
    rcases (mem_take_succ (by omega)).1 hx with h | h
    · simp at h
    · rw [h]; omega⟩
  exact ⟨m', slices_Min_int.vs _ (by rw [br_f (decide_eq_false (by omega)), show Int.toNat (0 : Int) = 0 from rfl, gt_at _ (show 0 < T.length by omega)]; exact hv), hm⟩
theorem max_v (T : List Int) (h1 : 1 ≤ T.length) (hl : T.length ≤ 1000000) : ∃ m, slices_Max_int.v T = some m ∧ Most T m := by
  have key : ∀ (d i : Nat) (m : Int), i + d = T.length → Most (T.take i) m → ∃ m', slices_Max_int.v0 T m (i : Int) = some m' ∧ Most T m' := by
    intro d
    induction d with
    | zero =>
      intro i m hi hm
      rw [List.take_of_length_le (by omega)] at hm
      exact ⟨m, slices_Max_int.v0s _ _ _ (by rw [br_f (by simp; omega)]), hm⟩
    | succ d ih =>
      intro i m hi hm
      have hlt : i < T.length := by omega
      obtain ⟨q1, q2, q3⟩ := maxI_or m T[i]
      obtain ⟨m', hv, hl'⟩ := ih (i + 1) (maxI m T[i]) (by omega) ⟨by
        rw [mem_take_succ hlt]
        rcases q1 with q | q
        · rw [q]; exact .inl hm.1
        · rw [q]; exact .inr rfl, fun x hx => by
        rcases (mem_take_succ hlt).1 hx with h | h
        · have := hm.2 x h; omega
        · rw [h]; exact q3⟩
      exact ⟨m', slices_Max_int.v0s _ _ _ (by rw [br_t (by simpa using hlt), br_t (by simp), Int.toNat_natCast, gt_at _ hlt, next_ok i _ hlt (by omega), hv]), hl'⟩
  obtain ⟨m', hv, hm⟩ := key (T.length - 1) 1 T[0] (by omega) ⟨by rw [mem_take_succ (by omega)]; exact .inr rfl, fun x hx => by
    rcases (mem_take_succ (by omega)).1 hx with h | h
    · simp at h
    · rw [h]; omega⟩
  exact ⟨m', slices_Max_int.vs _ (by rw [br_f (decide_eq_false (by omega)), show Int.toNat (0 : Int) = 0 from rfl, gt_at _ (show 0 < T.length by omega)]; exact hv), hm⟩
theorem least_f (a b : Int) : spec_l1Least.f a b = some (min a b) := by
  rw [spec_l1Least.eq]
  by_cases h : a < b
  · rw [br_t (decide_eq_true h)]; congr 1; omega
  · rw [br_f (decide_eq_false h)]; congr 1; omega
theorem most_f (a b : Int) : spec_l1Most.f a b = some (max a b) := by
  rw [spec_l1Most.eq]
  by_cases h : a > b
  · rw [br_t (decide_eq_true h)]; congr 1; omega
  · rw [br_f (decide_eq_false h)]; congr 1; omega
theorem range_l {T : List Int} (h1 : 1 ≤ T.length) (hl : T.length ≤ 1000000) (hw : ∀ x ∈ T, word x) : ∃ lo hi, spec_RangeOf.v0 63 0 T (T.length : Int) 0 = some (lo, (hi, true)) ∧ Least T lo ∧ Most T hi := by
  have key : ∀ (d i : Nat) (lo hi : Int), i + d = T.length → (lo = 63 ∧ hi = 0 ∧ i = 0 ∨ Least (T.take i) lo ∧ Most (T.take i) hi) → ∃ lo' hi', spec_RangeOf.v0 lo hi T (T.length : Int) (i : Int) = some (lo', (hi', true)) ∧ Least T lo' ∧ Most T hi' := by
    intro d
    induction d with
    | zero =>
      intro i lo hi hd h
      rcases h with h | h
      · omega
      · rw [List.take_of_length_le (by omega)] at h
        exact ⟨lo, hi, spec_RangeOf.v0s _ _ _ _ _ (by rw [br_f (by simp; omega)]), h.1, h.2⟩
    | succ d ih =>
      intro i lo hi hd h
      have hlt : i < T.length := by omega
      have hx := hw _ (List.getElem_mem hlt)
      unfold word at hx
      obtain ⟨lo', hi', hv, h2⟩ := ih (i + 1) (min lo T[i]) (max hi T[i]) (by omega) (.inr (by
        rcases h with ⟨rfl, rfl, rfl⟩ | ⟨ha, hb⟩
        · refine ⟨⟨by rw [mem_take_succ hlt]; exact .inr (by omega), fun x hx' => ?_⟩, ⟨by rw [mem_take_succ hlt]; exact .inr (by omega), fun x hx' => ?_⟩⟩
          · rcases (mem_take_succ hlt).1 hx' with h | h
            · simp at h
            · omega
          · rcases (mem_take_succ hlt).1 hx' with h | h
            · simp at h
            · omega
        · refine ⟨⟨?_, fun x hx' => ?_⟩, ⟨?_, fun x hx' => ?_⟩⟩
          · rw [mem_take_succ hlt]
            by_cases q : lo ≤ T[i]
            · rw [show min lo T[i] = lo by omega]; exact .inl ha.1
            · exact .inr (by omega)
          · rcases (mem_take_succ hlt).1 hx' with h | h
            · have := ha.2 x h; omega
            · omega
          · rw [mem_take_succ hlt]
            by_cases q : T[i] ≤ hi
            · rw [show max hi T[i] = hi by omega]; exact .inl hb.1
            · exact .inr (by omega)
          · rcases (mem_take_succ hlt).1 hx' with h | h
            · have := hb.2 x h; omega
            · omega))
      exact ⟨lo', hi', spec_RangeOf.v0s _ _ _ _ _ (by rw [br_t (by simpa using hlt), br_t (by simp), Int.toNat_natCast, gt_at _ hlt, least_f, bd_s, most_f, bd_s, next_ok i _ hlt (by omega), hv]), h2⟩
  exact key T.length 0 63 0 (by omega) (.inl ⟨rfl, rfl, rfl⟩)
theorem tabP_mem {e : List Nd} {x : Int} : x ∈ tabP e ↔ ∃ i : Nat, i < 4096 ∧ x = tv (tabP e) i := by
  rw [List.mem_iff_getElem?]
  have hl := tabP_len e
  constructor
  · rintro ⟨i, hi⟩
    have := (List.getElem?_eq_some_iff.1 hi).1
    have h2 := tv_get (T := tabP e) this
    rw [hi] at h2
    exact ⟨i, by omega, Option.some.inj h2⟩
  · rintro ⟨i, hi, hx⟩
    rw [hx]
    exact ⟨i, tv_get (by omega)⟩
/-- both answer with the same range -/
theorem range_v {e : List Nd} (hg : exprOk e = true) (hl : e.length ≤ 1048576) : ∃ lo hi, impl_RangeOf.v e = some (lo, (hi, true)) ∧ spec_RangeOf.v e = some (lo, (hi, true)) ∧ Least (tabP e) lo ∧ Most (tabP e) hi := by
  obtain ⟨n1, n2, n3⟩ := exprs hg
  have tl := tabP_len e
  obtain ⟨a, ha, la⟩ := min_v (tabP e) (by omega) (by omega)
  obtain ⟨b, hb, lb⟩ := max_v (tabP e) (by omega) (by omega)
  obtain ⟨c, d, hc, lc, ld⟩ := range_l (T := tabP e) (by omega) (by omega) (fun x hx => by
    obtain ⟨i, hi, hx2⟩ := tabP_mem.1 hx
    rw [hx2]
    exact tabP_word hg hi)
  obtain rfl := la.eq lc
  obtain rfl := lb.eq ld
  exact ⟨a, b, impl_RangeOf.vs _ (by rw [isExpr_v e hl, bd_s, hg, brn_t, table_v n1 n2 n3, bd_s, ha, bd_s, hb, bd_s]), spec_RangeOf.vs _ (by rw [exGood_v e hl, bd_s, hg, brn_t, exTable_v n1 n2 n3, bd_s]; exact hc), la, lb⟩
/-! ### symmetry -/
def Sym (T : List Int) (r : Bool) : Prop := r = true ↔ ∀ i : Nat, i < 4096 → tv T (64 * (i % 64) + i / 64) = tv T i
theorem sym_l {T : List Int} (hT : T.length = 4096) : ∃ r, impl_IsSymmetric.v0 T T 4096 0 = some (r, true) ∧ spec_IsSymmetric.v0 T T 4096 0 = some (r, true) ∧ Sym T r := by
  have key : ∀ (d i : Nat), i + d = 4096 → ∃ r, impl_IsSymmetric.v0 T T 4096 (i : Int) = some (r, true) ∧ spec_IsSymmetric.v0 T T 4096 (i : Int) = some (r, true) ∧ (r = true ↔ ∀ j : Nat, i ≤ j → j < 4096 → tv T (64 * (j % 64) + j / 64) = tv T j) := by
    intro d
    induction d with
    | zero =>
      intro i hi
      exact ⟨true, impl_IsSymmetric.v0s _ _ _ _ (by rw [br_f (decide_eq_false (by omega))]), spec_IsSymmetric.v0s _ _ _ _ (by rw [br_f (decide_eq_false (by omega))]), ⟨fun _ j h1 h2 => by omega, fun _ => rfl⟩⟩
    | succ d ih =>
      intro i hi
      have hlt : i < 4096 := by omega
      obtain ⟨r, e1, e2, hr⟩ := ih (i + 1) (by omega)
      have g0 : T[i]? = some (tv T i) := tv_get (by omega)
      have g1 : T[64 * (i % 64) + i / 64]? = some (tv T (64 * (i % 64) + i / 64)) := tv_get (by omega)
      have pl : br (decide ((i : Int) < 4096)) = fun (a b : Option (Bool × Bool)) => a := by funext a b; exact br_t (decide_eq_true (by omega))
      by_cases c : tv T (64 * (i % 64) + i / 64) = tv T i
      · refine ⟨r, impl_IsSymmetric.v0s _ _ _ _ ?_, spec_IsSymmetric.v0s _ _ _ _ ?_, hr.trans ⟨fun h j h1 h2 => ?_, fun h j h1 h2 => h j (by omega) h2⟩⟩
        · rw [br_t (decide_eq_true (by omega)), br_t (decide_eq_true (by omega)), Int.toNat_natCast, gt_some g0, impl_inputsAt.eq, bd_s, dv (by omega), md]
          dsimp only
          rw [mulw (by omega), addw (by omega) (by omega), br_t (decide_eq_true (by omega)), Int.toNat_natCast, gt_some g1, br_f (by simpa using c), next_ok i 4096 hlt (by omega)]
          exact e1
        · rw [br_t (decide_eq_true (by omega)), br_t (decide_eq_true (by omega)), Int.toNat_natCast, gt_some g0, dv (by omega), md, mulw (by omega), addw (by omega) (by omega), br_t (decide_eq_true (by omega)), Int.toNat_natCast, gt_some g1, br_f (by simpa using c), next_ok i 4096 hlt (by omega)]
          exact e2
        · by_cases q : j = i
          · rw [q]; exact c
          · exact h j (by omega) h2
      · refine ⟨false, impl_IsSymmetric.v0s _ _ _ _ ?_, spec_IsSymmetric.v0s _ _ _ _ ?_, ⟨(fun h => nomatch h), fun h => absurd (h i (Nat.le_refl _) hlt) c⟩⟩
        · rw [br_t (decide_eq_true (by omega)), br_t (decide_eq_true (by omega)), Int.toNat_natCast, gt_some g0, impl_inputsAt.eq, bd_s, dv (by omega), md]
          dsimp only
          rw [mulw (by omega), addw (by omega) (by omega), br_t (decide_eq_true (by omega)), Int.toNat_natCast, gt_some g1, br_t (by simpa using c)]
        · rw [br_t (decide_eq_true (by omega)), br_t (decide_eq_true (by omega)), Int.toNat_natCast, gt_some g0, dv (by omega), md, mulw (by omega), addw (by omega) (by omega), br_t (decide_eq_true (by omega)), Int.toNat_natCast, gt_some g1, br_t (by simpa using c)]
  obtain ⟨r, e1, e2, hr⟩ := key 4096 0 (by omega)
  exact ⟨r, e1, e2, hr.trans ⟨fun h j hj => h j (Nat.zero_le _) hj, fun h j _ hj => h j hj⟩⟩
theorem symm_v (e : List Nd) (hl : e.length ≤ 1048576) : ∃ r, impl_IsSymmetric.v e = some (r, exprOk e) ∧ spec_IsSymmetric.v e = some (r, exprOk e) ∧ (r = true → exprOk e = true ∧ Sym (tabP e) r) := by
  cases hg : exprOk e with
  | false => exact ⟨false, impl_IsSymmetric.vs _ (by rw [isExpr_v e hl, bd_s, hg, brn_f]), spec_IsSymmetric.vs _ (by rw [exGood_v e hl, bd_s, hg, brn_f]), fun h => nomatch h⟩
  | true =>
    obtain ⟨n1, n2, n3⟩ := exprs hg
    obtain ⟨r, e1, e2, hr⟩ := sym_l (tabP_len e)
    have tl : ((tabP e).length : Int) = 4096 := by rw [tabP_len]; rfl
    exact ⟨r, impl_IsSymmetric.vs _ (by rw [isExpr_v e hl, bd_s, hg, brn_t, table_v n1 n2 n3, bd_s, tl]; exact e1), spec_IsSymmetric.vs _ (by rw [exGood_v e hl, bd_s, hg, brn_t, exTable_v n1 n2 n3, bd_s, tl]; exact e2), fun _ => ⟨rfl, hr⟩⟩
end Go.Proofs.Ytiofklineiioaaa.Am
end
section
/- Five expressions that are read: what the reference answers for their texts. -/
namespace Go.Proofs.Ytiofklineiioaaa.Am
open Go
set_option maxRecDepth 1000000
theorem parse1 (k : Nat) : spec_ParseExpr.f (k + 40) (⟨#[97, 100, 100, 40, 120, 48, 44, 120, 49, 41]⟩ : ByteArray) = some (([((⟨#[105, 110]⟩ : ByteArray), ((0 : Int), ((0 : Int), (0 : Int)))), ((⟨#[105, 110]⟩ : ByteArray), ((0 : Int), ((0 : Int), (1 : Int)))), ((⟨#[97, 100, 100]⟩ : ByteArray), ((0 : Int), ((1 : Int), (0 : Int))))], true), ()) := by kernel_rfl
theorem parse2 (k : Nat) : spec_ParseExpr.f (k + 40) (⟨#[115, 117, 98, 40, 120, 48, 44, 120, 49, 41]⟩ : ByteArray) = some (([((⟨#[105, 110]⟩ : ByteArray), ((0 : Int), ((0 : Int), (0 : Int)))), ((⟨#[105, 110]⟩ : ByteArray), ((0 : Int), ((0 : Int), (1 : Int)))), ((⟨#[115, 117, 98]⟩ : ByteArray), ((0 : Int), ((1 : Int), (0 : Int))))], true), ()) := by kernel_rfl
theorem parse3 (k : Nat) : spec_ParseExpr.f (k + 40) (⟨#[97, 110, 100, 40, 120, 49, 44, 120, 48, 41]⟩ : ByteArray) = some (([((⟨#[105, 110]⟩ : ByteArray), ((0 : Int), ((0 : Int), (1 : Int)))), ((⟨#[105, 110]⟩ : ByteArray), ((0 : Int), ((0 : Int), (0 : Int)))), ((⟨#[97, 110, 100]⟩ : ByteArray), ((0 : Int), ((1 : Int), (0 : Int))))], true), ()) := by kernel_rfl
theorem parse4 (k : Nat) : spec_ParseExpr.f (k + 40) (⟨#[101, 113, 40, 120, 48, 44, 120, 49, 41]⟩ : ByteArray) = some (([((⟨#[105, 110]⟩ : ByteArray), ((0 : Int), ((0 : Int), (0 : Int)))), ((⟨#[105, 110]⟩ : ByteArray), ((0 : Int), ((0 : Int), (1 : Int)))), ((⟨#[101, 113]⟩ : ByteArray), ((0 : Int), ((1 : Int), (0 : Int))))], true), ()) := by kernel_rfl
theorem parse5 (k : Nat) : spec_ParseExpr.f (k + 40) (⟨#[109, 117, 108, 40, 97, 100, 100, 40, 120, 48, 44, 120, 49, 41, 44, 120, 111, 114, 40, 120, 49, 44, 120, 48, 41, 41]⟩ : ByteArray) = some (([((⟨#[105, 110]⟩ : ByteArray), ((0 : Int), ((0 : Int), (0 : Int)))), ((⟨#[105, 110]⟩ : ByteArray), ((0 : Int), ((0 : Int), (1 : Int)))), ((⟨#[97, 100, 100]⟩ : ByteArray), ((0 : Int), ((1 : Int), (0 : Int)))), ((⟨#[105, 110]⟩ : ByteArray), ((0 : Int), ((0 : Int), (1 : Int)))), ((⟨#[105, 110]⟩ : ByteArray), ((0 : Int), ((0 : Int), (0 : Int)))), ((⟨#[120, 111, 114]⟩ : ByteArray), ((3 : Int), ((4 : Int), (0 : Int)))), ((⟨#[109, 117, 108]⟩ : ByteArray), ((2 : Int), ((5 : Int), (0 : Int))))], true), ()) := by kernel_rfl
def fiveT : List ByteArray := [(⟨#[97, 100, 100, 40, 120, 48, 44, 120, 49, 41]⟩ : ByteArray), (⟨#[115, 117, 98, 40, 120, 48, 44, 120, 49, 41]⟩ : ByteArray), (⟨#[97, 110, 100, 40, 120, 49, 44, 120, 48, 41]⟩ : ByteArray), (⟨#[101, 113, 40, 120, 48, 44, 120, 49, 41]⟩ : ByteArray), (⟨#[109, 117, 108, 40, 97, 100, 100, 40, 120, 48, 44, 120, 49, 41, 44, 120, 111, 114, 40, 120, 49, 44, 120, 48, 41, 41]⟩ : ByteArray)]
theorem late {α : Type} {f : Nat → Option α} {a : α} (h : ∀ k, f (k + 40) = some a) : lim (fun _ k => f k) = some a := ev_lim ⟨40, fun k hk => by
  have := h (k - 40)
  rwa [show k - 40 + 40 = k by omega] at this⟩
theorem parse_v {s : ByteArray} (h : s ∈ fiveT) : ∃ o : List (ByteArray × Int × Int × Int), spec_ParseExpr.v s = some ((o, true), ()) ∧ o.length ≤ 60 := by
  unfold fiveT at h
  simp only [List.mem_cons, List.not_mem_nil, or_false] at h
  rcases h with rfl | rfl | rfl | rfl | rfl
  · exact ⟨_, late parse1, by simp⟩
  · exact ⟨_, late parse2, by simp⟩
  · exact ⟨_, late parse3, by simp⟩
  · exact ⟨_, late parse4, by simp⟩
  · exact ⟨_, late parse5, by simp⟩
end Go.Proofs.Ytiofklineiioaaa.Am
end
section
/- The law laws_FnInputsThatMatter over the machine of values. -/
set_option linter.unusedVariables false
set_option maxRecDepth 100000
set_option maxHeartbeats 1000000
namespace Go.Proofs.Ytiofklineiioaaa.Am
open Go
noncomputable def laws_FnInputsThatMatter.E : En := ⟨P0, M0, [(5, ⟨[0, 1, 5, 6, 7, 8], [], [], []⟩), (8, ⟨[0, 1, 5, 6, 7, 8, 9, 10, 11, 12, 13, 14], [], [], []⟩), (10, ⟨[0, 1, 5, 6, 7, 8], [], [], []⟩), (16, ⟨[0, 1, 5, 7, 15, 16, 17, 18], [], [], []⟩), (17, ⟨[0, 1, 7, 15, 16, 19, 20], [], [], []⟩), (19, ⟨[0, 1], [], [], []⟩), (22, ⟨[0, 1, 21, 22, 23, 24, 25], [], [], []⟩), (24, ⟨[0, 1, 21, 22, 23, 24, 25, 26, 27, 28, 29, 30, 31], [], [], []⟩), (26, ⟨[0, 1, 21, 23, 26, 27, 28], [], [], []⟩), (30, ⟨[0, 1, 23, 26, 27, 32, 33, 34, 35, 36, 37], [], [], []⟩), (32, ⟨[0, 1], [], [], []⟩), (35, ⟨[0, 1, 38, 39, 40, 41, 42], [], [], []⟩), (37, ⟨[0, 1, 38, 39], [], [], []⟩)], ntOf P0 3, [5, 8, 10, 16, 17, 19, 22, 24, 26, 30, 32, 35, 37]⟩
noncomputable def laws_FnInputsThatMatter.g : St → Option Bool := fun st => fin0 (cV false .b) (finA P0 (resOf P0 3) 0 [.id] [] st)
noncomputable def laws_FnInputsThatMatter.T (k : Nat) : Table := tabs [(6, (laws_big.tab)), (7, (spec_DrawDependWitness.tab k)), (8, (impl_DependWitness.tab k)), (9, (spec_DependWitness.tab k)), (10, (impl_DependsOn.tab k)), (11, (spec_DependsOn.tab k)), (12, (laws_gSame.tab k)), (13, (impl_EvalExpr.tab k)), (14, (spec_DrawConstantOf.tab k)), (15, (impl_ConstantOf.tab k)), (16, (spec_ConstantOf.tab k)), (17, (impl_RangeOf.tab k)), (18, (spec_RangeOf.tab k)), (19, (impl_IsExpr.tab k)), (20, (spec_DrawIsSymmetric.tab k)), (21, (impl_IsSymmetric.tab k)), (22, (spec_IsSymmetric.tab k))]
noncomputable def laws_FnInputsThatMatter.f (k : Nat) (a0 : (List Int)) (a1 : (List Int)) : Option Bool := go laws_FnInputsThatMatter.E laws_FnInputsThatMatter.T laws_FnInputsThatMatter.g k [.code (bodyOf P0 3)] (initA [mkP false (.sl (.i .u8)) a0, mkP false (.sl (.i .u8)) a1] [])
noncomputable def laws_FnInputsThatMatter.tab (k : Nat) : List AV → List AO → Option Pack := tabI [.v false (.sl (.i .u8)), .v false (.sl (.i .u8))] [] (enc0 (cV false .b)) (laws_FnInputsThatMatter.f k)
noncomputable def laws_FnInputsThatMatter.l0 (k : Nat) (x0 : List Int) (x1 : List Int) (x2 : List (ByteArray × (Int × (Int × Int)))) (x3 : Int) (x4 : List Int) (x5 : Bool) := go laws_FnInputsThatMatter.E laws_FnInputsThatMatter.T laws_FnInputsThatMatter.g k (headOf P0 3 0 [5, 8, 10, 16, 17, 19, 22, 24, 26, 30, 32, 35, 37]) ⟨[(0, (.lst (.i .u8) x0)), (1, (.lst (.i .u8) x1)), (5, (.lst (.pr .s (.pr (.i .i64) (.pr (.i .i64) (.i .i64)))) x2)), (6, (.i .i64 x3)), (7, (.lst (.i .i64) x4)), (8, (.b x5))], []⟩
noncomputable def laws_FnInputsThatMatter.l1 (k : Nat) (x0 : List Int) (x1 : List Int) (x2 : List (ByteArray × (Int × (Int × Int)))) (x3 : Int) (x4 : List Int) (x5 : Bool) (x6 : List Int) (x7 : Bool) (x8 : Bool) (x9 : Bool) (x10 : Bool) (x11 : Bool) := go laws_FnInputsThatMatter.E laws_FnInputsThatMatter.T laws_FnInputsThatMatter.g k (headOf P0 3 1 [5, 8, 10, 16, 17, 19, 22, 24, 26, 30, 32, 35, 37]) ⟨[(0, (.lst (.i .u8) x0)), (1, (.lst (.i .u8) x1)), (5, (.lst (.pr .s (.pr (.i .i64) (.pr (.i .i64) (.i .i64)))) x2)), (6, (.i .i64 x3)), (7, (.lst (.i .i64) x4)), (8, (.b x5)), (9, (.lst (.i .i64) x6)), (10, (.b x7)), (11, (.b x8)), (12, (.b x9)), (13, (.b x10)), (14, (.b x11))], []⟩
noncomputable def laws_FnInputsThatMatter.l2 (k : Nat) (x0 : List Int) (x1 : List Int) (x2 : List (ByteArray × (Int × (Int × Int)))) (x3 : Int) (x4 : List Int) (x5 : Bool) := go laws_FnInputsThatMatter.E laws_FnInputsThatMatter.T laws_FnInputsThatMatter.g k (headOf P0 3 2 [5, 8, 10, 16, 17, 19, 22, 24, 26, 30, 32, 35, 37]) ⟨[(0, (.lst (.i .u8) x0)), (1, (.lst (.i .u8) x1)), (5, (.lst (.pr .s (.pr (.i .i64) (.pr (.i .i64) (.i .i64)))) x2)), (6, (.i .i64 x3)), (7, (.lst (.i .i64) x4)), (8, (.b x5))], []⟩
noncomputable def laws_FnInputsThatMatter.l3 (k : Nat) (x0 : List Int) (x1 : List Int) (x2 : List (ByteArray × (Int × (Int × Int)))) (x3 : List Int) (x4 : Int) (x5 : Bool) (x6 : Int) (x7 : Int) := go laws_FnInputsThatMatter.E laws_FnInputsThatMatter.T laws_FnInputsThatMatter.g k (headOf P0 3 3 [5, 8, 10, 16, 17, 19, 22, 24, 26, 30, 32, 35, 37]) ⟨[(0, (.lst (.i .u8) x0)), (1, (.lst (.i .u8) x1)), (5, (.lst (.pr .s (.pr (.i .i64) (.pr (.i .i64) (.i .i64)))) x2)), (7, (.lst (.i .i64) x3)), (15, (.i .i64 x4)), (16, (.b x5)), (17, (.i .i64 x6)), (18, (.i .i64 x7))], []⟩
noncomputable def laws_FnInputsThatMatter.l5 (k : Nat) (x0 : List Int) (x1 : List Int) := go laws_FnInputsThatMatter.E laws_FnInputsThatMatter.T laws_FnInputsThatMatter.g k (headOf P0 3 5 [5, 8, 10, 16, 17, 19, 22, 24, 26, 30, 32, 35, 37]) ⟨[(0, (.lst (.i .u8) x0)), (1, (.lst (.i .u8) x1))], []⟩
noncomputable def laws_FnInputsThatMatter.l4 (k : Nat) (x0 : List Int) (x1 : List Int) (x2 : List Int) (x3 : Int) (x4 : Bool) (x5 : Int) (x6 : Bool) := go laws_FnInputsThatMatter.E laws_FnInputsThatMatter.T laws_FnInputsThatMatter.g k (headOf P0 3 4 [5, 8, 10, 16, 17, 19, 22, 24, 26, 30, 32, 35, 37]) ⟨[(0, (.lst (.i .u8) x0)), (1, (.lst (.i .u8) x1)), (7, (.lst (.i .i64) x2)), (15, (.i .i64 x3)), (16, (.b x4)), (19, (.i .i64 x5)), (20, (.b x6))], []⟩
noncomputable def laws_FnInputsThatMatter.l6 (k : Nat) (x0 : List Int) (x1 : List Int) (x2 : List (ByteArray × (Int × (Int × Int)))) (x3 : Int) (x4 : Bool) (x5 : Int) (x6 : Bool) := go laws_FnInputsThatMatter.E laws_FnInputsThatMatter.T laws_FnInputsThatMatter.g k (headOf P0 3 6 [5, 8, 10, 16, 17, 19, 22, 24, 26, 30, 32, 35, 37]) ⟨[(0, (.lst (.i .u8) x0)), (1, (.lst (.i .u8) x1)), (21, (.lst (.pr .s (.pr (.i .i64) (.pr (.i .i64) (.i .i64)))) x2)), (22, (.i .i64 x3)), (23, (.b x4)), (24, (.i .i64 x5)), (25, (.b x6))], []⟩
noncomputable def laws_FnInputsThatMatter.l7 (k : Nat) (x0 : List Int) (x1 : List Int) (x2 : List (ByteArray × (Int × (Int × Int)))) (x3 : Int) (x4 : Bool) (x5 : Int) (x6 : Bool) (x7 : Int) (x8 : Int) (x9 : Bool) (x10 : Int) (x11 : Int) (x12 : Bool) := go laws_FnInputsThatMatter.E laws_FnInputsThatMatter.T laws_FnInputsThatMatter.g k (headOf P0 3 7 [5, 8, 10, 16, 17, 19, 22, 24, 26, 30, 32, 35, 37]) ⟨[(0, (.lst (.i .u8) x0)), (1, (.lst (.i .u8) x1)), (21, (.lst (.pr .s (.pr (.i .i64) (.pr (.i .i64) (.i .i64)))) x2)), (22, (.i .i64 x3)), (23, (.b x4)), (24, (.i .i64 x5)), (25, (.b x6)), (26, (.i .i64 x7)), (27, (.i .i64 x8)), (28, (.b x9)), (29, (.i .i64 x10)), (30, (.i .i64 x11)), (31, (.b x12))], []⟩
noncomputable def laws_FnInputsThatMatter.l8 (k : Nat) (x0 : List Int) (x1 : List Int) (x2 : List (ByteArray × (Int × (Int × Int)))) (x3 : Bool) (x4 : Int) (x5 : Int) (x6 : Bool) := go laws_FnInputsThatMatter.E laws_FnInputsThatMatter.T laws_FnInputsThatMatter.g k (headOf P0 3 8 [5, 8, 10, 16, 17, 19, 22, 24, 26, 30, 32, 35, 37]) ⟨[(0, (.lst (.i .u8) x0)), (1, (.lst (.i .u8) x1)), (21, (.lst (.pr .s (.pr (.i .i64) (.pr (.i .i64) (.i .i64)))) x2)), (23, (.b x3)), (26, (.i .i64 x4)), (27, (.i .i64 x5)), (28, (.b x6))], []⟩
noncomputable def laws_FnInputsThatMatter.l9 (k : Nat) (x0 : List Int) (x1 : List Int) (x2 : Bool) (x3 : Int) (x4 : Int) (x5 : Bool) (x6 : Bool) (x7 : Bool) (x8 : Bool) (x9 : Int) (x10 : Bool) := go laws_FnInputsThatMatter.E laws_FnInputsThatMatter.T laws_FnInputsThatMatter.g k (headOf P0 3 9 [5, 8, 10, 16, 17, 19, 22, 24, 26, 30, 32, 35, 37]) ⟨[(0, (.lst (.i .u8) x0)), (1, (.lst (.i .u8) x1)), (23, (.b x2)), (26, (.i .i64 x3)), (27, (.i .i64 x4)), (32, (.b x5)), (33, (.b x6)), (34, (.b x7)), (35, (.b x8)), (36, (.i .i64 x9)), (37, (.b x10))], []⟩
noncomputable def laws_FnInputsThatMatter.l10 (k : Nat) (x0 : List Int) (x1 : List Int) := go laws_FnInputsThatMatter.E laws_FnInputsThatMatter.T laws_FnInputsThatMatter.g k (headOf P0 3 10 [5, 8, 10, 16, 17, 19, 22, 24, 26, 30, 32, 35, 37]) ⟨[(0, (.lst (.i .u8) x0)), (1, (.lst (.i .u8) x1))], []⟩
noncomputable def laws_FnInputsThatMatter.l11 (k : Nat) (x0 : List Int) (x1 : List Int) (x2 : List (ByteArray × (Int × (Int × Int)))) (x3 : Bool) (x4 : Bool) (x5 : Bool) (x6 : Bool) := go laws_FnInputsThatMatter.E laws_FnInputsThatMatter.T laws_FnInputsThatMatter.g k (headOf P0 3 11 [5, 8, 10, 16, 17, 19, 22, 24, 26, 30, 32, 35, 37]) ⟨[(0, (.lst (.i .u8) x0)), (1, (.lst (.i .u8) x1)), (38, (.lst (.pr .s (.pr (.i .i64) (.pr (.i .i64) (.i .i64)))) x2)), (39, (.b x3)), (40, (.b x4)), (41, (.b x5)), (42, (.b x6))], []⟩
noncomputable def laws_FnInputsThatMatter.l12 (k : Nat) (x0 : List Int) (x1 : List Int) (x2 : List (ByteArray × (Int × (Int × Int)))) (x3 : Bool) := go laws_FnInputsThatMatter.E laws_FnInputsThatMatter.T laws_FnInputsThatMatter.g k (headOf P0 3 12 [5, 8, 10, 16, 17, 19, 22, 24, 26, 30, 32, 35, 37]) ⟨[(0, (.lst (.i .u8) x0)), (1, (.lst (.i .u8) x1)), (38, (.lst (.pr .s (.pr (.i .i64) (.pr (.i .i64) (.i .i64)))) x2)), (39, (.b x3))], []⟩
theorem laws_FnInputsThatMatter.eq (k : Nat) (a0 : (List Int)) (a1 : (List Int)) : laws_FnInputsThatMatter.f (k + 1) a0 a1 = (bd (laws_big.f a0 a1) fun r0 => (br r0 (some true) (bd (spec_DrawDependWitness.f k a0) fun r1 => (bd (impl_DependWitness.f k r1.1 r1.2) fun r2 => (laws_FnInputsThatMatter.l0 k a0 a1 r1.1 r1.2 r2.1 r2.2))))) := by kernel_rfl
theorem laws_FnInputsThatMatter.l0_eq (k : Nat) (x0 : List Int) (x1 : List Int) (x2 : List (ByteArray × (Int × (Int × Int)))) (x3 : Int) (x4 : List Int) (x5 : Bool) : laws_FnInputsThatMatter.l0 (k + 1) x0 x1 x2 x3 x4 x5 = (bd (spec_DependWitness.f k x2 x3) fun r3 => (bd (impl_DependsOn.f k x2 x3) fun r4 => (bd (spec_DependsOn.f k x2 x3) fun r5 => (laws_FnInputsThatMatter.l1 k x0 x1 x2 x3 x4 x5 r3.1 r3.2 r4.1 r4.2 r5.1 r5.2)))) := by kernel_rfl
theorem laws_FnInputsThatMatter.l1_eq (k : Nat) (x0 : List Int) (x1 : List Int) (x2 : List (ByteArray × (Int × (Int × Int)))) (x3 : Int) (x4 : List Int) (x5 : Bool) (x6 : List Int) (x7 : Bool) (x8 : Bool) (x9 : Bool) (x10 : Bool) (x11 : Bool) : laws_FnInputsThatMatter.l1 (k + 1) x0 x1 x2 x3 x4 x5 x6 x7 x8 x9 x10 x11 = (br (Bool.not (x5 == x7)) (some false) (bd (laws_gSame.f k x4 x6) fun r6 => (br (Bool.not r6) (some false) (br (Bool.not (x9 == x11)) (some false) (br (Bool.not (x8 == x10)) (some false) (br (Bool.not (x5 == x8)) (some false) (laws_FnInputsThatMatter.l2 k x0 x1 x2 x3 x4 x5))))))) := by kernel_rfl
theorem laws_FnInputsThatMatter.l2_eq (k : Nat) (x0 : List Int) (x1 : List Int) (x2 : List (ByteArray × (Int × (Int × Int)))) (x3 : Int) (x4 : List Int) (x5 : Bool) : laws_FnInputsThatMatter.l2 (k + 1) x0 x1 x2 x3 x4 x5 = (br x5 (gt x4 (Int.toNat (0 : Int)) fun r7 => (gt x4 (Int.toNat (1 : Int)) fun r8 => (bd (impl_EvalExpr.f k x2 r7 r8) fun r9 => (gt x4 (Int.toNat (2 : Int)) fun r10 => (gt x4 (Int.toNat (1 : Int)) fun r11 => (br (x3 == (1 : Int)) (gt x4 (Int.toNat (0 : Int)) fun r12 => (gt x4 (Int.toNat (2 : Int)) fun r13 => (laws_FnInputsThatMatter.l3 k x0 x1 x2 x4 r9.1 r9.2 r12 r13))) (laws_FnInputsThatMatter.l3 k x0 x1 x2 x4 r9.1 r9.2 r10 r11))))))) (laws_FnInputsThatMatter.l5 k x0 x1)) := by kernel_rfl
theorem laws_FnInputsThatMatter.l3_eq (k : Nat) (x0 : List Int) (x1 : List Int) (x2 : List (ByteArray × (Int × (Int × Int)))) (x3 : List Int) (x4 : Int) (x5 : Bool) (x6 : Int) (x7 : Int) : laws_FnInputsThatMatter.l3 (k + 1) x0 x1 x2 x3 x4 x5 x6 x7 = (bd (impl_EvalExpr.f k x2 x6 x7) fun r14 => (laws_FnInputsThatMatter.l4 k x0 x1 x3 x4 x5 r14.1 r14.2)) := by kernel_rfl
theorem laws_FnInputsThatMatter.l5_eq (k : Nat) (x0 : List Int) (x1 : List Int) : laws_FnInputsThatMatter.l5 (k + 1) x0 x1 = (bd (spec_DrawConstantOf.f k x1) fun r15 => (bd (impl_ConstantOf.f k r15) fun r16 => (bd (spec_ConstantOf.f k r15) fun r17 => (laws_FnInputsThatMatter.l6 k x0 x1 r15 r16.1 r16.2 r17.1 r17.2)))) := by kernel_rfl
theorem laws_FnInputsThatMatter.l4_eq (k : Nat) (x0 : List Int) (x1 : List Int) (x2 : List Int) (x3 : Int) (x4 : Bool) (x5 : Int) (x6 : Bool) : laws_FnInputsThatMatter.l4 (k + 1) x0 x1 x2 x3 x4 x5 x6 = (br ((((List.length x2) : Nat) : Int) != (3 : Int)) (some false) (br (Bool.not x4) (some false) (br (Bool.not x6) (some false) (br (x3 == x5) (some false) (laws_FnInputsThatMatter.l5 k x0 x1))))) := by kernel_rfl
theorem laws_FnInputsThatMatter.l6_eq (k : Nat) (x0 : List Int) (x1 : List Int) (x2 : List (ByteArray × (Int × (Int × Int)))) (x3 : Int) (x4 : Bool) (x5 : Int) (x6 : Bool) : laws_FnInputsThatMatter.l6 (k + 1) x0 x1 x2 x3 x4 x5 x6 = (bd (impl_RangeOf.f k x2) fun r18 => (bd (spec_RangeOf.f k x2) fun r19 => (laws_FnInputsThatMatter.l7 k x0 x1 x2 x3 x4 x5 x6 r18.1 r18.2.1 r18.2.2 r19.1 r19.2.1 r19.2.2))) := by kernel_rfl
theorem laws_FnInputsThatMatter.l7_eq (k : Nat) (x0 : List Int) (x1 : List Int) (x2 : List (ByteArray × (Int × (Int × Int)))) (x3 : Int) (x4 : Bool) (x5 : Int) (x6 : Bool) (x7 : Int) (x8 : Int) (x9 : Bool) (x10 : Int) (x11 : Int) (x12 : Bool) : laws_FnInputsThatMatter.l7 (k + 1) x0 x1 x2 x3 x4 x5 x6 x7 x8 x9 x10 x11 x12 = (br (Bool.not (x4 == x6)) (some false) (br (x3 != x5) (some false) (br (Bool.not (x9 == x12)) (some false) (br (x7 != x10) (some false) (br (x8 != x11) (some false) (bd (impl_IsExpr.f k x2) fun r20 => (br (Bool.not (x9 == r20)) (some false) (br x9 (br (Bool.not (x4 == (x7 == x8))) (some false) (br x4 (br (x3 != x7) (some false) (laws_FnInputsThatMatter.l8 k x0 x1 x2 x4 x7 x8 x9)) (laws_FnInputsThatMatter.l8 k x0 x1 x2 x4 x7 x8 x9))) (br x4 (br (x3 != x7) (some false) (laws_FnInputsThatMatter.l8 k x0 x1 x2 x4 x7 x8 x9)) (laws_FnInputsThatMatter.l8 k x0 x1 x2 x4 x7 x8 x9)))))))))) := by kernel_rfl
theorem laws_FnInputsThatMatter.l8_eq (k : Nat) (x0 : List Int) (x1 : List Int) (x2 : List (ByteArray × (Int × (Int × Int)))) (x3 : Bool) (x4 : Int) (x5 : Int) (x6 : Bool) : laws_FnInputsThatMatter.l8 (k + 1) x0 x1 x2 x3 x4 x5 x6 = (br x6 (bd (impl_DependsOn.f k x2 (0 : Int)) fun r21 => (bd (impl_DependsOn.f k x2 (1 : Int)) fun r22 => (bd (impl_EvalExpr.f k x2 (Int.tmod (Go.IntKind.wrap .i64 ((7 : Int) * (((List.length x0) : Nat) : Int))) (64 : Int)) (Int.tmod (Go.IntKind.wrap .i64 ((11 : Int) * (((List.length x1) : Nat) : Int))) (64 : Int))) fun r23 => (laws_FnInputsThatMatter.l9 k x0 x1 x3 x4 x5 r21.1 r21.2 r22.1 r22.2 r23.1 r23.2)))) (laws_FnInputsThatMatter.l10 k x0 x1)) := by kernel_rfl
theorem laws_FnInputsThatMatter.l9_eq (k : Nat) (x0 : List Int) (x1 : List Int) (x2 : Bool) (x3 : Int) (x4 : Int) (x5 : Bool) (x6 : Bool) (x7 : Bool) (x8 : Bool) (x9 : Int) (x10 : Bool) : laws_FnInputsThatMatter.l9 (k + 1) x0 x1 x2 x3 x4 x5 x6 x7 x8 x9 x10 = (br (Bool.not x6) (some false) (br (Bool.not x8) (some false) (br (Bool.not x5) (br (Bool.not (x2 == (Bool.not x7))) (some false) (br (Bool.not x10) (some false) (br (decide (x9 < x3)) (some false) (br (decide (x9 > x4)) (some false) (laws_FnInputsThatMatter.l10 k x0 x1))))) (br (Bool.not (x2 == false)) (some false) (br (Bool.not x10) (some false) (br (decide (x9 < x3)) (some false) (br (decide (x9 > x4)) (some false) (laws_FnInputsThatMatter.l10 k x0 x1)))))))) := by kernel_rfl
theorem laws_FnInputsThatMatter.l10_eq (k : Nat) (x0 : List Int) (x1 : List Int) : laws_FnInputsThatMatter.l10 (k + 1) x0 x1 = (bd (spec_DrawIsSymmetric.f k x1) fun r24 => (bd (impl_IsSymmetric.f k r24) fun r25 => (bd (spec_IsSymmetric.f k r24) fun r26 => (laws_FnInputsThatMatter.l11 k x0 x1 r24 r25.1 r25.2 r26.1 r26.2)))) := by kernel_rfl
theorem laws_FnInputsThatMatter.l11_eq (k : Nat) (x0 : List Int) (x1 : List Int) (x2 : List (ByteArray × (Int × (Int × Int)))) (x3 : Bool) (x4 : Bool) (x5 : Bool) (x6 : Bool) : laws_FnInputsThatMatter.l11 (k + 1) x0 x1 x2 x3 x4 x5 x6 = (br (Bool.not (x4 == x6)) (some false) (br (Bool.not (x3 == x5)) (some false) (laws_FnInputsThatMatter.l12 k x0 x1 x2 x3))) := by kernel_rfl
theorem laws_FnInputsThatMatter.l12_eq (k : Nat) (x0 : List Int) (x1 : List Int) (x2 : List (ByteArray × (Int × (Int × Int)))) (x3 : Bool) : laws_FnInputsThatMatter.l12 (k + 1) x0 x1 x2 x3 = (br x3 (bd (impl_EvalExpr.f k x2 (Int.tmod (((List.length x1) : Nat) : Int) (64 : Int)) (Int.tmod (Go.IntKind.wrap .i64 ((Go.IntKind.wrap .i64 ((5 : Int) * (((List.length x0) : Nat) : Int))) + (1 : Int))) (64 : Int))) fun r27 => (bd (impl_EvalExpr.f k x2 (Int.tmod (Go.IntKind.wrap .i64 ((Go.IntKind.wrap .i64 ((5 : Int) * (((List.length x0) : Nat) : Int))) + (1 : Int))) (64 : Int)) (Int.tmod (((List.length x1) : Nat) : Int) (64 : Int))) fun r28 => (br r27.2 (br r28.2 (some (r27.1 == r28.1)) (some false)) (some false)))) (some true)) := by kernel_rfl
theorem laws_FnInputsThatMatter.b : fnB P0 3 (ntOf P0 3) = true := by kernel_rfl
theorem laws_FnInputsThatMatter.Tok (k : Nat) : TS P0 (laws_FnInputsThatMatter.T k) := (tabs_cons (laws_big.tok) (tabs_cons (spec_DrawDependWitness.tok k) (tabs_cons (impl_DependWitness.tok k) (tabs_cons (spec_DependWitness.tok k) (tabs_cons (impl_DependsOn.tok k) (tabs_cons (spec_DependsOn.tok k) (tabs_cons (laws_gSame.tok k) (tabs_cons (impl_EvalExpr.tok k) (tabs_cons (spec_DrawConstantOf.tok k) (tabs_cons (impl_ConstantOf.tok k) (tabs_cons (spec_ConstantOf.tok k) (tabs_cons (impl_RangeOf.tok k) (tabs_cons (spec_RangeOf.tok k) (tabs_cons (impl_IsExpr.tok k) (tabs_cons (spec_DrawIsSymmetric.tok k) (tabs_cons (impl_IsSymmetric.tok k) (tabs_cons (spec_IsSymmetric.tok k) tabs_nil)))))))))))))))))
theorem laws_FnInputsThatMatter.calls (k : Nat) (a0 : (List Int)) (a1 : (List Int)) {r : Bool} (h : laws_FnInputsThatMatter.f k a0 a1 = some r) : ACalls P0 3 [mkP false (.sl (.i .u8)) a0, mkP false (.sl (.i .u8)) a1] [] (enc0 (cV false .b) r) := fn0 (E := laws_FnInputsThatMatter.E) mix (T := laws_FnInputsThatMatter.T) laws_FnInputsThatMatter.Tok (f := 3) laws_FnInputsThatMatter.b (cd := (cV false .b)) (cV_ok _ _) (cvs := [.id]) h
noncomputable def laws_FnInputsThatMatter.v (a0 : (List Int)) (a1 : (List Int)) := lim fun _ k => laws_FnInputsThatMatter.f k a0 a1
noncomputable def laws_FnInputsThatMatter.v0 (x0 : List Int) (x1 : List Int) (x2 : List (ByteArray × (Int × (Int × Int)))) (x3 : Int) (x4 : List Int) (x5 : Bool) := lim fun _ k => laws_FnInputsThatMatter.l0 k x0 x1 x2 x3 x4 x5
noncomputable def laws_FnInputsThatMatter.v1 (x0 : List Int) (x1 : List Int) (x2 : List (ByteArray × (Int × (Int × Int)))) (x3 : Int) (x4 : List Int) (x5 : Bool) (x6 : List Int) (x7 : Bool) (x8 : Bool) (x9 : Bool) (x10 : Bool) (x11 : Bool) := lim fun _ k => laws_FnInputsThatMatter.l1 k x0 x1 x2 x3 x4 x5 x6 x7 x8 x9 x10 x11
noncomputable def laws_FnInputsThatMatter.v2 (x0 : List Int) (x1 : List Int) (x2 : List (ByteArray × (Int × (Int × Int)))) (x3 : Int) (x4 : List Int) (x5 : Bool) := lim fun _ k => laws_FnInputsThatMatter.l2 k x0 x1 x2 x3 x4 x5
noncomputable def laws_FnInputsThatMatter.v3 (x0 : List Int) (x1 : List Int) (x2 : List (ByteArray × (Int × (Int × Int)))) (x3 : List Int) (x4 : Int) (x5 : Bool) (x6 : Int) (x7 : Int) := lim fun _ k => laws_FnInputsThatMatter.l3 k x0 x1 x2 x3 x4 x5 x6 x7
noncomputable def laws_FnInputsThatMatter.v5 (x0 : List Int) (x1 : List Int) := lim fun _ k => laws_FnInputsThatMatter.l5 k x0 x1
noncomputable def laws_FnInputsThatMatter.v4 (x0 : List Int) (x1 : List Int) (x2 : List Int) (x3 : Int) (x4 : Bool) (x5 : Int) (x6 : Bool) := lim fun _ k => laws_FnInputsThatMatter.l4 k x0 x1 x2 x3 x4 x5 x6
noncomputable def laws_FnInputsThatMatter.v6 (x0 : List Int) (x1 : List Int) (x2 : List (ByteArray × (Int × (Int × Int)))) (x3 : Int) (x4 : Bool) (x5 : Int) (x6 : Bool) := lim fun _ k => laws_FnInputsThatMatter.l6 k x0 x1 x2 x3 x4 x5 x6
noncomputable def laws_FnInputsThatMatter.v7 (x0 : List Int) (x1 : List Int) (x2 : List (ByteArray × (Int × (Int × Int)))) (x3 : Int) (x4 : Bool) (x5 : Int) (x6 : Bool) (x7 : Int) (x8 : Int) (x9 : Bool) (x10 : Int) (x11 : Int) (x12 : Bool) := lim fun _ k => laws_FnInputsThatMatter.l7 k x0 x1 x2 x3 x4 x5 x6 x7 x8 x9 x10 x11 x12
noncomputable def laws_FnInputsThatMatter.v8 (x0 : List Int) (x1 : List Int) (x2 : List (ByteArray × (Int × (Int × Int)))) (x3 : Bool) (x4 : Int) (x5 : Int) (x6 : Bool) := lim fun _ k => laws_FnInputsThatMatter.l8 k x0 x1 x2 x3 x4 x5 x6
noncomputable def laws_FnInputsThatMatter.v9 (x0 : List Int) (x1 : List Int) (x2 : Bool) (x3 : Int) (x4 : Int) (x5 : Bool) (x6 : Bool) (x7 : Bool) (x8 : Bool) (x9 : Int) (x10 : Bool) := lim fun _ k => laws_FnInputsThatMatter.l9 k x0 x1 x2 x3 x4 x5 x6 x7 x8 x9 x10
noncomputable def laws_FnInputsThatMatter.v10 (x0 : List Int) (x1 : List Int) := lim fun _ k => laws_FnInputsThatMatter.l10 k x0 x1
noncomputable def laws_FnInputsThatMatter.v11 (x0 : List Int) (x1 : List Int) (x2 : List (ByteArray × (Int × (Int × Int)))) (x3 : Bool) (x4 : Bool) (x5 : Bool) (x6 : Bool) := lim fun _ k => laws_FnInputsThatMatter.l11 k x0 x1 x2 x3 x4 x5 x6
noncomputable def laws_FnInputsThatMatter.v12 (x0 : List Int) (x1 : List Int) (x2 : List (ByteArray × (Int × (Int × Int)))) (x3 : Bool) := lim fun _ k => laws_FnInputsThatMatter.l12 k x0 x1 x2 x3
theorem laws_FnInputsThatMatter.vs (a0 : (List Int)) (a1 : (List Int)) {r} (h : (bd (laws_big.f a0 a1) fun r0 => (br r0 (some true) (bd (spec_DrawDependWitness.v a0) fun r1 => (bd (impl_DependWitness.v r1.1 r1.2) fun r2 => (laws_FnInputsThatMatter.v0 a0 a1 r1.1 r1.2 r2.1 r2.2))))) = some r) : laws_FnInputsThatMatter.v a0 a1 = some r := vstep (fun d k => laws_FnInputsThatMatter.eq k a0 a1) h
theorem laws_FnInputsThatMatter.v0s (x0 : List Int) (x1 : List Int) (x2 : List (ByteArray × (Int × (Int × Int)))) (x3 : Int) (x4 : List Int) (x5 : Bool) {r} (h : (bd (spec_DependWitness.v x2 x3) fun r3 => (bd (impl_DependsOn.v x2 x3) fun r4 => (bd (spec_DependsOn.v x2 x3) fun r5 => (laws_FnInputsThatMatter.v1 x0 x1 x2 x3 x4 x5 r3.1 r3.2 r4.1 r4.2 r5.1 r5.2)))) = some r) : laws_FnInputsThatMatter.v0 x0 x1 x2 x3 x4 x5 = some r := vstep (fun d k => laws_FnInputsThatMatter.l0_eq k x0 x1 x2 x3 x4 x5) h
theorem laws_FnInputsThatMatter.v1s (x0 : List Int) (x1 : List Int) (x2 : List (ByteArray × (Int × (Int × Int)))) (x3 : Int) (x4 : List Int) (x5 : Bool) (x6 : List Int) (x7 : Bool) (x8 : Bool) (x9 : Bool) (x10 : Bool) (x11 : Bool) {r} (h : (br (Bool.not (x5 == x7)) (some false) (bd (laws_gSame.v x4 x6) fun r6 => (br (Bool.not r6) (some false) (br (Bool.not (x9 == x11)) (some false) (br (Bool.not (x8 == x10)) (some false) (br (Bool.not (x5 == x8)) (some false) (laws_FnInputsThatMatter.v2 x0 x1 x2 x3 x4 x5))))))) = some r) : laws_FnInputsThatMatter.v1 x0 x1 x2 x3 x4 x5 x6 x7 x8 x9 x10 x11 = some r := vstep (fun d k => laws_FnInputsThatMatter.l1_eq k x0 x1 x2 x3 x4 x5 x6 x7 x8 x9 x10 x11) h
theorem laws_FnInputsThatMatter.v2s (x0 : List Int) (x1 : List Int) (x2 : List (ByteArray × (Int × (Int × Int)))) (x3 : Int) (x4 : List Int) (x5 : Bool) {r} (h : (br x5 (gt x4 (Int.toNat (0 : Int)) fun r7 => (gt x4 (Int.toNat (1 : Int)) fun r8 => (bd (impl_EvalExpr.v x2 r7 r8) fun r9 => (gt x4 (Int.toNat (2 : Int)) fun r10 => (gt x4 (Int.toNat (1 : Int)) fun r11 => (br (x3 == (1 : Int)) (gt x4 (Int.toNat (0 : Int)) fun r12 => (gt x4 (Int.toNat (2 : Int)) fun r13 => (laws_FnInputsThatMatter.v3 x0 x1 x2 x4 r9.1 r9.2 r12 r13))) (laws_FnInputsThatMatter.v3 x0 x1 x2 x4 r9.1 r9.2 r10 r11))))))) (laws_FnInputsThatMatter.v5 x0 x1)) = some r) : laws_FnInputsThatMatter.v2 x0 x1 x2 x3 x4 x5 = some r := vstep (fun d k => laws_FnInputsThatMatter.l2_eq k x0 x1 x2 x3 x4 x5) h
theorem laws_FnInputsThatMatter.v3s (x0 : List Int) (x1 : List Int) (x2 : List (ByteArray × (Int × (Int × Int)))) (x3 : List Int) (x4 : Int) (x5 : Bool) (x6 : Int) (x7 : Int) {r} (h : (bd (impl_EvalExpr.v x2 x6 x7) fun r14 => (laws_FnInputsThatMatter.v4 x0 x1 x3 x4 x5 r14.1 r14.2)) = some r) : laws_FnInputsThatMatter.v3 x0 x1 x2 x3 x4 x5 x6 x7 = some r := vstep (fun d k => laws_FnInputsThatMatter.l3_eq k x0 x1 x2 x3 x4 x5 x6 x7) h
theorem laws_FnInputsThatMatter.v5s (x0 : List Int) (x1 : List Int) {r} (h : (bd (spec_DrawConstantOf.v x1) fun r15 => (bd (impl_ConstantOf.v r15) fun r16 => (bd (spec_ConstantOf.v r15) fun r17 => (laws_FnInputsThatMatter.v6 x0 x1 r15 r16.1 r16.2 r17.1 r17.2)))) = some r) : laws_FnInputsThatMatter.v5 x0 x1 = some r := vstep (fun d k => laws_FnInputsThatMatter.l5_eq k x0 x1) h
theorem laws_FnInputsThatMatter.v4s (x0 : List Int) (x1 : List Int) (x2 : List Int) (x3 : Int) (x4 : Bool) (x5 : Int) (x6 : Bool) {r} (h : (br ((((List.length x2) : Nat) : Int) != (3 : Int)) (some false) (br (Bool.not x4) (some false) (br (Bool.not x6) (some false) (br (x3 == x5) (some false) (laws_FnInputsThatMatter.v5 x0 x1))))) = some r) : laws_FnInputsThatMatter.v4 x0 x1 x2 x3 x4 x5 x6 = some r := vstep (fun d k => laws_FnInputsThatMatter.l4_eq k x0 x1 x2 x3 x4 x5 x6) h
theorem laws_FnInputsThatMatter.v6s (x0 : List Int) (x1 : List Int) (x2 : List (ByteArray × (Int × (Int × Int)))) (x3 : Int) (x4 : Bool) (x5 : Int) (x6 : Bool) {r} (h : (bd (impl_RangeOf.v x2) fun r18 => (bd (spec_RangeOf.v x2) fun r19 => (laws_FnInputsThatMatter.v7 x0 x1 x2 x3 x4 x5 x6 r18.1 r18.2.1 r18.2.2 r19.1 r19.2.1 r19.2.2))) = some r) : laws_FnInputsThatMatter.v6 x0 x1 x2 x3 x4 x5 x6 = some r := vstep (fun d k => laws_FnInputsThatMatter.l6_eq k x0 x1 x2 x3 x4 x5 x6) h
theorem laws_FnInputsThatMatter.v7s (x0 : List Int) (x1 : List Int) (x2 : List (ByteArray × (Int × (Int × Int)))) (x3 : Int) (x4 : Bool) (x5 : Int) (x6 : Bool) (x7 : Int) (x8 : Int) (x9 : Bool) (x10 : Int) (x11 : Int) (x12 : Bool) {r} (h : (br (Bool.not (x4 == x6)) (some false) (br (x3 != x5) (some false) (br (Bool.not (x9 == x12)) (some false) (br (x7 != x10) (some false) (br (x8 != x11) (some false) (bd (impl_IsExpr.v x2) fun r20 => (br (Bool.not (x9 == r20)) (some false) (br x9 (br (Bool.not (x4 == (x7 == x8))) (some false) (br x4 (br (x3 != x7) (some false) (laws_FnInputsThatMatter.v8 x0 x1 x2 x4 x7 x8 x9)) (laws_FnInputsThatMatter.v8 x0 x1 x2 x4 x7 x8 x9))) (br x4 (br (x3 != x7) (some false) (laws_FnInputsThatMatter.v8 x0 x1 x2 x4 x7 x8 x9)) (laws_FnInputsThatMatter.v8 x0 x1 x2 x4 x7 x8 x9)))))))))) = some r) : laws_FnInputsThatMatter.v7 x0 x1 x2 x3 x4 x5 x6 x7 x8 x9 x10 x11 x12 = some r := vstep (fun d k => laws_FnInputsThatMatter.l7_eq k x0 x1 x2 x3 x4 x5 x6 x7 x8 x9 x10 x11 x12) h
theorem laws_FnInputsThatMatter.v8s (x0 : List Int) (x1 : List Int) (x2 : List (ByteArray × (Int × (Int × Int)))) (x3 : Bool) (x4 : Int) (x5 : Int) (x6 : Bool) {r} (h : (br x6 (bd (impl_DependsOn.v x2 (0 : Int)) fun r21 => (bd (impl_DependsOn.v x2 (1 : Int)) fun r22 => (bd (impl_EvalExpr.v x2 (Int.tmod (Go.IntKind.wrap .i64 ((7 : Int) * (((List.length x0) : Nat) : Int))) (64 : Int)) (Int.tmod (Go.IntKind.wrap .i64 ((11 : Int) * (((List.length x1) : Nat) : Int))) (64 : Int))) fun r23 => (laws_FnInputsThatMatter.v9 x0 x1 x3 x4 x5 r21.1 r21.2 r22.1 r22.2 r23.1 r23.2)))) (laws_FnInputsThatMatter.v10 x0 x1)) = some r) : laws_FnInputsThatMatter.v8 x0 x1 x2 x3 x4 x5 x6 = some r := vstep (fun d k => laws_FnInputsThatMatter.l8_eq k x0 x1 x2 x3 x4 x5 x6) h
theorem laws_FnInputsThatMatter.v9s (x0 : List Int) (x1 : List Int) (x2 : Bool) (x3 : Int) (x4 : Int) (x5 : Bool) (x6 : Bool) (x7 : Bool) (x8 : Bool) (x9 : Int) (x10 : Bool) {r} (h : (br (Bool.not x6) (some false) (br (Bool.not x8) (some false) (br (Bool.not x5) (br (Bool.not (x2 == (Bool.not x7))) (some false) (br (Bool.not x10) (some false) (br (decide (x9 < x3)) (some false) (br (decide (x9 > x4)) (some false) (laws_FnInputsThatMatter.v10 x0 x1))))) (br (Bool.not (x2 == false)) (some false) (br (Bool.not x10) (some false) (br (decide (x9 < x3)) (some false) (br (decide (x9 > x4)) (some false) (laws_FnInputsThatMatter.v10 x0 x1)))))))) = some r) : laws_FnInputsThatMatter.v9 x0 x1 x2 x3 x4 x5 x6 x7 x8 x9 x10 = some r := vstep (fun d k => laws_FnInputsThatMatter.l9_eq k x0 x1 x2 x3 x4 x5 x6 x7 x8 x9 x10) h
theorem laws_FnInputsThatMatter.v10s (x0 : List Int) (x1 : List Int) {r} (h : (bd (spec_DrawIsSymmetric.v x1) fun r24 => (bd (impl_IsSymmetric.v r24) fun r25 => (bd (spec_IsSymmetric.v r24) fun r26 => (laws_FnInputsThatMatter.v11 x0 x1 r24 r25.1 r25.2 r26.1 r26.2)))) = some r) : laws_FnInputsThatMatter.v10 x0 x1 = some r := vstep (fun d k => laws_FnInputsThatMatter.l10_eq k x0 x1) h
theorem laws_FnInputsThatMatter.v11s (x0 : List Int) (x1 : List Int) (x2 : List (ByteArray × (Int × (Int × Int)))) (x3 : Bool) (x4 : Bool) (x5 : Bool) (x6 : Bool) {r} (h : (br (Bool.not (x4 == x6)) (some false) (br (Bool.not (x3 == x5)) (some false) (laws_FnInputsThatMatter.v12 x0 x1 x2 x3))) = some r) : laws_FnInputsThatMatter.v11 x0 x1 x2 x3 x4 x5 x6 = some r := vstep (fun d k => laws_FnInputsThatMatter.l11_eq k x0 x1 x2 x3 x4 x5 x6) h
theorem laws_FnInputsThatMatter.v12s (x0 : List Int) (x1 : List Int) (x2 : List (ByteArray × (Int × (Int × Int)))) (x3 : Bool) {r} (h : (br x3 (bd (impl_EvalExpr.v x2 (Int.tmod (((List.length x1) : Nat) : Int) (64 : Int)) (Int.tmod (Go.IntKind.wrap .i64 ((Go.IntKind.wrap .i64 ((5 : Int) * (((List.length x0) : Nat) : Int))) + (1 : Int))) (64 : Int))) fun r27 => (bd (impl_EvalExpr.v x2 (Int.tmod (Go.IntKind.wrap .i64 ((Go.IntKind.wrap .i64 ((5 : Int) * (((List.length x0) : Nat) : Int))) + (1 : Int))) (64 : Int)) (Int.tmod (((List.length x1) : Nat) : Int) (64 : Int))) fun r28 => (br r27.2 (br r28.2 (some (r27.1 == r28.1)) (some false)) (some false)))) (some true)) = some r) : laws_FnInputsThatMatter.v12 x0 x1 x2 x3 = some r := vstep (fun d k => laws_FnInputsThatMatter.l12_eq k x0 x1 x2 x3) h
end Go.Proofs.Ytiofklineiioaaa.Am
end
section
/- The law FnInputsThatMatter, in plain Lean. -/
namespace Go.Proofs.Ytiofklineiioaaa.Am
open Go
set_option linter.unusedVariables false
set_option linter.unusedSimpArgs false

theorem l1All_v (c : List Int) (lo hi : Int) (hl : c.length ≤ 1000000) : spec_l1All.v c lo hi = some (c.all fun x => inB x lo hi) := by
  have key : ∀ (d i : Nat), i + d = c.length → spec_l1All.v0 lo hi c (c.length : Int) (i : Int) = some ((c.drop i).all fun x => inB x lo hi) := by
    intro d
    induction d with
    | zero =>
      intro i hi
      refine spec_l1All.v0s _ _ _ _ _ ?_
      rw [br_f (by simp; omega), List.drop_eq_nil_of_le (by omega)]; rfl
    | succ d ih =>
      intro i hi'
      have hlt : i < c.length := by omega
      refine spec_l1All.v0s _ _ _ _ _ ?_
      rw [br_t (by simpa using hlt), br_t (by simp), Int.toNat_natCast, gt_at _ hlt, l1In_f, bd_s, drop_at _ _ hlt, List.all_cons]
      cases e : inB c[i] lo hi with
      | false => rw [brn_f]; rfl
      | true => rw [brn_t, next_ok i _ hlt (by omega), ih (i + 1) (by omega)]; rfl
  exact spec_l1All.vs _ _ _ (by have := key c.length 0 (by omega); simpa using this)
theorem const_v {e : List Nd} (hg : exprOk e = true) (hl : e.length ≤ 1048576) {lo hi : Int} (h1 : impl_RangeOf.v e = some (lo, (hi, true))) (ll : Least (tabP e) lo) (lm : Most (tabP e) hi) :
    impl_ConstantOf.v e = some (if lo = hi then (lo, true) else (0, false)) ∧ spec_ConstantOf.v e = some (if lo = hi then (lo, true) else (0, false)) := by
  obtain ⟨n1, n2, n3⟩ := exprs hg
  have tl := tabP_len e
  refine ⟨impl_ConstantOf.vs _ ?_, spec_ConstantOf.vs _ ?_⟩
  · rw [h1, bd_s]
    dsimp only
    rw [brn_t]
    by_cases c : lo = hi
    · rw [br_f (by simpa using c), if_pos c]
    · rw [br_t (by simpa using c), if_neg c]
  · have g0 : (tabP e)[Int.toNat 0]? = some (tv (tabP e) 0) := tv_get (by omega)
    have m0 : tv (tabP e) 0 ∈ tabP e := tabP_mem.2 ⟨0, by omega, rfl⟩
    rw [exGood_v e hl, bd_s, hg, brn_t, exTable_v n1 n2 n3, bd_s, gt_some g0, gt_some g0, l1All_v _ _ _ (by omega), bd_s]
    have a1 := ll.2 _ m0
    have a2 := lm.2 _ m0
    by_cases c : lo = hi
    · have all : ((tabP e).all fun x => inB x (tv (tabP e) 0) (tv (tabP e) 0)) = true := by
        rw [List.all_eq_true]
        intro x hx
        have b1 := ll.2 _ hx
        have b2 := lm.2 _ hx
        exact inB_iff.2 ⟨by omega, by omega⟩
      rw [all, brn_t, gt_some g0, if_pos c, show tv (tabP e) 0 = lo by omega]
    · have all : ((tabP e).all fun x => inB x (tv (tabP e) 0) (tv (tabP e) 0)) = false := by
        rw [← Bool.not_eq_true, List.all_eq_true]
        intro h
        have b1 := inB_iff.1 (h _ ll.1)
        have b2 := inB_iff.1 (h _ lm.1)
        omega
      rw [all, brn_f, if_neg c]
theorem gSame_self (a : List Int) (ha : a.length ≤ 1000000) : laws_gSame.v a a = some true := by
  have key : ∀ (d i : Nat), i + d = a.length → laws_gSame.v0 a a (a.length : Int) (i : Int) = some true := by
    intro d
    induction d with
    | zero =>
      intro i hi
      refine laws_gSame.v0s _ _ _ _ ?_
      rw [br_f (by simp; omega)]
    | succ d ih =>
      intro i hi
      have hlt : i < a.length := by omega
      refine laws_gSame.v0s _ _ _ _ ?_
      rw [br_t (by simpa using hlt), br_t (by simp), Int.toNat_natCast, gt_at _ hlt, br_t (by simp), gt_at _ hlt, br_f (by simp), next_ok i _ hlt (by omega)]
      exact ih (i + 1) (by omega)
  exact laws_gSame.vs _ _ (by rw [br_f (by simp)]; exact key a.length 0 (by omega))

/-! ### the draws -/
theorem drawDepend_v {l : List Int} (h : Bytes l) : ∃ (e : List Nd) (k : Int), spec_DrawDependWitness.v l = some (e, k) ∧ e.length ≤ 60 := by
  obtain ⟨e, c, he, hl, hc⟩ := anyExpr_d h.cu (by omega)
  obtain ⟨k, c1, e1, _, _⟩ := among_d [0, 1, 1, 0, 2, -1] (by simp) hc (by omega)
  exact ⟨e, k, spec_DrawDependWitness.vs _ (by rw [spec_DrawDependsOn.vs _ (by rw [he, bd_s]; dsimp only; rw [e1, bd_s])]; rfl), hl⟩
theorem drawConst_v {l : List Int} (h : Bytes l) : ∃ (e : List Nd), spec_DrawConstantOf.v l = some e ∧ e.length ≤ 100 := by
  obtain ⟨e, c, he, hl, hc⟩ := anyExpr_d h.cu (by omega)
  have base : ∀ r, br (exprOk e) (br (decide ((e.length : Int) < 24)) (bd (spec_l1Cur_one.f 3 c.1 c.2.1 c.2.2) fun r2 => (br r2.1 (br (decide ((0 + (List.length e)) ≤ (35184372088832 / (40 + 1)))) (bd (spec_l1Cur_of.f [(⟨#[115, 117, 98]⟩ : ByteArray), (⟨#[120, 111, 114]⟩ : ByteArray), (⟨#[101, 113]⟩ : ByteArray), (⟨#[108, 101, 115, 115]⟩ : ByteArray)] r2.2.1 r2.2.2.1 r2.2.2.2) fun r3 => (br (decide (((List.length ([] ++ e)) + (List.length ((r3.1, ((IntKind.wrap .i64 ((((List.length e) : Nat) : Int) - (1 : Int))), ((IntKind.wrap .i64 ((((List.length e) : Nat) : Int) - (1 : Int))), (0 : Int)))) :: []))) ≤ (35184372088832 / (40 + 1)))) (some (([] ++ e) ++ ((r3.1, ((IntKind.wrap .i64 ((((List.length e) : Nat) : Int) - (1 : Int))), ((IntKind.wrap .i64 ((((List.length e) : Nat) : Int) - (1 : Int))), (0 : Int)))) :: []))) none)) none) (some e))) (some e)) (some e) = some r → spec_DrawConstantOf.v l = some r := fun r hr => by
    refine spec_DrawConstantOf.vs _ ?_
    rw [he, bd_s]
    dsimp only
    rw [exGood_v e (by omega), bd_s]
    exact hr
  cases hg : exprOk e with
  | false => exact ⟨e, base _ (by rw [hg]; rfl), by omega⟩
  | true =>
    by_cases c24 : (e.length : Int) < 24
    · obtain ⟨b, c1, e1, _, hc1⟩ := one_d 3 hc (by omega)
      cases b with
      | false => exact ⟨e, base _ (by rw [hg, br_t rfl, br_t (decide_eq_true c24), e1, bd_s, br_f rfl]), by omega⟩
      | true =>
        obtain ⟨s, c2, e2, _, _⟩ := of_d [(⟨#[115, 117, 98]⟩ : ByteArray), (⟨#[120, 111, 114]⟩ : ByteArray), (⟨#[101, 113]⟩ : ByteArray), (⟨#[108, 101, 115, 115]⟩ : ByteArray)] (by simp) hc1 (by omega)
        refine ⟨([] ++ e) ++ [(s, (IntKind.wrap .i64 ((e.length : Int) - 1), (IntKind.wrap .i64 ((e.length : Int) - 1), (0 : Int))))], base _ ?_, by simp; omega⟩
        rw [hg, br_t rfl, br_t (decide_eq_true c24), e1, bd_s, br_t rfl, br_t (decide_eq_true (by omega))]
        dsimp only
        rw [e2, bd_s, br_t (decide_eq_true (by simp; omega))]
    · exact ⟨e, base _ (by rw [hg, br_t rfl, br_f (decide_eq_false c24)]), by omega⟩
theorem drawSym_v {l : List Int} (h : Bytes l) : ∃ (e : List Nd), spec_DrawIsSymmetric.v l = some e ∧ e.length ≤ 100 := by
  obtain ⟨s, c, es, hs, hc⟩ := of_d fiveT (by simp [fiveT]) h.cu (by omega)
  obtain ⟨o, ho, hol⟩ := parse_v hs
  obtain ⟨b, c1, e1, _, hc1⟩ := one_d 3 hc (by omega)
  have pre : ∀ r, (br b (some o) (bd (spec_l1Cur_anyExpr.v 3 c1.1 c1.2.1 c1.2.2) fun r3 => some r3.1)) = some r → spec_DrawIsSymmetric.v l = some r := fun r hr => by
    refine spec_DrawIsSymmetric.vs _ ?_
    unfold fiveT at es
    rw [es, bd_s]
    dsimp only
    rw [ho, bd_s]
    dsimp only
    rw [br_t rfl, e1, bd_s]
    exact hr
  cases b with
  | true => exact ⟨o, pre _ (br_t rfl), by omega⟩
  | false =>
    obtain ⟨e, c2, e2, hl, _⟩ := anyExpr_d hc1 (by omega)
    exact ⟨e, pre _ (by rw [br_f rfl, e2, bd_s]), by omega⟩

/-! ### the law -/
theorem evalP_at (e : List Nd) {a b : Nat} (ha : a < 64) (hb : b < 64) : tv (tabP e) (64 * a + b) = evalP e (a : Int) (b : Int) := by
  rw [tabP_tv e (by omega), show (64 * a + b) / 64 = a by omega, show (64 * a + b) % 64 = b by omega]
theorem wordN {a : Nat} (h : a < 64) : word (a : Int) := ⟨by omega, by omega⟩
section
variable {x0 x1 : List Int}
theorem in10 (b0 : x0.length ≤ 1048576) (hx1 : Bytes x1) : laws_FnInputsThatMatter.v10 x0 x1 = some true := by
  obtain ⟨g, hd, hl⟩ := drawSym_v hx1
  obtain ⟨r, e1, e2, hr⟩ := symm_v g (by omega)
  refine laws_FnInputsThatMatter.v10s _ _ ?_
  rw [hd, bd_s, e1, bd_s, e2, bd_s]
  refine laws_FnInputsThatMatter.v11s _ _ _ _ _ _ _ ?_
  rw [br_f (by simp), br_f (by simp)]
  refine laws_FnInputsThatMatter.v12s _ _ _ _ ?_
  cases r with
  | false => rfl
  | true =>
    obtain ⟨hg, hs⟩ := hr rfl
    have hs := hs.1 rfl
    have w1 : IntKind.wrap .i64 (IntKind.wrap .i64 (5 * (x0.length : Int)) + 1) = ((5 * x0.length + 1 : Nat) : Int) := by
      rw [wrap_ok (x := 5 * (x0.length : Int)) (by omega) (by omega), wrap_ok (by omega) (by omega)]; omega
    rw [br_t rfl, w1, md, md]
    generalize ha : x1.length % 64 = a
    generalize hb : (5 * x0.length + 1) % 64 = b
    have a64 : a < 64 := by omega
    have b64 : b < 64 := by omega
    have h := hs (64 * a + b) (by omega)
    rw [show (64 * a + b) / 64 = a by omega, show (64 * a + b) % 64 = b by omega, evalP_at g b64 a64, evalP_at g a64 b64] at h
    rw [evalExpr_t hg (by omega) (wordN a64) (wordN b64), bd_s, evalExpr_t hg (by omega) (wordN b64) (wordN a64), bd_s, br_t rfl, br_t rfl, h]
    simp
theorem in8 (b0 : x0.length ≤ 1048576) (b1 : x1.length ≤ 1048576) (hx1 : Bytes x1) {f : List Nd} (hl : f.length ≤ 100) {three five : Bool} {lo hi : Int} (h : five = true → exprOk f = true ∧ Least (tabP f) lo ∧ Most (tabP f) hi ∧ three = decide (lo = hi)) : laws_FnInputsThatMatter.v8 x0 x1 f three lo hi five = some true := by
  refine laws_FnInputsThatMatter.v8s _ _ _ _ _ _ _ ?_
  cases five with
  | false => rw [br_f rfl]; exact in10 b0 hx1
  | true =>
    obtain ⟨hg, ll, lm, h3⟩ := h rfl
    obtain ⟨r0, _, _, p0, _, _, wt0⟩ := witness_v f (by omega) 0
    obtain ⟨r1, _, _, p1, _, _, wt1⟩ := witness_v f (by omega) 1
    have k0 : (exprOk f && inB 0 0 1) = true := by rw [hg]; rfl
    have k1 : (exprOk f && inB 1 0 1) = true := by rw [hg]; rfl
    have wt0 := wt0 k0
    have wt1 := wt1 k1
    have w7 : IntKind.wrap .i64 (7 * (x0.length : Int)) = ((7 * x0.length : Nat) : Int) := by rw [wrap_ok (by omega) (by omega)]; omega
    have w11 : IntKind.wrap .i64 (11 * (x1.length : Int)) = ((11 * x1.length : Nat) : Int) := by rw [wrap_ok (by omega) (by omega)]; omega
    rw [br_t rfl, p0, bd_s, p1, bd_s, w7, w11, md, md]
    generalize ha : 7 * x0.length % 64 = a
    generalize hb : 11 * x1.length % 64 = b
    have a64 : a < 64 := by omega
    have b64 : b < 64 := by omega
    rw [evalExpr_t hg (by omega) (wordN a64) (wordN b64), bd_s, k0, k1]
    have hm : evalP f (a : Int) (b : Int) ∈ tabP f := tabP_mem.2 ⟨64 * a + b, by omega, (evalP_at f a64 b64).symm⟩
    have m1 := ll.2 _ hm
    have m2 := lm.2 _ hm
    -- a constant has no witness, and what has none is a constant
    have hc : three = (!r0.2 && !r1.2) := by
      rw [h3, Bool.eq_iff_iff, decide_eq_true_iff, Bool.and_eq_true, Bool.not_eq_true', Bool.not_eq_true']
      have eqs : lo = hi → ∀ i j : Nat, i < 4096 → j < 4096 → tv (tabP f) i = tv (tabP f) j := fun hlh i j hi hj => by
        have q1 := ll.2 _ (tabP_mem.2 ⟨i, hi, rfl⟩)
        have q2 := lm.2 _ (tabP_mem.2 ⟨i, hi, rfl⟩)
        have q3 := ll.2 _ (tabP_mem.2 ⟨j, hj, rfl⟩)
        have q4 := lm.2 _ (tabP_mem.2 ⟨j, hj, rfl⟩)
        omega
      constructor
      · intro hlh
        refine ⟨?_, ?_⟩
        · cases q : r0.2 with
          | false => rfl
          | true =>
            obtain ⟨j, v, hj, hv, hne, _⟩ := wt0.yes q
            exact absurd (eqs hlh _ _ (atP_lt hj hv) hj) hne
        · cases q : r1.2 with
          | false => rfl
          | true =>
            obtain ⟨j, v, hj, hv, hne, _⟩ := wt1.yes q
            exact absurd (eqs hlh _ _ (atP_lt hj hv) hj) hne
      · rintro ⟨q0, q1⟩
        have n0 := (wt0.no q0).2
        have n1 := (wt1.no q1).2
        have all : ∀ i : Nat, i < 4096 → tv (tabP f) i = tv (tabP f) 0 := fun i hi => by
          have s1 := n1 i 0 (by omega) hi (by omega)
          have s0 := n0 (64 * (i / 64)) 0 (by omega) (by omega) (by omega)
          unfold atP at s0 s1
          rw [if_pos rfl] at s1
          rw [if_neg (by omega)] at s0
          rw [show 64 * (i / 64) + 0 = 64 * (i / 64) by omega] at s1
          rw [show 64 * 0 + 64 * (i / 64) % 64 = 0 by omega] at s0
          rw [← s1, ← s0]
        obtain ⟨i, hi', ei⟩ := tabP_mem.1 ll.1
        obtain ⟨j, hj', ej⟩ := tabP_mem.1 lm.1
        rw [ei, ej, all i hi', all j hj']
    refine laws_FnInputsThatMatter.v9s _ _ _ _ _ _ _ _ _ _ _ ?_
    have tail := in10 b0 hx1
    rw [brn_t, brn_t]
    cases q0 : r0.2 with
    | false =>
      have e : (three == !r1.2) = true := by rw [hc, q0]; simp
      rw [brn_f, e, brn_t, brn_t, br_f (decide_eq_false (by omega)), br_f (decide_eq_false (by omega))]
      exact tail
    | true =>
      have e : (three == false) = true := by rw [hc, q0]; rfl
      rw [brn_t, e, brn_t, brn_t, br_f (decide_eq_false (by omega)), br_f (decide_eq_false (by omega))]
      exact tail
theorem in5 (b0 : x0.length ≤ 1048576) (b1 : x1.length ≤ 1048576) (hx1 : Bytes x1) : laws_FnInputsThatMatter.v5 x0 x1 = some true := by
  obtain ⟨f, hd, hl⟩ := drawConst_v hx1
  refine laws_FnInputsThatMatter.v5s _ _ ?_
  rw [hd, bd_s]
  cases hg : exprOk f with
  | false =>
    have r1 : impl_RangeOf.v f = some (0, (0, false)) := impl_RangeOf.vs _ (by rw [isExpr_v f (by omega), bd_s, hg, brn_f])
    have r2 : spec_RangeOf.v f = some (0, (0, false)) := spec_RangeOf.vs _ (by rw [exGood_v f (by omega), bd_s, hg, brn_f])
    have c1 : impl_ConstantOf.v f = some (0, false) := impl_ConstantOf.vs _ (by rw [r1, bd_s]; rfl)
    have c2 : spec_ConstantOf.v f = some (0, false) := spec_ConstantOf.vs _ (by rw [exGood_v f (by omega), bd_s, hg, brn_f])
    rw [c1, bd_s, c2, bd_s]
    refine laws_FnInputsThatMatter.v6s _ _ _ _ _ _ _ ?_
    rw [r1, bd_s, r2, bd_s]
    refine laws_FnInputsThatMatter.v7s _ _ _ _ _ _ _ _ _ _ _ _ _ ?_
    rw [br_f (by simp), br_f (by simp), br_f (by simp), br_f (by simp), br_f (by simp), isExpr_v f (by omega), bd_s, hg, br_f (by simp), br_f rfl, br_f rfl]
    exact in8 b0 b1 hx1 hl (fun h => nomatch h)
  | true =>
    obtain ⟨lo, hi, r1, r2, ll, lm⟩ := range_v hg (by omega : f.length ≤ 1048576)
    obtain ⟨c1, c2⟩ := const_v hg (by omega) r1 ll lm
    rw [c1, bd_s, c2, bd_s]
    refine laws_FnInputsThatMatter.v6s _ _ _ _ _ _ _ ?_
    rw [r1, bd_s, r2, bd_s]
    refine laws_FnInputsThatMatter.v7s _ _ _ _ _ _ _ _ _ _ _ _ _ ?_
    rw [br_f (by simp), br_f (by simp), br_f (by simp), br_f (by simp), br_f (by simp), isExpr_v f (by omega), bd_s, hg, br_f (by simp), br_t rfl]
    by_cases c : lo = hi
    · rw [if_pos c, br_f (by simp [c]), br_t rfl, br_f (by simp)]
      exact in8 b0 b1 hx1 hl (fun _ => ⟨hg, ll, lm, (decide_eq_true c).symm⟩)
    · rw [if_neg c, br_f (by simp [c]), br_f rfl]
      exact in8 b0 b1 hx1 hl (fun _ => ⟨hg, ll, lm, (decide_eq_false c).symm⟩)
end
theorem inputs_pure (x0 x1 : List Int) (q0 : Qd (.sl (.i .u8)) x0) (q1 : Qd (.sl (.i .u8)) x1) : ∃ k, laws_FnInputsThatMatter.f k x0 x1 = some true := by
  refine Ev.some (lim_ev (laws_FnInputsThatMatter.vs x0 x1 ?_))
  obtain ⟨r, hr, hb⟩ := big_f x0 x1
  rw [hr, bd_s]
  cases r with
  | true => rfl
  | false =>
    obtain ⟨b0, b1⟩ := hb rfl
    have tail := in5 b0 b1 (bytes_of q1)
    rw [br_f rfl]
    obtain ⟨e, k, hd, hl⟩ := drawDepend_v (bytes_of q0)
    obtain ⟨w, e1, e2, e3, e4, hno, hyes⟩ := witness_v e (by omega) k
    rw [hd, bd_s]
    dsimp only
    rw [e1, bd_s]
    refine laws_FnInputsThatMatter.v0s _ _ _ _ _ _ ?_
    rw [e2, bd_s, e3, bd_s, e4, bd_s]
    refine laws_FnInputsThatMatter.v1s _ _ _ _ _ _ _ _ _ _ _ _ ?_
    cases hok : w.2 with
    | false =>
      have w1 : w.1 = [] := by
        cases hv : (exprOk e && inB k 0 1) with
        | false => rw [hno hv]
        | true => exact ((hyes hv).no hok).1
      rw [w1, br_f (by simp), gSame_self _ (by simp), bd_s, brn_t, br_f (by simp), br_f (by simp), br_f (by simp)]
      refine laws_FnInputsThatMatter.v2s _ _ _ _ _ _ ?_
      rw [br_f rfl]
      exact tail
    | true =>
      cases hv : (exprOk e && inB k 0 1) with
      | false => rw [hno hv] at hok; cases hok
      | true =>
        obtain ⟨j, v, hj, hv64, hne, hw⟩ := (hyes hv).yes hok
        rw [Bool.and_eq_true] at hv
        obtain ⟨hg, hk⟩ := hv
        have hk := inB_iff.1 hk
        rw [hw, br_f (by simp), gSame_self _ (by simp), bd_s, brn_t, br_f (by simp), br_f (by simp), br_f (by simp)]
        refine laws_FnInputsThatMatter.v2s _ _ _ _ _ _ ?_
        have t0 : Int.toNat (0 : Int) = 0 := rfl
        have t1 : Int.toNat (1 : Int) = 1 := rfl
        have g2 : ∀ (F : Int → Option Bool), gt [((j / 64 : Nat) : Int), ((j % 64 : Nat) : Int), (v : Int)] (Int.toNat 2) F = F (v : Int) := fun F => rfl
        have ha : j / 64 < 64 := by omega
        have hb : j % 64 < 64 := by omega
        have ej : tv (tabP e) j = evalP e ((j / 64 : Nat) : Int) ((j % 64 : Nat) : Int) := tabP_tv e hj
        rw [br_t rfl, t0, t1, gt_zero, gt_one, evalExpr_t hg (by omega) (wordN ha) (wordN hb), bd_s, g2, gt_one]
        by_cases k1 : k = 1
        · have ea : tv (tabP e) (atP k j v) = evalP e ((j / 64 : Nat) : Int) (v : Int) := by
            unfold atP; rw [if_pos k1]; exact evalP_at e ha hv64
          rw [br_t (by simpa using k1), gt_zero, g2]
          refine laws_FnInputsThatMatter.v3s _ _ _ _ _ _ _ _ ?_
          rw [evalExpr_t hg (by omega) (wordN ha) (wordN hv64), bd_s]
          refine laws_FnInputsThatMatter.v4s _ _ _ _ _ _ _ ?_
          rw [br_f (by simp), brn_t, brn_t, br_f (by rw [← ej, ← ea]; simpa using fun q => hne q.symm)]
          exact tail
        · have ea : tv (tabP e) (atP k j v) = evalP e (v : Int) ((j % 64 : Nat) : Int) := by
            unfold atP; rw [if_neg k1]; exact evalP_at e hv64 hb
          rw [br_f (by simpa using k1)]
          refine laws_FnInputsThatMatter.v3s _ _ _ _ _ _ _ _ ?_
          rw [evalExpr_t hg (by omega) (wordN hv64) (wordN hb), bd_s]
          refine laws_FnInputsThatMatter.v4s _ _ _ _ _ _ _ ?_
          rw [br_f (by simp), brn_t, brn_t, br_f (by rw [← ej, ← ea]; simpa using fun q => hne q.symm)]
          exact tail
end Go.Proofs.Ytiofklineiioaaa.Am
end
