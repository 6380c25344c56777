/- Plain texts: what the functions answer (part 0). -/
import Derived.Test.YtfpjcfhbecmneaaGreatKF1
section
/- What the laws do around the functions: arguments are measured, copied and compared. -/
namespace Go.Proofs.YtfpjcfhbecmneaaGreat.Am
open Go
set_option linter.unusedVariables false
set_option linter.unusedSimpArgs false

abbrev Nd := ByteArray × Int × Int × Int
abbrev Rl := List Nd × List Nd × ByteArray
theorem brn_t {α : Type} (x y : Option α) : br (!true) x y = y := rfl
theorem brn_f {α : Type} (x y : Option α) : br (!false) x y = x := rfl
@[simp] theorem seq_self (x : ByteArray) : seq x x = true := seq_iff.2 rfl
theorem gt_mid {α β : Type} (l : List β) (x : β) (r : List β) (f : β → Option α) : gt (l ++ x :: r) l.length f = f x := gt_some (by simp)
theorem set_mid {β : Type} (l : List β) (x y : β) (r : List β) : (l ++ x :: r).set l.length y = l ++ y :: r := by simp
end Go.Proofs.YtfpjcfhbecmneaaGreat.Am
end
section
/- Lists of texts and numbers that are searched; numbers within bounds. -/
namespace Go.Proofs.YtfpjcfhbecmneaaGreat.Am
open Go
set_option linter.unusedVariables false
set_option linter.unusedSimpArgs false

theorem seq_beq (x y : ByteArray) : seq x y = decide (x = y) := by
  by_cases h : x = y
  · rw [decide_eq_true h]; exact seq_iff.2 h
  · rw [decide_eq_false h]
    cases e : seq x y with
    | false => rfl
    | true => exact absurd (seq_iff.1 e) h
/-- is a text among these -/
def isIn (l : List ByteArray) (s : ByteArray) : Bool := l.any fun x => decide (x = s)
theorem drop_at {α : Type} (l : List α) (i : Nat) (h : i < l.length) : l.drop i = l[i] :: l.drop (i + 1) := List.drop_eq_getElem_cons h
theorem l1HasS_ev (l : List ByteArray) (s : ByteArray) (hl : l.length ≤ 9223372036854775000) : Ev (fun k => spec_l1HasS.f k l s) (isIn l s) := by
  refine Ev.step (fun k => spec_l1HasS.eq k l s) ?_
  have := Ev.loop l.length (fun k i => spec_l1HasS.l0 k s l (l.length : Int) (i : Int)) (fun i => isIn (l.drop i) s) ?_ ?_ 0 (by omega)
  · exact this
  · exact Ev.step (fun k => spec_l1HasS.l0_eq k s l _ _) (Ev.neg (by simp) (Ev.ret (by simp [isIn])))
  · intro i hi ih
    refine Ev.step (fun k => spec_l1HasS.l0_eq k s l _ _) (Ev.pos (by simpa using hi) (Ev.pos (by simp) (Ev.get hi ?_)))
    rw [next_ok i _ hi hl, seq_beq]
    by_cases c : l[i] = s
    · exact Ev.pos (by simp [c]) (Ev.ret (by unfold isIn; rw [drop_at _ _ hi, List.any_cons]; simp [c]))
    · exact Ev.neg (by simp [c]) (Ev.eq ih (by unfold isIn; rw [drop_at _ _ hi, List.any_cons]; simp [c]))
theorem containsS_ev (l : List ByteArray) (s : ByteArray) (hl : l.length ≤ 9223372036854775000) : Ev (fun k => slices_Contains_string.f k l s) (isIn l s) := by
  have key : ∀ (d : Nat) (i : Nat), i + d = l.length → ∃ r : Int, Ev (fun k => slices_Index_string.l0 k l s (l.length : Int) (i : Int)) r ∧ (0 ≤ r ↔ isIn (l.drop i) s = true) := by
    intro d
    induction d with
    | zero =>
      intro i h
      refine ⟨-1, Ev.step (fun k => slices_Index_string.l0_eq k l s _ _) (Ev.neg (by simp; omega) (Ev.now _)), ?_⟩
      rw [List.drop_eq_nil_of_le (by omega)]; simp [isIn]
    | succ d ih =>
      intro i h
      have hi : i < l.length := by omega
      by_cases c : l[i] = s
      · refine ⟨i, Ev.step (fun k => slices_Index_string.l0_eq k l s _ _) (Ev.pos (by simpa using hi) (Ev.pos (by simp) (Ev.get hi (Ev.pos (by rw [seq_beq]; simp [c]) (Ev.now _))))), ?_⟩
        unfold isIn; rw [drop_at _ _ hi, List.any_cons]; simp [c]
      · obtain ⟨r, hev, hiff⟩ := ih (i + 1) (by omega)
        refine ⟨r, Ev.step (fun k => slices_Index_string.l0_eq k l s _ _) (Ev.pos (by simpa using hi) (Ev.pos (by simp) (Ev.get hi (Ev.neg (by rw [seq_beq]; simp only [decide_eq_false_iff_not]; exact fun e => c e.symm) (by rw [next_ok i _ hi hl]; exact hev))))), ?_⟩
        rw [hiff]; unfold isIn; rw [drop_at _ _ hi, List.any_cons]; simp [c]
  obtain ⟨r, hev, hiff⟩ := key l.length 0 (by omega)
  refine Ev.step (fun k => slices_Contains_string.eq k l s) (Ev.bind (b := r) (Ev.step (fun k => slices_Index_string.eq k l s) hev) (Ev.ret ?_))
  rw [Bool.eq_iff_iff, decide_eq_true_iff]
  exact hiff
theorem containsI_ev (l : List Int) (s : Int) (hl : l.length ≤ 9223372036854775000) : Ev (fun k => slices_Contains_int.f k l s) (decide (s ∈ l)) := by
  have key : ∀ (d : Nat) (i : Nat), i + d = l.length → ∃ r : Int, Ev (fun k => slices_Index_int.l0 k l s (l.length : Int) (i : Int)) r ∧ (0 ≤ r ↔ s ∈ l.drop i) := by
    intro d
    induction d with
    | zero =>
      intro i h
      refine ⟨-1, Ev.step (fun k => slices_Index_int.l0_eq k l s _ _) (Ev.neg (by simp; omega) (Ev.now _)), ?_⟩
      rw [List.drop_eq_nil_of_le (by omega)]; simp
    | succ d ih =>
      intro i h
      have hi : i < l.length := by omega
      by_cases c : s = l[i]
      · refine ⟨i, Ev.step (fun k => slices_Index_int.l0_eq k l s _ _) (Ev.pos (by simpa using hi) (Ev.pos (by simp) (Ev.get hi (Ev.pos (by simp [c]) (Ev.now _))))), ?_⟩
        rw [drop_at _ _ hi, List.mem_cons]; simp [c]
      · obtain ⟨r, hev, hiff⟩ := ih (i + 1) (by omega)
        refine ⟨r, Ev.step (fun k => slices_Index_int.l0_eq k l s _ _) (Ev.pos (by simpa using hi) (Ev.pos (by simp) (Ev.get hi (Ev.neg (by simp [c]) (by rw [next_ok i _ hi hl]; exact hev))))), ?_⟩
        rw [hiff, drop_at _ _ hi, List.mem_cons]; simp [c]
  obtain ⟨r, hev, hiff⟩ := key l.length 0 (by omega)
  refine Ev.step (fun k => slices_Contains_int.eq k l s) (Ev.bind (b := r) (Ev.step (fun k => slices_Index_int.eq k l s) hev) (Ev.ret ?_))
  rw [Bool.eq_iff_iff, decide_eq_true_iff, decide_eq_true_iff]
  exact hiff
theorem l1Has_ev (l : List Int) (s : Int) (hl : l.length ≤ 9223372036854775000) : Ev (fun k => spec_l1Has.f k l s) (decide (s ∈ l)) := by
  refine Ev.step (fun k => spec_l1Has.eq k l s) ?_
  have := Ev.loop l.length (fun k i => spec_l1Has.l0 k s l (l.length : Int) (i : Int)) (fun i => decide (s ∈ l.drop i)) ?_ ?_ 0 (by omega)
  · exact this
  · exact Ev.step (fun k => spec_l1Has.l0_eq k s l _ _) (Ev.neg (by simp) (Ev.ret (by simp)))
  · intro i hi ih
    refine Ev.step (fun k => spec_l1Has.l0_eq k s l _ _) (Ev.pos (by simpa using hi) (Ev.pos (by simp) (Ev.get hi ?_)))
    rw [next_ok i _ hi hl]
    by_cases c : l[i] = s
    · exact Ev.pos (by simp [c]) (Ev.ret (by rw [drop_at _ _ hi]; simp only [List.mem_cons]; simp [c]))
    · exact Ev.neg (by simp [c]) (Ev.eq ih (by rw [drop_at _ _ hi]; simp only [List.mem_cons]; have e : ¬ s = l[i] := fun e => c e.symm; simp [e]))
/-- is a number within these bounds -/
def inB (n lo hi : Int) : Bool := decide (lo ≤ n) && decide (n ≤ hi)
theorem l1In_f (n lo hi : Int) : spec_l1In.f n lo hi = some (inB n lo hi) := by
  rw [spec_l1In.eq]; unfold inB
  by_cases h : lo ≤ n
  · rw [br_t (by simpa using h)]; simp [h]
  · rw [br_f (by simpa using h)]; simp [h]
theorem within_f (n lo hi : Int) : impl_within.f n lo hi = some (inB n lo hi) := by
  rw [impl_within.eq]; unfold inB
  by_cases h : lo ≤ n
  · rw [br_t (by simpa using h)]; simp [h]
  · rw [br_f (by simpa using h)]; simp [h]
theorem exWord_f (n : Int) : spec_exWord.f n = some (inB n 0 63) := by rw [spec_exWord.eq, l1In_f]; rfl
theorem isWord_f (n : Int) : impl_isWord.f n = some (inB n 0 63) := by rw [impl_isWord.eq, within_f]; rfl
end Go.Proofs.YtfpjcfhbecmneaaGreat.Am
end
section
/- Expressions: which operands a node has, where a node may stand; the program's functions and the reference's answer alike. -/
namespace Go.Proofs.YtfpjcfhbecmneaaGreat.Am
open Go
set_option linter.unusedVariables false
set_option linter.unusedSimpArgs false

abbrev tIn : ByteArray := ⟨#[105, 110]⟩
abbrev tConst : ByteArray := ⟨#[99, 111, 110, 115, 116]⟩
abbrev tNot : ByteArray := ⟨#[110, 111, 116]⟩
abbrev tNeg : ByteArray := ⟨#[110, 101, 103]⟩
def opsL : List ByteArray := [(⟨#[97, 100, 100]⟩ : ByteArray), (⟨#[115, 117, 98]⟩ : ByteArray), (⟨#[109, 117, 108]⟩ : ByteArray), (⟨#[97, 110, 100]⟩ : ByteArray), (⟨#[111, 114]⟩ : ByteArray), (⟨#[120, 111, 114]⟩ : ByteArray), (⟨#[115, 104, 108]⟩ : ByteArray), (⟨#[115, 104, 114]⟩ : ByteArray), (⟨#[108, 101, 115, 115]⟩ : ByteArray), (⟨#[101, 113]⟩ : ByteArray)]
def isTwo (s : ByteArray) : Bool := isIn opsL s
def isOne (s : ByteArray) : Bool := decide (s = tNot) || decide (s = tNeg)
/-- how many operands an op has; -1: it is none -/
def arity (s : ByteArray) : Int := if s = tIn then 0 else if s = tConst then 0 else if isOne s = true then 1 else if isTwo s = true then 2 else -1
theorem isOne_mem {s : ByteArray} (h : isOne s = true) : s = tNot ∨ s = tNeg := by
  unfold isOne at h
  simpa using h
theorem arity_one {s : ByteArray} (h : isOne s = true) : arity s = 1 := by
  unfold arity
  rw [if_neg (by rcases isOne_mem h with e | e <;> rw [e] <;> decide), if_neg (by rcases isOne_mem h with e | e <;> rw [e] <;> decide), if_pos h]
theorem isTwo_not {s : ByteArray} (h : isTwo s = true) : s ≠ tIn ∧ s ≠ tConst ∧ isOne s = false := by
  refine ⟨fun e => ?_, fun e => ?_, ?_⟩
  · rw [e] at h; revert h; decide
  · rw [e] at h; revert h; decide
  · cases h1 : isOne s with
    | false => rfl
    | true => rcases isOne_mem h1 with e | e <;> (rw [e] at h; revert h; decide)
theorem arity_two {s : ByteArray} (h : isTwo s = true) : arity s = 2 := by
  obtain ⟨h1, h2, h3⟩ := isTwo_not h
  unfold arity
  rw [if_neg h1, if_neg h2, if_neg (by simp [h3]), if_pos h]
theorem arity_cases (s : ByteArray) : (arity s = -1 ∧ isOne s = false ∧ isTwo s = false) ∨ (arity s = 0 ∧ isOne s = false ∧ isTwo s = false) ∨ (arity s = 1 ∧ isOne s = true ∧ isTwo s = false) ∨ (arity s = 2 ∧ isOne s = false ∧ isTwo s = true) := by
  by_cases h2 : isTwo s = true
  · exact .inr (.inr (.inr ⟨arity_two h2, (isTwo_not h2).2.2, h2⟩))
  · have h2' : isTwo s = false := by simpa using h2
    by_cases h1 : isOne s = true
    · exact .inr (.inr (.inl ⟨arity_one h1, h1, h2'⟩))
    · have h1' : isOne s = false := by simpa using h1
      by_cases c : s = tIn
      · exact .inr (.inl ⟨by unfold arity; rw [if_pos c], h1', h2'⟩)
      · by_cases c2 : s = tConst
        · exact .inr (.inl ⟨by unfold arity; rw [if_neg c, if_pos c2], h1', h2'⟩)
        · exact .inl ⟨by unfold arity; rw [if_neg c, if_neg c2, if_neg h1, if_neg h2], h1', h2'⟩
theorem arity_eq_one {s : ByteArray} : arity s = 1 ↔ isOne s = true := by
  rcases arity_cases s with ⟨h, h1, h2⟩ | ⟨h, h1, h2⟩ | ⟨h, h1, h2⟩ | ⟨h, h1, h2⟩ <;> rw [h, h1] <;> simp
theorem arity_eq_two {s : ByteArray} : arity s = 2 ↔ isTwo s = true := by
  rcases arity_cases s with ⟨h, h1, h2⟩ | ⟨h, h1, h2⟩ | ⟨h, h1, h2⟩ | ⟨h, h1, h2⟩ <;> rw [h, h2] <;> simp
theorem seq_t {x y : ByteArray} (h : x = y) : seq x y = true := seq_iff.2 h
theorem seq_f {x y : ByteArray} (h : ¬ x = y) : seq x y = false := by rw [seq_beq]; simp [h]
theorem exOne_f (s : ByteArray) : spec_exOne.f s = some (isOne s) := by
  rw [spec_exOne.eq, seq_beq, seq_beq]
  unfold isOne
  by_cases h : s = tNot
  · rw [br_t (by simpa using h)]; simp [h]
  · rw [br_f (by simpa using h)]; simp [h]
theorem exTwo_ev (s : ByteArray) : Ev (fun k => spec_exTwo.f k s) (isTwo s) := Ev.step (fun k => spec_exTwo.eq k s) (Ev.here spec_exOps.eq (Ev.bind (l1HasS_ev opsL s (by decide)) (Ev.now _)))
theorem operands_ev (s : ByteArray) : Ev (fun k => impl_operands.f k s) (arity s) := by
  refine Ev.step (fun k => impl_operands.eq k s) ?_
  unfold arity
  by_cases c : s = tIn
  · rw [if_pos c]; exact Ev.pos (seq_t c) (Ev.now _)
  · refine Ev.neg (seq_f c) ?_
    rw [if_neg c]
    by_cases c2 : s = tConst
    · rw [if_pos c2]; exact Ev.pos (seq_t c2) (Ev.now _)
    · refine Ev.neg (seq_f c2) ?_
      rw [if_neg c2]
      by_cases c3 : s = tNot
      · rw [if_pos (by unfold isOne; simp [c3])]; exact Ev.pos (seq_t c3) (Ev.now _)
      · refine Ev.neg (seq_f c3) ?_
        by_cases c4 : s = tNeg
        · rw [if_pos (by unfold isOne; simp [c4])]; exact Ev.pos (seq_t c4) (Ev.now _)
        · refine Ev.neg (seq_f c4) (Ev.here impl_binary.eq (Ev.bind (containsS_ev opsL s (by decide)) ?_))
          rw [if_neg (by unfold isOne; simp [c3, c4])]
          by_cases h : isTwo s = true
          · rw [if_pos h]; exact Ev.pos h (Ev.now _)
          · have h' : isTwo s = false := by simpa using h
            rw [if_neg h]; exact Ev.neg h' (Ev.now _)

/-! ### nodes -/
/-- the operands of a node -/
def partsOf (n : Nd) : List Int := if arity n.1 = 1 then [n.2.1] else if arity n.1 = 2 then [n.2.1, n.2.2.1] else []
theorem parts_le (n : Nd) : (partsOf n).length ≤ 2 := by unfold partsOf; split <;> (try split) <;> simp
theorem exParts_ev (n : Nd) : Ev (fun k => spec_exParts.f k n) (partsOf n) := by
  refine Ev.step (fun k => spec_exParts.eq k n) (Ev.here (exOne_f _) ?_)
  unfold partsOf
  by_cases h : isOne n.1 = true
  · exact Ev.pos h (Ev.ret (by rw [if_pos (arity_one h)]))
  · refine Ev.neg (by simpa using h) (Ev.bind (exTwo_ev n.1) ?_)
    rw [if_neg (fun e => h (arity_eq_one.1 e))]
    by_cases h2 : isTwo n.1 = true
    · exact Ev.pos h2 (Ev.ret (by rw [if_pos (arity_two h2)]))
    · exact Ev.neg (by simpa using h2) (Ev.ret (by rw [if_neg (fun e => h2 (arity_eq_two.1 e))]))
theorem of_ev (n : Nd) : Ev (fun k => impl_Node_of.f k n) (partsOf n) := by
  refine Ev.step (fun k => impl_Node_of.eq k n) (Ev.bind (operands_ev n.1) ?_)
  unfold partsOf
  rcases arity_cases n.1 with ⟨h, _⟩ | ⟨h, _⟩ | ⟨h, _⟩ | ⟨h, _⟩ <;> rw [h] <;> exact Ev.pos (by decide) (Ev.pos (by simp [maxI]) (Ev.ret (by simp [maxI])))
/-- may this node stand at place i -/
def nodeOk (n : Nd) (i : Int) : Bool :=
  if n.1 = tIn then decide (n.2.1 = 0) && decide (n.2.2.1 = 0) && inB n.2.2.2 0 1
  else if n.1 = tConst then decide (n.2.1 = 0) && decide (n.2.2.1 = 0) && inB n.2.2.2 0 63
  else if isOne n.1 = true then inB n.2.1 0 (i - 1) && decide (n.2.2.1 = 0) && decide (n.2.2.2 = 0)
  else isTwo n.1 && inB n.2.1 0 (i - 1) && inB n.2.2.1 0 (i - 1) && decide (n.2.2.2 = 0)
theorem exNode_ev (n : Nd) (i : Int) (h0 : 0 ≤ i) (h1 : i ≤ 9223372036854775807) : Ev (fun k => spec_exNode.f k n i) (nodeOk n i) := by
  refine Ev.step (fun k => spec_exNode.eq k n i) ?_
  unfold nodeOk
  rw [wrap_ok (by omega) (by omega)]
  simp only [l1In_f, exWord_f, exOne_f]
  by_cases c : n.1 = tIn
  · refine Ev.pos (seq_t c) ?_
    rw [if_pos c]
    by_cases a : n.2.1 = 0
    · by_cases b : n.2.2.1 = 0
      · exact Ev.pos (by simpa using a) (Ev.pos (by simpa using b) (Ev.here rfl (Ev.ret (by simp [a, b]))))
      · exact Ev.pos (by simpa using a) (Ev.neg (by simpa using b) (Ev.ret (by simp [b])))
    · exact Ev.neg (by simpa using a) (Ev.ret (by simp [a]))
  · refine Ev.neg (seq_f c) ?_
    rw [if_neg c]
    by_cases c2 : n.1 = tConst
    · refine Ev.pos (seq_t c2) ?_
      rw [if_pos c2]
      by_cases a : n.2.1 = 0
      · by_cases b : n.2.2.1 = 0
        · exact Ev.pos (by simpa using a) (Ev.pos (by simpa using b) (Ev.here rfl (Ev.ret (by simp [a, b]))))
        · exact Ev.pos (by simpa using a) (Ev.neg (by simpa using b) (Ev.ret (by simp [b])))
      · exact Ev.neg (by simpa using a) (Ev.ret (by simp [a]))
    · refine Ev.neg (seq_f c2) ?_
      rw [if_neg c2]
      refine Ev.here rfl ?_
      by_cases h : isOne n.1 = true
      · refine Ev.pos h (Ev.here rfl ?_)
        rw [if_pos h]
        cases hb : inB n.2.1 0 (i - 1)
        · exact Ev.neg rfl (Ev.ret (by simp))
        · by_cases b : n.2.2.1 = 0
          · exact Ev.pos rfl (Ev.pos (by simpa using b) (Ev.ret (by simp [b]; rfl)))
          · exact Ev.pos rfl (Ev.neg (by simpa using b) (Ev.ret (by simp [b])))
      · refine Ev.neg (by simpa using h) (Ev.bind (exTwo_ev n.1) ?_)
        rw [if_neg h]
        cases h2 : isTwo n.1
        · exact Ev.neg rfl (Ev.ret (by simp))
        · refine Ev.pos rfl (Ev.here rfl ?_)
          cases hb : inB n.2.1 0 (i - 1)
          · exact Ev.neg rfl (Ev.ret (by simp))
          · refine Ev.pos rfl (Ev.here rfl ?_)
            cases hb2 : inB n.2.2.1 0 (i - 1)
            · exact Ev.neg rfl (Ev.ret (by simp))
            · exact Ev.pos rfl (Ev.ret (by simp; rfl))
end Go.Proofs.YtfpjcfhbecmneaaGreat.Am
end
section
/- Where a node may stand: the program's function; how often each node is an operand. -/
namespace Go.Proofs.YtfpjcfhbecmneaaGreat.Am
open Go
set_option linter.unusedVariables false
set_option linter.unusedSimpArgs false

theorem isNode_ev (n : Nd) (i : Int) (h0 : 0 ≤ i) (h1 : i ≤ 9223372036854775807) : Ev (fun k => impl_Node_isNode.f k n i) (nodeOk n i) := by
  refine Ev.step (fun k => impl_Node_isNode.eq k n i) (Ev.bind (operands_ev n.1) ?_)
  -- behind both places
  have hend : ∀ m : Int, m = arity n.1 → Ev (fun k => impl_Node_isNode.l0 k i m 2 2 n.1 n.2.1 n.2.2.1 n.2.2.2 [n.2.1, n.2.2.1]) (if n.1 = tIn then inB n.2.2.2 0 1 else if n.1 = tConst then inB n.2.2.2 0 63 else decide (m > 0) && decide (n.2.2.2 = 0)) := by
    intro m hm
    refine Ev.step (fun k => impl_Node_isNode.l0_eq k _ _ _ _ _ _ _ _ _) (Ev.neg (by simp) ?_)
    by_cases c : n.1 = tIn
    · exact Ev.pos (seq_t c) (Ev.here (within_f _ _ _) (Ev.ret (by rw [if_pos c])))
    · refine Ev.neg (seq_f c) ?_
      rw [if_neg c]
      by_cases c2 : n.1 = tConst
      · exact Ev.pos (seq_t c2) (Ev.here (isWord_f _) (Ev.ret (by rw [if_pos c2])))
      · refine Ev.neg (seq_f c2) ?_
        rw [if_neg c2]
        by_cases p : m > 0
        · exact Ev.pos (by simpa using p) (Ev.ret (by simp [p]; rfl))
        · exact Ev.neg (by simpa using p) (Ev.ret (by simp [p]))
  -- one place
  have hone : ∀ (m : Int) (j : Nat) (x : Int) (R : Bool), j < 2 → [n.2.1, n.2.2.1][j]? = some x → Ev (fun k => impl_Node_isNode.l0 k i m 2 ((j + 1 : Nat) : Int) n.1 n.2.1 n.2.2.1 n.2.2.2 [n.2.1, n.2.2.1]) R →
      Ev (fun k => impl_Node_isNode.l0 k i m 2 (j : Int) n.1 n.2.1 n.2.2.1 n.2.2.2 [n.2.1, n.2.2.1]) ((if (j : Int) < m then inB x 0 (i - 1) else decide (x = 0)) && R) := by
    intro m j x R hj hx hR
    refine Ev.step (fun k => impl_Node_isNode.l0_eq k _ _ _ _ _ _ _ _ _) (Ev.pos (by simp; omega) (Ev.pos (by simp) (Ev.pos (by simp; omega) (Ev.at (b := x) (by rw [Int.toNat_natCast]; exact hx) ?_))))
    rw [wrap_ok (x := i - 1) (by omega) (by omega), next_ok j 2 hj (by omega)]
    by_cases hm : (j : Int) < m
    · refine Ev.pos (by simpa using hm) (Ev.here (within_f _ _ _) ?_)
      rw [if_pos hm]
      cases hb : inB x 0 (i - 1) with
      | true => exact Ev.neg rfl (Ev.neg (by simp; omega) (by simpa using hR))
      | false => exact Ev.pos rfl (Ev.ret (by simp))
    · refine Ev.neg (by simpa using hm) (Ev.pos (by simp; omega) ?_)
      rw [if_neg hm]
      by_cases h0 : x = 0
      · exact Ev.neg (by simp [h0]) (by simpa [h0] using hR)
      · exact Ev.pos (by simpa using h0) (Ev.ret (by simp [h0]))
  have h1' := hone (arity n.1) 1 n.2.2.1 _ (by omega) rfl (hend (arity n.1) rfl)
  have h0' := hone (arity n.1) 0 n.2.1 _ (by omega) rfl h1'
  refine Ev.eq h0' ?_
  unfold nodeOk
  by_cases c : n.1 = tIn
  · have ha : arity n.1 = 0 := by unfold arity; rw [if_pos c]
    rw [ha, if_pos c, if_pos c]
    simp [Bool.and_assoc]
  · rw [if_neg c, if_neg c]
    by_cases c2 : n.1 = tConst
    · have ha : arity n.1 = 0 := by unfold arity; rw [if_neg c, if_pos c2]
      rw [ha, if_pos c2, if_pos c2]
      simp [Bool.and_assoc]
    · rw [if_neg c2, if_neg c2]
      rcases arity_cases n.1 with ⟨ha, h1, h2⟩ | ⟨ha, h1, h2⟩ | ⟨ha, h1, h2⟩ | ⟨ha, h1, h2⟩ <;> rw [ha, h1, h2] <;> simp [Bool.and_assoc]

/-! ### how often each node is an operand -/
def bumpU (u : List Int) (p : Int) : List Int := u.set p.toNat (IntKind.wrap .i64 (u.getD p.toNat 0 + 1))
def bumps (u : List Int) (n : Nd) : List Int := (partsOf n).foldl bumpU u
def usesOf (e : List Nd) : List Int := e.foldl bumps (List.replicate e.length 0)
theorem bump_len (u : List Int) (p : Int) : (bumpU u p).length = u.length := by simp [bumpU]
theorem fold_bump_len (l : List Int) (u : List Int) : (l.foldl bumpU u).length = u.length := by
  induction l generalizing u with
  | nil => rfl
  | cons p l ih => rw [List.foldl_cons, ih, bump_len]
theorem bumps_len (u : List Int) (n : Nd) : (bumps u n).length = u.length := fold_bump_len _ _
theorem fold_bumps_len (l : List Nd) (u : List Int) : (l.foldl bumps u).length = u.length := by
  induction l generalizing u with
  | nil => rfl
  | cons p l ih => rw [List.foldl_cons, ih, bumps_len]
theorem usesOf_len (e : List Nd) : (usesOf e).length = e.length := by unfold usesOf; rw [fold_bumps_len, List.length_replicate]
/-- all operands lie below this bound -/
def PartsIn (e : List Nd) (m : Nat) : Prop := ∀ n ∈ e, ∀ p ∈ partsOf n, 0 ≤ p ∧ p < m
theorem take_fold {α β : Type} (f : β → α → β) (l : List α) (b : β) (i : Nat) (h : i < l.length) : (l.take (i + 1)).foldl f b = f ((l.take i).foldl f b) l[i] := by
  rw [List.take_succ_eq_append_getElem h, List.foldl_append]; rfl
theorem bump_at {u : List Int} {p : Int} (h0 : 0 ≤ p) (h : p < u.length) : u[p.toNat]? = some (u.getD p.toNat 0) := by
  have hp : p.toNat < u.length := by omega
  rw [List.getElem?_eq_getElem hp, List.getD_eq_getElem?_getD, List.getElem?_eq_getElem hp]; rfl
theorem exUses_ev (e : List Nd) (hl : e.length ≤ 1048576) (hp : PartsIn e e.length) : Ev (fun k => spec_exUses.f k e) (usesOf e) := by
  refine Ev.step (fun k => spec_exUses.eq k e) (Ev.pos (by simp) (Ev.pos (by simp; omega) ?_))
  rw [Int.toNat_natCast]
  have key := Ev.loop e.length (fun k i => spec_exUses.l0 k e (e.length : Int) (i : Int) ((e.take i).foldl bumps (List.replicate e.length 0))) (fun _ => usesOf e) ?_ ?_ 0 (by omega)
  · simpa using key
  · exact Ev.step (fun k => spec_exUses.l0_eq k _ _ _ _) (Ev.neg (by simp) (Ev.ret (by rw [List.take_of_length_le (Nat.le_refl _)]; rfl)))
  · intro i hi ih
    refine Ev.step (fun k => spec_exUses.l0_eq k _ _ _ _) (Ev.pos (by simpa using hi) (Ev.pos (by simp) (Ev.get hi (Ev.bind (exParts_ev e[i]) ?_))))
    have hps : ∀ p ∈ partsOf e[i], 0 ≤ p ∧ p < e.length := hp _ (List.getElem_mem hi)
    have inner := Ev.loop (partsOf e[i]).length (fun k j => spec_exUses.l1 k e (e.length : Int) (i : Int) (partsOf e[i]) ((partsOf e[i]).length : Int) (j : Int) (((partsOf e[i]).take j).foldl bumpU ((e.take i).foldl bumps (List.replicate e.length 0)))) (fun _ => usesOf e) ?_ ?_ 0 (by omega)
    · simpa using inner
    · refine Ev.step (fun k => spec_exUses.l1_eq k _ _ _ _ _ _ _) (Ev.neg (by simp) ?_)
      rw [List.take_of_length_le (Nat.le_refl _), next_ok i _ hi (by omega)]
      rw [take_fold bumps e _ i hi] at ih
      exact ih
    · intro j hj ihj
      have hpj := hps _ (List.getElem_mem hj)
      have h2 := parts_le e[i]
      have hlen : (((partsOf e[i]).take j).foldl bumpU ((e.take i).foldl bumps (List.replicate e.length 0))).length = e.length := by rw [fold_bump_len, fold_bumps_len, List.length_replicate]
      refine Ev.step (fun k => spec_exUses.l1_eq k _ _ _ _ _ _ _) (Ev.pos (by simpa using hj) (Ev.pos (by simp) (Ev.get hj (Ev.pos (by simpa using hpj.1) (Ev.pos (by rw [hlen]; simpa using hpj.2) (Ev.at (bump_at hpj.1 (by rw [hlen]; exact hpj.2)) (Ev.pos (by simpa using hpj.1) (Ev.pos (by rw [hlen]; simpa using hpj.2) (Ev.at (bump_at hpj.1 (by rw [hlen]; exact hpj.2)) ?_)))))))))
      rw [take_fold bumpU (partsOf e[i]) _ j hj] at ihj
      rw [next_ok j _ hj (by omega)]
      exact ihj
theorem uses_ev (e : List Nd) (hl : e.length ≤ 1048576) (hp : PartsIn e e.length) : Ev (fun k => impl_uses.f k e) (usesOf e) := by
  refine Ev.step (fun k => impl_uses.eq k e) (Ev.pos (by simp) (Ev.pos (by simp; omega) ?_))
  rw [Int.toNat_natCast]
  have key := Ev.loop e.length (fun k i => impl_uses.l0 k e (e.length : Int) (i : Int) ((e.take i).foldl bumps (List.replicate e.length 0))) (fun _ => usesOf e) ?_ ?_ 0 (by omega)
  · simpa using key
  · exact Ev.step (fun k => impl_uses.l0_eq k _ _ _ _) (Ev.neg (by simp) (Ev.ret (by rw [List.take_of_length_le (Nat.le_refl _)]; rfl)))
  · intro i hi ih
    refine Ev.step (fun k => impl_uses.l0_eq k _ _ _ _) (Ev.pos (by simpa using hi) (Ev.pos (by simp) (Ev.get hi (Ev.bind (of_ev e[i]) ?_))))
    have hps : ∀ p ∈ partsOf e[i], 0 ≤ p ∧ p < e.length := hp _ (List.getElem_mem hi)
    have inner := Ev.loop (partsOf e[i]).length (fun k j => impl_uses.l1 k e (e.length : Int) (i : Int) (partsOf e[i]) ((partsOf e[i]).length : Int) (j : Int) (((partsOf e[i]).take j).foldl bumpU ((e.take i).foldl bumps (List.replicate e.length 0)))) (fun _ => usesOf e) ?_ ?_ 0 (by omega)
    · simpa using inner
    · refine Ev.step (fun k => impl_uses.l1_eq k _ _ _ _ _ _ _) (Ev.neg (by simp) ?_)
      rw [List.take_of_length_le (Nat.le_refl _), next_ok i _ hi (by omega)]
      rw [take_fold bumps e _ i hi] at ih
      exact ih
    · intro j hj ihj
      have hpj := hps _ (List.getElem_mem hj)
      have h2 := parts_le e[i]
      have hlen : (((partsOf e[i]).take j).foldl bumpU ((e.take i).foldl bumps (List.replicate e.length 0))).length = e.length := by rw [fold_bump_len, fold_bumps_len, List.length_replicate]
      refine Ev.step (fun k => impl_uses.l1_eq k _ _ _ _ _ _ _) (Ev.pos (by simpa using hj) (Ev.pos (by simp) (Ev.get hj (Ev.pos (by simpa using hpj.1) (Ev.pos (by rw [hlen]; simpa using hpj.2) (Ev.at (bump_at hpj.1 (by rw [hlen]; exact hpj.2)) (Ev.pos (by simpa using hpj.1) (Ev.pos (by rw [hlen]; simpa using hpj.2) (Ev.at (bump_at hpj.1 (by rw [hlen]; exact hpj.2)) ?_)))))))))
      rw [take_fold bumpU (partsOf e[i]) _ j hj] at ihj
      rw [next_ok j _ hj (by omega)]
      exact ihj
end Go.Proofs.YtfpjcfhbecmneaaGreat.Am
end
section
/- When a list of nodes is an expression, and a tree. -/
namespace Go.Proofs.YtfpjcfhbecmneaaGreat.Am
open Go
set_option linter.unusedVariables false
set_option linter.unusedSimpArgs false

/-- all nodes from place i on may stand where they stand -/
def nodesOk : List Nd → Nat → Bool
  | [], _ => true
  | n :: r, i => nodeOk n i && nodesOk r (i + 1)
theorem nodesOk_at {e : List Nd} {i : Nat} (h : i < e.length) : nodesOk (e.drop i) i = (nodeOk e[i] i && nodesOk (e.drop (i + 1)) (i + 1)) := by
  rw [drop_at e i h]; rfl
theorem inB_iff {n lo hi : Int} : inB n lo hi = true ↔ lo ≤ n ∧ n ≤ hi := by unfold inB; simp
theorem nodeOk_parts {n : Nd} {i : Nat} (h : nodeOk n i = true) : ∀ p ∈ partsOf n, 0 ≤ p ∧ p < i := by
  intro p hp
  unfold partsOf at hp
  unfold nodeOk at h
  rcases arity_cases n.1 with ⟨ha, h1, h2⟩ | ⟨ha, h1, h2⟩ | ⟨ha, h1, h2⟩ | ⟨ha, h1, h2⟩
  · rw [ha] at hp; simp at hp
  · rw [ha] at hp; simp at hp
  · have n1 : n.1 ≠ tIn := fun e => by rw [e] at h1; revert h1; decide
    have n2 : n.1 ≠ tConst := fun e => by rw [e] at h1; revert h1; decide
    rw [if_neg n1, if_neg n2, if_pos h1] at h
    rw [ha] at hp
    simp only [Bool.and_eq_true, inB_iff] at h
    simp at hp
    omega
  · obtain ⟨n1, n2, _⟩ := isTwo_not h2
    rw [if_neg n1, if_neg n2, if_neg (by simp [h1])] at h
    rw [ha] at hp
    simp only [Bool.and_eq_true, inB_iff] at h
    simp at hp
    omega
theorem nodesOk_get : ∀ (e : List Nd) (i : Nat), nodesOk e i = true → ∀ (j : Nat) (h : j < e.length), nodeOk e[j] ((i + j : Nat) : Int) = true
  | [], i, _, j, h => by simp at h
  | n :: r, i, hn, j, h => by
    simp only [nodesOk, Bool.and_eq_true] at hn
    cases j with
    | zero => simpa using hn.1
    | succ j =>
      have := nodesOk_get r (i + 1) hn.2 j (by simpa using h)
      rw [show i + (j + 1) = i + 1 + j by omega]
      simpa using this
theorem nodesOk_parts {e : List Nd} (h : nodesOk e 0 = true) : PartsIn e e.length := fun n hn p hp => by
  obtain ⟨j, hj, e1⟩ := List.getElem_of_mem hn
  have := nodesOk_get e 0 h j hj
  rw [e1] at this
  have := nodeOk_parts (i := 0 + j) this p hp
  omega
/-- is each node but the last one an operand -/
def allUsed (e : List Nd) : Bool := !decide ((0 : Int) ∈ (usesOf e).take (e.length - 1))
def exprOk (e : List Nd) : Bool := inB e.length 1 24 && (nodesOk e 0 && allUsed e)
theorem noneOf {α : Type} {e : List Nd} {g : Nat → Nat → Option Bool} (hl : e.length ≤ 1048576) (hbad : ∀ i (h : i < e.length), nodeOk e[i] i = false → Ev (fun k => g k i) false) (hgo : ∀ i (h : i < e.length), nodeOk e[i] i = true → Ev (fun k => g k (i + 1)) false → Ev (fun k => g k i) false) : ∀ (d i : Nat), i + d = e.length → nodesOk (e.drop i) i = false → Ev (fun k => g k i) false := by
  intro d
  induction d with
  | zero =>
    intro i hi h
    rw [List.drop_eq_nil_of_le (by omega)] at h
    cases h
  | succ d ih =>
    intro i hi h
    have hlt : i < e.length := by omega
    rw [nodesOk_at hlt] at h
    cases hn : nodeOk e[i] i with
    | false => exact hbad i hlt hn
    | true =>
      rw [hn, Bool.true_and] at h
      exact hgo i hlt hn (ih (i + 1) (by omega) h)
theorem exGood_ev (e : List Nd) (hl : e.length ≤ 1048576) : Ev (fun k => spec_exGood.f k e) (exprOk e) := by
  refine Ev.step (fun k => spec_exGood.eq k e) (Ev.here (l1In_f _ _ _) ?_)
  unfold exprOk
  cases hb : inB (e.length : Int) 1 24 with
  | false => exact Ev.pos rfl (Ev.ret (by simp))
  | true =>
    refine Ev.neg rfl ?_
    have hlen := inB_iff.1 hb
    rw [Bool.true_and]
    cases hn : nodesOk e 0 with
    | true =>
      have key := Ev.loop e.length (fun k i => spec_exGood.l0 k e e (e.length : Int) (i : Int)) (fun _ => allUsed e) ?_ ?_ 0 (by omega)
      · simpa using key
      · have hw : IntKind.wrap .i64 ((e.length : Int) - 1) = ((e.length - 1 : Nat) : Int) := by rw [wrap_ok (by omega) (by omega)]; omega
        refine Ev.step (fun k => spec_exGood.l0_eq k _ _ _ _) (Ev.neg (by simp) (Ev.bind (exUses_ev e hl (nodesOk_parts hn)) ?_))
        rw [hw, usesOf_len]
        refine Ev.pos (by simp) (Ev.pos (by simp) (Ev.bind (l1Has_ev _ _ (by rw [List.length_drop, List.length_take, usesOf_len]; omega)) (Ev.ret ?_)))
        simp [allUsed]
      · intro i hi ih
        have := nodesOk_get e 0 hn i hi
        rw [Nat.zero_add] at this
        refine Ev.step (fun k => spec_exGood.l0_eq k _ _ _ _) (Ev.pos (by simpa using hi) (Ev.pos (by simp) (Ev.get hi (Ev.bind (exNode_ev e[i] i (by omega) (by omega)) (Ev.neg (by rw [this]; rfl) ?_)))))
        rw [next_ok i _ hi (by omega)]
        exact ih
    | false =>
      refine noneOf (α := Nat) (e := e) (g := fun k i => spec_exGood.l0 k e e (e.length : Int) (i : Int)) hl (fun i hi hf => ?_) (fun i hi hf ih => ?_) e.length 0 (by omega) hn
      · exact Ev.step (fun k => spec_exGood.l0_eq k _ _ _ _) (Ev.pos (by simpa using hi) (Ev.pos (by simp) (Ev.get hi (Ev.bind (exNode_ev e[i] i (by omega) (by omega)) (Ev.pos (by rw [hf]; rfl) (Ev.now _))))))
      · refine Ev.step (fun k => spec_exGood.l0_eq k _ _ _ _) (Ev.pos (by simpa using hi) (Ev.pos (by simp) (Ev.get hi (Ev.bind (exNode_ev e[i] i (by omega) (by omega)) (Ev.neg (by rw [hf]; rfl) ?_)))))
        rw [next_ok i _ hi (by omega)]
        exact ih
theorem isExpr_ev (e : List Nd) (hl : e.length ≤ 1048576) : Ev (fun k => impl_IsExpr.f k e) (exprOk e) := by
  refine Ev.step (fun k => impl_IsExpr.eq k e) (Ev.here (within_f _ _ _) ?_)
  unfold exprOk
  cases hb : inB (e.length : Int) 1 24 with
  | false => exact Ev.pos rfl (Ev.ret (by simp))
  | true =>
    refine Ev.neg rfl ?_
    have hlen := inB_iff.1 hb
    rw [Bool.true_and]
    cases hn : nodesOk e 0 with
    | true =>
      have key := Ev.loop e.length (fun k i => impl_IsExpr.l0 k e e (e.length : Int) (i : Int)) (fun _ => allUsed e) ?_ ?_ 0 (by omega)
      · simpa using key
      · have hw : IntKind.wrap .i64 ((e.length : Int) - 1) = ((e.length - 1 : Nat) : Int) := by rw [wrap_ok (by omega) (by omega)]; omega
        refine Ev.step (fun k => impl_IsExpr.l0_eq k _ _ _ _) (Ev.neg (by simp) (Ev.bind (uses_ev e hl (nodesOk_parts hn)) ?_))
        rw [hw, usesOf_len]
        refine Ev.pos (by simp) (Ev.pos (by simp) (Ev.bind (containsI_ev _ _ (by rw [List.length_drop, List.length_take, usesOf_len]; omega)) (Ev.ret ?_)))
        simp [allUsed]
      · intro i hi ih
        have := nodesOk_get e 0 hn i hi
        rw [Nat.zero_add] at this
        refine Ev.step (fun k => impl_IsExpr.l0_eq k _ _ _ _) (Ev.pos (by simpa using hi) (Ev.pos (by simp) (Ev.get hi (Ev.bind (isNode_ev e[i] i (by omega) (by omega)) (Ev.neg (by rw [this]; rfl) ?_)))))
        rw [next_ok i _ hi (by omega)]
        exact ih
    | false =>
      refine noneOf (α := Nat) (e := e) (g := fun k i => impl_IsExpr.l0 k e e (e.length : Int) (i : Int)) hl (fun i hi hf => ?_) (fun i hi hf ih => ?_) e.length 0 (by omega) hn
      · exact Ev.step (fun k => impl_IsExpr.l0_eq k _ _ _ _) (Ev.pos (by simpa using hi) (Ev.pos (by simp) (Ev.get hi (Ev.bind (isNode_ev e[i] i (by omega) (by omega)) (Ev.pos (by rw [hf]; rfl) (Ev.now _))))))
      · refine Ev.step (fun k => impl_IsExpr.l0_eq k _ _ _ _) (Ev.pos (by simpa using hi) (Ev.pos (by simp) (Ev.get hi (Ev.bind (isNode_ev e[i] i (by omega) (by omega)) (Ev.neg (by rw [hf]; rfl) ?_)))))
        rw [next_ok i _ hi (by omega)]
        exact ih
end Go.Proofs.YtfpjcfhbecmneaaGreat.Am
end
section
/- When an expression is a tree: the program's function and the reference's. -/
namespace Go.Proofs.YtfpjcfhbecmneaaGreat.Am
open Go
set_option linter.unusedVariables false
set_option linter.unusedSimpArgs false

def Bnd (u : List Int) (m : Nat) : Prop := ∀ x ∈ u, 0 ≤ x ∧ x ≤ m
theorem bump_bnd {u : List Int} {m : Nat} (h : Bnd u m) (hm : m ≤ 1000000000) (p : Int) : Bnd (bumpU u p) (m + 1) := by
  intro x hx
  unfold bumpU at hx
  rcases List.mem_or_eq_of_mem_set hx with hx | hx
  · have := h x hx; omega
  · have hd : 0 ≤ u.getD p.toNat 0 ∧ u.getD p.toNat 0 ≤ m := by
      rw [List.getD_eq_getElem?_getD]
      cases hq : u[p.toNat]? with
      | none => simp
      | some y => exact h y (List.mem_of_getElem? hq)
    rw [hx, wrap_ok (by omega) (by omega)]
    omega
theorem fold_bnd : ∀ (l : List Int) (u : List Int) (m : Nat), Bnd u m → m + l.length ≤ 1000000000 → Bnd (l.foldl bumpU u) (m + l.length)
  | [], u, m, h, _ => h
  | p :: l, u, m, h, hm => by
    simp only [List.length_cons] at hm
    rw [List.foldl_cons, List.length_cons, show m + (l.length + 1) = (m + 1) + l.length by omega]
    exact fold_bnd l _ (m + 1) (bump_bnd h (by omega) p) (by omega)
theorem Bnd.mono {u : List Int} {m k : Nat} (h : Bnd u m) (hk : m ≤ k) : Bnd u k := fun x hx => by have := h x hx; omega
theorem folds_bnd : ∀ (l : List Nd) (u : List Int) (m : Nat), Bnd u m → m + 2 * l.length ≤ 1000000000 → Bnd (l.foldl bumps u) (m + 2 * l.length)
  | [], u, m, h, _ => h
  | n :: l, u, m, h, hm => by
    simp only [List.length_cons] at hm
    have hp := parts_le n
    rw [List.foldl_cons, List.length_cons, show m + 2 * (l.length + 1) = (m + 2) + 2 * l.length by omega]
    exact folds_bnd l _ (m + 2) ((fold_bnd (partsOf n) u m h (by omega)).mono (by omega)) (by omega)
theorem uses_bnd (e : List Nd) (hl : e.length ≤ 1048576) : Bnd (usesOf e) (2 * e.length) := by
  have := folds_bnd e (List.replicate e.length 0) 0 (fun x hx => by have := List.eq_of_mem_replicate hx; omega) (by omega)
  simpa [usesOf] using this
/-- is each node at most once an operand -/
def once (e : List Nd) : Bool := (usesOf e).all fun x => decide (x ≤ 1)
theorem l1All_ev (l : List Int) (hl : l.length ≤ 9223372036854775000) (hb : ∀ x ∈ l, 0 ≤ x) : Ev (fun k => spec_l1All.f k l 0 1) (l.all fun x => decide (x ≤ 1)) := by
  refine Ev.step (fun k => spec_l1All.eq k l 0 1) ?_
  have key := Ev.loop l.length (fun k i => spec_l1All.l0 k 0 1 l (l.length : Int) (i : Int)) (fun i => (l.drop i).all fun x => decide (x ≤ 1)) ?_ ?_ 0 (by omega)
  · exact key
  · exact Ev.step (fun k => spec_l1All.l0_eq k _ _ _ _ _) (Ev.neg (by simp) (Ev.ret (by simp)))
  · intro i hi ih
    refine Ev.step (fun k => spec_l1All.l0_eq k _ _ _ _ _) (Ev.pos (by simpa using hi) (Ev.pos (by simp) (Ev.get hi (Ev.here (l1In_f _ _ _) ?_))))
    have h0 := hb _ (List.getElem_mem hi)
    rw [next_ok i _ hi hl]
    rw [drop_at _ _ hi, List.all_cons]
    by_cases c : l[i] ≤ 1
    · exact Ev.neg (by rw [inB_iff.2 ⟨h0, c⟩]; rfl) (Ev.eq ih (by simp [c]))
    · have : inB l[i] 0 1 = false := by
        cases hq : inB l[i] 0 1 with
        | false => rfl
        | true => exact absurd (inB_iff.1 hq).2 c
      exact Ev.pos (by rw [this]; rfl) (Ev.ret (by simp [c]))
theorem many_ev (l : List Int) (hl : l.length ≤ 9223372036854775000) : Ev (fun k => slices_ContainsFunc_int_isTree.f k l) (!(l.all fun x => decide (x ≤ 1))) := by
  have key : ∀ (d : Nat) (i : Nat), i + d = l.length → ∃ r : Int, Ev (fun k => slices_IndexFunc_int_isTree.l0 k l (l.length : Int) (i : Int)) r ∧ (0 ≤ r ↔ ((l.drop i).all fun x => decide (x ≤ 1)) = false) := by
    intro d
    induction d with
    | zero =>
      intro i h
      refine ⟨-1, Ev.step (fun k => slices_IndexFunc_int_isTree.l0_eq k _ _ _) (Ev.neg (by simp; omega) (Ev.now _)), ?_⟩
      rw [List.drop_eq_nil_of_le (by omega)]; simp
    | succ d ih =>
      intro i h
      have hi : i < l.length := by omega
      by_cases c : l[i] > 1
      · refine ⟨i, Ev.step (fun k => slices_IndexFunc_int_isTree.l0_eq k _ _ _) (Ev.pos (by simpa using hi) (Ev.pos (by simp) (Ev.get hi (Ev.here (impl_isTree_1.eq _) (Ev.pos (by simpa using c) (Ev.now _)))))), ?_⟩
        have c' : ¬ l[i] ≤ 1 := by omega
        rw [drop_at _ _ hi, List.all_cons]; simp [c']
      · obtain ⟨r, hev, hiff⟩ := ih (i + 1) (by omega)
        refine ⟨r, Ev.step (fun k => slices_IndexFunc_int_isTree.l0_eq k _ _ _) (Ev.pos (by simpa using hi) (Ev.pos (by simp) (Ev.get hi (Ev.here (impl_isTree_1.eq _) (Ev.neg (by simpa using c) (by rw [next_ok i _ hi hl]; exact hev)))))), ?_⟩
        have c' : l[i] ≤ 1 := by omega
        rw [hiff, drop_at _ _ hi, List.all_cons]; simp [c']
  obtain ⟨r, hev, hiff⟩ := key l.length 0 (by omega)
  refine Ev.step (fun k => slices_ContainsFunc_int_isTree.eq k l) (Ev.bind (b := r) (Ev.step (fun k => slices_IndexFunc_int_isTree.eq k l) hev) (Ev.ret ?_))
  rw [List.drop_zero] at hiff
  cases hq : l.all fun x => decide (x ≤ 1) with
  | true => rw [hq] at hiff; have : ¬ 0 ≤ r := fun h => by have := hiff.1 h; cases this
            simp [this]
  | false => rw [hq] at hiff; have : 0 ≤ r := hiff.2 rfl
             simp [this]
theorem exTree_ev (e : List Nd) (hl : e.length ≤ 1048576) (hg : exprOk e = true) : Ev (fun k => spec_exTree.f k e) (once e) := by
  unfold exprOk at hg
  simp only [Bool.and_eq_true] at hg
  exact Ev.step (fun k => spec_exTree.eq k e) (Ev.bind (exUses_ev e hl (nodesOk_parts hg.2.1)) (Ev.bind (l1All_ev _ (by rw [usesOf_len]; omega) fun x hx => (uses_bnd e hl x hx).1) (Ev.now _)))
theorem isTree_ev (e : List Nd) (hl : e.length ≤ 1048576) : Ev (fun k => impl_isTree.f k e) (exprOk e && once e) := by
  refine Ev.step (fun k => impl_isTree.eq k e) (Ev.bind (isExpr_ev e hl) ?_)
  cases hg : exprOk e with
  | false => exact Ev.neg rfl (Ev.ret (by simp))
  | true =>
    have hg' := hg
    unfold exprOk at hg'
    simp only [Bool.and_eq_true] at hg'
    exact Ev.pos rfl (Ev.bind (uses_ev e hl (nodesOk_parts hg'.2.1)) (Ev.bind (many_ev _ (by rw [usesOf_len]; omega)) (Ev.ret (by simp [once]))))
theorem exprOk_parts {e : List Nd} (h : exprOk e = true) : nodesOk e 0 = true ∧ 1 ≤ e.length ∧ e.length ≤ 24 := by
  unfold exprOk at h
  simp only [Bool.and_eq_true, inB_iff] at h
  exact ⟨h.2.1, by omega, by omega⟩
end Go.Proofs.YtfpjcfhbecmneaaGreat.Am
end
section
/- Trees that may be asked for. -/
namespace Go.Proofs.YtfpjcfhbecmneaaGreat.Am
open Go
set_option linter.unusedVariables false
set_option linter.unusedSimpArgs false

theorem hole_val {n : Nd} {i : Int} (h : nodeOk n i = true) (c : n.1 = tIn) : ∃ v : Nat, v < 2 ∧ n.2.2.2 = (v : Int) := by
  unfold nodeOk at h
  rw [if_pos c] at h
  simp only [Bool.and_eq_true, inB_iff] at h
  exact ⟨n.2.2.2.toNat, by omega, by omega⟩
theorem last_w {n : Nat} (h0 : 1 ≤ n) (h1 : n ≤ 1048576) : IntKind.wrap .i64 ((n : Int) - 1) = ((n - 1 : Nat) : Int) := by
  rw [wrap_ok (by omega) (by omega)]; omega
/-- a tree that may be asked for -/
def treeOk (e : List Nd) : Bool := exprOk e && once e
theorem treeOk_parts {e : List Nd} (h : treeOk e = true) : nodesOk e 0 = true ∧ 1 ≤ e.length ∧ e.length ≤ 24 ∧ once e = true := by
  unfold treeOk at h
  rw [Bool.and_eq_true] at h
  obtain ⟨h1, h2, h3⟩ := exprOk_parts h.1
  exact ⟨h1, h2, h3, h.2⟩
theorem isTree_v (e : List Nd) (hl : e.length ≤ 1048576) : impl_isTree.v e = some (treeOk e) := ev_lim (isTree_ev e hl)
theorem exGood_v (e : List Nd) (hl : e.length ≤ 1048576) : spec_exGood.v e = some (exprOk e) := ev_lim (exGood_ev e hl)
theorem isExpr_v (e : List Nd) (hl : e.length ≤ 1048576) : impl_IsExpr.v e = some (exprOk e) := ev_lim (isExpr_ev e hl)
theorem exTree_v (e : List Nd) (hl : e.length ≤ 1048576) (hg : exprOk e = true) : spec_exTree.v e = some (once e) := ev_lim (exTree_ev e hl hg)
end Go.Proofs.YtfpjcfhbecmneaaGreat.Am
end
section
/- Rows of at most two numbers, sorted, turned round; a number put into a row; powers of two. -/
namespace Go.Proofs.YtfpjcfhbecmneaaGreat.Am
open Go
set_option linter.unusedVariables false
set_option linter.unusedSimpArgs false

theorem less_f (a b : Int) : cmp_Less_int.f a b = some (decide (a < b)) := by rw [cmp_Less_int.eq, cmp_isNaN_int.eq]; simp
theorem w01 : IntKind.wrap .i64 ((0 : Int) + 1) = 1 := rfl
theorem w11 : IntKind.wrap .i64 ((1 : Int) + 1) = 2 := rfl
theorem w1 : IntKind.wrap .i64 (1 : Int) = 1 := rfl
theorem w0 : IntKind.wrap .i64 (0 : Int) = 0 := rfl
theorem w2 : IntKind.wrap .i64 (2 : Int) = 2 := rfl
theorem w10 : IntKind.wrap .i64 ((1 : Int) - 1) = 0 := rfl
theorem ins_zero (l : List Int) : slices_insertionSortOrdered_int.v 0 0 l = some ((), l) := slices_insertionSortOrdered_int.vs _ _ _ (slices_insertionSortOrdered_int.v0s _ _ _ _ (by rw [w01]; rfl))
theorem ins_one (l : List Int) : slices_insertionSortOrdered_int.v 0 1 l = some ((), l) := slices_insertionSortOrdered_int.vs _ _ _ (slices_insertionSortOrdered_int.v0s _ _ _ _ (by rw [w01]; rfl))
def sort2 (a b : Int) : List Int := if b < a then [b, a] else [a, b]
theorem ins_two (a b : Int) : slices_insertionSortOrdered_int.v 0 2 [a, b] = some ((), sort2 a b) := by
  have e2 : ∀ l, slices_insertionSortOrdered_int.v0 0 2 2 l = some ((), l) := fun l => slices_insertionSortOrdered_int.v0s _ _ _ _ rfl
  have e0 : ∀ l, slices_insertionSortOrdered_int.v1 0 2 1 0 l = some ((), l) := fun l => slices_insertionSortOrdered_int.v1s _ _ _ _ _ (by rw [w11, e2]; rfl)
  refine slices_insertionSortOrdered_int.vs _ _ _ (slices_insertionSortOrdered_int.v0s _ _ _ _ ?_)
  rw [w01, br_t (by decide)]
  refine slices_insertionSortOrdered_int.v1s _ _ _ _ _ ?_
  unfold sort2
  by_cases c : b < a
  · simp [w10, w11, w1, w0, less_f, c, e0]
  · simp [w10, w11, w1, w0, w2, less_f, c, e2]
theorem pdq (n : Int) (h0 : 0 ≤ n) (h : n ≤ 12) (k : Int) (l : List Int) {r : Unit × List Int} (hi : slices_insertionSortOrdered_int.v 0 n l = some r) : slices_pdqsortOrdered_int.v 0 n k l = some ((), r.2) := by
  refine slices_pdqsortOrdered_int.vs _ _ _ _ (slices_pdqsortOrdered_int.v0s _ _ _ _ _ _ ?_)
  rw [wrap_ok (by omega) (by omega), br_t (decide_eq_true (by omega)), hi, bd_s]
theorem len0 : bits_Len.f (IntKind.wrap .u64 0) = some 0 := by kernel_rfl
theorem len1 : bits_Len.f (IntKind.wrap .u64 1) = some 1 := by kernel_rfl
theorem len2 : bits_Len.f (IntKind.wrap .u64 2) = some 2 := by kernel_rfl
theorem sort_nil : slices_Sort_int.v [] = some ((), []) := by
  refine slices_Sort_int.vs _ ?_
  rw [show ((([] : List Int).length : Nat) : Int) = 0 from rfl, len0, bd_s, pdq 0 (by omega) (by omega) _ _ (ins_zero []), bd_s]
theorem sort_one (a : Int) : slices_Sort_int.v [a] = some ((), [a]) := by
  refine slices_Sort_int.vs _ ?_
  rw [show ((([a] : List Int).length : Nat) : Int) = 1 from rfl, len1, bd_s, pdq 1 (by omega) (by omega) _ _ (ins_one [a]), bd_s]
theorem sort_two (a b : Int) : slices_Sort_int.v [a, b] = some ((), sort2 a b) := by
  refine slices_Sort_int.vs _ ?_
  rw [show ((([a, b] : List Int).length : Nat) : Int) = 2 from rfl, len2, bd_s, pdq 2 (by omega) (by omega) _ _ (ins_two a b), bd_s]
theorem put_two {b d : Int} (h : b < d) : spec_l1Put.v [d] b = some [b, d] := by
  have h1 : ¬ d < b := by omega
  have h2 : ¬ d = b := by omega
  exact spec_l1Put.vs _ _ (spec_l1Put.v0s _ _ _ (by simp [h1, h2]))
/-- whose power of 2 a word is -/
def powP (x : Int) : Int := if x = 2 then 1 else if x = 4 then 2 else if x = 8 then 3 else if x = 16 then 4 else if x = 32 then 5 else 0
theorem power_v (x : Int) : impl_power.v x = some (powP x) := by
  have e6 : impl_power.v0 x 6 = some 0 := impl_power.v0s _ _ rfl
  have st : ∀ (k y : Int) (r : Int), 0 ≤ k → k < 6 → IntKind.wrap .i64 ((1 : Int) * ((2 : Int) ^ (Min.min (Int.toNat k) 64))) = y → (if x = y then some k else impl_power.v0 x (k + 1)) = some r → impl_power.v0 x k = some r := fun k y r h0 h6 hy h => by
    refine impl_power.v0s _ _ ?_
    rw [br_t (decide_eq_true h6), br_t (decide_eq_true h0), hy, wrap_ok (by omega) (by omega), br_if]
    simpa using h
  refine impl_power.vs _ ?_
  unfold powP
  refine st 1 2 _ (by omega) (by omega) rfl ?_
  split
  · rfl
  refine st 2 4 _ (by omega) (by omega) rfl ?_
  split
  · rfl
  refine st 3 8 _ (by omega) (by omega) rfl ?_
  split
  · rfl
  refine st 4 16 _ (by omega) (by omega) rfl ?_
  split
  · rfl
  refine st 5 32 _ (by omega) (by omega) rfl ?_
  split
  · rfl
  exact e6
end Go.Proofs.YtfpjcfhbecmneaaGreat.Am
end
section
/- The forms of ops and their costs: the program's and the reference's. -/
namespace Go.Proofs.YtfpjcfhbecmneaaGreat.Am
open Go
set_option linter.unusedVariables false
set_option linter.unusedSimpArgs false

abbrev tSet : ByteArray := ⟨#[115, 101, 116]⟩
abbrev tMov : ByteArray := ⟨#[109, 111, 118]⟩
abbrev tMul : ByteArray := ⟨#[109, 117, 108]⟩
abbrev tShl : ByteArray := ⟨#[115, 104, 108]⟩
abbrev tShr : ByteArray := ⟨#[115, 104, 114]⟩
abbrev tAddi : ByteArray := ⟨#[97, 100, 100, 105]⟩
abbrev tAndi : ByteArray := ⟨#[97, 110, 100, 105]⟩
abbrev tXori : ByteArray := ⟨#[120, 111, 114, 105]⟩
abbrev tShli : ByteArray := ⟨#[115, 104, 108, 105]⟩
abbrev tShri : ByteArray := ⟨#[115, 104, 114, 105]⟩
abbrev tLea : ByteArray := ⟨#[108, 101, 97]⟩
/-- the cost of an op -/
def opCost (s : ByteArray) : Int := if s = tMul then 4 else if s = tShl then 2 else if s = tShr then 2 else 1
theorem cdCost_f (s : ByteArray) : spec_cdCost.f s = some (opCost s) := by
  rw [spec_cdCost.eq]
  unfold opCost
  simp only [seq_beq, br_if, decide_eq_true_eq]
  repeat' split
  all_goals first | rfl | simp_all
theorem opCost_pos (s : ByteArray) : 1 ≤ opCost s ∧ opCost s ≤ 4 := by
  unfold opCost
  repeat' split
  all_goals omega
abbrev Form := Bool × Bool × Int × Int × Int × ByteArray
/-- the form of an op -/
def formP (s : ByteArray) : Form × Bool :=
  if s = tSet then ((false, false, 0, 63, 1, s), true)
  else if s = tMov then ((true, false, 1, 0, 1, s), true)
  else if isOne s = true then ((true, false, 1, 0, 1, s), true)
  else if isTwo s = true then ((true, true, 1, 0, opCost s, s), true)
  else if s = tAddi then ((true, false, 0, 63, 1, s.extract 0 3), true)
  else if s = tAndi then ((true, false, 0, 63, 1, s.extract 0 3), true)
  else if s = tXori then ((true, false, 0, 63, 1, s.extract 0 3), true)
  else if s = tShli then ((true, false, 1, 5, 1, s.extract 0 3), true)
  else if s = tShri then ((true, false, 1, 5, 1, s.extract 0 3), true)
  else if s = tLea then ((true, true, 1, 3, 1, s), true)
  else ((false, false, 0, 0, 0, ⟨#[]⟩), false)
theorem containsS_v (l : List ByteArray) (s : ByteArray) (hl : l.length ≤ 9223372036854775000) : slices_Contains_string.v l s = some (isIn l s) := ev_lim (containsS_ev l s hl)
theorem formOf_v (s : ByteArray) : impl_formOf.v s = some (formP s) := by
  refine impl_formOf.vs _ ?_
  have hc := containsS_v opsL s (by decide)
  unfold opsL at hc
  simp only [impl_binary.eq, bd_s, hc, seq_beq, br_if, decide_eq_true_eq]
  have e2 : isIn [(⟨#[97, 100, 100]⟩ : ByteArray), (⟨#[115, 117, 98]⟩ : ByteArray), (⟨#[109, 117, 108]⟩ : ByteArray), (⟨#[97, 110, 100]⟩ : ByteArray), (⟨#[111, 114]⟩ : ByteArray), (⟨#[120, 111, 114]⟩ : ByteArray), (⟨#[115, 104, 108]⟩ : ByteArray), (⟨#[115, 104, 114]⟩ : ByteArray), (⟨#[108, 101, 115, 115]⟩ : ByteArray), (⟨#[101, 113]⟩ : ByteArray)] s = isTwo s := rfl
  rw [e2]
  by_cases c1 : s = tSet
  · subst c1; simp [formP]
  by_cases c2 : s = tMov
  · subst c2; simp [formP]
  by_cases c3 : s = tNot
  · subst c3; simp [formP, isOne]
  by_cases c4 : s = tNeg
  · subst c4; simp [formP, isOne]
  have h1 : isOne s = false := by unfold isOne; simp [c3, c4]
  by_cases h2 : isTwo s = true
  · simp only [formP, c1, c2, c3, c4, h1, h2, if_false, if_true, Bool.false_eq_true, opCost]
    by_cases d1 : s = tShl
    · subst d1; rfl
    by_cases d2 : s = tShr
    · subst d2; rfl
    by_cases d3 : s = tMul
    · subst d3; rfl
    simp only [d1, d2, d3, if_false]
  by_cases c5 : s = tAddi
  · subst c5; simp [formP, h2, isOne]; decide
  by_cases c6 : s = tAndi
  · subst c6; simp [formP, h2, isOne]; decide
  by_cases c7 : s = tXori
  · subst c7; simp [formP, h2, isOne]; decide
  by_cases c8 : s = tShli
  · subst c8; simp [formP, h2, isOne]; decide
  by_cases c9 : s = tShri
  · subst c9; simp [formP, h2, isOne]; decide
  by_cases c10 : s = tLea
  · subst c10; simp [formP, h2, isOne]
  simp only [formP, c1, c2, c3, c4, h1, h2, c5, c6, c7, c8, c9, c10, if_false, Bool.false_eq_true]
theorem formP_cost {s : ByteArray} (h : 0 < arity s) : (formP s).1.2.2.2.2.1 = opCost s := by
  rcases arity_cases s with ⟨e, _⟩ | ⟨e, _⟩ | ⟨_, e, _⟩ | ⟨_, _, e⟩
  · omega
  · omega
  · rcases isOne_mem e with rfl | rfl <;> decide
  · have h1 := (isTwo_not e).2.2
    have d1 : s ≠ tSet := fun q => by subst q; revert e; decide
    have d2 : s ≠ tMov := fun q => by subst q; revert e; decide
    simp only [formP, d1, d2, h1, e, if_false, if_true, Bool.false_eq_true]
end Go.Proofs.YtfpjcfhbecmneaaGreat.Am
end
section
/- Tiles at a node: the program's and the reference's are the same. -/
namespace Go.Proofs.YtfpjcfhbecmneaaGreat.Am
open Go
set_option linter.unusedVariables false
set_option linter.unusedSimpArgs false

def ndAt (e : List Nd) (p : Int) : Nd := e.getD p.toNat (⟨#[]⟩, 0, 0, 0)
theorem ndAt_nat {e : List Nd} {i : Nat} (h : i < e.length) : ndAt e (i : Int) = e[i] := by
  unfold ndAt
  rw [Int.toNat_natCast, List.getD_eq_getElem?_getD, List.getElem?_eq_getElem h]; rfl
theorem ndAt_get {e : List Nd} {p : Int} (h0 : 0 ≤ p) (h : p < e.length) : e[p.toNat]? = some (ndAt e p) := by
  obtain ⟨i, rfl⟩ := Int.eq_ofNat_of_zero_le h0
  rw [ndAt_nat (by omega), Int.toNat_natCast]; exact List.getElem?_eq_getElem (by omega)
theorem ndAt_ok {e : List Nd} (hn : nodesOk e 0 = true) {p : Int} (h0 : 0 ≤ p) (h : p < e.length) : nodeOk (ndAt e p) p = true := by
  obtain ⟨i, rfl⟩ := Int.eq_ofNat_of_zero_le h0
  rw [ndAt_nat (by omega)]
  have := nodesOk_get e 0 hn i (by omega)
  rwa [Nat.zero_add] at this
def wordsL : List Int := (List.range 64).map Int.ofNat
theorem mem_words {x : Int} : x ∈ wordsL ↔ 0 ≤ x ∧ x ≤ 63 := by
  unfold wordsL
  rw [List.mem_map]
  constructor
  · rintro ⟨j, hj, rfl⟩
    have := List.mem_range.1 hj
    constructor
    · exact Int.natCast_nonneg j
    · show (j : Int) ≤ 63; omega
  · rintro ⟨h0, h1⟩
    exact ⟨x.toNat, List.mem_range.2 (by omega), by show ((x.toNat : Nat) : Int) = x; omega⟩
def isCn (m : Nd) (S : List Int) : Bool := decide (m.1 = tConst) && decide (m.2.2.2 ∈ S)
theorem const_word {m : Nd} {i : Int} (h : nodeOk m i = true) (c : m.1 = tConst) : 0 ≤ m.2.2.2 ∧ m.2.2.2 ≤ 63 := by
  unfold nodeOk at h
  rw [if_neg (by rw [c]; decide), if_pos c] at h
  simp only [Bool.and_eq_true, inB_iff] at h
  omega
def ops4 : List ByteArray := [(⟨#[97, 100, 100]⟩ : ByteArray), (⟨#[115, 117, 98]⟩ : ByteArray), (⟨#[97, 110, 100]⟩ : ByteArray), (⟨#[120, 111, 114]⟩ : ByteArray)]
def ops5 : List ByteArray := [(⟨#[97, 100, 100]⟩ : ByteArray), (⟨#[97, 110, 100]⟩ : ByteArray), (⟨#[120, 111, 114]⟩ : ByteArray)]
def ops6 : List ByteArray := [(⟨#[115, 104, 108]⟩ : ByteArray), (⟨#[115, 104, 114]⟩ : ByteArray)]
abbrev tAdd : ByteArray := ⟨#[97, 100, 100]⟩
abbrev Tl := List Int × List Int
def constM (b : Bool) (m : Nd) (S : List Int) (p c : Int) : Option Tl := if b = true ∧ isCn m S = true then some ([p], [c]) else none
def deepM (e : List Nd) (b : Bool) (plain deep : Int) (op : ByteArray) (S : List Int) : Option Tl :=
  if b = true ∧ (ndAt e deep).1 = op ∧ isCn (ndAt e (ndAt e deep).2.2.1) S = true then some ([plain, (ndAt e deep).2.1], [(ndAt e deep).2.2.1, deep]) else none
/-- the parts and the inner nodes of a tile at a node -/
def tileN (e : List Nd) (n : Nd) (t : Int) : Option Tl :=
  if t = 0 then (if n.1 = tIn then some ([], []) else none)
  else if t = 1 then (if n.1 = tConst then some ([], []) else none)
  else if t = 2 then (if isOne n.1 = true then some ([n.2.1], []) else none)
  else if t = 3 then (if isTwo n.1 = true then some ([n.2.1, n.2.2.1], []) else none)
  else if t = 4 then constM (isIn ops4 n.1) (ndAt e n.2.2.1) wordsL n.2.1 n.2.2.1
  else if t = 5 then constM (isIn ops5 n.1) (ndAt e n.2.1) wordsL n.2.2.1 n.2.1
  else if t = 6 then constM (isIn ops6 n.1) (ndAt e n.2.2.1) [1, 2, 3, 4, 5] n.2.1 n.2.2.1
  else if t = 7 then constM (decide (n.1 = tMul)) (ndAt e n.2.2.1) [2, 4, 8, 16, 32] n.2.1 n.2.2.1
  else if t = 8 then constM (decide (n.1 = tMul)) (ndAt e n.2.1) [2, 4, 8, 16, 32] n.2.2.1 n.2.1
  else if t = 9 then deepM e (decide (n.1 = tAdd)) n.2.1 n.2.2.1 tShl [1, 2, 3]
  else if t = 10 then deepM e (decide (n.1 = tAdd)) n.2.2.1 n.2.1 tShl [1, 2, 3]
  else if t = 11 then deepM e (decide (n.1 = tAdd)) n.2.1 n.2.2.1 tMul [2, 4, 8]
  else if t = 12 then deepM e (decide (n.1 = tAdd)) n.2.2.1 n.2.1 tMul [2, 4, 8]
  else none
def tileM (e : List Nd) (i t : Int) : Option Tl := tileN e (ndAt e i) t
def told : Option Tl → List Int × List Int × Bool
  | some (p, q) => (p, q, true)
  | none => ([], [], false)
theorem two_parts {n : Nd} {i : Int} (h : nodeOk n i = true) (c : isTwo n.1 = true) : (0 ≤ n.2.1 ∧ n.2.1 < i) ∧ 0 ≤ n.2.2.1 ∧ n.2.2.1 < i := by
  obtain ⟨h1, h2, h3⟩ := isTwo_not c
  unfold nodeOk at h
  rw [if_neg h1, if_neg h2, if_neg (by rw [h3]; decide)] at h
  simp only [Bool.and_eq_true, inB_iff] at h
  omega
theorem in4 {s : ByteArray} (h : isIn ops4 s = true) : isTwo s = true := by
  unfold isIn ops4 at h
  simp only [List.any_cons, List.any_nil, Bool.or_eq_true, decide_eq_true_eq, Bool.or_false] at h
  rcases h with h | h | h | h <;> subst h <;> decide
theorem in5 {s : ByteArray} (h : isIn ops5 s = true) : isTwo s = true := by
  unfold isIn ops5 at h
  simp only [List.any_cons, List.any_nil, Bool.or_eq_true, decide_eq_true_eq, Bool.or_false] at h
  rcases h with h | h | h <;> subst h <;> decide
theorem in6 {s : ByteArray} (h : isIn ops6 s = true) : isTwo s = true := by
  unfold isIn ops6 at h
  simp only [List.any_cons, List.any_nil, Bool.or_eq_true, decide_eq_true_eq, Bool.or_false] at h
  rcases h with h | h <;> subst h <;> decide

/-! ### the reference -/
theorem l1Has_v (l : List Int) (s : Int) (hl : l.length ≤ 9223372036854775000) : spec_l1Has.v l s = some (decide (s ∈ l)) := ev_lim (l1Has_ev l s hl)
theorem l1HasS_v (l : List ByteArray) (s : ByteArray) (hl : l.length ≤ 9223372036854775000) : spec_l1HasS.v l s = some (isIn l s) := ev_lim (l1HasS_ev l s hl)
theorem exTwo_v (s : ByteArray) : spec_exTwo.v s = some (isTwo s) := ev_lim (exTwo_ev s)
theorem operands_v' (s : ByteArray) : impl_operands.v s = some (arity s) := ev_lim (operands_ev s)
theorem cvConst_v (m : Nd) (S : List Int) (hS : S.length ≤ 1000) : spec_cvConst.v m S = some (isCn m S) := by
  refine spec_cvConst.vs _ _ ?_
  rw [seq_beq]
  unfold isCn
  by_cases c : m.1 = tConst
  · rw [br_t (by simpa using c), l1Has_v _ _ (by omega), bd_s]; simp [c]
  · rw [br_f (by simpa using c)]; simp [c]
theorem cvWords_v : spec_cvWords.v = some wordsL := by
  have key : ∀ (d i : Nat), i + d = 64 → spec_cvWords.v0 (i : Int) ((List.range i).map Int.ofNat) = some wordsL := by
    intro d
    induction d with
    | zero =>
      intro i hi
      obtain rfl : i = 64 := by omega
      exact spec_cvWords.v0s _ _ (br_f (by decide))
    | succ d ih =>
      intro i hi
      refine spec_cvWords.v0s _ _ ?_
      rw [br_t (decide_eq_true (by omega)), br_t (decide_eq_true (by simp; omega)), next_ok i 64 (by omega) (by omega)]
      have := ih (i + 1) (by omega)
      rw [List.range_succ, List.map_append] at this
      exact this
  exact spec_cvWords.vs (key 64 0 (by omega))
theorem cvDeep_v {e : List Nd} (hn : nodesOk e 0 = true) {p d : Int} (h0 : 0 ≤ d) (h : d < e.length) {op : ByteArray} (hop : isTwo op = true) {S : List Int} (hS : S.length ≤ 1000) : spec_cvDeep.v e p d op S = some (told (deepM e true p d op S)) := by
  refine spec_cvDeep.vs _ _ _ _ _ ?_
  rw [br_t (by simpa using h0), gt_some (ndAt_get h0 h), seq_beq]
  unfold deepM
  by_cases c : (ndAt e d).1 = op
  · have hk := ndAt_ok hn h0 h
    have hp := two_parts hk (by rw [c]; exact hop)
    rw [br_f (by simp [c]), br_t (by simpa using hp.2.1), gt_some (ndAt_get hp.2.1 (by omega)), cvConst_v _ _ hS, bd_s]
    by_cases q : isCn (ndAt e (ndAt e d).2.2.1) S = true
    · rw [q, brn_t, put_two hp.2.2, bd_s]; simp [c, told]
    · rw [Bool.not_eq_true] at q
      rw [q, brn_f]; simp [told]
  · rw [br_t (by simp [c])]; simp [c, told]
section
variable {e : List Nd} {t : Int} {n : Nd} {i : Int}
abbrev vv (k : Nat) (x : Option (List Int × List Int × Bool)) : Prop := x = some ([], [], false)
theorem cvN10 : spec_cvTile.v10 = some ([], [], false) := spec_cvTile.v10s rfl
theorem cvN9 (h : t ≠ 12) : spec_cvTile.v9 e t n.1 n.2.1 n.2.2.1 n.2.2.2 = some ([], [], false) := spec_cvTile.v9s _ _ _ _ _ _ ((br_f (by simpa using h)).trans cvN10)
theorem cvN8 (h : t < 11 ∨ 12 < t) : spec_cvTile.v8 e t n.1 n.2.1 n.2.2.1 n.2.2.2 = some ([], [], false) := spec_cvTile.v8s _ _ _ _ _ _ ((br_f (by simp; omega)).trans (cvN9 (by omega)))
theorem cvN7 (h : t < 10 ∨ 12 < t) : spec_cvTile.v7 e t n.1 n.2.1 n.2.2.1 n.2.2.2 = some ([], [], false) := spec_cvTile.v7s _ _ _ _ _ _ ((br_f (by simp; omega)).trans (cvN8 (by omega)))
theorem cvN6 (h : t < 9 ∨ 12 < t) : spec_cvTile.v6 e t n.1 n.2.1 n.2.2.1 n.2.2.2 = some ([], [], false) := spec_cvTile.v6s _ _ _ _ _ _ ((br_f (by simp; omega)).trans (cvN7 (by omega)))
theorem cvN5 (h : t < 8 ∨ 12 < t) : spec_cvTile.v5 e t n.1 n.2.1 n.2.2.1 n.2.2.2 = some ([], [], false) := spec_cvTile.v5s _ _ _ _ _ _ ((br_f (by simp; omega)).trans (cvN6 (by omega)))
theorem cvN4 (h : t < 7 ∨ 12 < t) : spec_cvTile.v4 e t n.1 n.2.1 n.2.2.1 n.2.2.2 = some ([], [], false) := spec_cvTile.v4s _ _ _ _ _ _ ((br_f (by simp; omega)).trans (cvN5 (by omega)))
theorem cvN3 (h : t < 6 ∨ 12 < t) : spec_cvTile.v3 e t n.1 n.2.1 n.2.2.1 n.2.2.2 = some ([], [], false) := spec_cvTile.v3s _ _ _ _ _ _ ((br_f (by simp; omega)).trans (cvN4 (by omega)))
theorem cvN2 (h : t < 5 ∨ 12 < t) : spec_cvTile.v2 e t n.1 n.2.1 n.2.2.1 n.2.2.2 = some ([], [], false) := spec_cvTile.v2s _ _ _ _ _ _ ((br_f (by simp; omega)).trans (cvN3 (by omega)))
theorem cvN1 (h : t < 4 ∨ 12 < t) : spec_cvTile.v1 e t n.1 n.2.1 n.2.2.1 n.2.2.2 = some ([], [], false) := spec_cvTile.v1s _ _ _ _ _ _ ((br_f (by simp; omega)).trans (cvN2 (by omega)))
theorem cvN0 (h : t < 3 ∨ 12 < t) : spec_cvTile.v0 e t n.1 n.2.1 n.2.2.1 n.2.2.2 = some ([], [], false) := spec_cvTile.v0s _ _ _ _ _ _ ((br_f (by simp; omega)).trans (cvN1 (by omega)))
theorem constT {m : Nd} {S : List Int} {p c : Int} : (br (isCn m S) (some ([p], ([c], true))) (some ([], ([], false)))) = some (told (constM true m S p c)) := by
  unfold constM; cases isCn m S <;> rfl
theorem words_len : wordsL.length ≤ 1000 := by simp [wordsL]
/-- behind the first three kinds -/
theorem cvTail (hn : nodesOk e 0 = true) (hk : nodeOk n i = true) (hi : i ≤ e.length) (h3 : t ≠ 0 ∧ t ≠ 1 ∧ t ≠ 2) : spec_cvTile.v0 e t n.1 n.2.1 n.2.2.1 n.2.2.2 = some (told (tileN e n t)) := by
  by_cases ho : t < 3 ∨ 12 < t
  · rw [cvN0 ho]
    unfold tileN
    rw [if_neg h3.1, if_neg h3.2.1, if_neg h3.2.2, if_neg (by omega), if_neg (by omega), if_neg (by omega), if_neg (by omega), if_neg (by omega), if_neg (by omega), if_neg (by omega), if_neg (by omega), if_neg (by omega), if_neg (by omega)]
    rfl
  rcases (show t = 3 ∨ t = 4 ∨ t = 5 ∨ t = 6 ∨ t = 7 ∨ t = 8 ∨ t = 9 ∨ t = 10 ∨ t = 11 ∨ t = 12 by omega) with rfl | rfl | rfl | rfl | rfl | rfl | rfl | rfl | rfl | rfl
  · refine spec_cvTile.v0s _ _ _ _ _ _ ?_
    rw [br_t (by decide), exTwo_v, bd_s, cvN1 (by omega)]
    by_cases c : isTwo n.1 = true
    · simp [c, tileN, told]
    · rw [Bool.not_eq_true] at c; simp [c, tileN, told]
  all_goals refine spec_cvTile.v0s _ _ _ _ _ _ ((br_f (by decide)).trans (spec_cvTile.v1s _ _ _ _ _ _ ?_))
  · rw [br_t (by decide), l1HasS_v _ _ (by decide), bd_s, cvN2 (by omega)]
    by_cases c : isIn ops4 n.1 = true
    · have hp := two_parts hk (in4 c)
      have c' := c
      unfold ops4 at c'
      rw [c', br_t rfl, br_t (by simpa using hp.2.1), gt_some (ndAt_get hp.2.1 (by omega)), cvWords_v, bd_s, cvConst_v _ _ words_len, bd_s, constT]
      simp [tileN, c]
    · rw [Bool.not_eq_true] at c
      have c' := c
      unfold ops4 at c'
      rw [c', br_f rfl]
      simp [tileN, c, constM, told]
  · rw [br_f (by decide)]
    refine spec_cvTile.v2s _ _ _ _ _ _ ?_
    rw [br_t (by decide), l1HasS_v _ _ (by decide), bd_s, cvN3 (by omega)]
    by_cases c : isIn ops5 n.1 = true
    · have hp := two_parts hk (in5 c)
      have c' := c
      unfold ops5 at c'
      rw [c', br_t rfl, br_t (by simpa using hp.1.1), gt_some (ndAt_get hp.1.1 (by omega)), cvWords_v, bd_s, cvConst_v _ _ words_len, bd_s, constT]
      simp [tileN, c]
    · rw [Bool.not_eq_true] at c
      have c' := c
      unfold ops5 at c'
      rw [c', br_f rfl]
      simp [tileN, c, constM, told]
  · rw [br_f (by decide)]
    refine spec_cvTile.v2s _ _ _ _ _ _ ?_
    rw [br_f (by decide)]
    refine spec_cvTile.v3s _ _ _ _ _ _ ?_
    rw [br_t (by decide), l1HasS_v _ _ (by decide), bd_s, cvN4 (by omega)]
    by_cases c : isIn ops6 n.1 = true
    · have hp := two_parts hk (in6 c)
      have c' := c
      unfold ops6 at c'
      rw [c', br_t rfl, br_t (by simpa using hp.2.1), gt_some (ndAt_get hp.2.1 (by omega)), cvConst_v _ _ (by decide), bd_s, constT]
      simp [tileN, c]
    · rw [Bool.not_eq_true] at c
      have c' := c
      unfold ops6 at c'
      rw [c', br_f rfl]
      simp [tileN, c, constM, told]
  · rw [br_f (by decide)]
    refine spec_cvTile.v2s _ _ _ _ _ _ ?_
    rw [br_f (by decide)]
    refine spec_cvTile.v3s _ _ _ _ _ _ ?_
    rw [br_f (by decide)]
    refine spec_cvTile.v4s _ _ _ _ _ _ ?_
    rw [br_t (by decide), cvN5 (by omega), seq_beq]
    by_cases c : n.1 = tMul
    · have hp := two_parts hk (by rw [c]; decide)
      rw [br_t (by simpa using c), br_t (by simpa using hp.2.1), gt_some (ndAt_get hp.2.1 (by omega)), cvConst_v _ _ (by decide), bd_s, constT]
      simp [tileN, c]
    · rw [br_f (by simpa using c)]
      simp [tileN, c, constM, told]
  · rw [br_f (by decide)]
    refine spec_cvTile.v2s _ _ _ _ _ _ ?_
    rw [br_f (by decide)]
    refine spec_cvTile.v3s _ _ _ _ _ _ ?_
    rw [br_f (by decide)]
    refine spec_cvTile.v4s _ _ _ _ _ _ ?_
    rw [br_f (by decide)]
    refine spec_cvTile.v5s _ _ _ _ _ _ ?_
    rw [br_t (by decide), cvN6 (by omega), seq_beq]
    by_cases c : n.1 = tMul
    · have hp := two_parts hk (by rw [c]; decide)
      rw [br_t (by simpa using c), br_t (by simpa using hp.1.1), gt_some (ndAt_get hp.1.1 (by omega)), cvConst_v _ _ (by decide), bd_s, constT]
      simp [tileN, c]
    · rw [br_f (by simpa using c)]
      simp [tileN, c, constM, told]
  · rw [br_f (by decide)]
    refine spec_cvTile.v2s _ _ _ _ _ _ ?_
    rw [br_f (by decide)]
    refine spec_cvTile.v3s _ _ _ _ _ _ ?_
    rw [br_f (by decide)]
    refine spec_cvTile.v4s _ _ _ _ _ _ ?_
    rw [br_f (by decide)]
    refine spec_cvTile.v5s _ _ _ _ _ _ ?_
    rw [br_f (by decide)]
    refine spec_cvTile.v6s _ _ _ _ _ _ ?_
    rw [br_t (by decide), cvN7 (by omega), seq_beq]
    by_cases c : n.1 = tAdd
    · have hp := two_parts hk (by rw [c]; decide)
      rw [br_t (by simpa using c), cvDeep_v hn hp.2.1 (by omega) (by decide) (by decide), bd_s]
      simp [tileN, c]
    · rw [br_f (by simpa using c)]
      simp [tileN, c, deepM, told]
  · rw [br_f (by decide)]
    refine spec_cvTile.v2s _ _ _ _ _ _ ?_
    rw [br_f (by decide)]
    refine spec_cvTile.v3s _ _ _ _ _ _ ?_
    rw [br_f (by decide)]
    refine spec_cvTile.v4s _ _ _ _ _ _ ?_
    rw [br_f (by decide)]
    refine spec_cvTile.v5s _ _ _ _ _ _ ?_
    rw [br_f (by decide)]
    refine spec_cvTile.v6s _ _ _ _ _ _ ?_
    rw [br_f (by decide)]
    refine spec_cvTile.v7s _ _ _ _ _ _ ?_
    rw [br_t (by decide), cvN8 (by omega), seq_beq]
    by_cases c : n.1 = tAdd
    · have hp := two_parts hk (by rw [c]; decide)
      rw [br_t (by simpa using c), cvDeep_v hn hp.1.1 (by omega) (by decide) (by decide), bd_s]
      simp [tileN, c]
    · rw [br_f (by simpa using c)]
      simp [tileN, c, deepM, told]
  · rw [br_f (by decide)]
    refine spec_cvTile.v2s _ _ _ _ _ _ ?_
    rw [br_f (by decide)]
    refine spec_cvTile.v3s _ _ _ _ _ _ ?_
    rw [br_f (by decide)]
    refine spec_cvTile.v4s _ _ _ _ _ _ ?_
    rw [br_f (by decide)]
    refine spec_cvTile.v5s _ _ _ _ _ _ ?_
    rw [br_f (by decide)]
    refine spec_cvTile.v6s _ _ _ _ _ _ ?_
    rw [br_f (by decide)]
    refine spec_cvTile.v7s _ _ _ _ _ _ ?_
    rw [br_f (by decide)]
    refine spec_cvTile.v8s _ _ _ _ _ _ ?_
    rw [br_t (by decide), cvN9 (by omega), seq_beq]
    by_cases c : n.1 = tAdd
    · have hp := two_parts hk (by rw [c]; decide)
      rw [br_t (by simpa using c), cvDeep_v hn hp.2.1 (by omega) (by decide) (by decide), bd_s]
      simp [tileN, c]
    · rw [br_f (by simpa using c)]
      simp [tileN, c, deepM, told]
  · rw [br_f (by decide)]
    refine spec_cvTile.v2s _ _ _ _ _ _ ?_
    rw [br_f (by decide)]
    refine spec_cvTile.v3s _ _ _ _ _ _ ?_
    rw [br_f (by decide)]
    refine spec_cvTile.v4s _ _ _ _ _ _ ?_
    rw [br_f (by decide)]
    refine spec_cvTile.v5s _ _ _ _ _ _ ?_
    rw [br_f (by decide)]
    refine spec_cvTile.v6s _ _ _ _ _ _ ?_
    rw [br_f (by decide)]
    refine spec_cvTile.v7s _ _ _ _ _ _ ?_
    rw [br_f (by decide)]
    refine spec_cvTile.v8s _ _ _ _ _ _ ?_
    rw [br_f (by decide)]
    refine spec_cvTile.v9s _ _ _ _ _ _ ?_
    rw [br_t (by decide), cvN10, seq_beq]
    by_cases c : n.1 = tAdd
    · have hp := two_parts hk (by rw [c]; decide)
      rw [br_t (by simpa using c), cvDeep_v hn hp.1.1 (by omega) (by decide) (by decide), bd_s]
      simp [tileN, c]
    · rw [br_f (by simpa using c)]
      simp [tileN, c, deepM, told]
theorem cvTile_v (hn : nodesOk e 0 = true) {j : Nat} (hj : j < e.length) (t : Int) : spec_cvTile.v e (j : Int) t = some (told (tileM e j t)) := by
  have hk : nodeOk (ndAt e j) (j : Int) = true := ndAt_ok hn (by omega) (by omega)
  refine spec_cvTile.vs _ _ _ ?_
  rw [br_t (by simp), gt_some (ndAt_get (by omega) (by omega))]
  unfold tileM
  by_cases t0 : t = 0
  · subst t0
    rw [br_t (by decide), seq_beq]
    by_cases c : (ndAt e j).1 = tIn <;> simp [tileN, c, told]
  rw [br_f (by simpa using t0)]
  by_cases t1 : t = 1
  · subst t1
    rw [br_t (by decide), seq_beq]
    by_cases c : (ndAt e j).1 = tConst <;> simp [tileN, c, told]
  rw [br_f (by simpa using t1)]
  by_cases t2 : t = 2
  · subst t2
    rw [br_t (by decide), exOne_f, bd_s, cvN0 (by omega)]
    by_cases c : isOne (ndAt e j).1 = true
    · simp [tileN, c, told]
    · rw [Bool.not_eq_true] at c; simp [tileN, c, told]
  rw [br_f (by simpa using t2)]
  exact cvTail hn hk (by omega) ⟨t0, t1, t2⟩
end
end Go.Proofs.YtfpjcfhbecmneaaGreat.Am
end
section
/- Tiles at a node: the program's. -/
namespace Go.Proofs.YtfpjcfhbecmneaaGreat.Am
open Go
set_option linter.unusedVariables false
set_option linter.unusedSimpArgs false

abbrev Tile := List Int × List Int × Int
/-- what a tile at a node costs -/
def tCostN (n : Nd) (t : Int) : Int := if t = 0 then 0 else if t = 3 then opCost n.1 else 1
def tCost (e : List Nd) (i t : Int) : Int := tCostN (ndAt e i) t
/-- the program's answer x at a node tells the tile that is told -/
def Tells (e : List Nd) (n : Nd) (t : Int) (x : Option (Tile × Bool)) : Prop := ∃ T : Tile, x = some (T, (tileN e n t).isSome) ∧ T.1.length ≤ 2 ∧ ∀ p q, tileN e n t = some (p, q) → T = (p, q, tCostN n t)
section
variable {e : List Nd} {n : Nd} {t i : Int}
theorem Tells.yes {p q : List Int} {c : Int} (h : tileN e n t = some (p, q)) (hc : c = tCostN n t) (hl : p.length ≤ 2) : Tells e n t (some ((p, q, c), true)) :=
  ⟨(p, q, c), by rw [h]; rfl, hl, fun p' q' h' => by rw [h] at h'; simp only [Option.some.injEq, Prod.mk.injEq] at h'; rw [← h'.1, ← h'.2, hc]⟩
theorem Tells.no {T : Tile} (h : tileN e n t = none) (hl : T.1.length ≤ 2) : Tells e n t (some (T, false)) := ⟨T, by rw [h]; rfl, hl, fun p q h' => by rw [h] at h'; cases h'⟩
theorem powP_pos (x : Int) : decide (powP x > 0) = decide (x ∈ [2, 4, 8, 16, 32]) := by
  unfold powP
  by_cases h2 : x = 2
  · subst h2; decide
  by_cases h4 : x = 4
  · subst h4; decide
  by_cases h8 : x = 8
  · subst h8; decide
  by_cases h16 : x = 16
  · subst h16; decide
  by_cases h32 : x = 32
  · subst h32; decide
  simp [h2, h4, h8, h16, h32]
theorem powP_three (x : Int) : inB (powP x) 1 3 = decide (x ∈ [2, 4, 8]) := by
  unfold powP
  by_cases h2 : x = 2
  · subst h2; decide
  by_cases h4 : x = 4
  · subst h4; decide
  by_cases h8 : x = 8
  · subst h8; decide
  by_cases h16 : x = 16
  · subst h16; decide
  by_cases h32 : x = 32
  · subst h32; decide
  simp [h2, h4, h8, h16, h32, inB]
theorem in13 (x : Int) : inB x 1 3 = decide (x ∈ [1, 2, 3]) := by
  rw [Bool.eq_iff_iff, inB_iff, decide_eq_true_iff]
  simp only [List.mem_cons, List.not_mem_nil, or_false]
  omega
theorem in15 (x : Int) : inB x 1 5 = decide (x ∈ [1, 2, 3, 4, 5]) := by
  rw [Bool.eq_iff_iff, inB_iff, decide_eq_true_iff]
  simp only [List.mem_cons, List.not_mem_nil, or_false]
  omega
/-- a constant that is taken -/
theorem constW {z : Int} (hn : nodesOk e 0 = true) {p c : Int} (h0 : 0 ≤ c) (h : c < e.length) {ops : List ByteArray} (hops : ops.length ≤ 1000) {S : List Int} {b : Bool} (ht : tileN e n t = constM (isIn ops n.1) (ndAt e c) S p c) (hb : (ndAt e c).1 = tConst → b = decide ((ndAt e c).2.2.2 ∈ S)) (hc : tCostN n t = 1) :
    Tells e n t (impl_constTile.v1 e p c b n.1 n.2.1 n.2.2.1 n.2.2.2 z ops) := by
  have key : ∀ x, impl_constTile.v1 e p c b n.1 n.2.1 n.2.2.1 n.2.2.2 z ops = x → Tells e n t x → Tells e n t (impl_constTile.v1 e p c b n.1 n.2.1 n.2.2.1 n.2.2.2 z ops) := fun x hx hT => hx ▸ hT
  by_cases c1 : isIn ops n.1 = true
  · by_cases c2 : (ndAt e c).1 = tConst
    · refine key _ (impl_constTile.v1s _ _ _ _ _ _ _ _ _ _ (r := (([p], [c], 1), b)) ?_) ?_
      · rw [containsS_v _ _ (by omega), bd_s, br_t c1, br_t (by simpa using h0), gt_some (ndAt_get h0 h), seq_beq, br_t (by simpa using c2)]
      · have hb := hb c2
        cases b with
        | true => exact Tells.yes (by rw [ht]; unfold constM isCn; rw [if_pos ⟨c1, by rw [← hb]; simp [c2]⟩]) hc.symm (by simp)
        | false => exact Tells.no (by rw [ht]; unfold constM isCn; rw [if_neg (fun q => by rw [← hb] at q; simp at q)]) (by simp)
    · refine key _ (impl_constTile.v1s _ _ _ _ _ _ _ _ _ _ (r := (([p], [c], 1), false)) ?_) ?_
      · rw [containsS_v _ _ (by omega), bd_s, br_t c1, br_t (by simpa using h0), gt_some (ndAt_get h0 h), seq_beq, br_f (by simpa using c2)]
      · exact Tells.no (by rw [ht]; unfold constM isCn; rw [if_neg (fun q => by simp [c2] at q)]) (by simp)
  · refine key _ (impl_constTile.v1s _ _ _ _ _ _ _ _ _ _ (r := (([p], [c], 1), false)) ?_) ?_
    · rw [Bool.not_eq_true] at c1
      rw [containsS_v _ _ (by omega), bd_s, br_f c1]
    · exact Tells.no (by rw [ht]; unfold constM; rw [if_neg (fun q => c1 q.1)]) (by simp)
theorem Tells.of {x y : Option (Tile × Bool)} (h : ∀ r, y = some r → x = some r) (hT : Tells e n t y) : Tells e n t x := by
  obtain ⟨T, h1, h2⟩ := hT
  exact ⟨T, h _ h1, h2⟩
/-- the kinds 4 to 8 -/
theorem constI (hn : nodesOk e 0 = true) (hk : nodeOk n i = true) (hi : i ≤ e.length) (h2 : isTwo n.1 = true) (ht : t = 4 ∨ t = 5 ∨ t = 6 ∨ t = 7 ∨ t = 8) : Tells e n t (impl_constTile.v e n t) := by
  have hp := two_parts hk h2
  have wd : ∀ c : Int, 0 ≤ c → c < e.length → (ndAt e c).1 = tConst → true = decide ((ndAt e c).2.2.2 ∈ wordsL) := fun c c0 c1 hc => (decide_eq_true (mem_words.2 (const_word (ndAt_ok hn c0 c1) hc))).symm
  rcases ht with rfl | rfl | rfl | rfl | rfl
  · refine Tells.of (fun r hr => impl_constTile.vs _ _ _ ((br_f (by decide)).trans ((br_f (by decide)).trans ((br_f (by decide)).trans ((br_f (by decide)).trans (impl_constTile.v0s _ _ _ _ _ _ _ _ _ _ ?_)))))) (constW (z := 0) hn hp.2.1 (by omega) (ops := ops4) (by decide) (S := wordsL) (b := true) (p := n.2.1) rfl (wd _ hp.2.1 (by omega)) rfl)
    rw [br_t (by simpa using hp.2.1), gt_some (ndAt_get hp.2.1 (by omega)), br_t (by decide)]
    exact hr
  · refine Tells.of (fun r hr => impl_constTile.vs _ _ _ ((br_t (by decide)).trans (impl_constTile.v0s _ _ _ _ _ _ _ _ _ _ ?_))) (constW (z := 0) hn hp.1.1 (by omega) (ops := ops5) (by decide) (S := wordsL) (b := true) (p := n.2.2.1) rfl (wd _ hp.1.1 (by omega)) rfl)
    rw [br_t (by simpa using hp.1.1), gt_some (ndAt_get hp.1.1 (by omega)), br_t (by decide)]
    exact hr
  · refine Tells.of (fun r hr => impl_constTile.vs _ _ _ ((br_f (by decide)).trans ((br_t (by decide)).trans (impl_constTile.v0s _ _ _ _ _ _ _ _ _ _ ?_)))) (constW (z := 0) hn hp.2.1 (by omega) (ops := ops6) (by decide) (S := [1, 2, 3, 4, 5]) (b := inB (ndAt e n.2.2.1).2.2.2 1 5) (p := n.2.1) rfl (fun _ => in15 _) rfl)
    rw [br_t (by simpa using hp.2.1), gt_some (ndAt_get hp.2.1 (by omega)), br_f (by decide), br_t (by decide), within_f, bd_s]
    cases hb : inB (ndAt e n.2.2.1).2.2.2 1 5
    · rw [hb] at hr; rw [br_f rfl, br_f (by decide)]; exact hr
    · rw [hb] at hr; rw [br_t rfl]; exact hr
  · refine Tells.of (fun r hr => impl_constTile.vs _ _ _ ((br_f (by decide)).trans ((br_f (by decide)).trans ((br_t (by decide)).trans (impl_constTile.v0s _ _ _ _ _ _ _ _ _ _ ?_))))) (constW (z := 0) hn hp.2.1 (by omega) (ops := [tMul]) (by decide) (S := [2, 4, 8, 16, 32]) (b := decide (powP (ndAt e n.2.2.1).2.2.2 > 0)) (p := n.2.1) (by simp [tileN, isIn, eq_comm]) (fun _ => powP_pos _) rfl)
    rw [br_t (by simpa using hp.2.1), gt_some (ndAt_get hp.2.1 (by omega)), br_f (by decide), br_f (by decide), br_t (by decide), power_v, bd_s]
    exact hr
  · refine Tells.of (fun r hr => impl_constTile.vs _ _ _ ((br_f (by decide)).trans ((br_f (by decide)).trans ((br_f (by decide)).trans ((br_t (by decide)).trans (impl_constTile.v0s _ _ _ _ _ _ _ _ _ _ ?_)))))) (constW (z := 0) hn hp.1.1 (by omega) (ops := [tMul]) (by decide) (S := [2, 4, 8, 16, 32]) (b := decide (powP (ndAt e n.2.1).2.2.2 > 0)) (p := n.2.2.1) (by simp [tileN, isIn, eq_comm]) (fun _ => powP_pos _) rfl)
    rw [br_t (by simpa using hp.1.1), gt_some (ndAt_get hp.1.1 (by omega)), br_f (by decide), br_f (by decide), br_t (by decide), power_v, bd_s]
    exact hr
/-- a sum with a part that is moved -/
theorem sumW (hn : nodesOk e 0 = true) {p d : Int} (h0 : 0 ≤ d) (h : d < e.length) {op : ByteArray} (hop : isTwo op = true) {S : List Int} {q : Int → Bool} (ht : tileN e n t = deepM e (decide (n.1 = tAdd)) p d op S) (hq : ∀ x, q x = decide (x ∈ S)) (hc : tCostN n t = 1)
    {f : Nd → Int → Option (Tile × Bool)} (hf : (ndAt e d).1 = op → ∀ x, f (ndAt e d) x = some (([p, (ndAt e d).2.1], [(ndAt e d).2.2.1, d], 1), q x)) :
    Tells e n t (br (decide (0 ≤ d)) (gt e (Int.toNat d) fun r0 => br (Bool.not (seq n.1 tAdd)) (some (([], ([], 0)), false)) (br (Bool.not (seq r0.1 op)) (some (([], ([], 0)), false)) (br (decide (0 ≤ r0.2.2.1)) (gt e (Int.toNat r0.2.2.1) fun r1 => br (Bool.not (seq r1.1 tConst)) (some (([], ([], 0)), false)) (br (decide (0 ≤ r0.2.2.1)) (gt e (Int.toNat r0.2.2.1) fun r2 => f r0 r2.2.2.2) none)) none))) none) := by
  rw [br_t (by simpa using h0), gt_some (ndAt_get h0 h), seq_beq, seq_beq]
  by_cases c1 : n.1 = tAdd
  · rw [br_f (by simp [c1])]
    by_cases c2 : (ndAt e d).1 = op
    · have hp := two_parts (ndAt_ok hn h0 h) (by rw [c2]; exact hop)
      rw [br_f (by simp [c2]), br_t (by simpa using hp.2.1), gt_some (ndAt_get hp.2.1 (by omega)), seq_beq]
      by_cases c3 : (ndAt e (ndAt e d).2.2.1).1 = tConst
      · rw [br_f (by simp [c3]), br_t (by simpa using hp.2.1), gt_some (ndAt_get hp.2.1 (by omega)), hf c2 _]
        have hq' := hq (ndAt e (ndAt e d).2.2.1).2.2.2
        cases hb : q (ndAt e (ndAt e d).2.2.1).2.2.2 with
        | true => exact Tells.yes (by rw [ht]; unfold deepM isCn; rw [if_pos ⟨by simp [c1], c2, by rw [← hq', hb]; simp [c3]⟩]) hc.symm (by simp)
        | false => exact Tells.no (by rw [ht]; unfold deepM isCn; rw [if_neg (fun k => by rw [← hq', hb] at k; simp at k)]) (by simp)
      · rw [br_t (by simp [c3])]
        exact Tells.no (by rw [ht]; unfold deepM isCn; rw [if_neg (fun k => by simp [c3] at k)]) (by simp)
    · rw [br_t (by simp [c2])]
      exact Tells.no (by rw [ht]; unfold deepM; rw [if_neg (fun k => c2 k.2.1)]) (by simp)
  · rw [br_t (by simp [c1])]
    exact Tells.no (by rw [ht]; unfold deepM; rw [if_neg (fun k => by simp [c1] at k)]) (by simp)
theorem sort_part (hn : nodesOk e 0 = true) {d : Int} (h0 : 0 ≤ d) (h : d < e.length) {op : ByteArray} (hop : isTwo op = true) (hd : (ndAt e d).1 = op) : slices_Sort_int.v [(ndAt e d).2.2.1, d] = some ((), [(ndAt e d).2.2.1, d]) := by
  have hp := two_parts (ndAt_ok hn h0 h) (by rw [hd]; exact hop)
  rw [sort_two, sort2, if_neg (by omega)]
/-- the kinds 9 to 12 -/
theorem sumI (hn : nodesOk e 0 = true) (hk : nodeOk n i = true) (hi : i ≤ e.length) (h2 : isTwo n.1 = true) (ht : t = 9 ∨ t = 10 ∨ t = 11 ∨ t = 12) : Tells e n t (impl_sumTile.v e n t) := by
  have hp := two_parts hk h2
  rcases ht with rfl | rfl | rfl | rfl
  · refine Tells.of (fun r hr => impl_sumTile.vs _ _ _ ((br_f (by decide)).trans ((br_f (by decide)).trans ((br_f (by decide)).trans hr)))) (sumW hn hp.2.1 (by omega) (op := tShl) (by decide) (S := [1, 2, 3]) (p := n.2.1) rfl (q := fun x => inB x 1 3) (fun x => in13 x) rfl
      (f := fun r0 x => br (decide ((9 : Int) > 10)) (bd (impl_power.v x) fun r3 => bd (slices_Sort_int.v [r0.2.2.1, n.2.2.1]) fun r4 => bd (impl_within.f r3 1 3) fun r5 => some (([n.2.1, r0.2.1], (r4.2, 1)), r5)) (bd (slices_Sort_int.v [r0.2.2.1, n.2.2.1]) fun r6 => bd (impl_within.f x 1 3) fun r7 => some (([n.2.1, r0.2.1], (r6.2, 1)), r7))) (fun ho x => ?_))
    simp only [sort_part hn hp.2.1 (by omega) (by decide) ho, power_v, within_f, bd_s]
    rw [br_f (by decide)]
  · refine Tells.of (fun r hr => impl_sumTile.vs _ _ _ ((br_t (by decide)).trans ((br_f (by decide)).trans hr))) (sumW hn hp.1.1 (by omega) (op := tShl) (by decide) (S := [1, 2, 3]) (p := n.2.2.1) rfl (q := fun x => inB x 1 3) (fun x => in13 x) rfl
      (f := fun r0 x => br (decide ((10 : Int) > 10)) (bd (impl_power.v x) fun r3 => bd (slices_Sort_int.v [r0.2.2.1, n.2.1]) fun r4 => bd (impl_within.f r3 1 3) fun r5 => some (([n.2.2.1, r0.2.1], (r4.2, 1)), r5)) (bd (slices_Sort_int.v [r0.2.2.1, n.2.1]) fun r6 => bd (impl_within.f x 1 3) fun r7 => some (([n.2.2.1, r0.2.1], (r6.2, 1)), r7))) (fun ho x => ?_))
    simp only [sort_part hn hp.1.1 (by omega) (by decide) ho, power_v, within_f, bd_s]
    rw [br_f (by decide)]
  · refine Tells.of (fun r hr => impl_sumTile.vs _ _ _ ((br_f (by decide)).trans ((br_f (by decide)).trans ((br_t (by decide)).trans hr)))) (sumW hn hp.2.1 (by omega) (op := tMul) (by decide) (S := [2, 4, 8]) (p := n.2.1) rfl (q := fun x => inB (powP x) 1 3) (fun x => powP_three x) rfl
      (f := fun r0 x => br (decide ((11 : Int) > 10)) (bd (impl_power.v x) fun r3 => bd (slices_Sort_int.v [r0.2.2.1, n.2.2.1]) fun r4 => bd (impl_within.f r3 1 3) fun r5 => some (([n.2.1, r0.2.1], (r4.2, 1)), r5)) (bd (slices_Sort_int.v [r0.2.2.1, n.2.2.1]) fun r6 => bd (impl_within.f x 1 3) fun r7 => some (([n.2.1, r0.2.1], (r6.2, 1)), r7))) (fun ho x => ?_))
    simp only [sort_part hn hp.2.1 (by omega) (by decide) ho, power_v, within_f, bd_s]
    rw [br_t (by decide)]
  · refine Tells.of (fun r hr => impl_sumTile.vs _ _ _ ((br_f (by decide)).trans ((br_t (by decide)).trans ((br_t (by decide)).trans hr)))) (sumW hn hp.1.1 (by omega) (op := tMul) (by decide) (S := [2, 4, 8]) (p := n.2.2.1) rfl (q := fun x => inB (powP x) 1 3) (fun x => powP_three x) rfl
      (f := fun r0 x => br (decide ((12 : Int) > 10)) (bd (impl_power.v x) fun r3 => bd (slices_Sort_int.v [r0.2.2.1, n.2.1]) fun r4 => bd (impl_within.f r3 1 3) fun r5 => some (([n.2.2.1, r0.2.1], (r4.2, 1)), r5)) (bd (slices_Sort_int.v [r0.2.2.1, n.2.1]) fun r6 => bd (impl_within.f x 1 3) fun r7 => some (([n.2.2.1, r0.2.1], (r6.2, 1)), r7))) (fun ho x => ?_))
    simp only [sort_part hn hp.1.1 (by omega) (by decide) ho, power_v, within_f, bd_s]
    rw [br_t (by decide)]
theorem tileN_two (h : isTwo n.1 = false) (h3 : 3 ≤ t) : tileN e n t = none := by
  have n4 : isIn ops4 n.1 = false := by cases c : isIn ops4 n.1 with
    | false => rfl
    | true => rw [in4 c] at h; cases h
  have n5 : isIn ops5 n.1 = false := by cases c : isIn ops5 n.1 with
    | false => rfl
    | true => rw [in5 c] at h; cases h
  have n6 : isIn ops6 n.1 = false := by cases c : isIn ops6 n.1 with
    | false => rfl
    | true => rw [in6 c] at h; cases h
  have nm : decide (n.1 = tMul) = false := decide_eq_false fun c => by rw [c] at h; revert h; decide
  have na : decide (n.1 = tAdd) = false := decide_eq_false fun c => by rw [c] at h; revert h; decide
  unfold tileN
  rw [if_neg (by omega), if_neg (by omega), if_neg (by omega), h, n4, n5, n6, nm, na]
  unfold constM deepM
  simp
theorem tileAt_t (hn : nodesOk e 0 = true) {j : Nat} (hj : j < e.length) (h0 : 0 ≤ t) (h12 : t ≤ 12) : Tells e (ndAt e j) t (impl_tileAt.v e (j : Int) t) := by
  have hk : nodeOk (ndAt e j) (j : Int) = true := ndAt_ok hn (by omega) (by omega)
  have st : ∀ {y : Option (Tile × Bool)}, Tells e (ndAt e j) t y → (∀ r, y = some r → (br (t == (0 : Int)) (some (([], ([], (0 : Int))), (seq (ndAt e j).1 tIn))) (br (t == (1 : Int)) (some (([], ([], (1 : Int))), (seq (ndAt e j).1 tConst))) (br (t == (2 : Int)) (some ((((ndAt e j).2.1 :: []), ([], (1 : Int))), (arity (ndAt e j).1 == (1 : Int)))) (br (decide (arity (ndAt e j).1 < (2 : Int))) (some (([], ([], (0 : Int))), false)) (br (t == (3 : Int)) (bd (impl_formOf.v (ndAt e j).1) fun r2 => (some ((((ndAt e j).2.1 :: ((ndAt e j).2.2.1 :: [])), ([], r2.1.2.2.2.2.1)), true))) (br (decide (t ≤ (8 : Int))) (bd (impl_constTile.v e (ndAt e j) t) fun r3 => (some r3)) (bd (impl_sumTile.v e (ndAt e j) t) fun r4 => (some r4)))))))) = some r) → Tells e (ndAt e j) t (impl_tileAt.v e (j : Int) t) := fun hT hy => Tells.of (fun r hr => impl_tileAt.vs _ _ _ (by rw [br_t (by simp), gt_some (ndAt_get (by omega) (by omega)), operands_v', bd_s]; exact hy r hr)) hT
  by_cases t0 : t = 0
  · subst t0
    by_cases c : (ndAt e j).1 = tIn
    · exact st (Tells.yes (p := []) (q := []) (by simp [tileN, c]) rfl (by simp)) fun r hr => by rw [br_t (by decide), seq_t c]; exact hr
    · exact st (Tells.no (T := ([], [], 0)) (by simp [tileN, c]) (by simp)) fun r hr => by rw [br_t (by decide), seq_f c]; exact hr
  by_cases t1 : t = 1
  · subst t1
    by_cases c : (ndAt e j).1 = tConst
    · exact st (Tells.yes (p := []) (q := []) (by simp [tileN, c]) rfl (by simp)) fun r hr => by rw [br_f (by decide), br_t (by decide), seq_t c]; exact hr
    · exact st (Tells.no (T := ([], [], 1)) (by simp [tileN, c]) (by simp)) fun r hr => by rw [br_f (by decide), br_t (by decide), seq_f c]; exact hr
  by_cases t2 : t = 2
  · subst t2
    by_cases c : isOne (ndAt e j).1 = true
    · exact st (Tells.yes (p := [(ndAt e j).2.1]) (q := []) (by simp [tileN, c]) rfl (by simp)) fun r hr => by rw [br_f (by decide), br_f (by decide), br_t (by decide), arity_one c]; exact hr
    · have ca : (arity (ndAt e j).1 == (1 : Int)) = false := by
        have : ¬ arity (ndAt e j).1 = 1 := fun q => c (arity_eq_one.1 q)
        simpa using this
      exact st (Tells.no (T := ([(ndAt e j).2.1], [], 1)) (by simp [tileN, c]) (by simp)) fun r hr => by rw [br_f (by decide), br_f (by decide), br_t (by decide), ca]; exact hr
  by_cases c2 : isTwo (ndAt e j).1 = true
  · have ha := arity_two c2
    by_cases t3 : t = 3
    · subst t3
      refine st (Tells.yes (p := [(ndAt e j).2.1, (ndAt e j).2.2.1]) (q := []) (by simp [tileN, c2]) rfl (by simp)) fun r hr => ?_
      rw [br_f (by decide), br_f (by decide), br_f (by decide), ha, br_f (by decide), br_t (by decide), formOf_v, bd_s, formP_cost (by omega)]
      exact hr
    · by_cases t8 : t ≤ 8
      · refine st (constI hn hk (by omega) c2 (by omega)) fun r hr => ?_
        rw [br_f (by simpa using t0), br_f (by simpa using t1), br_f (by simpa using t2), ha, br_f (by decide), br_f (by simpa using t3), br_t (by simpa using t8), hr, bd_s]
      · refine st (sumI hn hk (by omega) c2 (by omega)) fun r hr => ?_
        rw [br_f (by simpa using t0), br_f (by simpa using t1), br_f (by simpa using t2), ha, br_f (by decide), br_f (by simpa using t3), br_f (by simpa using t8), hr, bd_s]
  · rw [Bool.not_eq_true] at c2
    have ha : arity (ndAt e j).1 < 2 := by
      rcases arity_cases (ndAt e j).1 with ⟨h, _⟩ | ⟨h, _⟩ | ⟨h, _⟩ | ⟨h, _, h2⟩
      · omega
      · omega
      · omega
      · rw [h2] at c2; cases c2
    exact st (Tells.no (T := ([], [], 0)) (tileN_two c2 (by omega)) (by simp)) fun r hr => by
      rw [br_f (by simpa using t0), br_f (by simpa using t1), br_f (by simpa using t2), br_t (by simpa using ha)]
      exact hr
end
/-- the program's tile at a node -/
noncomputable def tileI (e : List Nd) (i t : Int) : Tile := ((impl_tileAt.v e i t).getD (([], [], 0), false)).1
section
variable {e : List Nd} {t : Int} {j : Nat}
theorem tileAt_v (hn : nodesOk e 0 = true) (hj : j < e.length) (h0 : 0 ≤ t) (h12 : t ≤ 12) : impl_tileAt.v e (j : Int) t = some (tileI e j t, (tileM e j t).isSome) := by
  obtain ⟨T, h, _⟩ := tileAt_t hn hj h0 h12
  unfold tileI
  rw [h]; rfl
theorem tileI_len (hn : nodesOk e 0 = true) (hj : j < e.length) (h0 : 0 ≤ t) (h12 : t ≤ 12) : (tileI e j t).1.length ≤ 2 := by
  obtain ⟨T, h, hl, _⟩ := tileAt_t hn hj h0 h12
  unfold tileI
  rw [h]; exact hl
theorem tileI_eq (hn : nodesOk e 0 = true) (hj : j < e.length) (h0 : 0 ≤ t) (h12 : t ≤ 12) {p q : List Int} (hm : tileM e j t = some (p, q)) : tileI e j t = (p, q, tCost e j t) := by
  obtain ⟨T, h, hl, hq⟩ := tileAt_t hn hj h0 h12
  unfold tileI
  rw [h]; exact hq p q hm
end
end Go.Proofs.YtfpjcfhbecmneaaGreat.Am
end
section
/- A row of so many times -1. -/
namespace Go.Proofs.YtfpjcfhbecmneaaGreat.Am
open Go
set_option linter.unusedVariables false
set_option linter.unusedSimpArgs false

theorem mul_all : (List.range 25).all (fun n => decide (bits_Mul.f 1 (IntKind.wrap .u64 (n : Int)) = some ((0 : Int), (n : Int)))) = true := by kernel_rfl
theorem mul_small {n : Nat} (h : n ≤ 24) : bits_Mul.f 1 (IntKind.wrap .u64 (n : Int)) = some ((0 : Int), (n : Int)) := by
  have := List.all_eq_true.1 mul_all n (List.mem_range.2 (by omega))
  simpa using this
theorem rep_loop (a : Int) (n : Nat) (h24 : n ≤ 24) : ∀ (d m : Nat), n ≤ m + d → 1 ≤ m → m ≤ n → slices_Repeat_int.v0 (m : Int) (List.replicate m a ++ List.replicate (n - m) 0) = some (List.replicate n a, ()) := by
  intro d
  induction d with
  | zero =>
    intro m hd h1 hm
    obtain rfl : m = n := by omega
    refine slices_Repeat_int.v0s _ _ ?_
    rw [br_f (by simp)]
    simp
  | succ d ih =>
    intro m hd h1 hm
    have hlen : (List.replicate m a ++ List.replicate (n - m) (0 : Int)).length = n := by simp; omega
    by_cases c : m = n
    · subst c
      refine slices_Repeat_int.v0s _ _ ?_
      rw [br_f (by rw [hlen]; simp)]
      simp
    · refine slices_Repeat_int.v0s _ _ ?_
      rw [hlen, br_t (by simp; omega), br_t (by simp), br_t (by simp; omega), br_t (by simp), br_t (by simp), br_t (by simp; omega)]
      simp only [Int.toNat_natCast, show (0 : Int).toNat = 0 from rfl, Nat.sub_zero, List.drop_zero]
      have e1 : List.take m (List.replicate m a ++ List.replicate (n - m) (0 : Int)) = List.replicate m a := by
        rw [List.take_append_of_le_length (by simp)]; simp
      rw [e1, List.length_replicate, List.take_replicate, List.drop_append, List.drop_replicate, List.drop_replicate, List.length_replicate]
      have k : min m (n - m) ≤ n - m := Nat.min_le_right _ _
      have k2 : 1 ≤ min m (n - m) := by omega
      rw [show m - (m + min m (n - m)) = 0 by omega, show m + min m (n - m) - m = min m (n - m) by omega, Nat.min_comm (n - m) m]
      rw [show IntKind.wrap .i64 ((m : Int) + ((min m (n - m) : Nat) : Int)) = ((m + min m (n - m) : Nat) : Int) by rw [wrap_ok (by omega) (by omega)]; rfl]
      simp only [List.replicate_zero, List.nil_append]
      rw [List.replicate_append_replicate, show n - m - min m (n - m) = n - (m + min m (n - m)) by omega]
      exact ih (m + min m (n - m)) (by omega) (by omega) (by omega)
theorem repeat_v (a : Int) {n : Nat} (h1 : 1 ≤ n) (h24 : n ≤ 24) : slices_Repeat_int.v [a] (n : Int) = some (List.replicate n a, ()) := by
  refine slices_Repeat_int.vs _ _ ?_
  rw [br_f (by simp), show IntKind.wrap .u64 ((([a] : List Int).length : Nat) : Int) = 1 from rfl, mul_small h24, bd_s, br_f (by simp), br_f (by simp; omega)]
  simp only
  rw [show IntKind.wrap .i64 ((n : Nat) : Int) = (n : Int) from wrap_ok (by omega) (by omega), br_t (by simp), br_t (by simp), br_t (by simp; omega)]
  have := rep_loop a n h24 n 1 (by omega) (by omega) h1
  have e : min 1 n = 1 := by omega
  simp only [Int.toNat_natCast, List.length_replicate, List.length_cons, List.length_nil, List.take_zero, List.nil_append, Nat.zero_add, e]
  rw [List.take_of_length_le (by simp; omega), List.drop_replicate]
  exact this
theorem empty_v {e : List Nd} (h1 : 1 ≤ e.length) (h24 : e.length ≤ 24) : impl_empty.v e = some (List.replicate e.length (-1), ()) := by
  refine impl_empty.vs _ ?_
  rw [repeat_v (-1) h1 h24, bd_s]
end Go.Proofs.YtfpjcfhbecmneaaGreat.Am
end
section
/- Covers: which nodes need tiles; the program's walk and the reference's rounds find the same. -/
namespace Go.Proofs.YtfpjcfhbecmneaaGreat.Am
open Go
set_option linter.unusedVariables false
set_option linter.unusedSimpArgs false

def cvr (cover : List Int) (i : Nat) : Int := cover.getD i 0
/-- is there a tile, and is it told -/
def vld (e : List Nd) (cover : List Int) (i : Nat) : Bool := inB (cvr cover i) 0 12 && (tileM e (i : Int) (cvr cover i)).isSome
/-- the parts of a tile; none if it is not told -/
def prts (e : List Nd) (i : Nat) (t : Int) : List Int := match tileM e (i : Int) t with | some (p, _) => p | none => []
/-- the nodes below the parts -/
def kids (e : List Nd) (cover : List Int) (i : Nat) : List Nat := if vld e cover i = true then (prts e i (cvr cover i)).map Int.toNat else []
/-- the nodes that the walk from a node comes to -/
def dfs (e : List Nd) (cover : List Int) : Nat → Nat → List Nat
  | 0, _ => []
  | f + 1, i => i :: (kids e cover i).flatMap (dfs e cover f)
section
variable {e : List Nd} {cover : List Int}
theorem tile_parts (hn : nodesOk e 0 = true) {i : Nat} (hi : i < e.length) {t : Int} {p q : List Int} (h : tileM e (i : Int) t = some (p, q)) : p.length ≤ 2 ∧ ∀ x ∈ p, 0 ≤ x ∧ x < i := by
  have hk : nodeOk (ndAt e i) (i : Int) = true := ndAt_ok hn (by omega) (by omega)
  have tw : isTwo (ndAt e i).1 = true → (0 ≤ (ndAt e i).2.1 ∧ (ndAt e i).2.1 < i) ∧ 0 ≤ (ndAt e i).2.2.1 ∧ (ndAt e i).2.2.1 < i := fun c => two_parts hk c
  have cst : ∀ {b : Bool} {m : Nd} {S : List Int} {a c : Int}, (b = true → 0 ≤ a ∧ a < i) → constM b m S a c = some (p, q) → p.length ≤ 2 ∧ ∀ x ∈ p, 0 ≤ x ∧ x < i := fun ha hc => by
    unfold constM at hc
    split at hc
    · rename_i k
      simp only [Option.some.injEq, Prod.mk.injEq] at hc
      obtain ⟨rfl, _⟩ := hc
      refine ⟨by simp, fun x hx => ?_⟩
      simp only [List.mem_singleton] at hx
      subst hx; exact ha k.1
    · cases hc
  have dp : ∀ {b : Bool} {a d : Int} {op : ByteArray} {S : List Int}, isTwo op = true → (b = true → (0 ≤ a ∧ a < i) ∧ 0 ≤ d ∧ d < i) → deepM e b a d op S = some (p, q) → p.length ≤ 2 ∧ ∀ x ∈ p, 0 ≤ x ∧ x < i := fun ho ha hc => by
    unfold deepM at hc
    split at hc
    · rename_i k
      simp only [Option.some.injEq, Prod.mk.injEq] at hc
      obtain ⟨rfl, _⟩ := hc
      obtain ⟨h1, h2⟩ := ha k.1
      have := two_parts (ndAt_ok hn h2.1 (by omega)) (by rw [k.2.1]; exact ho)
      refine ⟨by simp, fun x hx => ?_⟩
      simp only [List.mem_cons, List.not_mem_nil, or_false] at hx
      rcases hx with rfl | rfl
      · exact h1
      · omega
    · cases hc
  unfold tileM tileN at h
  by_cases t0 : t = 0
  · rw [if_pos t0] at h
    by_cases c : (ndAt e (i : Int)).1 = tIn
    · rw [if_pos c] at h; simp only [Option.some.injEq, Prod.mk.injEq] at h; obtain ⟨rfl, _⟩ := h; simp
    · rw [if_neg c] at h; cases h
  rw [if_neg t0] at h
  by_cases t1 : t = 1
  · rw [if_pos t1] at h
    by_cases c : (ndAt e (i : Int)).1 = tConst
    · rw [if_pos c] at h; simp only [Option.some.injEq, Prod.mk.injEq] at h; obtain ⟨rfl, _⟩ := h; simp
    · rw [if_neg c] at h; cases h
  rw [if_neg t1] at h
  by_cases t2 : t = 2
  · rw [if_pos t2] at h
    by_cases c : isOne (ndAt e (i : Int)).1 = true
    · rw [if_pos c] at h
      simp only [Option.some.injEq, Prod.mk.injEq] at h; obtain ⟨rfl, _⟩ := h
      refine ⟨by simp, fun x hx => ?_⟩
      simp only [List.mem_singleton] at hx
      subst hx
      exact nodeOk_parts (i := i) hk _ (by unfold partsOf; rw [if_pos (arity_one c)]; simp)
    · rw [if_neg c] at h; cases h
  rw [if_neg t2] at h
  by_cases t3 : t = 3
  · rw [if_pos t3] at h
    by_cases c : isTwo (ndAt e (i : Int)).1 = true
    · rw [if_pos c] at h
      simp only [Option.some.injEq, Prod.mk.injEq] at h; obtain ⟨rfl, _⟩ := h
      refine ⟨by simp, fun x hx => ?_⟩
      simp only [List.mem_cons, List.not_mem_nil, or_false] at hx
      rcases hx with rfl | rfl
      · exact (tw c).1
      · exact (tw c).2
    · rw [if_neg c] at h; cases h
  rw [if_neg t3] at h
  by_cases t4 : t = 4
  · rw [if_pos t4] at h; exact cst (fun c => (tw (in4 c)).1) h
  rw [if_neg t4] at h
  by_cases t5 : t = 5
  · rw [if_pos t5] at h; exact cst (fun c => (tw (in5 c)).2) h
  rw [if_neg t5] at h
  by_cases t6 : t = 6
  · rw [if_pos t6] at h; exact cst (fun c => (tw (in6 c)).1) h
  rw [if_neg t6] at h
  by_cases t7 : t = 7
  · rw [if_pos t7] at h; exact cst (fun c => (tw (by rw [of_decide_eq_true c]; decide)).1) h
  rw [if_neg t7] at h
  by_cases t8 : t = 8
  · rw [if_pos t8] at h; exact cst (fun c => (tw (by rw [of_decide_eq_true c]; decide)).2) h
  rw [if_neg t8] at h
  by_cases t9 : t = 9
  · rw [if_pos t9] at h; exact dp (by decide) (fun c => tw (by rw [of_decide_eq_true c]; decide)) h
  rw [if_neg t9] at h
  by_cases t10 : t = 10
  · rw [if_pos t10] at h; exact dp (by decide) (fun c => (tw (by rw [of_decide_eq_true c]; decide)).symm) h
  rw [if_neg t10] at h
  by_cases t11 : t = 11
  · rw [if_pos t11] at h; exact dp (by decide) (fun c => tw (by rw [of_decide_eq_true c]; decide)) h
  rw [if_neg t11] at h
  by_cases t12 : t = 12
  · rw [if_pos t12] at h; exact dp (by decide) (fun c => (tw (by rw [of_decide_eq_true c]; decide)).symm) h
  rw [if_neg t12] at h
  cases h
theorem prts_ok (hn : nodesOk e 0 = true) {i : Nat} (hi : i < e.length) (t : Int) : (prts e i t).length ≤ 2 ∧ ∀ x ∈ prts e i t, 0 ≤ x ∧ x < i := by
  unfold prts
  split
  · rename_i p q h; exact tile_parts hn hi h
  · simp
theorem kids_lt (hn : nodesOk e 0 = true) {i : Nat} (hi : i < e.length) : ∀ x ∈ kids e cover i, x < i := by
  intro x hx
  unfold kids at hx
  split at hx
  · obtain ⟨y, hy, rfl⟩ := List.mem_map.1 hx
    have := (prts_ok hn hi _).2 y hy
    omega
  · cases hx
theorem dfs_self (f i : Nat) : i ∈ dfs e cover (f + 1) i := by simp [dfs]
theorem dfs_le (hn : nodesOk e 0 = true) : ∀ (f i : Nat), i < e.length → ∀ j ∈ dfs e cover f i, j ≤ i
  | 0, i, _, j, h => by simp [dfs] at h
  | f + 1, i, hi, j, h => by
    simp only [dfs, List.mem_cons, List.mem_flatMap] at h
    rcases h with rfl | ⟨q, hq, h⟩
    · omega
    · have := kids_lt hn hi q hq
      have := dfs_le hn f q (by omega) j h
      omega
theorem dfs_close (hn : nodesOk e 0 = true) : ∀ (f r : Nat), r < e.length → r < f → ∀ i ∈ dfs e cover f r, ∀ p ∈ kids e cover i, p ∈ dfs e cover f r
  | 0, r, _, h, _, _, _, _ => by omega
  | f + 1, r, hr, hf, i, hi, p, hp => by
    simp only [dfs, List.mem_cons, List.mem_flatMap] at hi ⊢
    rcases hi with rfl | ⟨q, hq, hi⟩
    · have h1 := kids_lt hn hr p hp
      obtain ⟨g, rfl⟩ : ∃ g, f = g + 1 := ⟨f - 1, by omega⟩
      exact .inr ⟨p, hp, dfs_self g p⟩
    · have h1 := kids_lt hn hr q hq
      exact .inr ⟨q, hq, dfs_close hn f q (by omega) (by omega) i hi p hp⟩
theorem dfs_parent (hn : nodesOk e 0 = true) : ∀ (f r : Nat), r < e.length → r < f → ∀ j ∈ dfs e cover f r, j = r ∨ ∃ i ∈ dfs e cover f r, j ∈ kids e cover i
  | 0, r, _, h, _, _ => by omega
  | f + 1, r, hr, hf, j, hj => by
    simp only [dfs, List.mem_cons, List.mem_flatMap] at hj
    rcases hj with rfl | ⟨q, hq, hj⟩
    · exact .inl rfl
    · have h1 := kids_lt hn hr q hq
      right
      rcases dfs_parent hn f q (by omega) (by omega) j hj with rfl | ⟨i, hi, hji⟩
      · exact ⟨r, dfs_self f r, hq⟩
      · refine ⟨i, ?_, hji⟩
        simp only [dfs, List.mem_cons, List.mem_flatMap]
        exact .inr ⟨q, hq, hi⟩
end
/-! ### the program -/
def setL (cover : List Int) (o : List Int) (l : List Nat) : List Int := l.foldl (fun o j => o.set j (cvr cover j)) o
theorem setL_len (cover : List Int) : ∀ (l : List Nat) (o : List Int), (setL cover o l).length = o.length
  | [], o => rfl
  | j :: r, o => by unfold setL; rw [List.foldl_cons]; have := setL_len cover r (o.set j (cvr cover j)); unfold setL at this; rw [this, List.length_set]
theorem setL_app (cover o : List Int) (l m : List Nat) : setL cover o (l ++ m) = setL cover (setL cover o l) m := by unfold setL; rw [List.foldl_append]
section
variable {e : List Nd} {cover : List Int}
theorem cvr_get (hl : cover.length = e.length) {i : Nat} (hi : i < e.length) : cover[i]? = some (cvr cover i) := by
  unfold cvr
  rw [List.getD_eq_getElem?_getD, List.getElem?_eq_getElem (by omega)]; rfl
abbrev isR (cover : List Int) (o : List Int) (b : Bool) (e : List Nd) : Unit × List Int × Unit × List Int × Bool × List Nd × Unit := ((), (cover, ((), (o, (b, (e, ()))))))
theorem walk_parts {ok : Bool} {ps : List Int} (h2 : ps.length ≤ 2) {w : Nat → List Nat} (hw : ok = true → ∀ p ∈ ps, ∃ q : Nat, p = (q : Int) ∧ ∀ (o : List Int) (b : Bool), o.length = e.length → impl_isCover_1.v p cover o b e = some (isR cover (setL cover o (w q)) (b && (w q).all (vld e cover)) e)) :
    ∀ (d j : Nat) (o : List Int) (b : Bool), j + d = ps.length → o.length = e.length → impl_isCover_1.v0 ok ps (ps.length : Int) (j : Int) cover o b e = some (isR cover (setL cover o (if ok = true then ((ps.drop j).map Int.toNat).flatMap w else [])) (b && (if ok = true then ((ps.drop j).map Int.toNat).flatMap w else []).all (vld e cover)) e) := by
  intro d
  induction d with
  | zero =>
    intro j o b hj ho
    refine impl_isCover_1.v0s _ _ _ _ _ _ _ _ ?_
    rw [br_f (by simp; omega), List.drop_eq_nil_of_le (by omega)]
    simp [setL]
  | succ d ih =>
    intro j o b hj ho
    have hlt : j < ps.length := by omega
    refine impl_isCover_1.v0s _ _ _ _ _ _ _ _ ?_
    rw [br_t (by simpa using hlt), br_t (by simp), Int.toNat_natCast, gt_at _ hlt, next_ok j _ hlt (by omega)]
    cases ok with
    | false =>
      rw [br_f rfl, ih (j + 1) o b (by omega) ho]
      simp [setL]
    | true =>
      obtain ⟨q, hq, hv⟩ := hw rfl _ (List.getElem_mem hlt)
      rw [br_t rfl, hv o b ho, bd_s]
      simp only
      rw [ih (j + 1) _ _ (by omega) (by rw [setL_len]; exact ho), drop_at _ _ hlt, hq]
      simp only [if_true, List.map_cons, Int.toNat_natCast, List.flatMap_cons, setL_app, List.all_append, Bool.and_assoc]
theorem isCover_1_v (hn : nodesOk e 0 = true) (hl : cover.length = e.length) : ∀ (f i : Nat) (o : List Int) (b : Bool), i < e.length → i < f → o.length = e.length →
    impl_isCover_1.v (i : Int) cover o b e = some (isR cover (setL cover o (dfs e cover f i)) (b && (dfs e cover f i).all (vld e cover)) e)
  | 0, i, o, b, _, h, _ => by omega
  | f + 1, i, o, b, hi, hf, ho => by
    have hc := cvr_get hl hi
    have ho' : ∃ z, o[i]? = some z := ⟨_, List.getElem?_eq_getElem (by omega)⟩
    obtain ⟨z, hz⟩ := ho'
    refine impl_isCover_1.vs _ _ _ _ _ ?_
    rw [br_t (by simp), Int.toNat_natCast, gt_some hc, br_t (by simp), br_t (by rw [ho]; simpa using hi), gt_some hz, br_t (by simp), gt_some hc, within_f, bd_s]
    simp only [dfs, kids]
    by_cases hb : inB (cvr cover i) 0 12 = true
    · obtain ⟨b0, b1⟩ := inB_iff.1 hb
      rw [hb, brn_t, br_t (by simp), gt_some hc, tileAt_v hn hi b0 b1, bd_s]
      have fin : ∀ b', b' = (b && (tileM e (i : Int) (cvr cover i)).isSome) → impl_isCover_1.v0 (tileM e (i : Int) (cvr cover i)).isSome (tileI e i (cvr cover i)).1 ((tileI e i (cvr cover i)).1.length : Int) 0 cover (o.set i (cvr cover i)) b' e = some (isR cover (setL cover o (i :: List.flatMap (dfs e cover f) (if vld e cover i = true then List.map Int.toNat (prts e i (cvr cover i)) else []))) (b && (i :: List.flatMap (dfs e cover f) (if vld e cover i = true then List.map Int.toNat (prts e i (cvr cover i)) else [])).all (vld e cover)) e) := by
        intro b' hb'
        have hpl := tileI_len (t := cvr cover i) hn hi b0 b1
        have := walk_parts (e := e) (cover := cover) (ok := (tileM e (i : Int) (cvr cover i)).isSome) hpl (w := dfs e cover f) (fun hok p hp => by
          obtain ⟨⟨pp, qq⟩, hpq⟩ := Option.isSome_iff_exists.1 hok
          rw [tileI_eq hn hi b0 b1 hpq] at hp
          obtain ⟨p0, p1⟩ := (tile_parts hn hi hpq).2 p hp
          obtain ⟨q, rfl⟩ := Int.eq_ofNat_of_zero_le p0
          exact ⟨q, rfl, fun o b ho => isCover_1_v hn hl f q o b (by omega) (by omega) ho⟩) (tileI e i (cvr cover i)).1.length 0 (o.set i (cvr cover i)) b' (by omega) (by rw [List.length_set]; exact ho)
        rw [List.drop_zero] at this
        refine this.trans ?_
        have hv : vld e cover i = (tileM e (i : Int) (cvr cover i)).isSome := by unfold vld; rw [hb]; simp
        have hset : ∀ l, setL cover o (i :: l) = setL cover (o.set i (cvr cover i)) l := fun l => rfl
        rw [hset, List.all_cons, hv, hb']
        cases hok : (tileM e (i : Int) (cvr cover i)).isSome with
        | false => simp
        | true =>
          obtain ⟨⟨pp, qq⟩, hpq⟩ := Option.isSome_iff_exists.1 hok
          rw [tileI_eq hn hi b0 b1 hpq, show prts e i (cvr cover i) = pp by unfold prts; rw [hpq]]
          simp
      cases b with
      | true => rw [br_t rfl]; exact fin _ (by simp)
      | false => rw [br_f rfl]; exact fin _ (by simp)
    · have hv : vld e cover i = false := by unfold vld; rw [Bool.not_eq_true] at hb; rw [hb]; rfl
      rw [Bool.not_eq_true] at hb
      rw [hb, brn_f, hv]
      simp [setL, hv]
end
end Go.Proofs.YtfpjcfhbecmneaaGreat.Am
end
section
/- Is a list a cover: the reference's rounds, the program's walk. -/
namespace Go.Proofs.YtfpjcfhbecmneaaGreat.Am
open Go
set_option linter.unusedVariables false
set_option linter.unusedSimpArgs false

/-- the nodes that need tiles -/
def need (e : List Nd) (cover : List Int) : List Nat := dfs e cover e.length (e.length - 1)
def inS (e : List Nd) (cover : List Int) (k j : Nat) : Bool := decide (j = e.length - 1) || (need e cover).any (fun i => decide (k ≤ i) && (kids e cover i).contains j)
def Nn (e : List Nd) (cover : List Int) (k : Nat) : List Bool := (List.range e.length).map (inS e cover k)
section
variable {e : List Nd} {cover : List Int}
theorem need_root (h1 : 1 ≤ e.length) : e.length - 1 ∈ need e cover := by
  unfold need
  obtain ⟨f, hf⟩ : ∃ f, e.length = f + 1 := ⟨e.length - 1, by omega⟩
  rw [hf]; exact dfs_self f _
theorem need_lt (hn : nodesOk e 0 = true) (h1 : 1 ≤ e.length) {j : Nat} (h : j ∈ need e cover) : j < e.length := by
  have := dfs_le hn _ _ (by omega) j h
  omega
theorem inS_need (hn : nodesOk e 0 = true) (h1 : 1 ≤ e.length) {k j : Nat} (hk : k ≤ j + 1) : inS e cover k j = (need e cover).contains j := by
  rw [Bool.eq_iff_iff]
  unfold inS
  rw [Bool.or_eq_true, decide_eq_true_iff, List.any_eq_true, List.contains_iff_mem]
  constructor
  · rintro (rfl | ⟨i, hi, hc⟩)
    · exact need_root h1
    · rw [Bool.and_eq_true, List.contains_iff_mem] at hc
      exact dfs_close hn _ _ (by omega) (by omega) i hi j hc.2
  · intro h
    rcases dfs_parent hn _ _ (by omega) (by omega) j h with rfl | ⟨i, hi, hj⟩
    · exact .inl rfl
    · have := kids_lt hn (need_lt hn h1 hi) j hj
      exact .inr ⟨i, hi, by rw [Bool.and_eq_true, List.contains_iff_mem]; exact ⟨decide_eq_true (by omega), hj⟩⟩
theorem Nn_len (k : Nat) : (Nn e cover k).length = e.length := by simp [Nn]
theorem Nn_get {k j : Nat} (hj : j < e.length) : (Nn e cover k)[j]? = some (inS e cover k j) := by
  unfold Nn
  rw [List.getElem?_map, List.getElem?_range hj]; rfl
theorem inS_skip {m : Nat} (h : (need e cover).contains m = false) (j : Nat) : inS e cover m j = inS e cover (m + 1) j := by
  unfold inS
  congr 1
  rw [Bool.eq_iff_iff, List.any_eq_true, List.any_eq_true]
  constructor
  · rintro ⟨i, hi, hc⟩
    rw [Bool.and_eq_true, decide_eq_true_iff] at hc
    refine ⟨i, hi, ?_⟩
    rw [Bool.and_eq_true, decide_eq_true_iff]
    have : i ≠ m := fun q => by subst q; rw [List.contains_iff_mem.2 hi] at h; cases h
    exact ⟨by omega, hc.2⟩
  · rintro ⟨i, hi, hc⟩
    rw [Bool.and_eq_true, decide_eq_true_iff] at hc
    exact ⟨i, hi, by rw [Bool.and_eq_true, decide_eq_true_iff]; exact ⟨by omega, hc.2⟩⟩
theorem inS_take {m : Nat} (h : (need e cover).contains m = true) (j : Nat) : inS e cover m j = (inS e cover (m + 1) j || (kids e cover m).contains j) := by
  unfold inS
  rw [Bool.or_assoc]
  congr 1
  rw [Bool.eq_iff_iff, Bool.or_eq_true, List.any_eq_true, List.any_eq_true]
  constructor
  · rintro ⟨i, hi, hc⟩
    rw [Bool.and_eq_true, decide_eq_true_iff] at hc
    by_cases q : i = m
    · subst q; exact .inr hc.2
    · exact .inl ⟨i, hi, by rw [Bool.and_eq_true, decide_eq_true_iff]; exact ⟨by omega, hc.2⟩⟩
  · rintro (⟨i, hi, hc⟩ | hc)
    · rw [Bool.and_eq_true, decide_eq_true_iff] at hc
      exact ⟨i, hi, by rw [Bool.and_eq_true, decide_eq_true_iff]; exact ⟨by omega, hc.2⟩⟩
    · exact ⟨m, List.contains_iff_mem.1 h, by rw [Bool.and_eq_true, decide_eq_true_iff]; exact ⟨by omega, hc⟩⟩
def setT (N : List Bool) (ps : List Int) : List Bool := ps.foldl (fun N p => N.set p.toNat true) N
theorem setT_get : ∀ (ps : List Int) (N : List Bool) (j : Nat), (setT N ps)[j]? = (N[j]?).map (fun b => b || (ps.map Int.toNat).contains j)
  | [], N, j => by simp [setT]
  | p :: r, N, j => by
    unfold setT
    rw [List.foldl_cons]
    have := setT_get r (N.set p.toNat true) j
    unfold setT at this
    rw [this, List.getElem?_set]
    by_cases c : p.toNat = j
    · subst c
      by_cases d : p.toNat < N.length
      · simp [d]
      · simp [d, List.getElem?_eq_none (Nat.le_of_not_lt d)]
    · have c' : ¬ j = p.toNat := fun q => c q.symm
      rw [if_neg c]
      simp [c']
theorem setT_len : ∀ (ps : List Int) (N : List Bool), (setT N ps).length = N.length
  | [], N => rfl
  | p :: r, N => by unfold setT; rw [List.foldl_cons]; have := setT_len r (N.set p.toNat true); unfold setT at this; rw [this, List.length_set]
theorem need_inner {m : Int} {ps : List Int} (h2 : ps.length ≤ 2) (hp : ∀ x ∈ ps, 0 ≤ x ∧ x < e.length) {r : List Bool × Bool} : ∀ (d j : Nat) (N : List Bool), j + d = ps.length → N.length = e.length → spec_cvNeeded.v0 e cover (IntKind.wrap .i64 (m - 1)) (setT N (ps.drop j)) = some r → spec_cvNeeded.v1 e cover m ps (ps.length : Int) (j : Int) N = some r := by
  intro d
  induction d with
  | zero =>
    intro j N hj hN h
    refine spec_cvNeeded.v1s _ _ _ _ _ _ _ ?_
    rw [br_f (by simp; omega)]
    rwa [List.drop_eq_nil_of_le (by omega)] at h
  | succ d ih =>
    intro j N hj hN h
    have hlt : j < ps.length := by omega
    obtain ⟨p0, p1⟩ := hp _ (List.getElem_mem hlt)
    have hz : ∃ z, N[ps[j].toNat]? = some z := ⟨_, List.getElem?_eq_getElem (by omega)⟩
    obtain ⟨z, hz⟩ := hz
    refine spec_cvNeeded.v1s _ _ _ _ _ _ _ ?_
    rw [br_t (by simpa using hlt), br_t (by simp), Int.toNat_natCast, gt_at _ hlt, br_t (by simpa using p0), br_t (by rw [hN]; simpa using p1), gt_some hz, next_ok j _ hlt (by omega)]
    refine ih (j + 1) _ (by omega) (by rw [List.length_set]; exact hN) ?_
    rw [drop_at _ _ hlt] at h
    exact h
theorem need_loop (hn : nodesOk e 0 = true) (h1 : 1 ≤ e.length) (h24 : e.length ≤ 24) (hl : cover.length = e.length) : ∀ k, k ≤ e.length → spec_cvNeeded.v0 e cover ((k : Int) - 1) (Nn e cover k) = some (if ((need e cover).all fun i => decide (k ≤ i) || vld e cover i) = true then (Nn e cover 0, true) else ([], false)) := by
  intro k
  induction k with
  | zero =>
    intro _
    refine spec_cvNeeded.v0s _ _ _ _ ?_
    rw [br_f (by simp), if_pos (by rw [List.all_eq_true]; intro i _; simp)]
  | succ m ih =>
    intro hk
    have hm : m < e.length := by omega
    have hx : (((m + 1 : Nat) : Int) - 1) = (m : Int) := by omega
    have wm : IntKind.wrap .i64 ((m : Int) - 1) = (m : Int) - 1 := wrap_ok (by omega) (by omega)
    have ih := ih (by omega)
    refine spec_cvNeeded.v0s _ _ _ _ ?_
    rw [hx, br_t (by simp), br_t (by simp), br_t (by rw [Nn_len]; simpa using hm), Int.toNat_natCast, gt_some (Nn_get hm), inS_need hn h1 (Nat.le_refl _)]
    cases hc : (need e cover).contains m with
    | false =>
      have e1 : Nn e cover (m + 1) = Nn e cover m := by unfold Nn; exact List.map_congr_left fun j _ => (inS_skip hc j).symm
      have e2 : ((need e cover).all fun i => decide (m + 1 ≤ i) || vld e cover i) = ((need e cover).all fun i => decide (m ≤ i) || vld e cover i) := by
        rw [Bool.eq_iff_iff, List.all_eq_true, List.all_eq_true]
        have : ∀ i ∈ need e cover, i ≠ m := fun i hi q => by subst q; rw [List.contains_iff_mem.2 hi] at hc; cases hc
        constructor
        · intro h i hi
          have := h i hi
          simp only [Bool.or_eq_true, decide_eq_true_eq] at this ⊢
          rcases this with q | q
          · exact .inl (by omega)
          · exact .inr q
        · intro h i hi
          have h3 := this i hi
          have := h i hi
          simp only [Bool.or_eq_true, decide_eq_true_eq] at this ⊢
          rcases this with q | q
          · exact .inl (by omega)
          · exact .inr q
      rw [brn_f, wm, e1, e2]; exact ih
    | true =>
      have hcv := cvr_get hl hm
      rw [brn_t, br_t (by simp), gt_some hcv, l1In_f, bd_s]
      have hall : vld e cover m = false → ((need e cover).all fun i => decide (m + 1 ≤ i) || vld e cover i) = false := fun hv => by
        cases ha : ((need e cover).all fun i => decide (m + 1 ≤ i) || vld e cover i) with
        | false => rfl
        | true =>
          have := List.all_eq_true.1 ha m (List.contains_iff_mem.1 hc)
          simp only [Bool.or_eq_true, decide_eq_true_eq, hv] at this
          rcases this with q | q
          · omega
          · cases q
      cases hb : inB (cvr cover m) 0 12 with
      | false =>
        rw [brn_f, hall (by unfold vld; rw [hb]; rfl)]; rfl
      | true =>
        rw [brn_t, br_t (by simp), gt_some hcv, cvTile_v hn hm, bd_s]
        cases hm2 : tileM e (m : Int) (cvr cover m) with
        | none =>
          simp only [told]
          rw [brn_f, hall (by unfold vld; rw [hm2]; simp)]; rfl
        | some pq =>
          obtain ⟨p, q⟩ := pq
          simp only [told]
          rw [brn_t]
          have hv : vld e cover m = true := by unfold vld; rw [hb, hm2]; rfl
          obtain ⟨t1, t2⟩ := tile_parts hn hm hm2
          have hkids : kids e cover m = p.map Int.toNat := by unfold kids prts; rw [if_pos hv, hm2]
          have e1 : setT (Nn e cover (m + 1)) p = Nn e cover m := by
            apply List.ext_getElem?
            intro j
            rw [setT_get]
            by_cases hj : j < e.length
            · rw [Nn_get hj, Nn_get hj, inS_take hc j, hkids]; rfl
            · rw [List.getElem?_eq_none (by rw [Nn_len]; omega), List.getElem?_eq_none (by rw [Nn_len]; omega)]; rfl
          have e2 : ((need e cover).all fun i => decide (m + 1 ≤ i) || vld e cover i) = ((need e cover).all fun i => decide (m ≤ i) || vld e cover i) := by
            rw [Bool.eq_iff_iff, List.all_eq_true, List.all_eq_true]
            constructor
            · intro h i hi
              have := h i hi
              simp only [Bool.or_eq_true, decide_eq_true_eq] at this ⊢
              rcases this with q | q
              · exact .inl (by omega)
              · exact .inr q
            · intro h i hi
              have := h i hi
              simp only [Bool.or_eq_true, decide_eq_true_eq] at this ⊢
              by_cases q : i = m
              · subst q; exact .inr hv
              · rcases this with k | k
                · exact .inl (by omega)
                · exact .inr k
          refine need_inner t1 (fun x hx => by have := t2 x hx; omega) p.length 0 _ (by omega) (Nn_len _) ?_
          rw [List.drop_zero, e1, e2, wm]; exact ih
theorem needed_v (hn : nodesOk e 0 = true) (h1 : 1 ≤ e.length) (h24 : e.length ≤ 24) (hl : cover.length = e.length) : spec_cvNeeded.v e cover = some (if (need e cover).all (vld e cover) = true then (Nn e cover 0, true) else ([], false)) := by
  have hr : ∃ z, (List.replicate e.length false)[e.length - 1]? = some z := ⟨_, List.getElem?_eq_getElem (by simp; omega)⟩
  obtain ⟨z, hz⟩ := hr
  refine spec_cvNeeded.vs _ _ ?_
  rw [br_t (by simp), br_t (by simp; omega), last_w h1 (by omega), br_t (by simp), br_t (by simp; omega), Int.toNat_natCast, Int.toNat_natCast, gt_some hz]
  have e0 : (List.replicate e.length false).set (e.length - 1) true = Nn e cover e.length := by
    apply List.ext_getElem?
    intro j
    by_cases hj : j < e.length
    · rw [Nn_get hj, List.getElem?_set]
      unfold inS
      have : (need e cover).any (fun i => decide (e.length ≤ i) && (kids e cover i).contains j) = false := by
        rw [List.any_eq_false]
        intro i hi
        have := need_lt hn h1 hi
        simp; omega
      rw [this]
      by_cases c : e.length - 1 = j
      · subst c; simp; omega
      · have c' : ¬ j = e.length - 1 := fun q => c q.symm
        simp [c, c', hj]
    · rw [List.getElem?_eq_none (by simp; omega), List.getElem?_eq_none (by rw [Nn_len]; omega)]
  rw [e0, show ((e.length - 1 : Nat) : Int) = (e.length : Int) - 1 by omega, need_loop hn h1 h24 hl e.length (Nat.le_refl _)]
  have e2 : ((need e cover).all fun i => decide (e.length ≤ i) || vld e cover i) = (need e cover).all (vld e cover) := by
    rw [Bool.eq_iff_iff, List.all_eq_true, List.all_eq_true]
    constructor
    · intro h i hi
      have := h i hi
      have hlt := need_lt hn h1 hi
      simp only [Bool.or_eq_true, decide_eq_true_eq] at this
      rcases this with q | q
      · omega
      · exact q
    · intro h i hi
      simp [h i hi]
  rw [e2]
/-- is it a cover -/
def isCoverP (e : List Nd) (cover : List Int) : Bool := decide (cover.length = e.length) && ((need e cover).all (vld e cover) && (List.range e.length).all (fun j => (need e cover).contains j || decide (cvr cover j = -1)))
theorem cvIs_v (hn : nodesOk e 0 = true) (h1 : 1 ≤ e.length) (h24 : e.length ≤ 24) : spec_cvIs.v e cover = some (isCoverP e cover) := by
  refine spec_cvIs.vs _ _ ?_
  unfold isCoverP
  by_cases hl : cover.length = e.length
  · rw [br_f (by simp [hl]), needed_v hn h1 h24 hl, bd_s]
    cases ha : (need e cover).all (vld e cover) with
    | false => simp
    | true =>
      rw [if_pos rfl, brn_t]
      have key : ∀ (d j : Nat), j + d = e.length → spec_cvIs.v0 (Nn e cover 0) cover (e.length : Int) (j : Int) = some (((List.range e.length).drop j).all (fun j => (need e cover).contains j || decide (cvr cover j = -1))) := by
        intro d
        induction d with
        | zero =>
          intro j hj
          refine spec_cvIs.v0s _ _ _ _ ?_
          rw [br_f (by simp; omega), List.drop_eq_nil_of_le (by simp; omega)]; rfl
        | succ d ih =>
          intro j hj
          have hlt : j < e.length := by omega
          refine spec_cvIs.v0s _ _ _ _ ?_
          rw [br_t (by simpa using hlt), br_t (by simp), Int.toNat_natCast, gt_some (cvr_get hl hlt), br_t (by simp), gt_some (Nn_get hlt), inS_need hn h1 (by omega), next_ok j _ hlt (by omega), ih (j + 1) (by omega)]
          rw [show (List.range e.length).drop j = j :: (List.range e.length).drop (j + 1) by rw [drop_at _ _ (by simpa using hlt)]; simp, List.all_cons]
          cases hc : (need e cover).contains j with
          | true => rw [brn_t]; simp
          | false =>
            rw [brn_f]
            by_cases c : cvr cover j = -1
            · rw [br_f (by simp [c])]; simp [c]
            · rw [br_t (by simpa using c)]; simp [c]
      have := key e.length 0 (by omega)
      rw [hl]
      refine Eq.trans this ?_
      rw [List.drop_zero]
      simp
  · rw [br_t (by simp; omega)]; simp [hl]
/-! ### the program -/
theorem equalI_v (xs ys : List Int) (hx : xs.length ≤ 1000000) : slices_Equal_int.v xs ys = some (decide (xs = ys)) := by
  refine slices_Equal_int.vs _ _ ?_
  by_cases hl : xs.length = ys.length
  · rw [br_f (by simp [hl])]
    have key : ∀ (d i : Nat), i + d = xs.length → slices_Equal_int.v0 xs ys (xs.length : Int) (i : Int) = some (decide (xs.drop i = ys.drop i)) := by
      intro d
      induction d with
      | zero =>
        intro i hi
        refine slices_Equal_int.v0s _ _ _ _ ?_
        rw [br_f (by simp; omega), List.drop_eq_nil_of_le (by omega), List.drop_eq_nil_of_le (by omega)]; simp
      | succ d ih =>
        intro i hi
        have h1 : i < xs.length := by omega
        have h2 : i < ys.length := by omega
        refine slices_Equal_int.v0s _ _ _ _ ?_
        rw [br_t (by simpa using h1), br_t (by simp), Int.toNat_natCast, gt_at _ h1, br_t (by simp), gt_at _ h2, next_ok i _ h1 (by omega), ih (i + 1) (by omega), drop_at _ _ h1, drop_at _ _ h2]
        by_cases c : xs[i] = ys[i]
        · rw [br_f (by simp [c]), c]; exact congrArg some (decide_eq_decide.2 ⟨fun h => by rw [h], fun h => (List.cons.inj h).2⟩)
        · rw [br_t (by simpa using c)]; exact congrArg some (decide_eq_false fun h => c (List.cons.inj h).1).symm
    have := key xs.length 0 (by omega)
    simpa using this
  · rw [br_t (by simp; omega)]
    have : ¬ xs = ys := fun h => hl (by rw [h])
    simp [this]
theorem setL_get : ∀ (l : List Nat) (o : List Int) (j : Nat), j < o.length → (setL cover o l)[j]? = some (if l.contains j = true then cvr cover j else o.getD j 0)
  | [], o, j, hj => by simp [setL, List.getElem?_eq_getElem hj]
  | i :: r, o, j, hj => by
    have := setL_get r (o.set i (cvr cover i)) j (by rw [List.length_set]; exact hj)
    unfold setL at this ⊢
    rw [List.foldl_cons, this]
    by_cases c : r.contains j = true
    · have c1 : (i :: r).contains j = true := by rw [List.contains_cons, c]; simp
      rw [if_pos c, if_pos c1]
    · rw [if_neg c]
      rw [List.getD_eq_getElem?_getD, List.getElem?_set]
      by_cases d : i = j
      · subst d
        have c1 : (i :: r).contains i = true := by simp
        rw [if_pos rfl, if_pos hj, if_pos c1]; rfl
      · have c1 : ¬ (i :: r).contains j = true := by
          rw [List.contains_cons]
          have d' : ¬ j = i := fun q => d q.symm
          simp at c
          simp [d', c]
        rw [if_neg d, if_neg c1, List.getD_eq_getElem?_getD]
theorem isCover_v (hn : nodesOk e 0 = true) (h1 : 1 ≤ e.length) (h24 : e.length ≤ 24) : impl_isCover.v e cover = some (isCoverP e cover) := by
  refine impl_isCover.vs _ _ ?_
  unfold isCoverP
  by_cases hl : cover.length = e.length
  · rw [br_f (by simp [hl]), empty_v h1 h24, bd_s, last_w h1 (by omega), isCover_1_v hn hl e.length (e.length - 1) _ _ (by omega) (by omega) (by simp), bd_s]
    simp only [Bool.true_and, isR]
    have hneed : dfs e cover e.length (e.length - 1) = need e cover := rfl
    rw [hneed]
    cases ha : (need e cover).all (vld e cover) with
    | false => rw [br_f rfl]; simp
    | true =>
      rw [br_t rfl, equalI_v _ _ (by rw [setL_len]; simp; omega), bd_s]
      congr 1
      rw [Bool.eq_iff_iff, decide_eq_true_iff]
      simp only [hl, decide_true, Bool.true_and]
      rw [List.all_eq_true]
      have hg : ∀ j, j < e.length → (setL cover (List.replicate e.length (-1)) (need e cover))[j]? = some (if (need e cover).contains j = true then cvr cover j else -1) := fun j hj => by
        rw [setL_get _ _ _ (by simpa using hj)]
        simp [List.getD_eq_getElem?_getD, hj]
      constructor
      · intro h j hj
        have hj := List.mem_range.1 hj
        have h2 := hg j hj
        rw [h, cvr_get hl hj] at h2
        rw [Bool.or_eq_true, decide_eq_true_iff]
        by_cases c : (need e cover).contains j = true
        · exact .inl c
        · rw [if_neg c] at h2
          exact .inr (Option.some.inj h2)
      · intro h
        apply List.ext_getElem?
        intro j
        by_cases hj : j < e.length
        · rw [hg j hj, cvr_get hl hj]
          have := h j (List.mem_range.2 hj)
          rw [Bool.or_eq_true, decide_eq_true_iff] at this
          by_cases c : (need e cover).contains j = true
          · rw [if_pos c]
          · rw [if_neg c]
            rcases this with q | q
            · exact absurd q c
            · rw [q]
        · rw [List.getElem?_eq_none (by rw [setL_len]; simp; omega), List.getElem?_eq_none (by omega)]
  · rw [br_t (by simp; omega)]; simp [hl]
theorem cvTree_v (hl : e.length ≤ 1048576) : spec_cvTree.v e = some (treeOk e) := by
  refine spec_cvTree.vs _ ?_
  rw [exGood_v e hl, bd_s]
  unfold treeOk
  by_cases c : exprOk e = true
  · rw [br_t c, exTree_v e hl c, bd_s, c]; rfl
  · rw [Bool.not_eq_true] at c
    rw [br_f c, c]; rfl
def isCoverA (e : List Nd) (cover : List Int) : Bool × Bool := if treeOk e = true then (isCoverP e cover, true) else (false, false)
theorem implIsCover_v (hl : e.length ≤ 1048576) : impl_IsCover.v e cover = some (isCoverA e cover) := by
  refine impl_IsCover.vs _ _ ?_
  rw [isTree_v e hl, bd_s]; unfold isCoverA
  by_cases c : treeOk e = true
  · obtain ⟨h1, h2, h3, _⟩ := treeOk_parts c
    rw [c, brn_t, isCover_v h1 h2 h3, bd_s, if_pos rfl]
  · rw [if_neg c]; rw [Bool.not_eq_true] at c; rw [c]; rfl
end
end Go.Proofs.YtfpjcfhbecmneaaGreat.Am
end
section
/- What a cover costs. -/
namespace Go.Proofs.YtfpjcfhbecmneaaGreat.Am
open Go
set_option linter.unusedVariables false
set_option linter.unusedSimpArgs false
section
variable {e : List Nd} {cover : List Int}
theorem cover_len (h : isCoverP e cover = true) : cover.length = e.length := by
  unfold isCoverP at h
  rw [Bool.and_eq_true] at h
  exact of_decide_eq_true h.1
theorem cover_vld (h : isCoverP e cover = true) {j : Nat} (hj : j < e.length) (h0 : 0 ≤ cvr cover j) : vld e cover j = true := by
  unfold isCoverP at h
  rw [Bool.and_eq_true, Bool.and_eq_true, List.all_eq_true, List.all_eq_true] at h
  have := h.2.2 j (List.mem_range.2 hj)
  rw [Bool.or_eq_true, decide_eq_true_iff] at this
  rcases this with q | q
  · exact h.2.1 j (List.contains_iff_mem.1 q)
  · omega
theorem vld_parts {j : Nat} (h : vld e cover j = true) : (0 ≤ cvr cover j ∧ cvr cover j ≤ 12) ∧ ∃ p q, tileM e j (cvr cover j) = some (p, q) := by
  unfold vld at h
  rw [Bool.and_eq_true] at h
  refine ⟨by have := h.1; unfold inB at this; simp at this; exact this, ?_⟩
  obtain ⟨⟨p, q⟩, hx⟩ := Option.isSome_iff_exists.1 h.2
  exact ⟨p, q, hx⟩
theorem cvCost_f {j : Nat} (hj : j < e.length) (t : Int) : spec_cvCost.f e (j : Int) t = some (tCost e j t) := by
  rw [spec_cvCost.eq]
  unfold tCost tCostN
  by_cases c0 : t = 0
  · rw [br_t (by simp [c0]), if_pos c0]
  · rw [br_f (by simp [c0]), if_neg c0]
    by_cases c3 : t = 3
    · rw [br_t (by simp [c3]), if_pos c3, br_t (by simp), gt_some (ndAt_get (by omega) (by omega)), cdCost_f, bd_s]
    · rw [br_f (by simp [c3]), if_neg c3]
/-- the sum from a node on -/
def sumC (e : List Nd) (cover : List Int) : Nat → Nat → Int → Int
  | 0, _, x => x
  | d + 1, i, x => sumC e cover d (i + 1) (if 0 ≤ cvr cover i then IntKind.wrap .i64 (x + tCost e i (cvr cover i)) else x)
theorem cvSum_l (hl : cover.length = e.length) (h24 : e.length ≤ 24) : ∀ (d i : Nat) (x : Int), i + d = e.length → spec_cvSum.v0 e x cover (e.length : Int) (i : Int) = some (sumC e cover d i x) := by
  intro d
  induction d with
  | zero =>
    intro i x hi
    refine spec_cvSum.v0s _ _ _ _ _ ?_
    rw [br_f (by simp; omega)]; rfl
  | succ d ih =>
    intro i x hi
    have hlt : i < e.length := by omega
    refine spec_cvSum.v0s _ _ _ _ _ ?_
    rw [br_t (by simpa using hlt), br_t (by simp), Int.toNat_natCast, gt_some (cvr_get hl hlt), next_ok i _ hlt (by omega), cvCost_f hlt, bd_s]
    unfold sumC
    by_cases c : 0 ≤ cvr cover i
    · rw [br_t (by simpa using c), if_pos c]; exact ih _ _ (by omega)
    · rw [br_f (by simpa using c), if_neg c]; exact ih _ _ (by omega)
theorem cvSum_v (hl : cover.length = e.length) (h24 : e.length ≤ 24) : spec_cvSum.v e cover = some (sumC e cover e.length 0 0) := by
  refine spec_cvSum.vs _ _ ?_
  rw [hl]
  exact cvSum_l hl h24 e.length 0 0 (by omega)
theorem coverCost_l (hn : nodesOk e 0 = true) (hl : cover.length = e.length) (h24 : e.length ≤ 24) (hv : ∀ j, j < e.length → 0 ≤ cvr cover j → vld e cover j = true) : ∀ (d i : Nat) (x : Int), i + d = e.length → impl_coverCost.v0 e x cover (e.length : Int) (i : Int) = some (sumC e cover d i x) := by
  intro d
  induction d with
  | zero =>
    intro i x hi
    refine impl_coverCost.v0s _ _ _ _ _ ?_
    rw [br_f (by simp; omega)]; rfl
  | succ d ih =>
    intro i x hi
    have hlt : i < e.length := by omega
    refine impl_coverCost.v0s _ _ _ _ _ ?_
    rw [br_t (by simpa using hlt), br_t (by simp), Int.toNat_natCast, gt_some (cvr_get hl hlt), next_ok i _ hlt (by omega)]
    unfold sumC
    by_cases c : 0 ≤ cvr cover i
    · obtain ⟨⟨h0, h12⟩, p, q, hm⟩ := vld_parts (hv i hlt c)
      rw [br_t (by simpa using c), if_pos c, tileAt_v hn hlt h0 h12, bd_s, tileI_eq hn hlt h0 h12 hm]; exact ih _ _ (by omega)
    · rw [br_f (by simpa using c), if_neg c]; exact ih _ _ (by omega)
theorem coverCost_v (hn : nodesOk e 0 = true) (hl : cover.length = e.length) (h24 : e.length ≤ 24) (hv : ∀ j, j < e.length → 0 ≤ cvr cover j → vld e cover j = true) : impl_coverCost.v e cover = some (sumC e cover e.length 0 0) := by
  refine impl_coverCost.vs _ _ ?_
  rw [hl]
  exact coverCost_l hn hl h24 hv e.length 0 0 (by omega)
/-- a tree with a cover -/
def coverA (e : List Nd) (cover : List Int) : Bool := treeOk e && isCoverP e cover
theorem areCovered_v (hl : e.length ≤ 1048576) : impl_areCovered.v e cover = some (coverA e cover) := by
  refine impl_areCovered.vs _ _ ?_
  rw [isTree_v e hl, bd_s]; unfold coverA
  by_cases c : treeOk e = true
  · obtain ⟨h1, h2, h3, _⟩ := treeOk_parts c
    rw [br_t c, isCover_v h1 h2 h3, bd_s, c, Bool.true_and]
  · rw [Bool.not_eq_true] at c; rw [br_f c, c]; rfl
def coverCostA (e : List Nd) (cover : List Int) : Int × Bool := if coverA e cover = true then (sumC e cover e.length 0 0, true) else (0, false)
theorem coverA_parts (h : coverA e cover = true) : (nodesOk e 0 = true ∧ 1 ≤ e.length ∧ e.length ≤ 24) ∧ isCoverP e cover = true := by
  unfold coverA at h
  rw [Bool.and_eq_true] at h
  obtain ⟨h1, h2, h3, _⟩ := treeOk_parts h.1
  exact ⟨⟨h1, h2, h3⟩, h.2⟩
/-- how the reference asks for a tree with a cover -/
theorem covered_f {α : Type} (hl : e.length ≤ 1048576) (no : α) (k : Option α) : (bd (spec_cvTree.v e) fun r0 => br (Bool.not r0) (some no) (bd (spec_cvIs.v e cover) fun r1 => br (Bool.not r1) (some no) k)) = if coverA e cover = true then k else some no := by
  rw [cvTree_v hl, bd_s]; unfold coverA
  by_cases c : treeOk e = true
  · obtain ⟨h1, h2, h3, _⟩ := treeOk_parts c
    rw [c, brn_t, cvIs_v h1 h2 h3, bd_s]
    cases isCoverP e cover <;> rfl
  · rw [Bool.not_eq_true] at c; rw [c]; rfl
theorem specCoverCost_v (hl : e.length ≤ 1048576) : spec_CoverCost.v e cover = some (coverCostA e cover) := by
  refine spec_CoverCost.vs _ _ ?_
  rw [covered_f hl]; unfold coverCostA
  by_cases c : coverA e cover = true
  · obtain ⟨⟨h1, h2, h3⟩, h4⟩ := coverA_parts c
    rw [if_pos c, if_pos c, cvSum_v (cover_len h4) h3, bd_s]
  · rw [if_neg c, if_neg c]
theorem implCoverCost_v (hl : e.length ≤ 1048576) : impl_CoverCost.v e cover = some (coverCostA e cover) := by
  refine impl_CoverCost.vs _ _ ?_
  rw [areCovered_v hl, bd_s]; unfold coverCostA
  by_cases c : coverA e cover = true
  · obtain ⟨⟨h1, h2, h3⟩, h4⟩ := coverA_parts c
    rw [if_pos c, c, brn_t, coverCost_v h1 (cover_len h4) h3 (fun j hj => cover_vld h4 hj), bd_s]
  · rw [if_neg c]; rw [Bool.not_eq_true] at c; rw [c]; rfl
end
end Go.Proofs.YtfpjcfhbecmneaaGreat.Am
end
section
/- How many temporaries the nodes need. -/
namespace Go.Proofs.YtfpjcfhbecmneaaGreat.Am
open Go
set_option linter.unusedVariables false
set_option linter.unusedSimpArgs false
section
variable {e : List Nd} {cover : List Int}
theorem cvNone_g (h24 : e.length ≤ 1000) : spec_cvNone.v e = some (List.replicate e.length (-1), ()) := by
  refine spec_cvNone.vs _ ?_
  have key : ∀ (d i : Nat), i + d = e.length → spec_cvNone.v0 (e.length : Int) (i : Int) (List.replicate i (-1)) = some (List.replicate e.length (-1), ()) := by
    intro d
    induction d with
    | zero =>
      intro i hi
      refine spec_cvNone.v0s _ _ _ ?_
      rw [br_f (by simp; omega), show i = e.length by omega]
    | succ d ih =>
      intro i hi
      refine spec_cvNone.v0s _ _ _ ?_
      rw [br_t (by simp; omega), br_t (by simp; omega), next_ok i e.length (by omega) (by omega), show List.replicate i (-1 : Int) ++ [-1] = List.replicate (i + 1) (-1) from (List.replicate_succ' ).symm]
      exact ih (i + 1) (by omega)
  exact key e.length 0 (by omega)
theorem cvNone_v (h24 : e.length ≤ 24) : spec_cvNone.v e = some (List.replicate e.length (-1), ()) := cvNone_g (by omega)
theorem two_of {p : List Int} (h : p.length ≤ 2) : p = [] ∨ (∃ a, p = [a]) ∨ ∃ a b, p = [a, b] := by
  match p, h with
  | [], _ => exact .inl rfl
  | [a], _ => exact .inr (.inl ⟨a, rfl⟩)
  | [a, b], _ => exact .inr (.inr ⟨a, b, rfl⟩)
/-! ### the program -/
end
end Go.Proofs.YtfpjcfhbecmneaaGreat.Am
end
section
/- The cover that choices give: the program's walk; tiles at a node; the reference's queue. -/
namespace Go.Proofs.YtfpjcfhbecmneaaGreat.Am
open Go
set_option linter.unusedVariables false
set_option linter.unusedSimpArgs false
section
variable {e : List Nd} {best : List Int}
abbrev cbR (best o : List Int) (e : List Nd) : Unit × List Int × Unit × List Int × List Nd × Unit := ((), (best, ((), (o, (e, ())))))
theorem cb_parts {ps : List Int} (h2 : ps.length ≤ 2) {w : Nat → List Nat} (hw : ∀ p ∈ ps, ∃ q : Nat, p = (q : Int) ∧ ∀ (o : List Int), o.length = e.length → impl_coverBy_1.v p best o e = some (cbR best (setL best o (w q)) e)) :
    ∀ (d j : Nat) (o : List Int), j + d = ps.length → o.length = e.length → impl_coverBy_1.v0 ps (ps.length : Int) (j : Int) best o e = some (cbR best (setL best o (((ps.drop j).map Int.toNat).flatMap w)) e) := by
  intro d
  induction d with
  | zero =>
    intro j o hj ho
    refine impl_coverBy_1.v0s _ _ _ _ _ _ ?_
    rw [br_f (by simp; omega), List.drop_eq_nil_of_le (by omega)]
    simp [setL]
  | succ d ih =>
    intro j o hj ho
    have hlt : j < ps.length := by omega
    refine impl_coverBy_1.v0s _ _ _ _ _ _ ?_
    obtain ⟨q, hq, hv⟩ := hw _ (List.getElem_mem hlt)
    rw [br_t (by simpa using hlt), br_t (by simp), Int.toNat_natCast, gt_at _ hlt, next_ok j _ hlt (by omega), hv o ho, bd_s]
    simp only
    rw [ih (j + 1) _ (by omega) (by rw [setL_len]; exact ho), drop_at _ _ hlt, hq]
    simp only [List.map_cons, Int.toNat_natCast, List.flatMap_cons, setL_app]
theorem coverBy_1_v (hn : nodesOk e 0 = true) (hl : best.length = e.length) (hv : ∀ j, j < e.length → vld e best j = true) : ∀ (f i : Nat) (o : List Int), i < e.length → i < f → o.length = e.length →
    impl_coverBy_1.v (i : Int) best o e = some (cbR best (setL best o (dfs e best f i)) e)
  | 0, i, o, _, h, _ => by omega
  | f + 1, i, o, hi, hf, ho => by
    have hc := cvr_get hl hi
    have hvi := hv i hi
    obtain ⟨⟨b0, b1⟩, p, q, hm⟩ := vld_parts hvi
    have ho' : ∃ z, o[i]? = some z := ⟨_, List.getElem?_eq_getElem (by omega)⟩
    obtain ⟨z, hz⟩ := ho'
    refine impl_coverBy_1.vs _ _ _ _ ?_
    rw [br_t (by simp), Int.toNat_natCast, gt_some hc, br_t (by simp), br_t (by rw [ho]; simpa using hi), gt_some hz, br_t (by simp), gt_some hc, tileAt_v hn hi b0 b1, bd_s, tileI_eq hn hi b0 b1 hm]
    have hp := tile_parts hn hi hm
    have := cb_parts (e := e) (best := best) hp.1 (w := dfs e best f) (fun x hx => by
      obtain ⟨p0, p1⟩ := hp.2 x hx
      obtain ⟨q, rfl⟩ := Int.eq_ofNat_of_zero_le p0
      exact ⟨q, rfl, fun o ho => coverBy_1_v hn hl hv f q o (by omega) (by omega) ho⟩) p.length 0 (o.set i (cvr best i)) (by omega) (by rw [List.length_set]; exact ho)
    rw [List.drop_zero] at this
    refine this.trans ?_
    simp only [dfs, kids]
    rw [if_pos hvi, show prts e i (cvr best i) = p by unfold prts; rw [hm]]
    rfl
/-- the cover that choices give -/
def chosen (e : List Nd) (best : List Int) : List Int := setL best (List.replicate e.length (-1)) (need e best)
theorem chosen_len : (chosen e best).length = e.length := by unfold chosen; rw [setL_len]; simp
theorem chosen_get {j : Nat} (hj : j < e.length) : (chosen e best)[j]? = some (if (need e best).contains j = true then cvr best j else -1) := by
  unfold chosen
  rw [setL_get _ _ _ (by simpa using hj)]
  simp [List.getD_eq_getElem?_getD, hj]
theorem coverBy_v (hn : nodesOk e 0 = true) (h1 : 1 ≤ e.length) (h24 : e.length ≤ 24) (hl : best.length = e.length) (hv : ∀ j, j < e.length → vld e best j = true) : impl_coverBy.v e best = some (chosen e best, ()) := by
  refine impl_coverBy.vs _ _ ?_
  rw [empty_v h1 h24, bd_s, last_w h1 (by omega), coverBy_1_v hn hl hv e.length (e.length - 1) _ (by omega) (by omega) (by simp), bd_s]
  rfl
/-- the tiles at a node -/
def tl (e : List Nd) (i k : Nat) : List Int := ((List.range k).map (fun t : Nat => (t : Int))).filter (fun t => (tileM e i t).isSome)
theorem tl_succ (i k : Nat) : tl e i (k + 1) = tl e i k ++ if (tileM e i (k : Int)).isSome = true then [(k : Int)] else [] := by
  unfold tl
  rw [List.range_succ, List.map_append, List.filter_append]
  congr 1
  cases h : (tileM e i (k : Int)).isSome <;> simp [h]
theorem tl_len (i k : Nat) : (tl e i k).length ≤ k := by
  unfold tl
  exact Nat.le_trans (List.length_filter_le _ _) (by simp)
theorem tl_mem {i k : Nat} {t : Int} (h : t ∈ tl e i k) : 0 ≤ t ∧ t < k ∧ (tileM e i t).isSome = true := by
  unfold tl at h
  rw [List.mem_filter, List.mem_map] at h
  obtain ⟨⟨a, ha, rfl⟩, h2⟩ := h
  have := List.mem_range.1 ha
  exact ⟨by omega, by omega, h2⟩
theorem tilesAt_v (hn : nodesOk e 0 = true) {i : Nat} (hi : i < e.length) : impl_tilesAt.v e (i : Int) = some (tl e i 13) := by
  refine impl_tilesAt.vs _ _ ?_
  have key : ∀ (d k : Nat), k + d = 13 → impl_tilesAt.v0 e (i : Int) (k : Int) (tl e i k) = some (tl e i 13) := by
    intro d
    induction d with
    | zero =>
      intro k hk
      refine impl_tilesAt.v0s _ _ _ _ ?_
      rw [br_f (by simp; omega), show k = 13 by omega]
    | succ d ih =>
      intro k hk
      have := tl_len (e := e) i k
      have h := ih (k + 1) (by omega)
      refine impl_tilesAt.v0s _ _ _ _ ?_
      rw [br_t (by simp; omega), tileAt_v hn hi (by omega) (by omega), bd_s, next_ok k 13 (by omega) (by omega)]
      rw [tl_succ] at h
      cases c : (tileM e i (k : Int)).isSome with
      | true => rw [c, if_pos rfl] at h; rw [br_t rfl, br_t (by simp; omega)]; exact h
      | false => rw [c, if_neg (by simp), List.append_nil] at h; rw [br_f rfl]; exact h
  exact key 13 0 rfl
theorem cvTiles_v (hn : nodesOk e 0 = true) {i : Nat} (hi : i < e.length) : spec_cvTiles.v e (i : Int) = some (tl e i 13) := by
  refine spec_cvTiles.vs _ _ ?_
  have key : ∀ (d k : Nat), k + d = 13 → spec_cvTiles.v0 e (i : Int) (k : Int) (tl e i k) = some (tl e i 13) := by
    intro d
    induction d with
    | zero =>
      intro k hk
      refine spec_cvTiles.v0s _ _ _ _ ?_
      rw [br_f (by simp; omega), show k = 13 by omega]
    | succ d ih =>
      intro k hk
      have := tl_len (e := e) i k
      have h := ih (k + 1) (by omega)
      refine spec_cvTiles.v0s _ _ _ _ ?_
      rw [br_t (by simp; omega), cvTile_v hn hi, bd_s, next_ok k 13 (by omega) (by omega)]
      rw [tl_succ] at h
      cases c : tileM e i (k : Int) with
      | some pq => rw [c, if_pos (show (some pq).isSome = true from rfl)] at h; rw [br_t (show (told (some pq)).2.2 = true from rfl), br_t (by simp; omega)]; exact h
      | none => rw [c, if_neg (by simp), List.append_nil] at h; rw [br_f (show (told none).2.2 = false from rfl)]; exact h
  exact key 13 0 rfl
/-- each node has a tile -/
theorem tl_some (hn : nodesOk e 0 = true) {i : Nat} (hi : i < e.length) : tl e i 13 ≠ [] := by
  have hk : nodeOk (ndAt e i) (i : Int) = true := ndAt_ok hn (by omega) (by omega)
  have : ∃ t : Nat, t < 13 ∧ (tileM e i (t : Int)).isSome = true := by
    unfold tileM tileN
    by_cases c0 : (ndAt e i).1 = tIn
    · exact ⟨0, by omega, by simp [c0]⟩
    by_cases c1 : (ndAt e i).1 = tConst
    · exact ⟨1, by omega, by simp [c1]⟩
    by_cases c2 : isOne (ndAt e i).1 = true
    · exact ⟨2, by omega, by simp [c2]⟩
    by_cases c3 : isTwo (ndAt e i).1 = true
    · exact ⟨3, by omega, by simp [c3]⟩
    · exfalso
      unfold nodeOk at hk
      simp [c0, c1, c2, c3] at hk
  obtain ⟨t, ht, hs⟩ := this
  intro h0
  have : (t : Int) ∈ tl e i 13 := by
    unfold tl
    rw [List.mem_filter]
    exact ⟨List.mem_map.2 ⟨t, List.mem_range.2 ht, rfl⟩, hs⟩
  rw [h0] at this
  cases this
end
end Go.Proofs.YtfpjcfhbecmneaaGreat.Am
end
section
/- The reference's queue of nodes that need tiles. -/
namespace Go.Proofs.YtfpjcfhbecmneaaGreat.Am
open Go
set_option linter.unusedVariables false
set_option linter.unusedSimpArgs false
section
variable {e : List Nd} {best : List Int}
/-- what is still to come, at most -/
def mq (l : List Int) : Nat := (l.map (fun x : Int => 3 ^ x.toNat)).sum
theorem mq_cons (x : Int) (l : List Int) : mq (x :: l) = 3 ^ x.toNat + mq l := by simp [mq]
theorem mq_app (l m : List Int) : mq (l ++ m) = mq l + mq m := by simp [mq]
theorem mq_len : ∀ l : List Int, l.length ≤ mq l
  | [] => by simp [mq]
  | x :: l => by
    have := mq_len l
    have : 0 < 3 ^ x.toNat := Nat.pow_pos (by omega)
    rw [mq_cons, List.length_cons]; omega
theorem mq_parts {n : Nat} {ps : List Int} (h2 : ps.length ≤ 2) (h : ∀ y ∈ ps, 0 ≤ y ∧ y < n) : mq ps + 1 ≤ 3 ^ n := by
  have one : ∀ y : Int, 0 ≤ y → y < n → 3 * 3 ^ y.toNat ≤ 3 ^ n := fun y h0 h1 => by
    rw [Nat.mul_comm, ← Nat.pow_succ]
    exact Nat.pow_le_pow_right (by omega) (by omega)
  have pos : 0 < 3 ^ n := Nat.pow_pos (by omega)
  rcases two_of h2 with e0 | ⟨a, e1⟩ | ⟨a, b, e2⟩
  · subst e0; simp [mq]; omega
  · subst e1
    have ha := h a (by simp)
    have := one a ha.1 ha.2
    have : 0 < 3 ^ a.toNat := Nat.pow_pos (by omega)
    simp [mq]; omega
  · subst e2
    have ha := h a (by simp)
    have hb := h b (by simp)
    have := one a ha.1 ha.2
    have := one b hb.1 hb.2
    have : 0 < 3 ^ a.toNat := Nat.pow_pos (by omega)
    simp [mq]; omega
structure Bfs (e : List Nd) (best o op : List Int) (k : Nat) : Prop where
  len : o.length = e.length
  le : k ≤ op.length
  ok : ∀ x ∈ op, 0 ≤ x ∧ x < e.length ∧ x.toNat ∈ need e best
  root : ((e.length - 1 : Nat) : Int) ∈ op
  val : ∀ j, j < e.length → o[j]? = some (if (j : Int) ∈ op.take k then cvr best j else -1)
  kid : ∀ x ∈ op.take k, ∀ y ∈ kids e best x.toNat, ((y : Nat) : Int) ∈ op
  size : k + mq (op.drop k) ≤ 282429536481
theorem Bfs.bound {o op : List Int} {k : Nat} (h : Bfs e best o op k) : op.length ≤ 282429536481 := by
  have h1 := mq_len (op.drop k)
  have h2 := h.size
  have h3 := h.le
  rw [List.length_drop] at h1
  omega
theorem Bfs.start (hn : nodesOk e 0 = true) (h1 : 1 ≤ e.length) (h24 : e.length ≤ 24) : Bfs e best (List.replicate e.length (-1)) [((e.length - 1 : Nat) : Int)] 0 :=
  ⟨by simp, by simp, fun x hx => by
    rw [List.mem_singleton] at hx
    subst hx
    exact ⟨by omega, by omega, by rw [Int.toNat_natCast]; exact need_root h1⟩, by simp, fun j hj => by simp [hj], fun x hx => by simp at hx, by
    have : 3 ^ (e.length - 1) ≤ 3 ^ 23 := Nat.pow_le_pow_right (by omega) (by omega)
    simp [mq]; omega⟩
theorem Bfs.step (hn : nodesOk e 0 = true) (h1 : 1 ≤ e.length) (hv : ∀ j, j < e.length → vld e best j = true) {o op : List Int} {k : Nat} (h : Bfs e best o op k) (hk : k < op.length) {i : Nat} (hi : op[k] = (i : Int)) :
    Bfs e best (o.set i (cvr best i)) (op ++ prts e i (cvr best i)) (k + 1) ∧ mq ((op ++ prts e i (cvr best i)).drop (k + 1)) < mq (op.drop k) := by
  have hx := h.ok _ (List.getElem_mem hk)
  rw [hi] at hx
  have hie : i < e.length := by omega
  have hp := prts_ok hn hie (cvr best i)
  have hin : i ∈ need e best := by have := hx.2.2; rw [Int.toNat_natCast] at this; exact this
  have hkid : kids e best i = (prts e i (cvr best i)).map Int.toNat := by unfold kids; rw [if_pos (hv i hie)]
  have htake : (op ++ prts e i (cvr best i)).take (k + 1) = op.take k ++ [(i : Int)] := by
    rw [List.take_append_of_le_length (by omega), List.take_succ_eq_append_getElem hk, hi]
  have hdrop : (op ++ prts e i (cvr best i)).drop (k + 1) = op.drop (k + 1) ++ prts e i (cvr best i) := List.drop_append_of_le_length (by omega)
  have hd : op.drop k = (i : Int) :: op.drop (k + 1) := by rw [drop_at _ _ hk, hi]
  have hm := mq_parts hp.1 (n := i) hp.2
  have hs := h.size
  rw [hd, mq_cons, Int.toNat_natCast] at hs
  refine ⟨⟨by rw [List.length_set]; exact h.len, by rw [List.length_append]; omega, ?_, List.mem_append.2 (.inl h.root), ?_, ?_, ?_⟩, ?_⟩
  · intro x hx
    rcases List.mem_append.1 hx with q | q
    · exact h.ok x q
    · have := hp.2 x q
      exact ⟨this.1, by omega, dfs_close hn _ _ (by omega) (by omega) i hin _ (by rw [hkid]; exact List.mem_map_of_mem q)⟩
  · intro j hj
    rw [htake, List.getElem?_set]
    by_cases c : i = j
    · subst c
      rw [if_pos rfl, if_pos (by rw [h.len]; exact hj), if_pos (by simp)]
    · rw [if_neg c, h.val j hj]
      have : ((j : Int) ∈ op.take k ++ [(i : Int)]) ↔ (j : Int) ∈ op.take k := by
        rw [List.mem_append, List.mem_singleton]
        constructor
        · rintro (q | q)
          · exact q
          · omega
        · exact .inl
      simp only [this]
  · intro x hx y hy
    rw [htake] at hx
    rcases List.mem_append.1 hx with q | q
    · exact List.mem_append.2 (.inl (h.kid x q y hy))
    · rw [List.mem_singleton] at q
      subst q
      rw [Int.toNat_natCast, hkid] at hy
      obtain ⟨z, hz, rfl⟩ := List.mem_map.1 hy
      have := hp.2 z hz
      rw [Int.toNat_of_nonneg this.1]
      exact List.mem_append.2 (.inr hz)
  · rw [hdrop, mq_app]; omega
  · rw [hdrop, mq_app, hd, mq_cons, Int.toNat_natCast]; omega
theorem Bfs.done (hn : nodesOk e 0 = true) (h1 : 1 ≤ e.length) {o op : List Int} {k : Nat} (h : Bfs e best o op k) (hk : ¬ k < op.length) : o = chosen e best := by
  have ht : op.take k = op := List.take_of_length_le (by omega)
  have hall : ∀ (d j : Nat), j + d = e.length → j ∈ need e best → (j : Int) ∈ op := by
    intro d
    induction d using Nat.strongRecOn with
    | ind d ih =>
      intro j hj hm
      rcases dfs_parent hn _ _ (by omega) (by omega) j hm with q | ⟨i, hi, hji⟩
      · subst q; exact h.root
      · have hil := need_lt hn h1 hi
        have := kids_lt hn hil j hji
        have hio := ih (e.length - i) (by omega) i (by omega) hi
        exact h.kid (i : Int) (by rw [ht]; exact hio) j (by rw [Int.toNat_natCast]; exact hji)
  apply List.ext_getElem?
  intro j
  by_cases hj : j < e.length
  · rw [h.val j hj, chosen_get hj, ht]
    have : ((j : Int) ∈ op) ↔ (need e best).contains j = true := by
      rw [List.contains_iff_mem]
      exact ⟨fun q => by have := (h.ok _ q).2.2; rw [Int.toNat_natCast] at this; exact this, fun q => hall (e.length - j) j (by omega) q⟩
    simp only [this]
  · rw [List.getElem?_eq_none (by have := h.len; omega), List.getElem?_eq_none (by rw [chosen_len]; omega)]
theorem Bfs.cur {o op : List Int} {k : Nat} (h : Bfs e best o op k) {i : Nat} (hi : i < e.length) : ∃ c, o[i]? = some c ∧ (c = -1 ∨ c = cvr best i) := by
  refine ⟨_, h.val i hi, ?_⟩
  split
  · exact .inr rfl
  · exact .inl rfl
end
end Go.Proofs.YtfpjcfhbecmneaaGreat.Am
end
section
/- The cover with the largest tiles. -/
namespace Go.Proofs.YtfpjcfhbecmneaaGreat.Am
open Go
set_option linter.unusedVariables false
set_option linter.unusedSimpArgs false
section
variable {e : List Nd}
theorem set_same {o : List Int} {i : Nat} {c : Int} (h : o[i]? = some c) : o.set i c = o := by
  apply List.ext_getElem?
  intro j
  rw [List.getElem?_set]
  by_cases d : i = j
  · subst d
    have : i < o.length := by
      by_cases q : i < o.length
      · exact q
      · rw [List.getElem?_eq_none (by omega)] at h; cases h
    rw [if_pos rfl, if_pos this, h]
  · rw [if_neg d]
theorem told_prts (i : Nat) (t : Int) : (told (tileM e i t)).1 = prts e i t := by
  unfold prts
  cases tileM e i t with
  | none => rfl
  | some pq => rfl
theorem lt_of_get {o : List Int} {i : Nat} {c : Int} (h : o[i]? = some c) : i < o.length := by
  by_cases q : i < o.length
  · exact q
  · rw [List.getElem?_eq_none (by omega)] at h; cases h
/-! ### the program -/
end
end Go.Proofs.YtfpjcfhbecmneaaGreat.Am
end
section
/- The cover with the least cost. -/
namespace Go.Proofs.YtfpjcfhbecmneaaGreat.Am
open Go
set_option linter.unusedVariables false
set_option linter.unusedSimpArgs false
section
variable {e : List Nd}
def sumP (P : List Int) : List Int → Int → Int
  | [], s => s
  | k :: r, s => sumP P r (IntKind.wrap .i64 (s + P.getD k.toNat 0))
/-- a tile's cost with its parts' prices -/
def wth (e : List Nd) (i : Nat) (P : List Int) (t : Int) : Int := sumP P (prts e i t) (tCost e i t)
theorem sumP_same {P Q : List Int} : ∀ (ps : List Int) (s : Int), (∀ k ∈ ps, P.getD k.toNat 0 = Q.getD k.toNat 0) → sumP P ps s = sumP Q ps s
  | [], s, _ => rfl
  | k :: r, s, h => by
    unfold sumP
    rw [h k (by simp)]
    exact sumP_same r _ (fun x hx => h x (by simp [hx]))
theorem wth_same (hn : nodesOk e 0 = true) {i : Nat} (hi : i < e.length) {P Q : List Int} (h : ∀ k, k < i → P.getD k 0 = Q.getD k 0) (t : Int) : wth e i P t = wth e i Q t :=
  sumP_same _ _ (fun k hk => h _ (by have := (prts_ok hn hi t).2 k hk; omega))
theorem get_D {P : List Int} {j : Nat} (h : j < P.length) : P[j]? = some (P.getD j 0) := by
  rw [List.getD_eq_getElem?_getD, List.getElem?_eq_getElem h]; rfl
theorem cvWith_v (hn : nodesOk e 0 = true) {i : Nat} (hi : i < e.length) {P : List Int} (hP : P.length = e.length) (t : Int) : spec_cvWith.v e (i : Int) t P = some (wth e i P t) := by
  refine spec_cvWith.vs _ _ _ _ ?_
  have hp := prts_ok hn hi t
  rw [cvCost_f hi, bd_s, cvTile_v hn hi, bd_s, told_prts]
  have key : ∀ (d j : Nat) (s : Int), j + d = (prts e i t).length → spec_cvWith.v0 P s (prts e i t) ((prts e i t).length : Int) (j : Int) = some (sumP P ((prts e i t).drop j) s) := by
    intro d
    induction d with
    | zero =>
      intro j s hj
      refine spec_cvWith.v0s _ _ _ _ _ ?_
      rw [br_f (by simp; omega), List.drop_eq_nil_of_le (by omega)]; rfl
    | succ d ih =>
      intro j s hj
      have hjl : j < (prts e i t).length := by omega
      have hx := hp.2 _ (List.getElem_mem hjl)
      refine spec_cvWith.v0s _ _ _ _ _ ?_
      rw [br_t (by simpa using hjl), br_t (by simp), Int.toNat_natCast, gt_at _ hjl, br_t (by simpa using hx.1), gt_some (get_D (P := P) (j := ((prts e i t)[j]).toNat) (by omega)), next_ok j _ hjl (by omega), drop_at _ _ hjl]
      exact ih (j + 1) _ (by omega)
  exact key (prts e i t).length 0 _ (by omega)
theorem total_v (hn : nodesOk e 0 = true) {i : Nat} (hi : i < e.length) {P : List Int} (hP : P.length = e.length) (t : Int) (q : List Int) : impl_tile_total.v (prts e i t, q, tCost e i t) P = some (wth e i P t) := by
  refine impl_tile_total.vs _ _ ?_
  have hp := prts_ok hn hi t
  have key : ∀ (d j : Nat) (s : Int), j + d = (prts e i t).length → impl_tile_total.v0 P s (prts e i t) ((prts e i t).length : Int) (j : Int) = some (sumP P ((prts e i t).drop j) s) := by
    intro d
    induction d with
    | zero =>
      intro j s hj
      refine impl_tile_total.v0s _ _ _ _ _ ?_
      rw [br_f (by simp; omega), List.drop_eq_nil_of_le (by omega)]; rfl
    | succ d ih =>
      intro j s hj
      have hjl : j < (prts e i t).length := by omega
      have hx := hp.2 _ (List.getElem_mem hjl)
      refine impl_tile_total.v0s _ _ _ _ _ ?_
      rw [br_t (by simpa using hjl), br_t (by simp), Int.toNat_natCast, gt_at _ hjl, br_t (by simpa using hx.1), gt_some (get_D (P := P) (j := ((prts e i t)[j]).toNat) (by omega)), next_ok j _ hjl (by omega), drop_at _ _ hjl]
      exact ih (j + 1) _ (by omega)
  exact key (prts e i t).length 0 _ (by omega)
/-- the least sum so far, and its tile -/
def selB (e : List Nd) (i : Nat) (P : List Int) (x : Option (Int × Int)) (t : Int) : Option (Int × Int) :=
  match x with
  | none => some (wth e i P t, t)
  | some (s, b) => if wth e i P t < s then some (wth e i P t, t) else some (s, b)
def selS (e : List Nd) (i : Nat) (P : List Int) (m : Int) (c t : Int) : Int := if c < 0 ∧ wth e i P t = m then t else c
theorem selS_keep {i : Nat} {P : List Int} {m : Int} : ∀ (l : List Int) (c : Int), (0 ≤ c ∨ ∀ u ∈ l, m < wth e i P u) → l.foldl (selS e i P m) c = c
  | [], c, _ => rfl
  | t :: l, c, h => by
    rw [List.foldl_cons, show selS e i P m c t = c from by
      unfold selS
      rw [if_neg]
      rintro ⟨h1, h2⟩
      rcases h with q | q
      · omega
      · have := q t (by simp); omega]
    exact selS_keep l c (h.imp id (fun q u hu => q u (by simp [hu])))
theorem selB_fold {i : Nat} {P : List Int} : ∀ (l seen : List Int) (s b : Int), (∀ t ∈ l, 0 ≤ t) → 0 ≤ b → b ∈ seen → (∀ u ∈ seen, s ≤ wth e i P u) → seen.foldl (selS e i P s) (-1) = b →
    ∃ s' b', l.foldl (selB e i P) (some (s, b)) = some (s', b') ∧ 0 ≤ b' ∧ b' ∈ seen ++ l ∧ (seen ++ l).foldl (selS e i P s') (-1) = b'
  | [], seen, s, b, _, h1, h2, h3, h4 => ⟨s, b, rfl, h1, by simpa using h2, by simpa using h4⟩
  | t :: l, seen, s, b, h0, h1, h2, h3, h4 => by
    have ht := h0 t (by simp)
    by_cases c : wth e i P t < s
    · obtain ⟨s', b', k1, k2, k3, k4⟩ := selB_fold (i := i) (P := P) l (seen ++ [t]) (wth e i P t) t (fun u hu => h0 u (by simp [hu])) ht (by simp) (fun u hu => by
        rcases List.mem_append.1 hu with z | z
        · have := h3 u z; omega
        · simp at z; subst z; omega) (by
        rw [List.foldl_append, selS_keep (e := e) (i := i) (P := P) seen (-1) (.inr fun u hu => by have := h3 u hu; omega)]
        simp [selS])
      rw [List.append_assoc] at k3 k4
      exact ⟨s', b', by rw [List.foldl_cons, show selB e i P (some (s, b)) t = some (wth e i P t, t) from if_pos c]; exact k1, k2, k3, k4⟩
    · obtain ⟨s', b', k1, k2, k3, k4⟩ := selB_fold (i := i) (P := P) l (seen ++ [t]) s b (fun u hu => h0 u (by simp [hu])) h1 (by simp [h2]) (fun u hu => by
        rcases List.mem_append.1 hu with z | z
        · exact h3 u z
        · simp at z; subst z; omega) (by
        rw [List.foldl_append, h4]
        exact selS_keep [t] b (.inl h1))
      rw [List.append_assoc] at k3 k4
      exact ⟨s', b', by rw [List.foldl_cons, show selB e i P (some (s, b)) t = some (s, b) from if_neg c]; exact k1, k2, k3, k4⟩
/-- the price and the tile of a node, the prices ahead of it known -/
def prA (e : List Nd) (i : Nat) (P : List Int) : Int × Int := ((tl e i 13).foldl (selB e i P) none).getD (0, 0)
theorem prA_ok (hn : nodesOk e 0 = true) {i : Nat} (hi : i < e.length) (P : List Int) : (tl e i 13).foldl (selB e i P) none = some (prA e i P) ∧ (prA e i P).2 ∈ tl e i 13 ∧ (tl e i 13).foldl (selS e i P (prA e i P).1) (-1) = (prA e i P).2 := by
  have hne := tl_some hn hi
  have h0 : ∀ t ∈ tl e i 13, 0 ≤ t := fun t ht => (tl_mem ht).1
  unfold prA
  generalize tl e i 13 = l at hne h0 ⊢
  cases l with
  | nil => exact absurd rfl hne
  | cons t l =>
    obtain ⟨s', b', k1, k2, k3, k4⟩ := selB_fold (e := e) (i := i) (P := P) l [t] (wth e i P t) t (fun u hu => h0 u (by simp [hu])) (h0 t (by simp)) (by simp) (fun u hu => by simp at hu; subst hu; omega) (by simp [selS])
    rw [List.foldl_cons, show selB e i P none t = some (wth e i P t, t) from rfl, k1]
    exact ⟨rfl, k3, k4⟩
/-- prices and tiles of the nodes ahead of one -/
def prB (e : List Nd) : Nat → List (Int × Int)
  | 0 => []
  | i + 1 => prB e i ++ [prA e i ((prB e i).map (·.1))]
def prices (e : List Nd) : List Int := (prB e e.length).map (·.1)
def bests (e : List Nd) : List Int := (prB e e.length).map (·.2)
theorem prB_len : ∀ i, (prB e i).length = i
  | 0 => rfl
  | i + 1 => by simp [prB, prB_len i]
theorem prB_get : ∀ {n i : Nat}, i < n → (prB e n)[i]? = some (prA e i ((prB e i).map (·.1)))
  | 0, i, h => by omega
  | n + 1, i, h => by
    rw [show prB e (n + 1) = prB e n ++ [prA e n ((prB e n).map (·.1))] from rfl]
    by_cases c : i < n
    · rw [List.getElem?_append_left (by rw [prB_len]; exact c)]; exact prB_get c
    · have : i = n := by omega
      subst this
      rw [List.getElem?_append_right (by rw [prB_len]; exact Nat.le_refl _), prB_len]; simp
theorem prices_len : (prices e).length = e.length := by simp [prices, prB_len]
theorem bests_len : (bests e).length = e.length := by simp [bests, prB_len]
theorem prices_same {n i : Nat} (h : i < n) : ((prB e n).map (·.1)).getD i 0 = (prA e i ((prB e i).map (·.1))).1 := by
  rw [List.getD_eq_getElem?_getD, List.getElem?_map, prB_get h]; rfl
theorem prA_same (hn : nodesOk e 0 = true) {i : Nat} (hi : i < e.length) {P Q : List Int} (h : ∀ k, k < i → P.getD k 0 = Q.getD k 0) : prA e i P = prA e i Q := by
  have : selB e i P = selB e i Q := by
    funext x t
    unfold selB
    rw [wth_same hn hi h t]
  unfold prA
  rw [this]
theorem price_at (hn : nodesOk e 0 = true) {i : Nat} (hi : i < e.length) : (prices e)[i]? = some (prA e i (prices e)).1 ∧ cvr (bests e) i = (prA e i (prices e)).2 := by
  have hs : prA e i ((prB e i).map (·.1)) = prA e i (prices e) := prA_same hn hi (fun k hk => by
    unfold prices
    rw [prices_same hk, prices_same (n := e.length) (by omega)])
  constructor
  · unfold prices at hs ⊢
    rw [List.getElem?_map, prB_get hi, ← hs]; rfl
  · unfold cvr bests
    rw [List.getD_eq_getElem?_getD, List.getElem?_map, prB_get hi, ← hs]; rfl
theorem bests_vld (hn : nodesOk e 0 = true) : ∀ j, j < e.length → vld e (bests e) j = true := fun j hj => by
  have := (prA_ok hn hj (prices e)).2.1
  rw [← (price_at hn hj).2] at this
  obtain ⟨h0, h1, h2⟩ := tl_mem this
  unfold vld
  rw [h2, Bool.and_true, inB_iff]
  omega
end
end Go.Proofs.YtfpjcfhbecmneaaGreat.Am
end
section
/- The cover with the least cost: both sides. -/
namespace Go.Proofs.YtfpjcfhbecmneaaGreat.Am
open Go
set_option linter.unusedVariables false
set_option linter.unusedSimpArgs false
section
variable {e : List Nd}
/-- a state of the rounds over tiles: nothing at first, then the least price and its tile in their places -/
structure Pst (i j : Nat) (x : Option (Int × Int)) (P B : List Int) : Prop where
  no : j = 0 → x = none
  yes : j ≠ 0 → ∃ s b, x = some (s, b) ∧ P[i]? = some s ∧ B[i]? = some b
theorem set_low {P : List Int} {i k : Nat} (h : k < i) (s : Int) : (P.set i s).getD k 0 = P.getD k 0 := by
  rw [List.getD_eq_getElem?_getD, List.getElem?_set, if_neg (by omega), ← List.getD_eq_getElem?_getD]
theorem prices_in (hn : nodesOk e 0 = true) {i : Nat} (hi : i < e.length) (h24 : e.length ≤ 24) {n : Int} {l : List Int} (hl : l.length ≤ 13) (hne : l ≠ []) (hm : ∀ t ∈ l, 0 ≤ t ∧ t < 13 ∧ (tileM e i t).isSome = true) {R} {P B : List Int} {s b : Int}
    (hfin : impl_pricesOf.v0 e n ((i + 1 : Nat) : Int) (P.set i s) (B.set i b) = some R) : ∀ (d j : Nat) (x : Option (Int × Int)) (P' B' : List Int), j + d = l.length → P'.length = e.length → B'.length = e.length → Pst i j x P' B' → (∀ k, k < i → P'.getD k 0 = P.getD k 0) →
    P'.set i s = P.set i s → B'.set i b = B.set i b → (l.drop j).foldl (selB e i P) x = some (s, b) → impl_pricesOf.v1 e (i : Int) n (i : Int) l (l.length : Int) (j : Int) P' B' = some R := by
  intro d
  induction d with
  | zero =>
    intro j x P' B' hj hP hB hx hlow h1 h2 hf
    rw [List.drop_eq_nil_of_le (by omega)] at hf
    have hf : x = some (s, b) := hf
    obtain ⟨s', b', q, q1, q2⟩ := hx.yes (by have : 0 < l.length := List.length_pos_iff.2 hne; omega)
    rw [hf] at q
    obtain ⟨rfl, rfl⟩ := Prod.mk.inj (Option.some.inj q)
    rw [set_same q1] at h1
    rw [set_same q2] at h2
    subst h1; subst h2
    refine impl_pricesOf.v1s _ _ _ _ _ _ _ _ _ ?_
    rw [br_f (by simp; omega), next_ok i _ hi (by omega)]
    exact hfin
  | succ d ih =>
    intro j x P' B' hj hP hB hx hlow h1 h2 hf
    have hjl : j < l.length := by omega
    obtain ⟨t0, t13, ts⟩ := hm _ (List.getElem_mem hjl)
    obtain ⟨⟨pp, qq⟩, hpq⟩ := Option.isSome_iff_exists.1 ts
    have hiP : i < P'.length := by omega
    have hiB : i < B'.length := by omega
    have hpr : pp = prts e i l[j] := by unfold prts; rw [hpq]
    rw [drop_at _ _ hjl, List.foldl_cons] at hf
    have hw : wth e i P' l[j] = wth e i P l[j] := wth_same hn hi hlow _
    have htake : ∀ (w : Int), Pst i (j + 1) (some (w, l[j])) (P'.set i w) (B'.set i l[j]) := fun w => ⟨fun q => by omega, fun _ => ⟨w, l[j], rfl, by rw [List.getElem?_set, if_pos rfl, if_pos hiP], by rw [List.getElem?_set, if_pos rfl, if_pos hiB]⟩⟩
    have hgo : ∀ w, (l.drop (j + 1)).foldl (selB e i P) (some (w, l[j])) = some (s, b) → impl_pricesOf.v1 e (i : Int) n (i : Int) l (l.length : Int) ((j + 1 : Nat) : Int) (P'.set i w) (B'.set i l[j]) = some R := fun w hw =>
      ih (j + 1) _ _ _ (by omega) (by rw [List.length_set]; exact hP) (by rw [List.length_set]; exact hB) (htake w) (fun k hk => by rw [set_low hk]; exact hlow k hk) (by rw [List.set_set]; exact h1) (by rw [List.set_set]; exact h2) hw
    refine impl_pricesOf.v1s _ _ _ _ _ _ _ _ _ ?_
    rw [br_t (by simpa using hjl), br_t (by simp), Int.toNat_natCast, gt_at _ hjl, tileAt_v hn hi t0 (by omega), bd_s, tileI_eq hn hi t0 (by omega) hpq, hpr, total_v hn hi hP, bd_s, next_ok j _ hjl (by omega), hw]
    by_cases c0 : j = 0
    · rw [hx.no c0, show selB e i P none l[j] = some (wth e i P l[j], l[j]) from rfl] at hf
      rw [br_t (by simp; omega), br_t (by simp), br_t (by simpa using hiP), Int.toNat_natCast, gt_at _ hiP, br_t (by simp), br_t (by simpa using hiB), gt_at _ hiB]
      exact hgo _ hf
    · obtain ⟨s', b', q, q1, q2⟩ := hx.yes c0
      rw [q] at hf
      rw [br_f (by simp; omega), br_t (by simp), br_t (by simpa using hiP), Int.toNat_natCast, gt_some q1]
      by_cases g : wth e i P l[j] < s'
      · rw [show selB e i P (some (s', b')) l[j] = some (wth e i P l[j], l[j]) from if_pos g] at hf
        rw [br_t (by simpa using g), br_t (by simp), br_t (by simpa using hiP), gt_at _ hiP, br_t (by simp), br_t (by simpa using hiB), gt_at _ hiB]
        exact hgo _ hf
      · rw [show selB e i P (some (s', b')) l[j] = some (s', b') from if_neg g] at hf
        rw [br_f (by simpa using g)]
        exact ih (j + 1) _ _ _ (by omega) hP hB ⟨fun q => by omega, fun _ => ⟨s', b', rfl, q1, q2⟩⟩ hlow h1 h2 hf
theorem cvPrices_in (hn : nodesOk e 0 = true) {i : Nat} (hi : i < e.length) (h24 : e.length ≤ 24) {n : Int} {l : List Int} (hl : l.length ≤ 13) (hne : l ≠ []) {R} {P : List Int} {s b : Int}
    (hfin : spec_cvPrices.v0 e n ((i + 1 : Nat) : Int) (P.set i s) = some R) : ∀ (d j : Nat) (x : Option (Int × Int)) (P' : List Int), j + d = l.length → P'.length = e.length → (j = 0 → x = none) → (j ≠ 0 → ∃ s b, x = some (s, b) ∧ P'[i]? = some s) → (∀ k, k < i → P'.getD k 0 = P.getD k 0) →
    P'.set i s = P.set i s → (l.drop j).foldl (selB e i P) x = some (s, b) → spec_cvPrices.v1 e (i : Int) n (i : Int) l (l.length : Int) (j : Int) P' = some R := by
  intro d
  induction d with
  | zero =>
    intro j x P' hj hP hx0 hx hlow h1 hf
    rw [List.drop_eq_nil_of_le (by omega)] at hf
    have hf : x = some (s, b) := hf
    obtain ⟨s', b', q, q1⟩ := hx (by have : 0 < l.length := List.length_pos_iff.2 hne; omega)
    rw [hf] at q
    obtain ⟨rfl, rfl⟩ := Prod.mk.inj (Option.some.inj q)
    rw [set_same q1] at h1
    subst h1
    refine spec_cvPrices.v1s _ _ _ _ _ _ _ _ ?_
    rw [br_f (by simp; omega), next_ok i _ hi (by omega)]
    exact hfin
  | succ d ih =>
    intro j x P' hj hP hx0 hx hlow h1 hf
    have hjl : j < l.length := by omega
    have hiP : i < P'.length := by omega
    rw [drop_at _ _ hjl, List.foldl_cons] at hf
    have hw : wth e i P' l[j] = wth e i P l[j] := wth_same hn hi hlow _
    have hgo : ∀ w, (l.drop (j + 1)).foldl (selB e i P) (some (w, l[j])) = some (s, b) → spec_cvPrices.v1 e (i : Int) n (i : Int) l (l.length : Int) ((j + 1 : Nat) : Int) (P'.set i w) = some R := fun w hw =>
      ih (j + 1) _ _ (by omega) (by rw [List.length_set]; exact hP) (fun q => by omega) (fun _ => ⟨w, l[j], rfl, by rw [List.getElem?_set, if_pos rfl, if_pos hiP]⟩) (fun k hk => by rw [set_low hk]; exact hlow k hk) (by rw [List.set_set]; exact h1) hw
    refine spec_cvPrices.v1s _ _ _ _ _ _ _ _ ?_
    rw [br_t (by simpa using hjl), br_t (by simp), Int.toNat_natCast, gt_at _ hjl, cvWith_v hn hi hP, bd_s, next_ok j _ hjl (by omega), hw]
    by_cases c0 : j = 0
    · rw [hx0 c0, show selB e i P none l[j] = some (wth e i P l[j], l[j]) from rfl] at hf
      rw [br_t (by simp; omega), br_t (by simp), br_t (by simpa using hiP), Int.toNat_natCast, gt_at _ hiP]
      exact hgo _ hf
    · obtain ⟨s', b', q, q1⟩ := hx c0
      rw [q] at hf
      rw [br_f (by simp; omega), br_t (by simp), br_t (by simpa using hiP), Int.toNat_natCast, gt_some q1]
      by_cases g : wth e i P l[j] < s'
      · rw [show selB e i P (some (s', b')) l[j] = some (wth e i P l[j], l[j]) from if_pos g] at hf
        rw [br_t (by simpa using g), br_t (by simp), br_t (by simpa using hiP), gt_at _ hiP]
        exact hgo _ hf
      · rw [show selB e i P (some (s', b')) l[j] = some (s', b') from if_neg g] at hf
        rw [br_f (by simpa using g)]
        exact ih (j + 1) _ _ (by omega) hP (fun q => by omega) (fun _ => ⟨s', b', rfl, q1⟩) hlow h1 hf
abbrev pz (l : List Int) : List Int × Unit := (l, ())
theorem row_all {P Q : List Int} (h : P.length = e.length) (k : Q.length = e.length) (hv : ∀ j, j < e.length → P[j]? = Q[j]?) : P = Q := List.ext_getElem? fun j => by
  by_cases hj : j < e.length
  · exact hv j hj
  · rw [List.getElem?_eq_none (by omega), List.getElem?_eq_none (by omega)]
theorem prA_upto (hn : nodesOk e 0 = true) {i : Nat} (hi : i < e.length) {P : List Int} (h : ∀ j, j < i → P[j]? = (prices e)[j]?) : prA e i P = prA e i (prices e) :=
  prA_same hn hi (fun k hk => by rw [List.getD_eq_getElem?_getD, h k hk, ← List.getD_eq_getElem?_getD])
theorem cvPrices_v (hn : nodesOk e 0 = true) (h24 : e.length ≤ 24) : spec_cvPrices.v e = some (pz (prices e)) := by
  refine spec_cvPrices.vs _ ?_
  have key : ∀ (d i : Nat) (P : List Int), i + d = e.length → P.length = e.length → (∀ j, j < i → P[j]? = (prices e)[j]?) → spec_cvPrices.v0 e (e.length : Int) (i : Int) P = some (pz (prices e)) := by
    intro d
    induction d with
    | zero =>
      intro i P hi hP h
      refine spec_cvPrices.v0s _ _ _ _ ?_
      rw [br_f (by simp; omega), row_all hP prices_len (fun j hj => h j (by omega))]
    | succ d ih =>
      intro i P hi hP h
      have hie : i < e.length := by omega
      refine spec_cvPrices.v0s _ _ _ _ ?_
      rw [br_t (by simpa using hie), cvTiles_v hn hie, bd_s]
      refine cvPrices_in hn hie h24 (s := (prA e i P).1) (b := (prA e i P).2) (P := P) (tl_len _ _) (tl_some hn hie) (ih (i + 1) _ (by omega) (by rw [List.length_set]; exact hP) ?_) (tl e i 13).length 0 none P (by omega) hP (fun _ => rfl) (fun q => absurd rfl q) (fun _ _ => rfl) rfl (prA_ok hn hie P).1
      intro j hj
      rw [List.getElem?_set]
      by_cases c : i = j
      · subst c; rw [if_pos rfl, if_pos (by omega), prA_upto hn hie h, (price_at hn hie).1]
      · rw [if_neg c]; exact h j (by omega)
  rw [br_t (by simp), br_t (by simp; omega)]
  exact key e.length 0 _ (by omega) (by simp) (fun j hj => by omega)
theorem pricesOf_v (hn : nodesOk e 0 = true) (h24 : e.length ≤ 24) : impl_pricesOf.v e = some (prices e, bests e) := by
  refine impl_pricesOf.vs _ ?_
  have key : ∀ (d i : Nat) (P B : List Int), i + d = e.length → P.length = e.length → B.length = e.length → (∀ j, j < i → P[j]? = (prices e)[j]?) → (∀ j, j < i → B[j]? = (bests e)[j]?) → impl_pricesOf.v0 e (e.length : Int) (i : Int) P B = some (prices e, bests e) := by
    intro d
    induction d with
    | zero =>
      intro i P B hi hP hB h hb
      refine impl_pricesOf.v0s _ _ _ _ _ ?_
      rw [br_f (by simp; omega), row_all hP prices_len (fun j hj => h j (by omega)), row_all hB bests_len (fun j hj => hb j (by omega))]
    | succ d ih =>
      intro i P B hi hP hB h hb
      have hie : i < e.length := by omega
      refine impl_pricesOf.v0s _ _ _ _ _ ?_
      rw [br_t (by simpa using hie), tilesAt_v hn hie, bd_s]
      refine prices_in hn hie h24 (s := (prA e i P).1) (b := (prA e i P).2) (P := P) (B := B) (tl_len _ _) (tl_some hn hie) (fun t ht => tl_mem ht) (ih (i + 1) _ _ (by omega) (by rw [List.length_set]; exact hP) (by rw [List.length_set]; exact hB) ?_ ?_) (tl e i 13).length 0 none P B (by omega) hP hB ⟨fun _ => rfl, fun q => absurd rfl q⟩ (fun _ _ => rfl) rfl rfl (prA_ok hn hie P).1
      · intro j hj
        rw [List.getElem?_set]
        by_cases c : i = j
        · subst c; rw [if_pos rfl, if_pos (by omega), prA_upto hn hie h, (price_at hn hie).1]
        · rw [if_neg c]; exact h j (by omega)
      · intro j hj
        rw [List.getElem?_set]
        by_cases c : i = j
        · subst c; rw [if_pos rfl, if_pos (by omega), prA_upto hn hie h, cvr_get bests_len hie, (price_at hn hie).2]
        · rw [if_neg c]; exact hb j (by omega)
  rw [br_t (by simp), br_t (by simp; omega), br_t (by simp), br_t (by simp; omega)]
  exact key e.length 0 _ _ (by omega) (by simp) (by simp) (fun j hj => by omega) (fun j hj => by omega)
end
end Go.Proofs.YtfpjcfhbecmneaaGreat.Am
end
section
/- The cover with the least cost, what it saves: both sides' answers. -/
namespace Go.Proofs.YtfpjcfhbecmneaaGreat.Am
open Go
set_option linter.unusedVariables false
set_option linter.unusedSimpArgs false
section
variable {e : List Nd}
noncomputable abbrev vB0 (e : List Nd) (P : List Int) (k : Int) (o op : List Int) := spec_cvBest.v0 e k P o op
noncomputable abbrev vB1 (e : List Nd) (P : List Int) (k i : Int) (l : List Int) (n j : Int) (o op : List Int) := spec_cvBest.v1 e k i l n j P o op
theorem best_in (hn : nodesOk e 0 = true) {i k : Nat} (hi : i < e.length) {op P : List Int} (hP : P.length = e.length) {m : Int} (hPi : P[i]? = some m) (hk : k ≤ 282429536481) (hop : op.length ≤ 282429536481) {l : List Int} (hl : l.length ≤ 13) {R} {o : List Int} {b : Int} (hb : (prts e i b).length ≤ 2)
    (hfin : vB0 e P ((k + 1 : Nat) : Int) (o.set i b) (op ++ prts e i b) = some R) : ∀ (d j : Nat) (c : Int) (o' : List Int), j + d = l.length → o'[i]? = some c → o'.set i b = o.set i b → (l.drop j).foldl (selS e i P m) c = b →
    vB1 e P (k : Int) (i : Int) l (l.length : Int) (j : Int) o' op = some R := by
  intro d
  induction d with
  | zero =>
    intro j c o' hj hc ho hf
    have hlt := lt_of_get hc
    rw [List.drop_eq_nil_of_le (by omega)] at hf
    have hf : c = b := hf
    subst hf
    rw [set_same hc] at ho
    subst ho
    refine spec_cvBest.v1s _ _ _ _ _ _ _ _ _ ?_
    rw [br_f (by simp; omega), br_t (by simp), br_t (by simpa using hlt), Int.toNat_natCast, gt_some hc, cvTile_v hn hi, bd_s, told_prts, br_t (by simp; omega), next_ok k (k + 1) (by omega) (by omega)]
    exact hfin
  | succ d ih =>
    intro j c o' hj hc ho hf
    have hlt := lt_of_get hc
    have hjl : j < l.length := by omega
    have hset : ∀ t : Int, (o'.set i t)[i]? = some t := fun t => by rw [List.getElem?_set, if_pos rfl, if_pos hlt]
    have hset2 : ∀ t : Int, (o'.set i t).set i b = o.set i b := fun t => by rw [List.set_set]; exact ho
    rw [drop_at _ _ hjl, List.foldl_cons] at hf
    refine spec_cvBest.v1s _ _ _ _ _ _ _ _ _ ?_
    rw [br_t (by simpa using hjl), br_t (by simp), Int.toNat_natCast, gt_at _ hjl, br_t (by simp), br_t (by simpa using hlt), Int.toNat_natCast, gt_some hc, next_ok j _ hjl (by omega)]
    by_cases c0 : c < 0
    · rw [br_t (by simpa using c0), cvWith_v hn hi hP, bd_s, br_t (by simp), br_t (by simpa using lt_of_get hPi), gt_some hPi]
      by_cases g : wth e i P l[j] = m
      · rw [br_t (by simpa using g), br_t (by simp), br_t (by simpa using hlt), gt_some hc]
        rw [show selS e i P m c l[j] = l[j] from if_pos ⟨c0, g⟩] at hf
        exact ih (j + 1) _ _ (by omega) (hset _) (hset2 _) hf
      · rw [br_f (by simpa using g)]
        rw [show selS e i P m c l[j] = c from if_neg (fun q => g q.2)] at hf
        exact ih (j + 1) _ _ (by omega) hc ho hf
    · rw [br_f (by simpa using c0)]
      rw [show selS e i P m c l[j] = c from if_neg (fun q => c0 q.1)] at hf
      exact ih (j + 1) _ _ (by omega) hc ho hf
theorem best_q (hn : nodesOk e 0 = true) (h1 : 1 ≤ e.length) : ∀ (M : Nat) (o op : List Int) (k : Nat), mq (op.drop k) < M → Bfs e (bests e) o op k → vB0 e (prices e) (k : Int) o op = some (chosen e (bests e))
  | 0, _, _, _, h, _ => by omega
  | M + 1, o, op, k, hM, h => by
    have hb := h.bound
    have hle := h.le
    refine spec_cvBest.v0s _ _ _ _ _ ?_
    by_cases hk : k < op.length
    · have hx := h.ok _ (List.getElem_mem hk)
      obtain ⟨i, hi⟩ := Int.eq_ofNat_of_zero_le hx.1
      rw [hi] at hx
      have hie : i < e.length := by omega
      obtain ⟨hs, hm⟩ := h.step hn h1 (bests_vld hn) hk hi
      obtain ⟨c, hc, hcc⟩ := h.cur hie
      obtain ⟨pa, pb⟩ := price_at hn hie
      obtain ⟨_, hmem, hfold⟩ := prA_ok hn hie (prices e)
      rw [br_t (by simpa using hk), br_t (by simp), br_t (by simpa using hk), Int.toNat_natCast, gt_at _ hk, hi, cvTiles_v hn hie, bd_s]
      refine best_in hn hie (k := k) prices_len pa (by omega) hb (tl_len _ _) (prts_ok hn hie (cvr (bests e) i)).1 (best_q hn h1 M _ _ _ (by omega) hs) (tl e i 13).length 0 c o (by omega) hc rfl ?_
      rw [List.drop_zero]
      rcases hcc with q | q
      · rw [q, hfold, pb]
      · rw [q, pb]; exact selS_keep _ _ (.inl (tl_mem hmem).1)
    · rw [br_f (by simpa using hk), h.done hn h1 hk]
theorem cvBest_v (h1 : nodesOk e 0 = true) (h2 : 1 ≤ e.length) (h3 : e.length ≤ 24) : spec_cvBest.v e = some (chosen e (bests e)) := by
  refine spec_cvBest.vs _ ?_
  rw [cvPrices_v h1 h3, bd_s, cvNone_v h3, bd_s, last_w h2 (by omega)]
  exact best_q h1 h2 _ _ _ 0 (Nat.lt_succ_self _) (Bfs.start h1 h2 h3)
theorem bestCover_v (h1 : nodesOk e 0 = true) (h2 : 1 ≤ e.length) (h3 : e.length ≤ 24) : impl_bestCover.v e = some (chosen e (bests e), ()) := by
  refine impl_bestCover.vs _ ?_
  rw [pricesOf_v h1 h3, bd_s, coverBy_v h1 h2 h3 bests_len (bests_vld h1), bd_s]
def bestA (e : List Nd) : List Int × Bool := if treeOk e = true then (chosen e (bests e), true) else ([], false)
theorem bestA_len (hl : e.length ≤ 1048576) : (bestA e).1.length ≤ 1048576 := by
  unfold bestA
  split
  · rw [chosen_len]; exact hl
  · simp
theorem implBestCover_v (hl : e.length ≤ 1048576) : impl_BestCover.v e = some (bestA e, ()) := by
  refine impl_BestCover.vs _ ?_
  rw [isTree_v e hl, bd_s]; unfold bestA
  by_cases c : treeOk e = true
  · obtain ⟨h1, h2, h3, _⟩ := treeOk_parts c
    rw [if_pos c, c, brn_t, bestCover_v h1 h2 h3, bd_s]
  · rw [if_neg c]; rw [Bool.not_eq_true] at c; rw [c]; rfl
/-! ### what is saved -/
theorem chosen_vld {best : List Int} (hv : ∀ j, j < e.length → vld e best j = true) : ∀ j, j < e.length → 0 ≤ cvr (chosen e best) j → vld e (chosen e best) j = true := by
  intro j hj h0
  have hg := chosen_get (e := e) (best := best) hj
  have hc : cvr (chosen e best) j = if (need e best).contains j = true then cvr best j else -1 := by
    unfold cvr at hg ⊢
    rw [List.getD_eq_getElem?_getD, hg]; rfl
  by_cases c : (need e best).contains j = true
  · rw [if_pos c] at hc
    have := hv j hj
    unfold vld at this ⊢
    rw [hc]; exact this
  · rw [if_neg c] at hc; omega
end
end Go.Proofs.YtfpjcfhbecmneaaGreat.Am
end
section
/- What is drawn off bytes: a cursor, numbers. -/
namespace Go.Proofs.YtfpjcfhbecmneaaGreat.Am
open Go
set_option linter.unusedVariables false
set_option linter.unusedSimpArgs false

abbrev Cur := List Int × Int × Int
/-- a cursor over bytes that stands at n at most -/
def Cu (n : Int) (c : Cur) : Prop := (∀ x ∈ c.1, 0 ≤ x ∧ x ≤ 255) ∧ 0 ≤ c.2.1 ∧ c.2.1 ≤ n
/-- something is drawn -/
def Dr {α : Type} (x : Option (α × Cur)) (n : Int) (P : α → Prop) : Prop := ∃ r c, x = some (r, c) ∧ P r ∧ Cu n c
theorem Cu.mono {n m : Int} {c : Cur} (h : Cu n c) (hm : n ≤ m) : Cu m c := ⟨h.1, h.2.1, by have := h.2.2; omega⟩
section
variable {α β : Type}
theorem Dr.ret {r : α} {c : Cur} {n m : Int} {P : α → Prop} (hc : Cu n c) (hm : n ≤ m) (hr : P r) : Dr (some (r, c)) m P := ⟨r, c, rfl, hr, hc.mono hm⟩
theorem Dr.bd {x : Option (α × Cur)} {g : α × Cur → Option (β × Cur)} {n m : Int} {P : α → Prop} {Q : β → Prop} (h : Dr x n P) (k : ∀ r c, P r → Cu n c → Dr (g (r, c)) m Q) : Dr (Am.bd x g) m Q := by
  obtain ⟨r, c, e, hr, hc⟩ := h
  obtain ⟨s, d, e2, hs, hd⟩ := k r c hr hc
  exact ⟨s, d, by rw [e]; exact e2, hs, hd⟩
theorem Dr.here {γ : Type} {x : Option γ} {v : γ} {g : γ → Option (β × Cur)} {m : Int} {Q : β → Prop} (e : x = some v) (k : Dr (g v) m Q) : Dr (Am.bd x g) m Q := by rw [e]; exact k
theorem Dr.br {b : Bool} {x y : Option (β × Cur)} {m : Int} {Q : β → Prop} (h1 : b = true → Dr x m Q) (h2 : b = false → Dr y m Q) : Dr (Am.br b x y) m Q := by
  cases b with
  | true => exact h1 rfl
  | false => exact h2 rfl
theorem Dr.pos {b : Bool} {x y : Option (β × Cur)} {m : Int} {Q : β → Prop} (hb : b = true) (h : Dr x m Q) : Dr (Am.br b x y) m Q := by rw [br_t hb]; exact h
theorem Dr.neg {b : Bool} {x y : Option (β × Cur)} {m : Int} {Q : β → Prop} (hb : b = false) (h : Dr y m Q) : Dr (Am.br b x y) m Q := by rw [br_f hb]; exact h
theorem Dr.gt {xs : List α} {j : Nat} {f : α → Option (β × Cur)} {m : Int} {Q : β → Prop} (hj : j < xs.length) (h : Dr (f xs[j]) m Q) : Dr (Am.gt xs j f) m Q := by rw [gt_at _ hj]; exact h
theorem Dr.imp {x : Option (α × Cur)} {n m : Int} {P Q : α → Prop} (h : Dr x n P) (hm : n ≤ m) (hp : ∀ r, P r → Q r) : Dr x m Q := by
  obtain ⟨r, c, e, hr, hc⟩ := h
  exact ⟨r, c, e, hp r hr, hc.mono hm⟩
end
theorem byteAnd (x : Int) : 0 ≤ IntKind.wrap .i64 (IntKind.wrap .u64 (((BitVec.toNat ((BitVec.ofInt 64 x) &&& (BitVec.ofInt 64 (255 : Int)))) : Nat) : Int)) ∧ IntKind.wrap .i64 (IntKind.wrap .u64 (((BitVec.toNat ((BitVec.ofInt 64 x) &&& (BitVec.ofInt 64 (255 : Int)))) : Nat) : Int)) ≤ 255 := by
  have h : (BitVec.toNat ((BitVec.ofInt 64 x) &&& (BitVec.ofInt 64 (255 : Int)))) ≤ 255 := by
    rw [BitVec.toNat_and]
    exact Nat.and_le_right
  have hu : ∀ n : Nat, n ≤ 255 → IntKind.wrap .u64 (n : Int) = (n : Int) := by
    intro n hn
    exact IntWalk.u64_in _ ⟨by omega, by omega⟩
  rw [hu _ h, wrap_ok (by omega) (by omega)]
  omega
theorem next_d {n : Int} {c : Cur} (h : Cu n c) (hn : n ≤ 9000000000000000000) : Dr (spec_l1Cur_next.f c.1 c.2.1 c.2.2) (n + 1) fun r => 0 ≤ r ∧ r ≤ 255 := by
  obtain ⟨h1, h2, h3⟩ := h
  rw [spec_l1Cur_next.eq, wrap_ok (x := c.2.1 + 1) (by omega) (by omega)]
  refine Dr.br (fun e => ?_) fun e => ?_
  · have e := of_decide_eq_true e
    have hj : c.2.1.toNat < c.1.length := by omega
    have hb := h1 _ (List.getElem_mem hj)
    refine Dr.pos (decide_eq_true h2) (Dr.gt hj (Dr.pos (decide_eq_true (by omega)) ⟨_, _, rfl, ?_, h1, ?_, ?_⟩))
    · rw [wrap_ok (by omega) (by omega)]; exact hb
    · show 0 ≤ c.2.1 + 1; omega
    · show c.2.1 + 1 ≤ n + 1; omega
  · have e := of_decide_eq_false e
    refine Dr.neg (decide_eq_false (by omega)) ⟨_, _, rfl, byteAnd _, h1, ?_, ?_⟩
    · show 0 ≤ c.2.1 + 1; omega
    · show c.2.1 + 1 ≤ n + 1; omega
theorem tmod_b {x a : Int} (hx : 0 ≤ x) (ha : 1 ≤ a) : 0 ≤ Int.tmod x a ∧ Int.tmod x a < a := ⟨Int.tmod_nonneg _ hx, Int.tmod_lt_of_pos _ (by omega)⟩
theorem pick_d (a : Int) {n : Int} {c : Cur} (h : Cu n c) (hn : n ≤ 8999999999999999990) : Dr (spec_l1Cur_pick.f a c.1 c.2.1 c.2.2) (n + 2) fun r => 0 ≤ r ∧ (1 ≤ a → r < a) := by
  rw [spec_l1Cur_pick.eq]
  refine Dr.br (fun e => ?_) fun e => ?_
  · have e := of_decide_eq_true e
    exact ⟨0, c, rfl, ⟨by omega, by omega⟩, h.mono (by omega)⟩
  · have e := of_decide_eq_false e
    have ne : ¬ a = 0 := by omega
    refine Dr.bd (next_d h (by omega)) fun r c1 hr hc => ?_
    refine Dr.br (fun e2 => ?_) fun e2 => ?_
    · refine Dr.bd (next_d hc (by omega)) fun s c2 hs hc2 => ?_
      refine Dr.pos (by simpa using ne) ?_
      dsimp only
      refine ⟨_, _, rfl, ?_, hc2.mono (by omega)⟩
      rw [wrap_ok (x := r * 256) (by omega) (by omega), wrap_ok (by omega) (by omega)]
      have := tmod_b (x := r * 256 + s) (a := a) (by omega) (by omega)
      exact ⟨this.1, fun _ => this.2⟩
    · refine Dr.pos (by simpa using ne) ⟨_, _, rfl, ?_, hc.mono (by omega)⟩
      have := tmod_b (x := r) (a := a) (by omega) (by omega)
      exact ⟨this.1, fun _ => this.2⟩
theorem one_d (a : Int) {n : Int} {c : Cur} (h : Cu n c) (hn : n ≤ 8999999999999999990) : Dr (spec_l1Cur_one.f a c.1 c.2.1 c.2.2) (n + 2) fun _ => True := by
  rw [spec_l1Cur_one.eq]
  exact Dr.bd (pick_d a h hn) fun r c1 hr hc => Dr.ret hc (by omega) trivial
theorem of_d (l : List ByteArray) (hl : 1 ≤ l.length) {n : Int} {c : Cur} (h : Cu n c) (hn : n ≤ 8999999999999999990) : Dr (spec_l1Cur_of.f l c.1 c.2.1 c.2.2) (n + 2) fun r => r ∈ l := by
  rw [spec_l1Cur_of.eq]
  refine Dr.bd (pick_d _ h hn) fun r c1 hr hc => ?_
  have := hr.2 (by omega)
  refine Dr.pos (decide_eq_true hr.1) (Dr.gt (show (r : Int).toNat < l.length by omega) (Dr.ret hc (by omega) (List.getElem_mem _)))
theorem among_d (l : List Int) (hl : 1 ≤ l.length) {n : Int} {c : Cur} (h : Cu n c) (hn : n ≤ 8999999999999999990) : Dr (spec_l1Cur_among.f l c.1 c.2.1 c.2.2) (n + 2) fun r => r ∈ l := by
  rw [spec_l1Cur_among.eq]
  refine Dr.bd (pick_d _ h hn) fun r c1 hr hc => ?_
  have := hr.2 (by omega)
  refine Dr.pos (decide_eq_true hr.1) (Dr.gt (show (r : Int).toNat < l.length by omega) (Dr.ret hc (by omega) (List.getElem_mem _)))
theorem word_d {n : Int} {c : Cur} (h : Cu n c) (hn : n ≤ 999999980) : Dr (spec_l1Cur_word.f c.1 c.2.1 c.2.2) (n + 4) fun r => 0 ≤ r ∧ r ≤ 63 := by
  rw [spec_l1Cur_word.eq]
  refine Dr.bd (one_d 2 h (by omega)) fun r c1 hr hc => Dr.br (fun _ => ?_) fun _ => ?_
  · refine Dr.bd (among_d _ (by simp) hc (by omega)) fun r c2 hr hc2 => Dr.ret hc2 (by omega) ?_
    simp only [List.mem_cons, List.not_mem_nil, or_false] at hr
    omega
  · refine Dr.bd (pick_d 64 hc (by omega)) fun r c2 hr hc2 => Dr.ret hc2 (by omega) ?_
    have := hr.2 (by omega)
    omega
theorem dr_v {α : Type} {v : Option (α × Cur)} {n : Int} {P : α → Prop} {x : Option (α × Cur)} (h : Dr x n P) (vs : ∀ r, x = some r → v = some r) : Dr v n P := by
  obtain ⟨r, c, e, hr, hc⟩ := h
  exact ⟨r, c, vs _ e, hr, hc⟩
def Bytes (l : List Int) : Prop := ∀ x ∈ l, 0 ≤ x ∧ x ≤ 255
theorem Bytes.cu {l : List Int} (h : Bytes l) : Cu 0 (l, 0, 0) := ⟨h, by dsimp only; omega, by dsimp only; omega⟩
end Go.Proofs.YtfpjcfhbecmneaaGreat.Am
end
section
/- Expressions that are drawn off bytes: there is always an answer, of a bounded size. -/
namespace Go.Proofs.YtfpjcfhbecmneaaGreat.Am
open Go
set_option linter.unusedVariables false
set_option linter.unusedSimpArgs false

theorem leaf_d {n : Int} {c : Cur} (h : Cu n c) (hn : n ≤ 999999900) : Dr (spec_l1Cur_leaf.f c.1 c.2.1 c.2.2) (n + 6) fun _ => True := by
  rw [spec_l1Cur_leaf.eq]
  refine Dr.bd (one_d 3 h (by omega)) fun r c1 hr hc => Dr.br (fun _ => ?_) fun _ => ?_
  · exact Dr.bd (word_d hc (by omega)) fun r c2 hr hc2 => Dr.ret hc2 (by omega) trivial
  · exact Dr.bd (pick_d 2 hc (by omega)) fun r c2 hr hc2 => Dr.ret hc2 (by omega) trivial
theorem put_d (x : Nd) (s : Bool) (o : List Nd) (ho : o.length ≤ 100000) : ∃ (i : Int) (o' : List Nd), spec_exBuilt_put.v x s o = some (i, (((), s), o')) ∧ o'.length ≤ o.length + 1 := by
  have room : ∀ y : Nd, decide (o.length + [y].length ≤ 35184372088832 / (40 + 1)) = true := fun y => decide_eq_true (by simp; omega)
  have key : ∀ (d i : Nat), i + d = o.length → ∃ (j : Int) (o' : List Nd), spec_exBuilt_put.v0 (o.length : Int) (i : Int) s o x.1 x.2.1 x.2.2.1 x.2.2.2 = some (j, (((), s), o')) ∧ o'.length ≤ o.length + 1 := by
    intro d
    induction d with
    | zero =>
      intro i hi
      exact ⟨IntKind.wrap .i64 ((((o ++ [x]).length : Nat) : Int) - 1), o ++ [x], spec_exBuilt_put.v0s _ _ _ _ _ _ _ _ (by rw [br_f (by simp; omega), br_t (room _)]), by simp⟩
    | succ d ih =>
      intro i hi
      have hlt : i < o.length := by omega
      obtain ⟨j, o', hv, hl⟩ := ih (i + 1) (by omega)
      cases hb : ((o[i].1 == x.1) && ((o[i].2.1 == x.2.1) && ((o[i].2.2.1 == x.2.2.1) && ((o[i].2.2.2 == x.2.2.2) && true)))) with
      | true => exact ⟨i, o, spec_exBuilt_put.v0s _ _ _ _ _ _ _ _ (by rw [br_t (by simpa using hlt), br_t (by simp), br_t (by simpa using hlt), Int.toNat_natCast, gt_at _ hlt, hb, br_t rfl]), by omega⟩
      | false => exact ⟨j, o', spec_exBuilt_put.v0s _ _ _ _ _ _ _ _ (by rw [br_t (by simpa using hlt), br_t (by simp), br_t (by simpa using hlt), Int.toNat_natCast, gt_at _ hlt, hb, br_f rfl, next_ok i _ hlt (by omega), hv]), hl⟩
  cases s with
  | true =>
    obtain ⟨j, o', hv, hl⟩ := key o.length 0 (by omega)
    exact ⟨j, o', spec_exBuilt_put.vs _ _ _ (by rw [br_t rfl]; exact hv), hl⟩
  | false => exact ⟨_, _, spec_exBuilt_put.vs _ _ _ (by rw [br_f rfl, br_t (room _)]), by simp⟩
/-- trees of a depth at most: so many bytes, so many nodes -/
def TreeD (F : Int → List Int → Int → Int → Bool → List Nd → Option (Int × (Cur × ((Unit × Bool) × List Nd)))) (d K : Int) (G : Nat) : Prop :=
  ∀ (n : Int) (c : Cur) (s : Bool) (o : List Nd), Cu n c → n + 4 * K + 100 ≤ 900000000 → o.length ≤ 50000 → ∃ (i : Int) (c' : Cur) (o' : List Nd), F d c.1 c.2.1 c.2.2 s o = some (i, (c', (((), s), o'))) ∧ Cu (n + K) c' ∧ o'.length ≤ o.length + G
theorem tree_zero : TreeD spec_l1Cur_tree.v 0 6 1 := by
  intro n c s o hc hn ho
  obtain ⟨x, c1, e1, _, hc1⟩ := leaf_d hc (by omega)
  obtain ⟨i, o1, e2, hl⟩ := put_d x s o (by omega)
  exact ⟨i, c1, o1, spec_l1Cur_tree.vs _ _ _ _ _ _ (by rw [br_t (show ((0 : Int) == 0) = true from rfl), e1, bd_s, e2, bd_s]), hc1, hl⟩
theorem tree_succ {d K : Int} {G : Nat} (h : TreeD spec_l1Cur_tree.v d K G) (hd : 0 ≤ d) (hd1 : d ≤ 100) (hK : 0 ≤ K) (hK1 : K ≤ 10000) (hG : G ≤ 10000) : TreeD spec_l1Cur_tree.v (d + 1) (2 * K + 20) (2 * G + 1) := by
  intro n c s o hc hn ho
  have w : IntKind.wrap .i64 ((d + 1) - 1) = d := by rw [wrap_ok (by omega) (by omega)]; omega
  have nz : ((d + 1 : Int) == 0) = false := by simp; omega
  have leaf : ∀ {m : Int} {c0 : Cur}, Cu m c0 → m ≤ n + 2 → ∃ (i : Int) (c' : Cur) (o' : List Nd), (bd (spec_l1Cur_leaf.f c0.1 c0.2.1 c0.2.2) fun r0 => (bd (spec_exBuilt_put.v r0.1 s o) fun r1 => (some (r1.1, (r0.2, (((), r1.2.1.2), r1.2.2)))))) = some (i, (c', (((), s), o'))) ∧ Cu (n + (2 * K + 20)) c' ∧ o'.length ≤ o.length + (2 * G + 1) := by
    intro m c0 h0 hm
    obtain ⟨x, c1, e1, _, hc1⟩ := leaf_d h0 (by omega)
    obtain ⟨i, o1, e2, hl⟩ := put_d x s o (by omega)
    exact ⟨i, c1, o1, by rw [e1, bd_s, e2, bd_s], hc1.mono (by omega), by omega⟩
  by_cases h16 : (o.length : Int) > 16
  · obtain ⟨i, c', o', e, h1, h2⟩ := leaf hc (by omega)
    exact ⟨i, c', o', spec_l1Cur_tree.vs _ _ _ _ _ _ (by rw [br_f nz, br_t (decide_eq_true h16)]; exact e), h1, h2⟩
  obtain ⟨b4, c4, e4, _, hc4⟩ := one_d 4 hc (by omega)
  cases b4 with
  | true =>
    obtain ⟨i, c', o', e, h1, h2⟩ := leaf hc4 (by omega)
    exact ⟨i, c', o', spec_l1Cur_tree.vs _ _ _ _ _ _ (by rw [br_f nz, br_f (decide_eq_false h16), e4, bd_s, br_t rfl]; exact e), h1, h2⟩
  | false =>
    obtain ⟨b7, c7, e7, _, hc7⟩ := one_d 5 hc4 (by omega)
    cases b7 with
    | true =>
      obtain ⟨s8, c8, e8, _, hc8⟩ := of_d [(⟨#[110, 111, 116]⟩ : ByteArray), (⟨#[110, 101, 103]⟩ : ByteArray)] (by simp) hc7 (by omega)
      obtain ⟨i9, c9, o9, e9, hc9, l9⟩ := h _ c8 s o hc8 (by omega) ho
      obtain ⟨i, o1, e10, hl⟩ := put_d (s8, (i9, (0, 0))) s o9 (by omega)
      refine ⟨i, c9, o1, spec_l1Cur_tree.vs _ _ _ _ _ _ ?_, hc9.mono (by omega), by omega⟩
      rw [br_f nz, br_f (decide_eq_false h16), e4, bd_s, br_f rfl, e7, bd_s, br_t rfl, e8, bd_s, w]
      dsimp only
      rw [e9, bd_s]
      dsimp only
      rw [e10, bd_s]
    | false =>
      obtain ⟨s12, c12, e12, _, hc12⟩ := of_d opsL (by decide) hc7 (by omega)
      obtain ⟨i13, c13, o13, e13, hc13, l13⟩ := h _ c12 s o hc12 (by omega) ho
      obtain ⟨i14, c14, o14, e14, hc14, l14⟩ := h _ c13 s o13 hc13 (by omega) (by omega)
      obtain ⟨i, o1, e15, hl⟩ := put_d (s12, (i13, (i14, 0))) s o14 (by omega)
      refine ⟨i, c14, o1, spec_l1Cur_tree.vs _ _ _ _ _ _ ?_, hc14.mono (by omega), by omega⟩
      rw [br_f nz, br_f (decide_eq_false h16), e4, bd_s, br_f rfl, e7, bd_s, br_f rfl, show spec_exOps.f = some opsL from spec_exOps.eq, bd_s, e12, bd_s, w]
      dsimp only
      rw [e13, bd_s]
      dsimp only
      rw [e14, bd_s]
      dsimp only
      rw [e15, bd_s]
theorem tree3 : TreeD spec_l1Cur_tree.v 3 188 15 := tree_succ (tree_succ (tree_succ tree_zero (by omega) (by omega) (by omega) (by omega) (by omega)) (by omega) (by omega) (by omega) (by omega) (by omega)) (by omega) (by omega) (by omega) (by omega) (by omega)
theorem expr_d {n : Int} {c : Cur} (h : Cu n c) (hn : n ≤ 800000000) : Dr (spec_l1Cur_expr.v 3 c.1 c.2.1 c.2.2) (n + 200) fun r => 1 ≤ r.length ∧ r.length ≤ 24 := by
  refine dr_v ?_ fun r => spec_l1Cur_expr.vs 3 c.1 c.2.1 c.2.2
  refine Dr.bd (one_d 2 h (by omega)) fun b c1 _ hc1 => ?_
  refine dr_v ?_ fun r => spec_l1Cur_expr.v0s _ _ _ _ _ _
  obtain ⟨i, c2, o, e, hc2, hl⟩ := tree3 _ c1 b [] hc1 (by omega) (by simp)
  have hl : o.length ≤ 15 := by simpa using hl
  rw [e, bd_s]
  dsimp only
  rw [exGood_v o (by omega), bd_s]
  cases hg : exprOk o with
  | false => rw [brn_f]; exact Dr.ret hc2 (by omega) ⟨by simp, by simp⟩
  | true =>
    obtain ⟨_, l1, l2⟩ := exprOk_parts hg
    rw [brn_t]; exact Dr.ret hc2 (by omega) ⟨l1, l2⟩
theorem anyExpr_d {n : Int} {c : Cur} (h : Cu n c) (hn : n ≤ 700000000) : Dr (spec_l1Cur_anyExpr.v 3 c.1 c.2.1 c.2.2) (n + 400) fun r => r.length ≤ 60 := by
  refine dr_v ?_ fun r => spec_l1Cur_anyExpr.vs 3 c.1 c.2.1 c.2.2
  refine Dr.bd (expr_d h (by omega)) fun e c0 he hc0 => Dr.bd (pick_d 16 hc0 (by omega)) fun r1 c1 hr1 hc1 => ?_
  have rm : ∀ (o : List Nd) (y : Nd), o.length ≤ 1000 → decide (o.length + [y].length ≤ 35184372088832 / (40 + 1)) = true := fun o y ho => decide_eq_true (by simp; omega)
  refine Dr.br (fun _ => ?_) fun _ => Dr.br (fun _ => ?_) fun _ => Dr.br (fun _ => ?_) fun _ => Dr.br (fun _ => ?_) fun _ => Dr.br (fun _ => ?_) fun _ => Dr.br (fun _ => ?_) fun _ => ?_
  · refine Dr.bd (pick_d _ hc1 (by omega)) fun r2 c2 hr2 hc2 => Dr.bd (pick_d _ hc2 (by omega)) fun r3 c3 hr3 hc3 => ?_
    have hlt : r2 < (e.length : Int) := hr2.2 (by dsimp only; omega)
    exact Dr.pos (decide_eq_true hr2.1) (Dr.pos (decide_eq_true hlt) (Dr.gt (show r2.toNat < e.length by omega) (Dr.ret hc3 (by omega) (by dsimp only; rw [List.length_set]; omega))))
  · refine Dr.bd (pick_d _ hc1 (by omega)) fun r2 c2 hr2 hc2 => Dr.bd (of_d _ (by simp) hc2 (by omega)) fun r3 c3 hr3 hc3 => ?_
    have hlt : r2 < (e.length : Int) := hr2.2 (by dsimp only; omega)
    exact Dr.pos (decide_eq_true hr2.1) (Dr.pos (decide_eq_true hlt) (Dr.gt (show r2.toNat < e.length by omega) (Dr.ret hc3 (by omega) (by dsimp only; rw [List.length_set]; omega))))
  · refine Dr.bd (pick_d _ hc1 (by omega)) fun r2 c2 hr2 hc2 => Dr.bd (among_d _ (by simp) hc2 (by omega)) fun r3 c3 hr3 hc3 => ?_
    have hlt : r2 < (e.length : Int) := hr2.2 (by dsimp only; omega)
    exact Dr.pos (decide_eq_true hr2.1) (Dr.pos (decide_eq_true hlt) (Dr.gt (show r2.toNat < e.length by omega) (Dr.ret hc3 (by omega) (by dsimp only; rw [List.length_set]; omega))))
  · exact Dr.pos (rm _ _ (by dsimp only; omega)) (Dr.ret hc1 (by omega) (by simp; omega))
  · have key : ∀ (d : Nat) (l : List Nd) (m : Int) (c : Cur), l.length + d = 26 → Cu m c → m + 2 * d ≤ n + 300 → Dr (spec_l1Cur_anyExpr.v0 c.1 c.2.1 c.2.2 l) (n + 400) fun r => r.length ≤ 60 := by
      intro d
      induction d with
      | zero =>
        intro l m c hl hc hm
        refine dr_v ?_ fun r => spec_l1Cur_anyExpr.v0s c.1 c.2.1 c.2.2 l
        refine Dr.bd (pick_d 2 hc (by omega)) fun r c1 hr hc1 => ?_
        have := hr.2 (by omega)
        refine Dr.neg (decide_eq_false (by rw [wrap_ok (by dsimp only; omega) (by dsimp only; omega)]; dsimp only; omega)) (Dr.ret hc1 (by omega) (by omega))
      | succ d ih =>
        intro l m c hl hc hm
        refine dr_v ?_ fun r => spec_l1Cur_anyExpr.v0s c.1 c.2.1 c.2.2 l
        refine Dr.bd (pick_d 2 hc (by omega)) fun r c1 hr hc1 => Dr.br (fun _ => ?_) fun _ => Dr.ret hc1 (by omega) (by omega)
        exact Dr.pos (rm _ _ (by omega)) (ih _ _ c1 (by simp; omega) hc1 (by omega))
    exact key 25 _ _ c1 (by simp) hc1 (by omega)
  · exact Dr.ret hc1 (by omega) (by simp)
  · exact Dr.ret hc1 (by omega) (by dsimp only; omega)
theorem tileTree_zero : TreeD spec_l1Cur_tileTree.v 0 6 1 := by
  intro n c s o hc hn ho
  obtain ⟨x, c1, e1, _, hc1⟩ := leaf_d hc (by omega)
  obtain ⟨i, o1, e2, hl⟩ := put_d x s o (by omega)
  exact ⟨i, c1, o1, spec_l1Cur_tileTree.vs _ _ _ _ _ _ (by rw [br_t (show ((0 : Int) == 0) = true from rfl), e1, bd_s, e2, bd_s]), hc1, hl⟩
theorem tileTree_succ {d K : Int} {G : Nat} (h : TreeD spec_l1Cur_tileTree.v d K G) (hd : 0 ≤ d) (hd1 : d ≤ 100) (hK : 0 ≤ K) (hK1 : K ≤ 10000) (hG : G ≤ 10000) : TreeD spec_l1Cur_tileTree.v (d + 1) (2 * K + 20) (2 * G + 2) := by
  intro n c s o hc hn ho
  have w : IntKind.wrap .i64 ((d + 1) - 1) = d := by rw [wrap_ok (by omega) (by omega)]; omega
  have nz : ((d + 1 : Int) == 0) = false := by simp; omega
  have leaf : ∀ {m : Int} {c0 : Cur}, Cu m c0 → m ≤ n + 2 → ∃ (i : Int) (c' : Cur) (o' : List Nd), (bd (spec_l1Cur_leaf.f c0.1 c0.2.1 c0.2.2) fun r0 => (bd (spec_exBuilt_put.v r0.1 s o) fun r1 => (some (r1.1, (r0.2, (((), r1.2.1.2), r1.2.2)))))) = some (i, (c', (((), s), o'))) ∧ Cu (n + (2 * K + 20)) c' ∧ o'.length ≤ o.length + (2 * G + 2) := by
    intro m c0 h0 hm
    obtain ⟨x, c1, e1, _, hc1⟩ := leaf_d h0 (by omega)
    obtain ⟨i, o1, e2, hl⟩ := put_d x s o (by omega)
    exact ⟨i, c1, o1, by rw [e1, bd_s, e2, bd_s], hc1.mono (by omega), by omega⟩
  by_cases h16 : (o.length : Int) > 14
  · obtain ⟨i, c', o', e, h1, h2⟩ := leaf hc (by omega)
    exact ⟨i, c', o', spec_l1Cur_tileTree.vs _ _ _ _ _ _ (by rw [br_f nz, br_t (decide_eq_true h16)]; exact e), h1, h2⟩
  obtain ⟨b4, c4, e4, _, hc4⟩ := one_d 5 hc (by omega)
  cases b4 with
  | true =>
    obtain ⟨i, c', o', e, h1, h2⟩ := leaf hc4 (by omega)
    exact ⟨i, c', o', spec_l1Cur_tileTree.vs _ _ _ _ _ _ (by rw [br_f nz, br_f (decide_eq_false h16), e4, bd_s, br_t rfl]; exact e), h1, h2⟩
  | false =>
    obtain ⟨s7, c7, e7, _, hc7⟩ := of_d [(⟨#[97, 100, 100]⟩ : ByteArray), (⟨#[97, 100, 100]⟩ : ByteArray), (⟨#[115, 117, 98]⟩ : ByteArray), (⟨#[97, 110, 100]⟩ : ByteArray), (⟨#[120, 111, 114]⟩ : ByteArray), (⟨#[115, 104, 108]⟩ : ByteArray), (⟨#[115, 104, 114]⟩ : ByteArray), (⟨#[109, 117, 108]⟩ : ByteArray), (⟨#[109, 117, 108]⟩ : ByteArray), (⟨#[111, 114]⟩ : ByteArray), (⟨#[108, 101, 115, 115]⟩ : ByteArray)] (by simp) hc4 (by omega)
    obtain ⟨b8, c8, e8, _, hc8⟩ := one_d 2 hc7 (by omega)
    obtain ⟨i9, c9, o9, e9, hc9, l9⟩ := h _ c8 s o hc8 (by omega) ho
    cases b8 with
    | true =>
      obtain ⟨v10, c10, e10, _, hc10⟩ := among_d [1, 2, 2, 3, 4, 5, 8, 16, 63] (by simp) hc9 (by omega)
      obtain ⟨i11, o11, e11, l11⟩ := put_d ((⟨#[99, 111, 110, 115, 116]⟩ : ByteArray), (0, (0, v10))) s o9 (by omega)
      obtain ⟨i12, o12, e12, l12⟩ := put_d (s7, (i9, (i11, 0))) s o11 (by omega)
      refine ⟨i12, c10, o12, spec_l1Cur_tileTree.vs _ _ _ _ _ _ ?_, hc10.mono (by omega), by omega⟩
      rw [br_f nz, br_f (decide_eq_false h16), e4, bd_s, br_f rfl, e7, bd_s, e8, bd_s, br_t rfl, w]
      dsimp only
      rw [e9, bd_s]
      dsimp only
      rw [e10, bd_s]
      dsimp only
      rw [e11, bd_s]
      dsimp only
      rw [e12, bd_s]
    | false =>
      obtain ⟨i14, c14, o14, e14, hc14, l14⟩ := h _ c9 s o9 hc9 (by omega) (by omega)
      obtain ⟨i, o1, e15, hl⟩ := put_d (s7, (i9, (i14, 0))) s o14 (by omega)
      refine ⟨i, c14, o1, spec_l1Cur_tileTree.vs _ _ _ _ _ _ ?_, hc14.mono (by omega), by omega⟩
      rw [br_f nz, br_f (decide_eq_false h16), e4, bd_s, br_f rfl, e7, bd_s, e8, bd_s, br_f rfl, w]
      dsimp only
      rw [e9, bd_s]
      dsimp only
      rw [e14, bd_s]
      dsimp only
      rw [e15, bd_s]
theorem tileTree4 : TreeD spec_l1Cur_tileTree.v 4 396 46 := tileTree_succ (tileTree_succ (tileTree_succ (tileTree_succ tileTree_zero (by omega) (by omega) (by omega) (by omega) (by omega)) (by omega) (by omega) (by omega) (by omega) (by omega)) (by omega) (by omega) (by omega) (by omega) (by omega)) (by omega) (by omega) (by omega) (by omega) (by omega)
theorem trees_d {n : Int} {c : Cur} (h : Cu n c) (hn : n ≤ 600000000) : Dr (spec_l1Cur_trees.v c.1 c.2.1 c.2.2) (n + 1000) fun r => r.length ≤ 60 := by
  refine dr_v ?_ fun r => spec_l1Cur_trees.vs c.1 c.2.1 c.2.2
  refine dr_v ?_ fun r => spec_l1Cur_trees.v0s _ _ _ _ _
  obtain ⟨i, c2, o, e, hc2, hl⟩ := tileTree4 _ c false [] h (by omega) (by simp)
  have hl : o.length ≤ 46 := by simpa using hl
  rw [e, bd_s]
  refine Dr.bd (one_d 8 hc2 (by omega)) fun b c3 _ hc3 => Dr.br (fun _ => ?_) fun _ => ?_
  · exact Dr.bd (anyExpr_d hc3 (by omega)) fun r c4 hr hc4 => Dr.ret hc4 (by omega) hr
  · refine Dr.here (exGood_v o (by omega)) (Dr.br (fun _ => ?_) fun _ => ?_)
    · exact Dr.bd (anyExpr_d hc3 (by omega)) fun r c4 hr hc4 => Dr.ret hc4 (by omega) hr
    · exact Dr.ret hc3 (by omega) (by dsimp only; omega)
end Go.Proofs.YtfpjcfhbecmneaaGreat.Am
end
section
/- What laws over draws do: rows compared, sizes measured, numbers looked for. -/
namespace Go.Proofs.YtfpjcfhbecmneaaGreat.Am
open Go
set_option linter.unusedVariables false
set_option linter.unusedSimpArgs false

/-! ### rows that are compared -/
def sameI (a b : List Int) : Bool := decide (a = b)
theorem sameI_cons (x y : Int) (a b : List Int) : sameI (x :: a) (y :: b) = (decide (x = y) && sameI a b) := by
  unfold sameI
  rw [Bool.eq_iff_iff]; simp
theorem pSame_v (a b : List Int) (ha : a.length ≤ 1000000) : laws_pSame.v a b = some (sameI a b) := by
  have key : ∀ (d i : Nat), i + d = a.length → a.length = b.length → laws_pSame.v0 a b (a.length : Int) (i : Int) = some (sameI (a.drop i) (b.drop i)) := by
    intro d
    induction d with
    | zero =>
      intro i hi hab
      refine laws_pSame.v0s _ _ _ _ ?_
      rw [br_f (by simp; omega), List.drop_eq_nil_of_le (by omega), List.drop_eq_nil_of_le (by omega)]; rfl
    | succ d ih =>
      intro i hi hab
      have hlt : i < a.length := by omega
      have hlb : i < b.length := by omega
      refine laws_pSame.v0s _ _ _ _ ?_
      rw [br_t (by simpa using hlt), br_t (by simp), Int.toNat_natCast, gt_at _ hlt, br_t (by simp), gt_at _ hlb, drop_at _ _ hlt, drop_at _ _ hlb]
      by_cases c : a[i] = b[i]
      · rw [br_f (by simpa using c), next_ok i _ hlt (by omega), ih (i + 1) (by omega) hab, sameI_cons, decide_eq_true c, Bool.true_and]
      · rw [br_t (by simpa using c), sameI_cons, decide_eq_false c, Bool.false_and]
  refine laws_pSame.vs _ _ ?_
  by_cases h : a.length = b.length
  · rw [br_f (by simp; omega)]
    have := key a.length 0 (by omega) h
    simpa using this
  · rw [br_t (by simp; omega)]
    unfold sameI; rw [Option.some_inj, eq_comm, decide_eq_false_iff_not]
    intro e; exact h (by rw [e])
theorem pSame_self (a : List Int) (ha : a.length ≤ 1000000) : laws_pSame.v a a = some true := by rw [pSame_v a a ha]; simp [sameI]
/-- draws of no size -/
theorem big_f (a b : List Int) : ∃ r, laws_big.f a b = some r ∧ (r = false → a.length ≤ 1048576 ∧ b.length ≤ 1048576) := by
  rw [laws_big.eq]
  by_cases h : (a.length : Int) > 1048576
  · exact ⟨true, br_t (decide_eq_true h), by simp⟩
  · refine ⟨_, br_f (decide_eq_false h), fun e => ?_⟩
    rw [wrap_ok (by omega) (by omega)] at e
    have := of_decide_eq_false e
    omega
theorem bytes_of {l : List Int} (q : Qd (.sl (.i .u8)) l) : Bytes l := fun x hx => by
  have h := q.2 x hx
  simp only [Qd, Lit.wf] at h
  simpa [IntKind.min, IntKind.max, IntKind.bits, IntKind.signed] using h
end Go.Proofs.YtfpjcfhbecmneaaGreat.Am
end
section
/- Trees with covers that are drawn. -/
namespace Go.Proofs.YtfpjcfhbecmneaaGreat.Am
open Go
set_option linter.unusedVariables false
set_option linter.unusedSimpArgs false
section
variable {e : List Nd}
theorem cov_tail (hn : nodesOk e 0 = true) (h1 : 1 ≤ e.length) (h24 : e.length ≤ 24) {n : Int} {c : Cur} (hc : Cu n c) (hnn : n ≤ 1000000000000) {o : List Int} (ho : o.length = e.length) :
    Dr (bd (spec_l1Cur_pick.f (10 : Int) c.1 c.2.1 c.2.2) fun r14 => (br (r14.1 == (0 : Int)) (bd (spec_l1Cur_pick.f (o.length : Int) r14.2.1 r14.2.2.1 r14.2.2.2) fun r15 => (bd (spec_l1Cur_pick.f (16 : Int) r15.2.1 r15.2.2.1 r15.2.2.2) fun r16 => (br (decide ((0 : Int) ≤ r15.1)) (br (decide (r15.1 < (o.length : Int))) (gt o r15.1.toNat fun r17 => (some ((e, (List.set o r15.1.toNat (IntKind.wrap .i64 (r16.1 - (2 : Int))))), r16.2))) none) none))) (br (r14.1 == (1 : Int)) (br (decide ((o.length + (List.length ((-1 : Int) :: []))) ≤ (35184372088832 / (8 + 1)))) (some ((e, (o ++ ((-1 : Int) :: []))), r14.2)) none) (br (r14.1 == (2 : Int)) (bd (spec_cvBest.v e) fun r18 => (some ((e, r18), r14.2))) (some ((e, o), r14.2)))))) (n + 10) fun r => r.1.length ≤ 60 ∧ r.2.length ≤ 100 := by
  refine Dr.bd (pick_d 10 hc (by omega)) fun r c1 hr hc1 => ?_
  refine Dr.br (fun _ => ?_) fun _ => Dr.br (fun _ => ?_) fun _ => Dr.br (fun _ => ?_) fun _ => ?_
  · refine Dr.bd (pick_d _ hc1 (by omega)) fun r2 c2 hr2 hc2 => ?_
    refine Dr.bd (pick_d _ hc2 (by omega)) fun r3 c3 hr3 hc3 => ?_
    have h2 := hr2.2 (by omega)
    refine Dr.pos (decide_eq_true hr2.1) (Dr.pos (decide_eq_true h2) (Dr.gt (show r2.toNat < o.length by omega) (Dr.ret hc3 (by omega) ⟨by dsimp only; omega, by dsimp only; rw [List.length_set]; omega⟩)))
  · exact Dr.pos (decide_eq_true (by simp; omega)) (Dr.ret hc1 (by omega) ⟨by dsimp only; omega, by dsimp only; rw [List.length_append]; simp; omega⟩)
  · rw [cvBest_v hn h1 h24, bd_s]
    exact Dr.ret hc1 (by omega) ⟨by dsimp only; omega, by dsimp only; rw [chosen_len]; omega⟩
  · exact Dr.ret hc1 (by omega) ⟨by dsimp only; omega, by dsimp only; omega⟩
theorem cov_loop (hn : nodesOk e 0 = true) (h1 : 1 ≤ e.length) (h24 : e.length ≤ 24) : ∀ (M : Nat) (o op : List Int) (k : Nat) (c : Cur), mq (op.drop k) < M → o.length = e.length → (∀ x ∈ op, 0 ≤ x ∧ x < e.length) → k ≤ op.length → k + mq (op.drop k) ≤ 282429536481 → Cu (1000 + 2 * (k : Int)) c →
    Dr (spec_l1Cur_covered.v0 e (k : Int) c.1 c.2.1 c.2.2 o op) 700000000000 fun r => r.1.length ≤ 60 ∧ r.2.length ≤ 100
  | 0, _, _, _, _, h, _, _, _, _, _ => by omega
  | M + 1, o, op, k, c, hM, ho, hop, hle, hs, hc => by
    have hlen := mq_len (op.drop k)
    rw [List.length_drop] at hlen
    have hbig : op.length ≤ 282429536481 := by omega
    refine dr_v ?_ (fun r hr => spec_l1Cur_covered.v0s _ _ _ _ _ _ _ hr)
    by_cases hk : k < op.length
    · have hx := hop _ (List.getElem_mem hk)
      obtain ⟨i, hi⟩ := Int.eq_ofNat_of_zero_le hx.1
      rw [hi] at hx
      have hie : i < e.length := by omega
      have hio : i < o.length := by omega
      have hd : op.drop k = (i : Int) :: op.drop (k + 1) := by rw [drop_at _ _ hk, hi]
      rw [br_t (by simpa using hk), br_t (by simp), br_t (by simpa using hk), Int.toNat_natCast, gt_at _ hk, hi, cvTiles_v hn hie, bd_s, br_t (by simp), br_t (by simpa using hk), gt_at _ hk, hi]
      refine Dr.bd (pick_d _ hc (by omega)) fun r7 c7 h7 hc7 => ?_
      have hne := List.length_pos_iff.2 (tl_some hn hie)
      have h8 := h7.2 (by omega)
      have hj : r7.toNat < (tl e i 13).length := by omega
      have ht := tl_mem (List.getElem_mem hj)
      refine Dr.pos (decide_eq_true h7.1) (Dr.gt hj ?_)
      dsimp only
      generalize (tl e i 13)[r7.toNat] = t at ht ⊢
      have hset : (o.set i t)[i]? = some t := by rw [List.getElem?_set, if_pos rfl, if_pos hio]
      have hp := prts_ok hn hie t
      have hm := mq_parts hp.1 (n := i) hp.2
      rw [hd, mq_cons, Int.toNat_natCast] at hs hM
      have hdrop : (op ++ prts e i t).drop (k + 1) = op.drop (k + 1) ++ prts e i t := List.drop_append_of_le_length (by omega)
      rw [br_t (by simp), br_t (by simpa using hio), Int.toNat_natCast, gt_at _ hio, br_t (by simp), br_t (by simpa using hk), gt_at _ hk, hi, br_t (by simp), br_t (by simpa using hk), gt_at _ hk, hi, br_t (by simp), br_t (by rw [List.length_set]; simpa using hio), Int.toNat_natCast, gt_some hset, cvTile_v hn hie, bd_s, told_prts, br_t (by simp; omega), next_ok k (k + 1) (by omega) (by omega)]
      exact cov_loop hn h1 h24 M _ _ (k + 1) _ (by rw [hdrop, mq_app]; omega) (by rw [List.length_set]; exact ho) (fun x hx => by
        rcases List.mem_append.1 hx with q | q
        · exact hop x q
        · have := hp.2 x q; omega) (by rw [List.length_append]; omega) (by rw [hdrop, mq_app]; omega) (hc7.mono (by omega))
    · rw [br_f (by simpa using hk)]
      exact (cov_tail hn h1 h24 hc (by omega) ho).imp (by omega) fun _ h => h
theorem covered_d {n : Int} {c : Cur} (h : Cu n c) (hn0 : n ≤ 0) : Dr (spec_l1Cur_covered.v c.1 c.2.1 c.2.2) 700000000000 fun r => r.1.length ≤ 60 ∧ r.2.length ≤ 100 := by
  refine dr_v ?_ (fun r hr => spec_l1Cur_covered.vs _ _ _ hr)
  refine Dr.bd (trees_d h (by omega)) fun e c1 he hc1 => ?_
  dsimp only
  rw [cvTree_v (by omega), bd_s]
  cases ht : treeOk e with
  | false =>
    rw [brn_f]
    rw [cvNone_g (by omega), bd_s]
    exact Dr.ret hc1 (by omega) ⟨he, by simp; omega⟩
  | true =>
    obtain ⟨hn, h1, h24, _⟩ := treeOk_parts ht
    rw [brn_t, cvNone_v h24, bd_s, last_w h1 (by omega)]
    have hb : 3 ^ (e.length - 1) ≤ 3 ^ 23 := Nat.pow_le_pow_right (by omega) (by omega)
    exact cov_loop hn h1 h24 _ _ _ 0 _ (Nat.lt_succ_self _) (by simp) (fun x hx => by rw [List.mem_singleton] at hx; omega) (by simp) (by simp [mq]; omega) (hc1.mono (by omega))
theorem drawCover_v {l : List Int} (h : Bytes l) : ∃ (e : List Nd) (c : List Int), spec_DrawIsCover.v l = some (e, c) ∧ e.length ≤ 60 ∧ c.length ≤ 100 := by
  obtain ⟨⟨e, q⟩, c, he, hl, hc⟩ := covered_d h.cu (by omega)
  exact ⟨e, q, spec_DrawIsCover.vs _ (by rw [he, bd_s]), hl.1, hl.2⟩
end
end Go.Proofs.YtfpjcfhbecmneaaGreat.Am
end
section
/- Trees with prices that are drawn. -/
namespace Go.Proofs.YtfpjcfhbecmneaaGreat.Am
open Go
set_option linter.unusedVariables false
set_option linter.unusedSimpArgs false
section
variable {e : List Nd}
theorem pr_tail {P : List Int} (he : e.length ≤ 60) (h1 : 1 ≤ P.length) (hP : P.length ≤ 60) {n : Int} {c : Cur} (hc : Cu n c) (hnn : n ≤ 1000000000000) :
    Dr (bd (spec_l1Cur_pick.f (8 : Int) c.1 c.2.1 c.2.2) fun r15 => (br (r15.1 == (0 : Int)) (bd (spec_l1Cur_pick.f (P.length : Int) r15.2.1 r15.2.2.1 r15.2.2.2) fun r16 => (br (decide ((0 : Int) ≤ r16.1)) (br (decide (r16.1 < (P.length : Int))) (gt P r16.1.toNat fun r17 => (bd (spec_l1Cur_pick.f (3 : Int) r16.2.1 r16.2.2.1 r16.2.2.2) fun r18 => (br (decide ((0 : Int) ≤ r16.1)) (br (decide (r16.1 < (P.length : Int))) (gt P r16.1.toNat fun r19 => (some ((e, (List.set P r16.1.toNat (IntKind.wrap .i64 (r17 + r18.1)))), r18.2))) none) none))) none) none)) (br (r15.1 == (1 : Int)) (bd (spec_l1Cur_pick.f (P.length : Int) r15.2.1 r15.2.2.1 r15.2.2.2) fun r20 => (bd (spec_l1Cur_among.f ((-1 : Int) :: ((0 : Int) :: ((1000 : Int) :: ((1001 : Int) :: ((4611686018427387904 : Int) :: []))))) r20.2.1 r20.2.2.1 r20.2.2.2) fun r21 => (br (decide ((0 : Int) ≤ r20.1)) (br (decide (r20.1 < (P.length : Int))) (gt P r20.1.toNat fun r22 => (some ((e, (List.set P r20.1.toNat r21.1)), r21.2))) none) none))) (br (r15.1 == (2 : Int)) (br (decide ((P.length + (List.length ((0 : Int) :: []))) ≤ (35184372088832 / (8 + 1)))) (some ((e, (P ++ ((0 : Int) :: []))), r15.2)) none) (some ((e, P), r15.2)))))) (n + 10) fun r => r.1.length ≤ 60 ∧ r.2.length ≤ 100 := by
  refine Dr.bd (pick_d 8 hc (by omega)) fun r c1 hr hc1 => ?_
  refine Dr.br (fun _ => ?_) fun _ => Dr.br (fun _ => ?_) fun _ => Dr.br (fun _ => ?_) fun _ => ?_
  · refine Dr.bd (pick_d _ hc1 (by omega)) fun r2 c2 hr2 hc2 => ?_
    have h2 := hr2.2 (by omega)
    have hj : r2.toNat < P.length := by omega
    refine Dr.pos (decide_eq_true hr2.1) (Dr.pos (decide_eq_true h2) (Dr.gt hj ?_))
    refine Dr.bd (pick_d _ hc2 (by omega)) fun r3 c3 hr3 hc3 => ?_
    exact Dr.pos (decide_eq_true hr2.1) (Dr.pos (decide_eq_true h2) (Dr.gt hj (Dr.ret hc3 (by omega) ⟨he, by dsimp only; rw [List.length_set]; omega⟩)))
  · refine Dr.bd (pick_d _ hc1 (by omega)) fun r2 c2 hr2 hc2 => ?_
    have h2 := hr2.2 (by omega)
    have hj : r2.toNat < P.length := by omega
    refine Dr.bd (among_d _ (by simp) hc2 (by omega)) fun r3 c3 hr3 hc3 => ?_
    exact Dr.pos (decide_eq_true hr2.1) (Dr.pos (decide_eq_true h2) (Dr.gt hj (Dr.ret hc3 (by omega) ⟨he, by dsimp only; rw [List.length_set]; omega⟩)))
  · exact Dr.pos (decide_eq_true (by simp; omega)) (Dr.ret hc1 (by omega) ⟨he, by dsimp only; rw [List.length_append]; simp; omega⟩)
  · exact Dr.ret hc1 (by omega) ⟨he, by dsimp only; omega⟩
theorem priced_d {n : Int} {c : Cur} (h : Cu n c) (hn0 : n ≤ 0) : Dr (spec_l1Cur_priced.v c.1 c.2.1 c.2.2) 2000 fun r => r.1.length ≤ 60 ∧ r.2.length ≤ 100 := by
  refine dr_v ?_ (fun r hr => spec_l1Cur_priced.vs _ _ _ hr)
  refine Dr.bd (trees_d h (by omega)) fun e c1 he hc1 => ?_
  dsimp only
  rw [cvTree_v (by omega), bd_s]
  cases ht : treeOk e with
  | false =>
    rw [brn_f]
    exact Dr.pos (decide_eq_true (Int.le_refl _)) (Dr.pos (decide_eq_true (by omega)) (Dr.ret hc1 (by omega) ⟨he, by simp; omega⟩))
  | true =>
    obtain ⟨hn, h1, h24, _⟩ := treeOk_parts ht
    have hl : (prices e).length = e.length := prices_len
    have hw : IntKind.wrap .i64 (((prices e).length : Int) - 1) = ((e.length - 1 : Nat) : Int) := by rw [hl, wrap_ok (by omega) (by omega)]; omega
    have hlt : e.length - 1 < (prices e).length := by omega
    rw [brn_t, cvPrices_v hn h24, bd_s, show (pz (prices e)).1 = prices e from rfl]
    refine Dr.bd (one_d 2 hc1 (by omega)) fun b c2 _ hc2 => ?_
    refine Dr.br (fun _ => ?_) fun _ => ?_
    · rw [hw, br_t (by simp), br_t (by simpa using hlt), Int.toNat_natCast, gt_at _ hlt]
      refine Dr.bd (pick_d _ hc2 (by omega)) fun r3 c3 _ hc3 => ?_
      rw [br_t (by simp), br_t (by simpa using hlt), gt_at _ hlt]
      exact (pr_tail he (by rw [List.length_set]; omega) (by rw [List.length_set]; omega) hc3 (by omega)).imp (by omega) fun _ h => h
    · exact (pr_tail he (by omega) (by omega) hc2 (by omega)).imp (by omega) fun _ h => h
theorem drawFair_v {l : List Int} (h : Bytes l) : ∃ (e : List Nd) (c : List Int), spec_DrawAreFair.v l = some (e, c) ∧ e.length ≤ 60 ∧ c.length ≤ 100 := by
  obtain ⟨⟨e, q⟩, c, he, hl, hc⟩ := priced_d h.cu (by omega)
  exact ⟨e, q, spec_DrawAreFair.vs _ (by rw [he, bd_s]), hl.1, hl.2⟩
end
end Go.Proofs.YtfpjcfhbecmneaaGreat.Am
end
section
/- In a tree each node is an operand once: the parts of a tile and its inner nodes are apart. -/
namespace Go.Proofs.YtfpjcfhbecmneaaGreat.Am
open Go
set_option linter.unusedVariables false
set_option linter.unusedSimpArgs false

def pN (n : Nd) : List Nat := (partsOf n).map Int.toNat
/-! ### how often a node is an operand -/
def opsOfL (e : List Nd) : List Nat := e.flatMap pN
theorem bumpU_get {u : List Int} {m : Nat} (hb : Bnd u m) (hm : m ≤ 1000000000) (p : Int) (h0 : 0 ≤ p) (hp : p < u.length) (j : Nat) (hj : j < u.length) : (bumpU u p)[j]? = some (u[j] + if j = p.toNat then 1 else 0) := by
  unfold bumpU
  rw [List.getElem?_set]
  have hpl : p.toNat < u.length := by omega
  by_cases c : p.toNat = j
  · subst c
    have hg : u.getD p.toNat 0 = u[p.toNat] := by rw [List.getD_eq_getElem?_getD, List.getElem?_eq_getElem hpl]; rfl
    have := hb _ (List.getElem_mem hpl)
    rw [if_pos rfl, if_pos hpl, hg, if_pos rfl, wrap_ok (by omega) (by omega)]
  · rw [if_neg c, if_neg (fun e => c e.symm), List.getElem?_eq_getElem hj, Int.add_zero]
theorem fold_bump_get : ∀ (ps : List Int) (u : List Int) (m : Nat), Bnd u m → m + ps.length ≤ 1000000000 → (∀ p ∈ ps, 0 ≤ p ∧ p < u.length) → ∀ j (hj : j < u.length), (ps.foldl bumpU u)[j]? = some (u[j] + ((ps.map Int.toNat).count j : Nat))
  | [], u, m, hb, hm, hp, j, hj => by simp [List.getElem?_eq_getElem hj]
  | p :: r, u, m, hb, hm, hp, j, hj => by
    simp only [List.length_cons] at hm
    obtain ⟨h0, h1⟩ := hp p (by simp)
    have hl := bump_len u p
    have ih := fold_bump_get r (bumpU u p) (m + 1) (bump_bnd hb (by omega) p) (by omega) (fun q hq => by rw [hl]; exact hp q (by simp [hq])) j (by rw [hl]; exact hj)
    have hg := bumpU_get hb (by omega) p h0 h1 j hj
    rw [List.getElem?_eq_getElem (by rw [hl]; exact hj)] at hg
    rw [List.foldl_cons, ih, Option.some.inj hg, List.map_cons, List.count_cons]
    congr 1
    by_cases c : j = p.toNat
    · subst c; simp; omega
    · have c' : ¬ p.toNat = j := fun e => c e.symm
      simp [c, c']
theorem folds_bump_get : ∀ (l : List Nd) (u : List Int) (m : Nat), Bnd u m → m + 2 * l.length ≤ 1000000000 → PartsIn l u.length → ∀ j (hj : j < u.length), (l.foldl bumps u)[j]? = some (u[j] + ((opsOfL l).count j : Nat))
  | [], u, m, hb, hm, hp, j, hj => by simp [opsOfL, List.getElem?_eq_getElem hj]
  | n :: r, u, m, hb, hm, hp, j, hj => by
    simp only [List.length_cons] at hm
    have h2 := parts_le n
    have hl := bumps_len u n
    have hb1 : Bnd (bumps u n) (m + (partsOf n).length) := fold_bnd _ _ _ hb (by omega)
    have ih := folds_bump_get r (bumps u n) (m + (partsOf n).length) hb1 (by omega) (by rw [hl]; exact fun q hq => hp q (by simp [hq])) j (by rw [hl]; exact hj)
    have hg : (bumps u n)[j]? = _ := fold_bump_get (partsOf n) u m hb (by omega) (hp n (by simp)) j hj
    rw [List.getElem?_eq_getElem (by rw [hl]; exact hj)] at hg
    rw [List.foldl_cons, ih, Option.some.inj hg]
    unfold opsOfL pN
    rw [List.flatMap_cons, List.count_append]
    congr 1
    omega
theorem usesOf_get {e : List Nd} (hl : e.length ≤ 1048576) (hp : PartsIn e e.length) {j : Nat} (hj : j < e.length) : (usesOf e)[j]? = some (((opsOfL e).count j : Nat) : Int) := by
  unfold usesOf
  have := folds_bump_get e (List.replicate e.length 0) 0 (fun x hx => by rw [(List.mem_replicate.1 hx).2]; omega) (by omega) (by rw [List.length_replicate]; exact hp) j (by rw [List.length_replicate]; exact hj)
  rw [this]
  simp
theorem once_count {e : List Nd} (hl : e.length ≤ 1048576) (hn : nodesOk e 0 = true) (ho : once e = true) (j : Nat) (hj : j < e.length) : (opsOfL e).count j ≤ 1 := by
  have hg := usesOf_get hl (nodesOk_parts hn) hj
  unfold once at ho
  have := List.all_eq_true.1 ho _ (List.mem_of_getElem? hg)
  rw [decide_eq_true_iff] at this
  omega

theorem ops_at {e : List Nd} {i : Nat} (hi : i < e.length) (k : Nat) : (pN e[i]).count k ≤ (opsOfL e).count k := by
  have h : e = e.take i ++ (e[i] :: e.drop (i + 1)) := by rw [← drop_at _ i hi, List.take_append_drop]
  have h2 : opsOfL e = opsOfL (e.take i) ++ (pN e[i] ++ opsOfL (e.drop (i + 1))) := by
    conv => lhs; rw [h]
    unfold opsOfL
    rw [List.flatMap_append, List.flatMap_cons]
  rw [h2, List.count_append, List.count_append]
  omega
theorem ops_two {e : List Nd} {i j : Nat} (hij : i < j) (hj : j < e.length) (k : Nat) : (pN e[i]).count k + (pN e[j]).count k ≤ (opsOfL e).count k := by
  have hi : i < e.length := by omega
  have h : e = e.take i ++ (e[i] :: e.drop (i + 1)) := by rw [← drop_at _ i hi, List.take_append_drop]
  have h2 : opsOfL e = opsOfL (e.take i) ++ (pN e[i] ++ opsOfL (e.drop (i + 1))) := by
    conv => lhs; rw [h]
    unfold opsOfL
    rw [List.flatMap_append, List.flatMap_cons]
  have hd : j - (i + 1) < (e.drop (i + 1)).length := by rw [List.length_drop]; omega
  have h3 := ops_at hd k
  have h4 : (e.drop (i + 1))[j - (i + 1)] = e[j] := by
    rw [List.getElem_drop]
    congr 1
    omega
  rw [h4] at h3
  rw [h2, List.count_append, List.count_append]
  omega
/-- two operands of a node are apart -/
theorem apart1 {e : List Nd} (ht : treeOk e = true) {i : Nat} (hi : i < e.length) (h2 : isTwo e[i].1 = true) : e[i].2.1 ≠ e[i].2.2.1 := by
  obtain ⟨hn, l1, l2, ho⟩ := treeOk_parts ht
  have hk := nodesOk_get e 0 hn i hi
  rw [Nat.zero_add] at hk
  have hp := two_parts hk h2
  intro q
  have h := ops_at hi e[i].2.1.toNat
  have hc := once_count (by omega) hn ho e[i].2.1.toNat (by omega)
  have : pN e[i] = [e[i].2.1.toNat, e[i].2.1.toNat] := by
    unfold pN partsOf
    rw [arity_two h2, if_neg (by decide), if_pos rfl, ← q]; rfl
  rw [this] at h
  simp at h
  omega
/-- operands of two nodes are apart -/
theorem apart2 {e : List Nd} (ht : treeOk e = true) {i j : Nat} (hij : i < j) (hj : j < e.length) {p : Int} (h1 : p ∈ partsOf e[i]) (h2 : p ∈ partsOf e[j]) : False := by
  obtain ⟨hn, l1, l2, ho⟩ := treeOk_parts ht
  have hk := nodesOk_get e 0 hn i (by omega)
  rw [Nat.zero_add] at hk
  have hp := nodeOk_parts hk p h1
  have h := ops_two hij hj p.toNat
  have hc := once_count (by omega) hn ho p.toNat (by omega)
  have a : 1 ≤ (pN e[i]).count p.toNat := List.one_le_count_iff.2 (List.mem_map.2 ⟨p, h1, rfl⟩)
  have b : 1 ≤ (pN e[j]).count p.toNat := List.one_le_count_iff.2 (List.mem_map.2 ⟨p, h2, rfl⟩)
  omega
theorem parts_two {n : Nd} (h : isTwo n.1 = true) : partsOf n = [n.2.1, n.2.2.1] := by
  unfold partsOf
  rw [arity_two h, if_neg (by decide), if_pos rfl]
/-- what a tile tells: its parts are below its node, its inner nodes too, and apart from the parts -/
structure Fair (i : Nat) (p q : List Int) : Prop where
  two : p.length ≤ 2
  low : ∀ x ∈ p, 0 ≤ x ∧ x < (i : Int)
  inn : ∀ x ∈ q, x < (i : Int)
  dis : ∀ x ∈ p, x ∉ q
  len : q.length ≤ 2
theorem tile_fair {e : List Nd} (ht : treeOk e = true) {i : Nat} (hi : i < e.length) {t : Int} {p q : List Int} (h : tileM e (i : Int) t = some (p, q)) : Fair i p q := by
  obtain ⟨hn, l1, l2, ho⟩ := treeOk_parts ht
  have hpp := tile_parts hn hi h
  have hk : nodeOk (ndAt e i) (i : Int) = true := ndAt_ok hn (by omega) (by omega)
  have ei : ndAt e (i : Int) = e[i] := ndAt_nat hi
  have tw : isTwo (ndAt e i).1 = true → ((0 ≤ (ndAt e i).2.1 ∧ (ndAt e i).2.1 < i) ∧ 0 ≤ (ndAt e i).2.2.1 ∧ (ndAt e i).2.2.1 < i) ∧ (ndAt e i).2.1 ≠ (ndAt e i).2.2.1 := fun c =>
    ⟨two_parts hk c, by have := apart1 ht hi (by rw [← ei]; exact c); rwa [← ei] at this⟩
  have mem : isTwo (ndAt e i).1 = true → (ndAt e i).2.1 ∈ partsOf e[i] ∧ (ndAt e i).2.2.1 ∈ partsOf e[i] := fun c => by
    rw [ei] at c ⊢
    rw [parts_two c]; simp
  have nul : q = [] → Fair i p q := fun c => by subst c; exact ⟨hpp.1, hpp.2, by simp, by simp, by simp⟩
  have cst : ∀ {b : Bool} {m : Nd} {S : List Int} {a c : Int}, (b = true → c < i ∧ a ≠ c) → constM b m S a c = some (p, q) → Fair i p q := fun ha hc => by
    unfold constM at hc
    split at hc
    · rename_i k
      simp only [Option.some.injEq, Prod.mk.injEq] at hc
      obtain ⟨rfl, rfl⟩ := hc
      obtain ⟨h1, h2⟩ := ha k.1
      exact ⟨hpp.1, hpp.2, fun x hx => by rw [List.mem_singleton] at hx; subst hx; exact h1, fun x hx hq => by rw [List.mem_singleton] at hx hq; subst hx; exact h2 hq, by simp⟩
    · cases hc
  have dp : ∀ {b : Bool} {a d : Int} {op : ByteArray} {S : List Int}, isTwo op = true → (b = true → (0 ≤ d ∧ d < i) ∧ a ≠ d ∧ a ∈ partsOf e[i]) → deepM e b a d op S = some (p, q) → Fair i p q := fun {b a d op S} ho2 ha hc => by
    unfold deepM at hc
    split at hc
    · rename_i k
      simp only [Option.some.injEq, Prod.mk.injEq] at hc
      obtain ⟨rfl, rfl⟩ := hc
      obtain ⟨h1, h2, h3⟩ := ha k.1
      obtain ⟨n, rfl⟩ : ∃ n : Nat, d = (n : Int) := ⟨d.toNat, by omega⟩
      have hnl : n < e.length := by omega
      have en : ndAt e (n : Int) = e[n] := ndAt_nat hnl
      have ht2 : isTwo e[n].1 = true := by rw [← en, k.2.1]; exact ho2
      have hb := two_parts (ndAt_ok hn h1.1 (by omega)) (by rw [k.2.1]; exact ho2)
      have h4 := apart1 ht hnl ht2
      rw [← en] at h4
      have h5 : a ≠ (ndAt e (n : Int)).2.2.1 := fun q => apart2 ht (i := n) (j := i) (by omega) hi (p := a) (by rw [parts_two ht2, q, en]; simp) h3
      refine ⟨hpp.1, hpp.2, fun x hx => ?_, fun x hx hq => ?_, by simp⟩
      · simp only [List.mem_cons, List.not_mem_nil, or_false] at hx
        rcases hx with rfl | rfl <;> omega
      · simp only [List.mem_cons, List.not_mem_nil, or_false] at hx hq
        rcases hx with rfl | rfl
        · rcases hq with h | h
          · exact h5 h
          · exact h2 h
        · rcases hq with h | h
          · exact h4 h
          · omega
    · cases hc
  unfold tileM tileN at h
  by_cases t0 : t = 0
  · rw [if_pos t0] at h
    split at h
    · simp only [Option.some.injEq, Prod.mk.injEq] at h; exact nul h.2.symm
    · cases h
  rw [if_neg t0] at h
  by_cases t1 : t = 1
  · rw [if_pos t1] at h
    split at h
    · simp only [Option.some.injEq, Prod.mk.injEq] at h; exact nul h.2.symm
    · cases h
  rw [if_neg t1] at h
  by_cases t2 : t = 2
  · rw [if_pos t2] at h
    split at h
    · simp only [Option.some.injEq, Prod.mk.injEq] at h; exact nul h.2.symm
    · cases h
  rw [if_neg t2] at h
  by_cases t3 : t = 3
  · rw [if_pos t3] at h
    split at h
    · simp only [Option.some.injEq, Prod.mk.injEq] at h; exact nul h.2.symm
    · cases h
  rw [if_neg t3] at h
  by_cases t4 : t = 4
  · rw [if_pos t4] at h; exact cst (fun c => have w := tw (in4 c); ⟨w.1.2.2, w.2⟩) h
  rw [if_neg t4] at h
  by_cases t5 : t = 5
  · rw [if_pos t5] at h; exact cst (fun c => have w := tw (in5 c); ⟨w.1.1.2, w.2.symm⟩) h
  rw [if_neg t5] at h
  by_cases t6 : t = 6
  · rw [if_pos t6] at h; exact cst (fun c => have w := tw (in6 c); ⟨w.1.2.2, w.2⟩) h
  rw [if_neg t6] at h
  by_cases t7 : t = 7
  · rw [if_pos t7] at h; exact cst (fun c => have w := tw (by rw [of_decide_eq_true c]; decide); ⟨w.1.2.2, w.2⟩) h
  rw [if_neg t7] at h
  by_cases t8 : t = 8
  · rw [if_pos t8] at h; exact cst (fun c => have w := tw (by rw [of_decide_eq_true c]; decide); ⟨w.1.1.2, w.2.symm⟩) h
  rw [if_neg t8] at h
  have ad : decide ((ndAt e (i : Int)).1 = tAdd) = true → isTwo (ndAt e (i : Int)).1 = true := fun c => by rw [of_decide_eq_true c]; decide
  by_cases t9 : t = 9
  · rw [if_pos t9] at h; exact dp (by decide) (fun c => have w := tw (ad c); ⟨w.1.2, w.2, (mem (ad c)).1⟩) h
  rw [if_neg t9] at h
  by_cases t10 : t = 10
  · rw [if_pos t10] at h; exact dp (by decide) (fun c => have w := tw (ad c); ⟨w.1.1, w.2.symm, (mem (ad c)).2⟩) h
  rw [if_neg t10] at h
  by_cases t11 : t = 11
  · rw [if_pos t11] at h; exact dp (by decide) (fun c => have w := tw (ad c); ⟨w.1.2, w.2, (mem (ad c)).1⟩) h
  rw [if_neg t11] at h
  by_cases t12 : t = 12
  · rw [if_pos t12] at h; exact dp (by decide) (fun c => have w := tw (ad c); ⟨w.1.1, w.2.symm, (mem (ad c)).2⟩) h
  rw [if_neg t12] at h
  cases h
/-- each node has the plain tile of its kind -/
def plainT (n : Nd) : Int := if n.1 = tIn then 0 else if n.1 = tConst then 1 else if isOne n.1 = true then 2 else 3
theorem plain_some {e : List Nd} {i : Nat} (hn : nodesOk e 0 = true) (hi : i < e.length) : (tileM e (i : Int) (plainT e[i])).isSome = true := by
  have hk := nodesOk_get e 0 hn i hi
  rw [Nat.zero_add] at hk
  unfold tileM tileN plainT
  rw [ndAt_nat hi]
  by_cases c0 : e[i].1 = tIn
  · rw [if_pos c0, if_pos rfl, if_pos c0]; rfl
  rw [if_neg c0]
  by_cases c1 : e[i].1 = tConst
  · rw [if_pos c1, if_neg (by decide), if_pos rfl, if_pos c1]; rfl
  rw [if_neg c1]
  by_cases c2 : isOne e[i].1 = true
  · rw [if_pos c2, if_neg (by decide), if_neg (by decide), if_pos rfl, if_pos c2]; rfl
  · rw [if_neg c2, if_neg (by decide), if_neg (by decide), if_neg (by decide), if_pos rfl]
    unfold nodeOk at hk
    rw [if_neg c0, if_neg c1, if_neg c2] at hk
    simp only [Bool.and_eq_true] at hk
    rw [if_pos hk.1.1.1]; rfl
theorem tCost_le (e : List Nd) (i t : Int) : tCost e i t ≤ 4 := by
  unfold tCost tCostN
  have := opCost_pos (ndAt e i).1
  split
  · omega
  · split <;> omega
end Go.Proofs.YtfpjcfhbecmneaaGreat.Am
end
section
/- In a tree the parts of a tile lie below its node, apart from each other; the nodes that a cover takes are all different. -/
namespace Go.Proofs.YtfpjcfhbecmneaaGreat.Am
open Go
set_option linter.unusedVariables false
set_option linter.unusedSimpArgs false
section
variable {e : List Nd}
/-- each part is an operand of the node, or an operand of an inner node that is one; no part stands there twice -/
def Shape (e : List Nd) (i : Nat) (hi : i < e.length) (p q : List Int) : Prop :=
  (∀ x ∈ p, x ∈ partsOf e[i] ∨ ∃ (d : Nat) (hd : d < e.length), d < i ∧ (d : Int) ∈ partsOf e[i] ∧ x ∈ partsOf e[d] ∧ (d : Int) ∈ q) ∧ p.Nodup
theorem tile_shape (ht : treeOk e = true) {i : Nat} (hi : i < e.length) {t : Int} {p q : List Int} (h : tileM e (i : Int) t = some (p, q)) : Shape e i hi p q := by
  obtain ⟨hn, l1, l2, ho⟩ := treeOk_parts ht
  have hk : nodeOk (ndAt e i) (i : Int) = true := ndAt_ok hn (by omega) (by omega)
  have ei : ndAt e (i : Int) = e[i] := ndAt_nat hi
  have mem : isTwo (ndAt e i).1 = true → (ndAt e i).2.1 ∈ partsOf e[i] ∧ (ndAt e i).2.2.1 ∈ partsOf e[i] := fun c => by
    rw [ei] at c ⊢
    rw [parts_two c]; simp
  have tw : isTwo (ndAt e i).1 = true → ((0 ≤ (ndAt e i).2.1 ∧ (ndAt e i).2.1 < i) ∧ 0 ≤ (ndAt e i).2.2.1 ∧ (ndAt e i).2.2.1 < i) := fun c => two_parts hk c
  have one : ∀ a, a ∈ partsOf e[i] → p = [a] → Shape e i hi p q := fun a ha c => by
    subst c
    exact ⟨fun x hx => by rw [List.mem_singleton] at hx; subst hx; exact .inl ha, by simp⟩
  have nul : p = [] → Shape e i hi p q := fun c => by subst c; exact ⟨by simp, by simp⟩
  have cst : ∀ {b : Bool} {m : Nd} {S : List Int} {a c : Int}, (b = true → a ∈ partsOf e[i]) → constM b m S a c = some (p, q) → Shape e i hi p q := fun ha hc => by
    unfold constM at hc
    split at hc
    · rename_i k
      simp only [Option.some.injEq, Prod.mk.injEq] at hc
      exact one _ (ha k.1) hc.1.symm
    · cases hc
  have dp : ∀ {b : Bool} {a d : Int} {op : ByteArray} {S : List Int}, isTwo op = true → (b = true → (0 ≤ d ∧ d < i) ∧ a ∈ partsOf e[i] ∧ d ∈ partsOf e[i]) → deepM e b a d op S = some (p, q) → Shape e i hi p q := fun {b a d op S} ho2 ha hc => by
    unfold deepM at hc
    split at hc
    · rename_i k
      simp only [Option.some.injEq, Prod.mk.injEq] at hc
      obtain ⟨rfl, rfl⟩ := hc
      obtain ⟨h1, h2, h3⟩ := ha k.1
      obtain ⟨n, rfl⟩ : ∃ n : Nat, d = (n : Int) := ⟨d.toNat, by omega⟩
      have hnl : n < e.length := by omega
      have en : ndAt e (n : Int) = e[n] := ndAt_nat hnl
      have ht2 : isTwo e[n].1 = true := by rw [← en, k.2.1]; exact ho2
      have m2 : (ndAt e (n : Int)).2.1 ∈ partsOf e[n] := by rw [en, parts_two ht2]; simp
      have h5 : a ≠ (ndAt e (n : Int)).2.1 := fun q => apart2 ht (i := n) (j := i) (by omega) hi (p := a) (by rw [q]; exact m2) h2
      refine ⟨fun x hx => ?_, by simp [h5]⟩
      simp only [List.mem_cons, List.not_mem_nil, or_false] at hx
      rcases hx with rfl | rfl
      · exact .inl h2
      · exact .inr ⟨n, hnl, by omega, h3, m2, by simp⟩
    · cases hc
  unfold tileM tileN at h
  by_cases t0 : t = 0
  · rw [if_pos t0] at h
    split at h
    · simp only [Option.some.injEq, Prod.mk.injEq] at h; exact nul h.1.symm
    · cases h
  rw [if_neg t0] at h
  by_cases t1 : t = 1
  · rw [if_pos t1] at h
    split at h
    · simp only [Option.some.injEq, Prod.mk.injEq] at h; exact nul h.1.symm
    · cases h
  rw [if_neg t1] at h
  by_cases t2 : t = 2
  · rw [if_pos t2] at h
    split at h
    · rename_i c
      simp only [Option.some.injEq, Prod.mk.injEq] at h
      refine one _ ?_ h.1.symm
      rw [← ei]; unfold partsOf; rw [if_pos (arity_one c)]; simp
    · cases h
  rw [if_neg t2] at h
  by_cases t3 : t = 3
  · rw [if_pos t3] at h
    split at h
    · rename_i c
      simp only [Option.some.injEq, Prod.mk.injEq] at h
      obtain ⟨rfl, rfl⟩ := h
      have a1 := apart1 ht hi (by rw [← ei]; exact c)
      rw [← ei] at a1
      refine ⟨fun x hx => ?_, by simp [a1]⟩
      simp only [List.mem_cons, List.not_mem_nil, or_false] at hx
      rcases hx with rfl | rfl
      · exact .inl (mem c).1
      · exact .inl (mem c).2
    · cases h
  rw [if_neg t3] at h
  by_cases t4 : t = 4
  · rw [if_pos t4] at h; exact cst (fun c => (mem (in4 c)).1) h
  rw [if_neg t4] at h
  by_cases t5 : t = 5
  · rw [if_pos t5] at h; exact cst (fun c => (mem (in5 c)).2) h
  rw [if_neg t5] at h
  by_cases t6 : t = 6
  · rw [if_pos t6] at h; exact cst (fun c => (mem (in6 c)).1) h
  rw [if_neg t6] at h
  by_cases t7 : t = 7
  · rw [if_pos t7] at h; exact cst (fun c => (mem (by rw [of_decide_eq_true c]; decide)).1) h
  rw [if_neg t7] at h
  by_cases t8 : t = 8
  · rw [if_pos t8] at h; exact cst (fun c => (mem (by rw [of_decide_eq_true c]; decide)).2) h
  rw [if_neg t8] at h
  have ad : decide ((ndAt e (i : Int)).1 = tAdd) = true → isTwo (ndAt e (i : Int)).1 = true := fun c => by rw [of_decide_eq_true c]; decide
  by_cases t9 : t = 9
  · rw [if_pos t9] at h; exact dp (by decide) (fun c => ⟨(tw (ad c)).2, mem (ad c)⟩) h
  rw [if_neg t9] at h
  by_cases t10 : t = 10
  · rw [if_pos t10] at h; exact dp (by decide) (fun c => ⟨(tw (ad c)).1, (mem (ad c)).symm⟩) h
  rw [if_neg t10] at h
  by_cases t11 : t = 11
  · rw [if_pos t11] at h; exact dp (by decide) (fun c => ⟨(tw (ad c)).2, mem (ad c)⟩) h
  rw [if_neg t11] at h
  by_cases t12 : t = 12
  · rw [if_pos t12] at h; exact dp (by decide) (fun c => ⟨(tw (ad c)).1, (mem (ad c)).symm⟩) h
  rw [if_neg t12] at h
  cases h
/-- a lies in the subtree of b -/
inductive Und (e : List Nd) : Nat → Nat → Prop
  | refl (a : Nat) : Und e a a
  | up (a m b : Nat) (hm : m < e.length) (h : (a : Int) ∈ partsOf e[m]) (r : Und e m b) : Und e a b
theorem part_lt (hn : nodesOk e 0 = true) {a m : Nat} (hm : m < e.length) (h : (a : Int) ∈ partsOf e[m]) : a < m := by
  have hk := nodesOk_get e 0 hn m hm
  rw [Nat.zero_add] at hk
  have := nodeOk_parts hk _ h
  omega
theorem Und.le (hn : nodesOk e 0 = true) {a b : Nat} (h : Und e a b) : a ≤ b := by
  induction h with
  | refl a => exact Nat.le_refl _
  | up a m b hm h r ih => have := part_lt hn hm h; omega
theorem Und.trans {a b c : Nat} (h : Und e a b) (k : Und e b c) : Und e a c := by
  induction h with
  | refl a => exact k
  | up a m b hm h r ih => exact .up a m c hm h (ih k)
theorem par_one (ht : treeOk e = true) {a i j : Nat} (hi : i < e.length) (hj : j < e.length) (h1 : (a : Int) ∈ partsOf e[i]) (h2 : (a : Int) ∈ partsOf e[j]) : i = j := by
  rcases Nat.lt_trichotomy i j with c | c | c
  · exact (apart2 ht c hj h1 h2).elim
  · exact c
  · exact (apart2 ht c hi h2 h1).elim
theorem Und.lin (ht : treeOk e = true) {a b c : Nat} (h : Und e a b) (k : Und e a c) : Und e b c ∨ Und e c b := by
  induction h with
  | refl a => exact .inl k
  | up a m b hm h r ih =>
    cases k with
    | refl => exact .inr (.up _ m b hm h r)
    | up _ m' _ hm' h' r' =>
      have := par_one ht hm hm' h h'
      subst this
      exact ih r'
section
variable {best : List Int}
theorem kid_of {i k : Nat} (h : k ∈ kids e best i) : ∃ p q x, tileM e (i : Int) (cvr best i) = some (p, q) ∧ x ∈ p ∧ x.toNat = k ∧ kids e best i = p.map Int.toNat := by
  have hk := h
  unfold kids at h hk ⊢
  by_cases c : vld e best i = true
  · rw [if_pos c] at h ⊢
    obtain ⟨_, p, q, hm⟩ := vld_parts c
    have e1 : prts e i (cvr best i) = p := by unfold prts; rw [hm]
    rw [e1] at h ⊢
    obtain ⟨x, hx, rfl⟩ := List.mem_map.1 h
    exact ⟨p, q, x, hm, hx, rfl, rfl⟩
  · rw [if_neg c] at h; cases h
/-- a kid is an operand, or an operand of an inner node -/
theorem kid_shape (ht : treeOk e = true) {i k : Nat} (hi : i < e.length) (h : k ∈ kids e best i) : (k : Int) ∈ partsOf e[i] ∨ ∃ (d : Nat) (hd : d < e.length), d < i ∧ (d : Int) ∈ partsOf e[i] ∧ (k : Int) ∈ partsOf e[d] ∧ d ∉ kids e best i := by
  obtain ⟨p, q, x, hm, hx, rfl, hk⟩ := kid_of h
  have hf := tile_fair ht hi hm
  have hx0 := hf.low x hx
  have e1 : ((x.toNat : Nat) : Int) = x := by omega
  rw [e1]
  rcases (tile_shape ht hi hm).1 x hx with c | ⟨d, hd, h1, h2, h3, h4⟩
  · exact .inl c
  · refine .inr ⟨d, hd, h1, h2, h3, fun c => ?_⟩
    rw [hk] at c
    obtain ⟨y, hy, hyd⟩ := List.mem_map.1 c
    have := hf.low y hy
    exact hf.dis y hy (by rw [show y = (d : Int) by omega]; exact h4)
theorem kids_nodup (ht : treeOk e = true) {i : Nat} (hi : i < e.length) : (kids e best i).Nodup := by
  cases hc : kids e best i with
  | nil => exact List.nodup_nil
  | cons k l =>
    obtain ⟨p, q, x, hm, hx, _, hk⟩ := kid_of (e := e) (best := best) (i := i) (k := k) (by rw [hc]; simp)
    rw [← hc, hk]
    have hf := tile_fair ht hi hm
    have hnd := (tile_shape ht hi hm).2
    rw [List.nodup_iff_pairwise_ne] at hnd ⊢
    rw [List.pairwise_map]
    exact hnd.imp_of_mem fun ha hb hne he => hne (by have := hf.low _ ha; have := hf.low _ hb; omega)
theorem kid_und (ht : treeOk e = true) {i k : Nat} (hi : i < e.length) (h : k ∈ kids e best i) : Und e k i := by
  rcases kid_shape ht hi h with c | ⟨d, hd, h1, h2, h3, h4⟩
  · exact .up k i i hi c (.refl i)
  · exact .up k d i hd h3 (.up d i i hi h2 (.refl i))
theorem kid_apart (ht : treeOk e = true) {i k l : Nat} (hi : i < e.length) (h : k ∈ kids e best i) (hl : l ∈ kids e best i) (hne : k ≠ l) : ¬ Und e k l := by
  have hn := (treeOk_parts ht).1
  have hlt := kids_lt hn hi l hl
  intro u
  cases u with
  | refl => exact hne rfl
  | up _ m _ hm hp r =>
    rcases kid_shape ht hi h with c | ⟨d, hd, h1, h2, h3, h4⟩
    · have := par_one ht hm hi hp c
      subst this
      have := r.le hn
      omega
    · have := par_one ht hm hd hp h3
      subst this
      cases r with
      | refl => exact h4 hl
      | up _ m' _ hm' hp' r' =>
        have := par_one ht hm' hi hp' h2
        subst this
        have := r'.le hn
        omega
theorem dfs_und (ht : treeOk e = true) : ∀ (f i : Nat), i < e.length → ∀ j ∈ dfs e best f i, Und e j i
  | 0, i, hi, j, h => by simp [dfs] at h
  | f + 1, i, hi, j, h => by
    unfold dfs at h
    rcases List.mem_cons.1 h with c | c
    · subst c; exact .refl _
    · obtain ⟨k, hk, hj⟩ := List.mem_flatMap.1 c
      have := kids_lt (treeOk_parts ht).1 hi k hk
      exact (dfs_und ht f k (by omega) j hj).trans (kid_und ht hi hk)
theorem dfs_nodup (ht : treeOk e = true) : ∀ (f i : Nat), i < e.length → (dfs e best f i).Nodup
  | 0, i, hi => by simp [dfs]
  | f + 1, i, hi => by
    have hn := (treeOk_parts ht).1
    unfold dfs
    rw [List.nodup_cons]
    constructor
    · intro c
      obtain ⟨k, hk, hj⟩ := List.mem_flatMap.1 c
      have h1 := kids_lt hn hi k hk
      have h2 := dfs_le hn f k (by omega) i hj
      omega
    · rw [List.nodup_iff_pairwise_ne, List.pairwise_flatMap]
      refine ⟨fun k hk => List.nodup_iff_pairwise_ne.1 (dfs_nodup ht f k (by have := kids_lt hn hi k hk; omega)), ?_⟩
      refine (List.nodup_iff_pairwise_ne.1 (kids_nodup ht hi)).imp_of_mem fun {k l} hk hl hne x hx y hy he => ?_
      subst he
      have u1 := dfs_und ht f k (by have := kids_lt hn hi k hk; omega) x hx
      have u2 := dfs_und ht f l (by have := kids_lt hn hi l hl; omega) x hy
      rcases u1.lin ht u2 with c | c
      · exact kid_apart ht hi hk hl hne c
      · exact kid_apart ht hi hl hk (fun q => hne q.symm) c
end
end
end Go.Proofs.YtfpjcfhbecmneaaGreat.Am
end
section
/- No cover is cheaper than the fair price of the root. -/
namespace Go.Proofs.YtfpjcfhbecmneaaGreat.Am
open Go
set_option linter.unusedVariables false
set_option linter.unusedSimpArgs false
def isum : List Int → Int
  | [] => 0
  | x :: l => x + isum l
theorem isum_app : ∀ (l m : List Int), isum (l ++ m) = isum l + isum m
  | [], m => by simp [isum]
  | x :: l, m => by simp only [List.cons_append, isum, isum_app l m]; omega
theorem isum_perm {l m : List Int} (h : l.Perm m) : isum l = isum m := by
  induction h with
  | nil => rfl
  | cons x _ ih => simp only [isum, ih]
  | swap x y l => simp only [isum]; omega
  | trans _ _ a b => exact a.trans b
section
variable {e : List Nd} {best P : List Int}
theorem tCost_nn (e : List Nd) (i t : Int) : 0 ≤ tCost e i t := by
  unfold tCost tCostN
  have := opCost_pos (ndAt e i).1
  split
  · omega
  · split <;> omega
def wC (e : List Nd) (best : List Int) (j : Nat) : Int := tCost e j (cvr best j)
structure FairP (e : List Nd) (P : List Int) : Prop where
  len : P.length = e.length
  rng : ∀ j, j < e.length → 0 ≤ P.getD j 0 ∧ P.getD j 0 ≤ 1000
  fair : ∀ i, i < e.length → ∀ t ∈ tl e i 13, P.getD i 0 ≤ wth e i P t
theorem sumP_eq : ∀ (ps : List Int) (s : Int), 0 ≤ s → s + 1000 * ps.length ≤ 1000000 → (∀ k ∈ ps, 0 ≤ P.getD k.toNat 0 ∧ P.getD k.toNat 0 ≤ 1000) → sumP P ps s = s + isum (ps.map fun k => P.getD k.toNat 0)
  | [], s, _, _, _ => by simp [sumP, isum]
  | k :: r, s, h0, h1, h => by
    have hk := h k (by simp)
    simp only [List.length_cons] at h1
    unfold sumP
    rw [wrap_ok (by omega) (by omega), sumP_eq r _ (by omega) (by omega) (fun x hx => h x (by simp [hx])), List.map_cons]
    simp only [isum]; omega
theorem wth_eq (hn : nodesOk e 0 = true) (rng : ∀ j, j < e.length → 0 ≤ P.getD j 0 ∧ P.getD j 0 ≤ 1000) {i : Nat} (hi : i < e.length) (t : Int) : wth e i P t = tCost e i t + isum ((prts e i t).map fun k => P.getD k.toNat 0) := by
  have hp := prts_ok hn hi t
  have h1 := tCost_nn e i t
  have h2 := tCost_le e i t
  exact sumP_eq _ _ h1 (by omega) fun k hk => rng _ (by have := hp.2 k hk; omega)
theorem mem_tl {i : Nat} (hv : vld e best i = true) : cvr best i ∈ tl e i 13 := by
  unfold vld at hv
  rw [Bool.and_eq_true, inB_iff] at hv
  unfold tl
  rw [List.mem_filter, List.mem_map]
  exact ⟨⟨(cvr best i).toNat, List.mem_range.2 (by omega), by omega⟩, hv.2⟩
theorem fair_dfs (hn : nodesOk e 0 = true) (hv : ∀ j, j < e.length → vld e best j = true) (F : FairP e P) : ∀ (f i : Nat), i < e.length → i < f → P.getD i 0 ≤ isum ((dfs e best f i).map (wC e best))
  | 0, i, hi, h => by omega
  | f + 1, i, hi, h => by
    have h1 := F.fair i hi _ (mem_tl (hv i hi))
    rw [wth_eq hn F.rng hi] at h1
    have hk : kids e best i = (prts e i (cvr best i)).map Int.toNat := by unfold kids; rw [if_pos (hv i hi)]
    unfold dfs
    rw [List.map_cons]
    simp only [isum]
    have key : ∀ l : List Nat, (∀ k ∈ l, k < i) → isum (l.map fun k => P.getD k 0) ≤ isum ((l.flatMap (dfs e best f)).map (wC e best)) := by
      intro l
      induction l with
      | nil => intro _; simp [isum]
      | cons k l ih =>
        intro hl
        have a := ih fun x hx => hl x (by simp [hx])
        have hki := hl k (by simp)
        have b := fair_dfs hn hv F f k (by omega) (by omega)
        rw [List.flatMap_cons, List.map_append, isum_app, List.map_cons]
        simp only [isum]; omega
    have h2 := key (kids e best i) (kids_lt hn hi)
    rw [hk, List.map_map] at h2
    rw [hk]
    have h3 : (prts e i (cvr best i)).map (fun k => P.getD k.toNat 0) = (prts e i (cvr best i)).map ((fun k => P.getD k 0) ∘ Int.toNat) := rfl
    rw [h3] at h1
    unfold wC at h2 ⊢
    omega
theorem isum_small : ∀ (l : List Nat), (0 : Int) ≤ isum (l.map (wC e best)) ∧ isum (l.map (wC e best)) ≤ 4 * l.length
  | [] => by simp [isum]
  | j :: l => by
    have h1 := tCost_nn e j (cvr best j)
    have h2 := tCost_le e j (cvr best j)
    have := isum_small l
    simp only [List.map_cons, isum, List.length_cons]
    unfold wC at *
    omega
theorem sumC_eq {cover : List Int} : ∀ (d i : Nat) (x : Int), 0 ≤ x → x + 4 * d ≤ 1000000 → sumC e cover d i x = x + isum (((List.range' i d).filter fun j => decide (0 ≤ cvr cover j)).map (wC e cover))
  | 0, i, x, _, _ => by simp [sumC, isum]
  | d + 1, i, x, h0, h1 => by
    have a := tCost_nn e i (cvr cover i)
    have b := tCost_le e i (cvr cover i)
    unfold sumC
    rw [List.range'_succ]
    by_cases c : 0 ≤ cvr cover i
    · rw [if_pos c, wrap_ok (by omega) (by omega), sumC_eq d (i + 1) _ (by omega) (by omega), List.filter_cons_of_pos (by simpa using c), List.map_cons]
      simp only [isum]
      unfold wC
      omega
    · rw [if_neg c, sumC_eq d (i + 1) _ (by omega) (by omega), List.filter_cons_of_neg (by simpa using c)]
theorem chosen_cvr {j : Nat} (hj : j < e.length) : cvr (chosen e best) j = if (need e best).contains j = true then cvr best j else -1 := by
  unfold cvr
  rw [List.getD_eq_getElem?_getD, chosen_get hj]; rfl
theorem fair_cost (ht : treeOk e = true) (hv : ∀ j, j < e.length → vld e best j = true) (F : FairP e P) : P.getD (e.length - 1) 0 ≤ sumC e (chosen e best) e.length 0 0 := by
  obtain ⟨hn, h1, h24, _⟩ := treeOk_parts ht
  have a := fair_dfs hn hv F e.length (e.length - 1) (by omega) (by omega)
  rw [sumC_eq e.length 0 0 (by omega) (by omega)]
  have hm : ∀ j, j ∈ need e best → j < e.length := fun j hj => need_lt hn h1 hj
  have pos : ∀ j, j < e.length → (0 ≤ cvr (chosen e best) j ↔ j ∈ need e best) := fun j hj => by
    rw [chosen_cvr hj]
    have := (vld_parts (hv j hj)).1
    by_cases c : (need e best).contains j = true
    · rw [if_pos c]; rw [List.contains_iff_mem] at c; exact ⟨fun _ => c, fun _ => this.1⟩
    · rw [if_neg c]
      exact ⟨fun q => by omega, fun q => absurd (List.contains_iff_mem.2 q) c⟩
  have hp : (need e best).Perm ((List.range' 0 e.length).filter fun j => decide (0 ≤ cvr (chosen e best) j)) := by
    refine (List.perm_ext_iff_of_nodup (dfs_nodup ht _ _ (by omega)) (List.Pairwise.filter _ List.nodup_range')).2 fun j => ?_
    rw [List.mem_filter, List.mem_range'_1, decide_eq_true_iff]
    constructor
    · intro q; exact ⟨⟨by omega, by have := hm j q; omega⟩, (pos j (hm j q)).2 q⟩
    · rintro ⟨⟨_, q⟩, r⟩; exact (pos j (by omega)).1 r
  have hq : ((List.range' 0 e.length).filter fun j => decide (0 ≤ cvr (chosen e best) j)).map (wC e (chosen e best)) = ((List.range' 0 e.length).filter fun j => decide (0 ≤ cvr (chosen e best) j)).map (wC e best) := by
    refine List.map_congr_left fun j hj => ?_
    rw [List.mem_filter, List.mem_range'_1, decide_eq_true_iff] at hj
    have hjl : j < e.length := by omega
    unfold wC
    rw [chosen_cvr hjl, if_pos (List.contains_iff_mem.2 ((pos j hjl).1 hj.2))]
  rw [hq, ← isum_perm (hp.map _)]
  unfold need
  omega
end
end Go.Proofs.YtfpjcfhbecmneaaGreat.Am
end
section
/- Fair prices: the program's functions and the reference's answer alike. -/
namespace Go.Proofs.YtfpjcfhbecmneaaGreat.Am
open Go
set_option linter.unusedVariables false
set_option linter.unusedSimpArgs false
theorem l1All_v (l : List Int) (lo hi : Int) (hl : l.length ≤ 1048576) : spec_l1All.v l lo hi = some (l.all (fun x => inB x lo hi)) := by
  refine spec_l1All.vs _ _ _ ?_
  have key : ∀ (d j : Nat), j + d = l.length → spec_l1All.v0 lo hi l (l.length : Int) (j : Int) = some ((l.drop j).all (fun x => inB x lo hi)) := by
    intro d
    induction d with
    | zero =>
      intro j hj
      refine spec_l1All.v0s _ _ _ _ _ ?_
      rw [br_f (by simp; omega), List.drop_eq_nil_of_le (by omega)]; rfl
    | succ d ih =>
      intro j hj
      have hjl : j < l.length := by omega
      refine spec_l1All.v0s _ _ _ _ _ ?_
      rw [br_t (by simpa using hjl), br_t (by simp), Int.toNat_natCast, gt_at _ hjl, l1In_f, bd_s, next_ok j _ hjl (by omega), ih (j + 1) (by omega), drop_at _ _ hjl, List.all_cons]
      cases inB l[j] lo hi <;> rfl
  exact key l.length 0 (by omega)
theorem arePr_v (l : List Int) (hl : l.length ≤ 1048576) : slices_ContainsFunc_int_arePrices.v l = some (!(l.all (fun x => inB x 0 1000))) := by
  refine slices_ContainsFunc_int_arePrices.vs _ ?_
  have key : ∀ (d j : Nat), j + d = l.length → ∃ x, slices_IndexFunc_int_arePrices.v0 l (l.length : Int) (j : Int) = some x ∧ decide (x ≥ 0) = !((l.drop j).all (fun x => inB x 0 1000)) := by
    intro d
    induction d with
    | zero =>
      intro j hj
      refine ⟨-1, slices_IndexFunc_int_arePrices.v0s _ _ _ ?_, ?_⟩
      · rw [br_f (by simp; omega)]
      · rw [List.drop_eq_nil_of_le (by omega)]; rfl
    | succ d ih =>
      intro j hj
      have hjl : j < l.length := by omega
      have hf : impl_arePrices_1.f l[j] = some (!inB l[j] 0 1000) := by rw [impl_arePrices_1.eq, within_f]; rfl
      rw [drop_at _ _ hjl, List.all_cons]
      cases c : inB l[j] 0 1000 with
      | false =>
        refine ⟨j, slices_IndexFunc_int_arePrices.v0s _ _ _ ?_, by simp⟩
        rw [br_t (by simpa using hjl), br_t (by simp), Int.toNat_natCast, gt_at _ hjl, hf, c, bd_s]; rfl
      | true =>
        obtain ⟨x, hx, hd⟩ := ih (j + 1) (by omega)
        refine ⟨x, slices_IndexFunc_int_arePrices.v0s _ _ _ ?_, by simpa using hd⟩
        rw [br_t (by simpa using hjl), br_t (by simp), Int.toNat_natCast, gt_at _ hjl, hf, c, bd_s, next_ok j _ hjl (by omega)]; exact hx
  obtain ⟨x, hx, hd⟩ := key l.length 0 (by omega)
  rw [show slices_IndexFunc_int_arePrices.v l = some x from slices_IndexFunc_int_arePrices.vs _ hx, bd_s, hd]; rfl
def pricedP (e : List Nd) (P : List Int) : Bool := decide (P.length = e.length) && P.all (fun x => inB x 0 1000)
theorem len_beq (a b : Nat) : ((a : Int) == (b : Int)) = decide (a = b) := by
  by_cases c : a = b
  · subst c; simp
  · rw [decide_eq_false c]; simp; omega
section
variable {e : List Nd} {P : List Int}
theorem arePrices_v (hl : P.length ≤ 1048576) : impl_arePrices.v e P = some (pricedP e P) := by
  refine impl_arePrices.vs _ _ ?_
  unfold pricedP
  rw [len_beq]
  by_cases c : P.length = e.length
  · rw [br_t (decide_eq_true c), arePr_v _ hl, bd_s, decide_eq_true c]; simp
  · rw [br_f (decide_eq_false c), decide_eq_false c]; rfl
theorem cvPriced_v (hl : P.length ≤ 1048576) : spec_cvPriced.v e P = some (pricedP e P) := by
  refine spec_cvPriced.vs _ _ ?_
  unfold pricedP
  rw [len_beq]
  by_cases c : P.length = e.length
  · rw [br_t (decide_eq_true c), l1All_v _ _ _ hl, bd_s, decide_eq_true c]; simp
  · rw [br_f (decide_eq_false c), decide_eq_false c]; rfl
def bad (e : List Nd) (P : List Int) (i : Nat) (t : Int) : Bool := decide (P.getD i 0 > wth e i P t)
/-- the first node and tile for which prices are not fair -/
def unfN (e : List Nd) (P : List Int) : Nat → Nat → Int × Int × Bool
  | 0, _ => (0, 0, false)
  | d + 1, i => match (tl e i 13).find? (bad e P i) with | some t => ((i : Int), t, true) | none => unfN e P d (i + 1)
theorem implUnf_in (hn : nodesOk e 0 = true) (hP : P.length = e.length) {i : Nat} (hi : i < e.length) {R : Int × Int × Bool} (hfin : impl_unfair.v0 e P (e.length : Int) ((i + 1 : Nat) : Int) = some R) (hlen : e.length ≤ 1048576) {l : List Int} (hl : l.length ≤ 13) (hm : ∀ t ∈ l, 0 ≤ t ∧ t < 13 ∧ (tileM e i t).isSome = true) :
    ∀ (d j : Nat), j + d = l.length → impl_unfair.v1 e P (i : Int) (e.length : Int) (i : Int) l (l.length : Int) (j : Int) = some (match (l.drop j).find? (bad e P i) with | some t => ((i : Int), t, true) | none => R) := by
  intro d
  induction d with
  | zero =>
    intro j hj
    refine impl_unfair.v1s _ _ _ _ _ _ _ _ ?_
    rw [br_f (by simp; omega), List.drop_eq_nil_of_le (by omega), next_ok i _ hi (by omega)]
    exact hfin
  | succ d ih =>
    intro j hj
    have hjl : j < l.length := by omega
    obtain ⟨m0, m1, m2⟩ := hm _ (List.getElem_mem hjl)
    obtain ⟨⟨p, q⟩, hpq⟩ := Option.isSome_iff_exists.1 m2
    have ht := tileI_eq hn hi m0 (by omega) hpq
    have hp : prts e i l[j] = p := by unfold prts; rw [hpq]
    refine impl_unfair.v1s _ _ _ _ _ _ _ _ ?_
    rw [br_t (by simpa using hjl), br_t (by simp), Int.toNat_natCast, gt_at _ hjl, tileAt_v hn hi m0 (by omega), bd_s, br_t (by simp), Int.toNat_natCast, gt_some (get_D (P := P) (j := i) (by omega)), ht, ← hp, total_v hn hi hP, bd_s, next_ok j _ hjl (by omega), drop_at _ _ hjl]
    by_cases c : P.getD i 0 > wth e i P l[j]
    · rw [br_t (decide_eq_true c), List.find?_cons_of_pos (by unfold bad; exact decide_eq_true c)]
    · rw [br_f (decide_eq_false c), List.find?_cons_of_neg (by unfold bad; simpa using c)]
      exact ih (j + 1) (by omega)
theorem implUnf_v (hn : nodesOk e 0 = true) (hlen : e.length ≤ 1048576) (hP : P.length = e.length) : impl_unfair.v e P = some (unfN e P e.length 0) := by
  have key : ∀ (d i : Nat), i + d = e.length → impl_unfair.v0 e P (e.length : Int) (i : Int) = some (unfN e P d i) := by
    intro d
    induction d with
    | zero =>
      intro i hi
      refine impl_unfair.v0s _ _ _ _ ?_
      rw [br_f (by simp; omega)]; rfl
    | succ d ih =>
      intro i hi
      have hie : i < e.length := by omega
      refine impl_unfair.v0s _ _ _ _ ?_
      rw [br_t (by simpa using hie), tilesAt_v hn hie, bd_s]
      exact implUnf_in hn hP hie (ih (i + 1) (by omega)) hlen (tl_len _ _) (fun t ht => tl_mem ht) (tl e i 13).length 0 (by omega)
  exact impl_unfair.vs _ _ (key e.length 0 (by omega))
theorem specUnf_in (hn : nodesOk e 0 = true) (hP : P.length = e.length) {i : Nat} (hi : i < e.length) {R : Int × Int × Bool} (hfin : spec_cvUnfair.v0 e P (e.length : Int) ((i + 1 : Nat) : Int) = some R) (hlen : e.length ≤ 1048576) {l : List Int} (hl : l.length ≤ 13) :
    ∀ (d j : Nat), j + d = l.length → spec_cvUnfair.v1 e P (i : Int) (e.length : Int) (i : Int) l (l.length : Int) (j : Int) = some (match (l.drop j).find? (bad e P i) with | some t => ((i : Int), t, true) | none => R) := by
  intro d
  induction d with
  | zero =>
    intro j hj
    refine spec_cvUnfair.v1s _ _ _ _ _ _ _ _ ?_
    rw [br_f (by simp; omega), List.drop_eq_nil_of_le (by omega), next_ok i _ hi (by omega)]
    exact hfin
  | succ d ih =>
    intro j hj
    have hjl : j < l.length := by omega
    refine spec_cvUnfair.v1s _ _ _ _ _ _ _ _ ?_
    rw [br_t (by simpa using hjl), br_t (by simp), Int.toNat_natCast, gt_at _ hjl, br_t (by simp), Int.toNat_natCast, gt_some (get_D (P := P) (j := i) (by omega)), cvWith_v hn hi hP, bd_s, next_ok j _ hjl (by omega), drop_at _ _ hjl]
    by_cases c : P.getD i 0 > wth e i P l[j]
    · rw [br_t (decide_eq_true c), List.find?_cons_of_pos (by unfold bad; exact decide_eq_true c)]
    · rw [br_f (decide_eq_false c), List.find?_cons_of_neg (by unfold bad; simpa using c)]
      exact ih (j + 1) (by omega)
theorem specUnf_v (hn : nodesOk e 0 = true) (hlen : e.length ≤ 1048576) (hP : P.length = e.length) : spec_cvUnfair.v e P = some (unfN e P e.length 0) := by
  have key : ∀ (d i : Nat), i + d = e.length → spec_cvUnfair.v0 e P (e.length : Int) (i : Int) = some (unfN e P d i) := by
    intro d
    induction d with
    | zero =>
      intro i hi
      refine spec_cvUnfair.v0s _ _ _ _ ?_
      rw [br_f (by simp; omega)]; rfl
    | succ d ih =>
      intro i hi
      have hie : i < e.length := by omega
      refine spec_cvUnfair.v0s _ _ _ _ ?_
      rw [br_t (by simpa using hie), cvTiles_v hn hie, bd_s]
      exact specUnf_in hn hP hie (ih (i + 1) (by omega)) hlen (tl_len _ _) (tl e i 13).length 0 (by omega)
  exact spec_cvUnfair.vs _ _ (key e.length 0 (by omega))
theorem unfN_yes : ∀ (d i : Nat) (x t : Int), i + d = e.length → unfN e P d i = (x, t, true) → ∃ n : Nat, x = (n : Int) ∧ n < e.length ∧ t ∈ tl e n 13 ∧ P.getD n 0 > wth e n P t
  | 0, i, x, t, _, h => by simp [unfN] at h
  | d + 1, i, x, t, hi, h => by
    unfold unfN at h
    cases hf : (tl e i 13).find? (bad e P i) with
    | some u =>
      rw [hf] at h
      simp only [Prod.mk.injEq, and_true] at h
      obtain ⟨rfl, rfl⟩ := h
      have hb := List.find?_some hf
      unfold bad at hb
      exact ⟨i, rfl, by omega, List.mem_of_find?_eq_some hf, of_decide_eq_true hb⟩
    | none =>
      rw [hf] at h
      exact unfN_yes d (i + 1) x t (by omega) h
theorem unfN_no : ∀ (d i : Nat), i + d = e.length → (unfN e P d i).2.2 = false → ∀ n, i ≤ n → n < e.length → ∀ t ∈ tl e n 13, P.getD n 0 ≤ wth e n P t
  | 0, i, hi, _, n, h0, h1 => by omega
  | d + 1, i, hi, h, n, h0, h1 => by
    unfold unfN at h
    cases hf : (tl e i 13).find? (bad e P i) with
    | some u => rw [hf] at h; cases h
    | none =>
      rw [hf] at h
      by_cases c : n = i
      · subst c
        intro t ht
        have := List.find?_eq_none.1 hf t ht
        unfold bad at this
        simp only [decide_eq_true_eq] at this
        omega
      · exact unfN_no d (i + 1) (by omega) h n (by omega) h1
def unfA (e : List Nd) (P : List Int) : Int × Int × Bool := if treeOk e = true ∧ pricedP e P = true then unfN e P e.length 0 else (0, 0, false)
def fairA (e : List Nd) (P : List Int) : Bool × Bool := if treeOk e = true then (if pricedP e P = true then (!(unfN e P e.length 0).2.2, true) else (false, true)) else (false, false)
theorem implFair_v (hl : e.length ≤ 1048576) (hP : P.length ≤ 1048576) : impl_AreFair.v e P = some (fairA e P) := by
  refine impl_AreFair.vs _ _ ?_
  unfold fairA
  rw [isTree_v e hl, bd_s]
  by_cases c : treeOk e = true
  · rw [if_pos c, c, brn_t, arePrices_v hP, bd_s]
    by_cases k : pricedP e P = true
    · have := k; unfold pricedP at this; rw [Bool.and_eq_true, decide_eq_true_iff] at this
      rw [if_pos k, k, brn_t, implUnf_v (treeOk_parts c).1 hl this.1, bd_s]
    · rw [if_neg k]; rw [Bool.not_eq_true] at k; rw [k]; rfl
  · rw [if_neg c]; rw [Bool.not_eq_true] at c; rw [c]; rfl
theorem specFair_v (hl : e.length ≤ 1048576) (hP : P.length ≤ 1048576) : spec_AreFair.v e P = some (fairA e P) := by
  refine spec_AreFair.vs _ _ ?_
  unfold fairA
  rw [cvTree_v hl, bd_s]
  by_cases c : treeOk e = true
  · rw [if_pos c, c, brn_t, cvPriced_v hP, bd_s]
    by_cases k : pricedP e P = true
    · have := k; unfold pricedP at this; rw [Bool.and_eq_true, decide_eq_true_iff] at this
      rw [if_pos k, k, brn_t, specUnf_v (treeOk_parts c).1 hl this.1, bd_s]
    · rw [if_neg k]; rw [Bool.not_eq_true] at k; rw [k]; rfl
  · rw [if_neg c]; rw [Bool.not_eq_true] at c; rw [c]; rfl
theorem implUnfA_v (hl : e.length ≤ 1048576) (hP : P.length ≤ 1048576) : impl_UnfairAt.v e P = some (unfA e P) := by
  refine impl_UnfairAt.vs _ _ ?_
  unfold unfA
  rw [isTree_v e hl, bd_s]
  by_cases c : treeOk e = true
  · rw [c, brn_t, arePrices_v hP, bd_s]
    by_cases k : pricedP e P = true
    · have := k; unfold pricedP at this; rw [Bool.and_eq_true, decide_eq_true_iff] at this
      rw [if_pos ⟨rfl, k⟩, k, brn_t, implUnf_v (treeOk_parts c).1 hl this.1, bd_s]
    · rw [if_neg (fun q => k q.2)]; rw [Bool.not_eq_true] at k; rw [k]; rfl
  · rw [if_neg (fun q => c q.1)]; rw [Bool.not_eq_true] at c; rw [c]; rfl
theorem specUnfA_v (hl : e.length ≤ 1048576) (hP : P.length ≤ 1048576) : spec_UnfairAt.v e P = some (unfA e P) := by
  refine spec_UnfairAt.vs _ _ ?_
  unfold unfA
  rw [cvTree_v hl, bd_s]
  by_cases c : treeOk e = true
  · rw [c, brn_t, cvPriced_v hP, bd_s]
    by_cases k : pricedP e P = true
    · have := k; unfold pricedP at this; rw [Bool.and_eq_true, decide_eq_true_iff] at this
      rw [if_pos ⟨rfl, k⟩, k, brn_t, specUnf_v (treeOk_parts c).1 hl this.1, bd_s]
    · rw [if_neg (fun q => k q.2)]; rw [Bool.not_eq_true] at k; rw [k]; rfl
  · rw [if_neg (fun q => c q.1)]; rw [Bool.not_eq_true] at c; rw [c]; rfl
theorem priced_parts (h : pricedP e P = true) : P.length = e.length ∧ ∀ j, j < e.length → 0 ≤ P.getD j 0 ∧ P.getD j 0 ≤ 1000 := by
  unfold pricedP at h
  rw [Bool.and_eq_true, decide_eq_true_iff] at h
  refine ⟨h.1, fun j hj => ?_⟩
  have hjl : j < P.length := by omega
  have := List.all_eq_true.1 h.2 _ (List.getElem_mem hjl)
  rw [inB_iff] at this
  rw [List.getD_eq_getElem?_getD, List.getElem?_eq_getElem hjl]
  exact this
end
end Go.Proofs.YtfpjcfhbecmneaaGreat.Am
end
section
/- Tiles that are told for nodes of a tree: the program's functions and the reference's answer alike. -/
namespace Go.Proofs.YtfpjcfhbecmneaaGreat.Am
open Go
set_option linter.unusedVariables false
set_option linter.unusedSimpArgs false

/-- the tile that is asked for -/
def askP (e : List Nd) (i t : Int) : Option Tl := if (treeOk e && (inB i 0 ((e.length : Int) - 1) && inB t 0 12)) = true then tileM e i t else none
def ptP : Option Tl → List Int × Bool
  | some (p, _) => (p, true)
  | none => ([], false)
def inP : Option Tl → List Int × Bool
  | some (_, q) => (q, true)
  | none => ([], false)
def coP (e : List Nd) (i t : Int) : Option Tl → Int × Bool
  | some _ => (tCost e i t, true)
  | none => (0, false)
theorem ask_some {e : List Nd} {i t : Int} {p q : List Int} (h : askP e i t = some (p, q)) : treeOk e = true ∧ (0 ≤ i ∧ i < e.length) ∧ (0 ≤ t ∧ t ≤ 12) ∧ tileM e i t = some (p, q) := by
  unfold askP at h
  split at h
  · rename_i c
    simp only [Bool.and_eq_true, inB_iff] at c
    exact ⟨c.1, ⟨c.2.1.1, by omega⟩, c.2.2, h⟩
  · cases h
theorem tree_len {e : List Nd} (h : treeOk e = true) : 1 ≤ e.length ∧ e.length ≤ 24 := ⟨(treeOk_parts h).2.1, (treeOk_parts h).2.2.1⟩
theorem wlen {n : Nat} (h : n ≤ 1048576) : IntKind.wrap .i64 ((n : Int) - 1) = (n : Int) - 1 := wrap_ok (by omega) (by omega)
theorem toldTile_v (e : List Nd) (hl : e.length ≤ 1048576) (i t : Int) : impl_toldTile.v e i t = some (match askP e i t with | some (p, q) => ((p, (q, tCost e i t)), true) | none => (([], ([], 0)), false)) := by
  refine impl_toldTile.vs _ _ _ ?_
  unfold askP
  rw [isTree_v e hl, bd_s]
  cases h1 : treeOk e with
  | false => rw [brn_f]; rfl
  | true =>
    rw [brn_t, wlen hl, within_f, bd_s]
    cases h2 : inB i 0 ((e.length : Int) - 1) with
    | false => rw [brn_f]; rfl
    | true =>
      rw [brn_t, within_f, bd_s]
      cases h3 : inB t 0 12 with
      | false => rw [brn_f]; rfl
      | true =>
        obtain ⟨a0, a1⟩ := inB_iff.1 h2
        obtain ⟨b0, b1⟩ := inB_iff.1 h3
        obtain ⟨n, rfl⟩ : ∃ n : Nat, i = (n : Int) := ⟨i.toNat, by omega⟩
        have hn := (treeOk_parts h1).1
        rw [brn_t, tileAt_v hn (by omega) b0 b1, bd_s]
        simp only [Bool.and_self, if_true]
        cases hm : tileM e (n : Int) t with
        | none => rfl
        | some pq =>
          obtain ⟨p, q⟩ := pq
          have := tileI_eq hn (by omega) b0 b1 hm
          rw [this]; rfl
theorem tileParts_v (e : List Nd) (hl : e.length ≤ 1048576) (i t : Int) : impl_TileParts.v e i t = some (ptP (askP e i t)) := by
  refine impl_TileParts.vs _ _ _ ?_
  rw [toldTile_v e hl, bd_s]
  cases askP e i t with
  | none => rfl
  | some pq => rfl
theorem tileCost_v (e : List Nd) (hl : e.length ≤ 1048576) (i t : Int) : impl_TileCost.v e i t = some (coP e i t (askP e i t)) := by
  refine impl_TileCost.vs _ _ _ ?_
  rw [toldTile_v e hl, bd_s]
  cases askP e i t with
  | none => rfl
  | some pq => rfl
end Go.Proofs.YtfpjcfhbecmneaaGreat.Am
end
section
/- How often each tile is used. -/
namespace Go.Proofs.YtfpjcfhbecmneaaGreat.Am
open Go
set_option linter.unusedVariables false
set_option linter.unusedSimpArgs false
section
variable {e : List Nd} {cover : List Int}
def useT (cover : List Int) : Nat → Nat → List Int → List Int
  | 0, _, o => o
  | d + 1, i, o => useT cover d (i + 1) (if 0 ≤ cvr cover i then o.set (cvr cover i).toNat (IntKind.wrap .i64 (o.getD (cvr cover i).toNat 0 + 1)) else o)
theorem useT_len : ∀ (d i : Nat) (o : List Int), (useT cover d i o).length = o.length
  | 0, _, _ => rfl
  | d + 1, i, o => by
    unfold useT; rw [useT_len d]
    split <;> simp
theorem specUses_l (hl : cover.length = e.length) (h24 : e.length ≤ 24) (hv : ∀ j, j < e.length → 0 ≤ cvr cover j → vld e cover j = true) : ∀ (d i : Nat) (o : List Int), i + d = e.length → o.length = 13 → spec_TileUses.v0 cover (e.length : Int) (i : Int) o = some (useT cover d i o, true) := by
  intro d
  induction d with
  | zero =>
    intro i o hi ho
    refine spec_TileUses.v0s _ _ _ _ ?_
    rw [br_f (by simp; omega)]; rfl
  | succ d ih =>
    intro i o hi ho
    have hlt : i < e.length := by omega
    refine spec_TileUses.v0s _ _ _ _ ?_
    rw [br_t (by simpa using hlt), br_t (by simp), Int.toNat_natCast, gt_some (cvr_get hl hlt), next_ok i _ hlt (by omega)]
    unfold useT
    by_cases c : 0 ≤ cvr cover i
    · obtain ⟨⟨h0, h12⟩, _⟩ := vld_parts (hv i hlt c)
      have hb : (cvr cover i).toNat < o.length := by omega
      have hg : o[(cvr cover i).toNat]? = some (o.getD (cvr cover i).toNat 0) := by rw [List.getD_eq_getElem?_getD, List.getElem?_eq_getElem hb]; rfl
      rw [br_t (by simpa using c), if_pos c, br_t (by simpa using c), br_t (by simp; omega), gt_some hg, br_t (by simpa using c), br_t (by simp; omega), gt_some hg]; exact ih _ _ (by omega) (by simpa using ho)
    · rw [br_f (by simpa using c), if_neg c]; exact ih _ _ (by omega) ho
theorem implUses_l (hl : cover.length = e.length) (h24 : e.length ≤ 24) (hv : ∀ j, j < e.length → 0 ≤ cvr cover j → vld e cover j = true) : ∀ (d i : Nat) (o : List Int), i + d = e.length → o.length = 13 → impl_TileUses.v0 cover (e.length : Int) (i : Int) o = some ((useT cover d i o, true), ()) := by
  intro d
  induction d with
  | zero =>
    intro i o hi ho
    refine impl_TileUses.v0s _ _ _ _ ?_
    rw [br_f (by simp; omega)]; rfl
  | succ d ih =>
    intro i o hi ho
    have hlt : i < e.length := by omega
    refine impl_TileUses.v0s _ _ _ _ ?_
    rw [br_t (by simpa using hlt), br_t (by simp), Int.toNat_natCast, gt_some (cvr_get hl hlt), next_ok i _ hlt (by omega)]
    unfold useT
    by_cases c : 0 ≤ cvr cover i
    · obtain ⟨⟨h0, h12⟩, _⟩ := vld_parts (hv i hlt c)
      have hb : (cvr cover i).toNat < o.length := by omega
      have hg : o[(cvr cover i).toNat]? = some (o.getD (cvr cover i).toNat 0) := by rw [List.getD_eq_getElem?_getD, List.getElem?_eq_getElem hb]; rfl
      rw [br_t (by simpa using c), if_pos c, br_t (by simpa using c), br_t (by simp; omega), gt_some hg, br_t (by simpa using c), br_t (by simp; omega), gt_some hg]; exact ih _ _ (by omega) (by simpa using ho)
    · rw [br_f (by simpa using c), if_neg c]; exact ih _ _ (by omega) ho
def tileUsesA (e : List Nd) (cover : List Int) : List Int × Bool := if coverA e cover = true then (useT cover e.length 0 (List.replicate 13 0), true) else ([], false)
theorem tileUsesA_len : (tileUsesA e cover).1.length ≤ 13 := by
  unfold tileUsesA
  split
  · rw [useT_len]; simp
  · simp
theorem specTileUses_v (hl : e.length ≤ 1048576) : spec_TileUses.v e cover = some (tileUsesA e cover) := by
  refine spec_TileUses.vs _ _ ?_
  rw [covered_f hl]; unfold tileUsesA
  by_cases c : coverA e cover = true
  · obtain ⟨⟨h1, h2, h3⟩, h4⟩ := coverA_parts c
    rw [if_pos c, if_pos c, cover_len h4]
    exact specUses_l (cover_len h4) h3 (fun j hj => cover_vld h4 hj) e.length 0 _ (by omega) (by simp)
  · rw [if_neg c, if_neg c]
theorem implTileUses_v (hl : e.length ≤ 1048576) : impl_TileUses.v e cover = some (tileUsesA e cover, ()) := by
  refine impl_TileUses.vs _ _ ?_
  rw [areCovered_v hl, bd_s]; unfold tileUsesA
  by_cases c : coverA e cover = true
  · obtain ⟨⟨h1, h2, h3⟩, h4⟩ := coverA_parts c
    rw [if_pos c, c, brn_t, cover_len h4]
    exact implUses_l (cover_len h4) h3 (fun j hj => cover_vld h4 hj) e.length 0 _ (by omega) (by simp)
  · rw [if_neg c]; rw [Bool.not_eq_true] at c; rw [c]; rfl
end
end Go.Proofs.YtfpjcfhbecmneaaGreat.Am
end
