/- Plain texts: what the functions answer (part 0). -/
import Derived.Test.YtokdmaoconegkaaGreatKF1
section
/- What the laws do around the functions: arguments are measured, copied and compared. -/
namespace Go.Proofs.YtokdmaoconegkaaGreat.Am
open Go
set_option linter.unusedVariables false
set_option linter.unusedSimpArgs false

abbrev Nd := ByteArray × Int × Int × Int
abbrev Rl := List Nd × List Nd × ByteArray
theorem brn_t {α : Type} (x y : Option α) : br (!true) x y = y := rfl
theorem brn_f {α : Type} (x y : Option α) : br (!false) x y = x := rfl
@[simp] theorem seq_self (x : ByteArray) : seq x x = true := seq_iff.2 rfl
theorem gt_mid {α β : Type} (l : List β) (x : β) (r : List β) (f : β → Option α) : gt (l ++ x :: r) l.length f = f x := gt_some (by simp)
theorem set_mid {β : Type} (l : List β) (x y : β) (r : List β) : (l ++ x :: r).set l.length y = l ++ y :: r := by simp
end Go.Proofs.YtokdmaoconegkaaGreat.Am
end
section
/- Lists of texts and numbers that are searched; numbers within bounds. -/
namespace Go.Proofs.YtokdmaoconegkaaGreat.Am
open Go
set_option linter.unusedVariables false
set_option linter.unusedSimpArgs false

theorem seq_beq (x y : ByteArray) : seq x y = decide (x = y) := by
  by_cases h : x = y
  · rw [decide_eq_true h]; exact seq_iff.2 h
  · rw [decide_eq_false h]
    cases e : seq x y with
    | false => rfl
    | true => exact absurd (seq_iff.1 e) h
/-- is a text among these -/
def isIn (l : List ByteArray) (s : ByteArray) : Bool := l.any fun x => decide (x = s)
theorem drop_at {α : Type} (l : List α) (i : Nat) (h : i < l.length) : l.drop i = l[i] :: l.drop (i + 1) := List.drop_eq_getElem_cons h
theorem l1HasS_ev (l : List ByteArray) (s : ByteArray) (hl : l.length ≤ 9223372036854775000) : Ev (fun k => spec_l1HasS.f k l s) (isIn l s) := by
  refine Ev.step (fun k => spec_l1HasS.eq k l s) ?_
  have := Ev.loop l.length (fun k i => spec_l1HasS.l0 k s l (l.length : Int) (i : Int)) (fun i => isIn (l.drop i) s) ?_ ?_ 0 (by omega)
  · exact this
  · exact Ev.step (fun k => spec_l1HasS.l0_eq k s l _ _) (Ev.neg (by simp) (Ev.ret (by simp [isIn])))
  · intro i hi ih
    refine Ev.step (fun k => spec_l1HasS.l0_eq k s l _ _) (Ev.pos (by simpa using hi) (Ev.pos (by simp) (Ev.get hi ?_)))
    rw [next_ok i _ hi hl, seq_beq]
    by_cases c : l[i] = s
    · exact Ev.pos (by simp [c]) (Ev.ret (by unfold isIn; rw [drop_at _ _ hi, List.any_cons]; simp [c]))
    · exact Ev.neg (by simp [c]) (Ev.eq ih (by unfold isIn; rw [drop_at _ _ hi, List.any_cons]; simp [c]))
theorem containsS_ev (l : List ByteArray) (s : ByteArray) (hl : l.length ≤ 9223372036854775000) : Ev (fun k => slices_Contains_string.f k l s) (isIn l s) := by
  have key : ∀ (d : Nat) (i : Nat), i + d = l.length → ∃ r : Int, Ev (fun k => slices_Index_string.l0 k l s (l.length : Int) (i : Int)) r ∧ (0 ≤ r ↔ isIn (l.drop i) s = true) := by
    intro d
    induction d with
    | zero =>
      intro i h
      refine ⟨-1, Ev.step (fun k => slices_Index_string.l0_eq k l s _ _) (Ev.neg (by simp; omega) (Ev.now _)), ?_⟩
      rw [List.drop_eq_nil_of_le (by omega)]; simp [isIn]
    | succ d ih =>
      intro i h
      have hi : i < l.length := by omega
      by_cases c : l[i] = s
      · refine ⟨i, Ev.step (fun k => slices_Index_string.l0_eq k l s _ _) (Ev.pos (by simpa using hi) (Ev.pos (by simp) (Ev.get hi (Ev.pos (by rw [seq_beq]; simp [c]) (Ev.now _))))), ?_⟩
        unfold isIn; rw [drop_at _ _ hi, List.any_cons]; simp [c]
      · obtain ⟨r, hev, hiff⟩ := ih (i + 1) (by omega)
        refine ⟨r, Ev.step (fun k => slices_Index_string.l0_eq k l s _ _) (Ev.pos (by simpa using hi) (Ev.pos (by simp) (Ev.get hi (Ev.neg (by rw [seq_beq]; simp only [decide_eq_false_iff_not]; exact fun e => c e.symm) (by rw [next_ok i _ hi hl]; exact hev))))), ?_⟩
        rw [hiff]; unfold isIn; rw [drop_at _ _ hi, List.any_cons]; simp [c]
  obtain ⟨r, hev, hiff⟩ := key l.length 0 (by omega)
  refine Ev.step (fun k => slices_Contains_string.eq k l s) (Ev.bind (b := r) (Ev.step (fun k => slices_Index_string.eq k l s) hev) (Ev.ret ?_))
  rw [Bool.eq_iff_iff, decide_eq_true_iff]
  exact hiff
theorem containsI_ev (l : List Int) (s : Int) (hl : l.length ≤ 9223372036854775000) : Ev (fun k => slices_Contains_int.f k l s) (decide (s ∈ l)) := by
  have key : ∀ (d : Nat) (i : Nat), i + d = l.length → ∃ r : Int, Ev (fun k => slices_Index_int.l0 k l s (l.length : Int) (i : Int)) r ∧ (0 ≤ r ↔ s ∈ l.drop i) := by
    intro d
    induction d with
    | zero =>
      intro i h
      refine ⟨-1, Ev.step (fun k => slices_Index_int.l0_eq k l s _ _) (Ev.neg (by simp; omega) (Ev.now _)), ?_⟩
      rw [List.drop_eq_nil_of_le (by omega)]; simp
    | succ d ih =>
      intro i h
      have hi : i < l.length := by omega
      by_cases c : s = l[i]
      · refine ⟨i, Ev.step (fun k => slices_Index_int.l0_eq k l s _ _) (Ev.pos (by simpa using hi) (Ev.pos (by simp) (Ev.get hi (Ev.pos (by simp [c]) (Ev.now _))))), ?_⟩
        rw [drop_at _ _ hi, List.mem_cons]; simp [c]
      · obtain ⟨r, hev, hiff⟩ := ih (i + 1) (by omega)
        refine ⟨r, Ev.step (fun k => slices_Index_int.l0_eq k l s _ _) (Ev.pos (by simpa using hi) (Ev.pos (by simp) (Ev.get hi (Ev.neg (by simp [c]) (by rw [next_ok i _ hi hl]; exact hev))))), ?_⟩
        rw [hiff, drop_at _ _ hi, List.mem_cons]; simp [c]
  obtain ⟨r, hev, hiff⟩ := key l.length 0 (by omega)
  refine Ev.step (fun k => slices_Contains_int.eq k l s) (Ev.bind (b := r) (Ev.step (fun k => slices_Index_int.eq k l s) hev) (Ev.ret ?_))
  rw [Bool.eq_iff_iff, decide_eq_true_iff, decide_eq_true_iff]
  exact hiff
theorem l1Has_ev (l : List Int) (s : Int) (hl : l.length ≤ 9223372036854775000) : Ev (fun k => spec_l1Has.f k l s) (decide (s ∈ l)) := by
  refine Ev.step (fun k => spec_l1Has.eq k l s) ?_
  have := Ev.loop l.length (fun k i => spec_l1Has.l0 k s l (l.length : Int) (i : Int)) (fun i => decide (s ∈ l.drop i)) ?_ ?_ 0 (by omega)
  · exact this
  · exact Ev.step (fun k => spec_l1Has.l0_eq k s l _ _) (Ev.neg (by simp) (Ev.ret (by simp)))
  · intro i hi ih
    refine Ev.step (fun k => spec_l1Has.l0_eq k s l _ _) (Ev.pos (by simpa using hi) (Ev.pos (by simp) (Ev.get hi ?_)))
    rw [next_ok i _ hi hl]
    by_cases c : l[i] = s
    · exact Ev.pos (by simp [c]) (Ev.ret (by rw [drop_at _ _ hi]; simp only [List.mem_cons]; simp [c]))
    · exact Ev.neg (by simp [c]) (Ev.eq ih (by rw [drop_at _ _ hi]; simp only [List.mem_cons]; have e : ¬ s = l[i] := fun e => c e.symm; simp [e]))
/-- is a number within these bounds -/
def inB (n lo hi : Int) : Bool := decide (lo ≤ n) && decide (n ≤ hi)
theorem l1In_f (n lo hi : Int) : spec_l1In.f n lo hi = some (inB n lo hi) := by
  rw [spec_l1In.eq]; unfold inB
  by_cases h : lo ≤ n
  · rw [br_t (by simpa using h)]; simp [h]
  · rw [br_f (by simpa using h)]; simp [h]
theorem within_f (n lo hi : Int) : impl_within.f n lo hi = some (inB n lo hi) := by
  rw [impl_within.eq]; unfold inB
  by_cases h : lo ≤ n
  · rw [br_t (by simpa using h)]; simp [h]
  · rw [br_f (by simpa using h)]; simp [h]
theorem exWord_f (n : Int) : spec_exWord.f n = some (inB n 0 63) := by rw [spec_exWord.eq, l1In_f]; rfl
theorem isWord_f (n : Int) : impl_isWord.f n = some (inB n 0 63) := by rw [impl_isWord.eq, within_f]; rfl
end Go.Proofs.YtokdmaoconegkaaGreat.Am
end
section
/- Expressions: which operands a node has, where a node may stand; the program's functions and the reference's answer alike. -/
namespace Go.Proofs.YtokdmaoconegkaaGreat.Am
open Go
set_option linter.unusedVariables false
set_option linter.unusedSimpArgs false

abbrev tIn : ByteArray := ⟨#[105, 110]⟩
abbrev tConst : ByteArray := ⟨#[99, 111, 110, 115, 116]⟩
abbrev tNot : ByteArray := ⟨#[110, 111, 116]⟩
abbrev tNeg : ByteArray := ⟨#[110, 101, 103]⟩
def opsL : List ByteArray := [(⟨#[97, 100, 100]⟩ : ByteArray), (⟨#[115, 117, 98]⟩ : ByteArray), (⟨#[109, 117, 108]⟩ : ByteArray), (⟨#[97, 110, 100]⟩ : ByteArray), (⟨#[111, 114]⟩ : ByteArray), (⟨#[120, 111, 114]⟩ : ByteArray), (⟨#[115, 104, 108]⟩ : ByteArray), (⟨#[115, 104, 114]⟩ : ByteArray), (⟨#[108, 101, 115, 115]⟩ : ByteArray), (⟨#[101, 113]⟩ : ByteArray)]
def isTwo (s : ByteArray) : Bool := isIn opsL s
def isOne (s : ByteArray) : Bool := decide (s = tNot) || decide (s = tNeg)
/-- how many operands an op has; -1: it is none -/
def arity (s : ByteArray) : Int := if s = tIn then 0 else if s = tConst then 0 else if isOne s = true then 1 else if isTwo s = true then 2 else -1
theorem isOne_mem {s : ByteArray} (h : isOne s = true) : s = tNot ∨ s = tNeg := by
  unfold isOne at h
  simpa using h
theorem arity_one {s : ByteArray} (h : isOne s = true) : arity s = 1 := by
  unfold arity
  rw [if_neg (by rcases isOne_mem h with e | e <;> rw [e] <;> decide), if_neg (by rcases isOne_mem h with e | e <;> rw [e] <;> decide), if_pos h]
theorem isTwo_not {s : ByteArray} (h : isTwo s = true) : s ≠ tIn ∧ s ≠ tConst ∧ isOne s = false := by
  refine ⟨fun e => ?_, fun e => ?_, ?_⟩
  · rw [e] at h; revert h; decide
  · rw [e] at h; revert h; decide
  · cases h1 : isOne s with
    | false => rfl
    | true => rcases isOne_mem h1 with e | e <;> (rw [e] at h; revert h; decide)
theorem arity_two {s : ByteArray} (h : isTwo s = true) : arity s = 2 := by
  obtain ⟨h1, h2, h3⟩ := isTwo_not h
  unfold arity
  rw [if_neg h1, if_neg h2, if_neg (by simp [h3]), if_pos h]
theorem arity_cases (s : ByteArray) : (arity s = -1 ∧ isOne s = false ∧ isTwo s = false) ∨ (arity s = 0 ∧ isOne s = false ∧ isTwo s = false) ∨ (arity s = 1 ∧ isOne s = true ∧ isTwo s = false) ∨ (arity s = 2 ∧ isOne s = false ∧ isTwo s = true) := by
  by_cases h2 : isTwo s = true
  · exact .inr (.inr (.inr ⟨arity_two h2, (isTwo_not h2).2.2, h2⟩))
  · have h2' : isTwo s = false := by simpa using h2
    by_cases h1 : isOne s = true
    · exact .inr (.inr (.inl ⟨arity_one h1, h1, h2'⟩))
    · have h1' : isOne s = false := by simpa using h1
      by_cases c : s = tIn
      · exact .inr (.inl ⟨by unfold arity; rw [if_pos c], h1', h2'⟩)
      · by_cases c2 : s = tConst
        · exact .inr (.inl ⟨by unfold arity; rw [if_neg c, if_pos c2], h1', h2'⟩)
        · exact .inl ⟨by unfold arity; rw [if_neg c, if_neg c2, if_neg h1, if_neg h2], h1', h2'⟩
theorem arity_eq_one {s : ByteArray} : arity s = 1 ↔ isOne s = true := by
  rcases arity_cases s with ⟨h, h1, h2⟩ | ⟨h, h1, h2⟩ | ⟨h, h1, h2⟩ | ⟨h, h1, h2⟩ <;> rw [h, h1] <;> simp
theorem arity_eq_two {s : ByteArray} : arity s = 2 ↔ isTwo s = true := by
  rcases arity_cases s with ⟨h, h1, h2⟩ | ⟨h, h1, h2⟩ | ⟨h, h1, h2⟩ | ⟨h, h1, h2⟩ <;> rw [h, h2] <;> simp
theorem seq_t {x y : ByteArray} (h : x = y) : seq x y = true := seq_iff.2 h
theorem seq_f {x y : ByteArray} (h : ¬ x = y) : seq x y = false := by rw [seq_beq]; simp [h]
theorem exOne_f (s : ByteArray) : spec_exOne.f s = some (isOne s) := by
  rw [spec_exOne.eq, seq_beq, seq_beq]
  unfold isOne
  by_cases h : s = tNot
  · rw [br_t (by simpa using h)]; simp [h]
  · rw [br_f (by simpa using h)]; simp [h]
theorem exTwo_ev (s : ByteArray) : Ev (fun k => spec_exTwo.f k s) (isTwo s) := Ev.step (fun k => spec_exTwo.eq k s) (Ev.here spec_exOps.eq (Ev.bind (l1HasS_ev opsL s (by decide)) (Ev.now _)))
theorem operands_ev (s : ByteArray) : Ev (fun k => impl_operands.f k s) (arity s) := by
  refine Ev.step (fun k => impl_operands.eq k s) ?_
  unfold arity
  by_cases c : s = tIn
  · rw [if_pos c]; exact Ev.pos (seq_t c) (Ev.now _)
  · refine Ev.neg (seq_f c) ?_
    rw [if_neg c]
    by_cases c2 : s = tConst
    · rw [if_pos c2]; exact Ev.pos (seq_t c2) (Ev.now _)
    · refine Ev.neg (seq_f c2) ?_
      rw [if_neg c2]
      by_cases c3 : s = tNot
      · rw [if_pos (by unfold isOne; simp [c3])]; exact Ev.pos (seq_t c3) (Ev.now _)
      · refine Ev.neg (seq_f c3) ?_
        by_cases c4 : s = tNeg
        · rw [if_pos (by unfold isOne; simp [c4])]; exact Ev.pos (seq_t c4) (Ev.now _)
        · refine Ev.neg (seq_f c4) (Ev.here impl_binary.eq (Ev.bind (containsS_ev opsL s (by decide)) ?_))
          rw [if_neg (by unfold isOne; simp [c3, c4])]
          by_cases h : isTwo s = true
          · rw [if_pos h]; exact Ev.pos h (Ev.now _)
          · have h' : isTwo s = false := by simpa using h
            rw [if_neg h]; exact Ev.neg h' (Ev.now _)

/-! ### nodes -/
/-- the operands of a node -/
def partsOf (n : Nd) : List Int := if arity n.1 = 1 then [n.2.1] else if arity n.1 = 2 then [n.2.1, n.2.2.1] else []
theorem parts_le (n : Nd) : (partsOf n).length ≤ 2 := by unfold partsOf; split <;> (try split) <;> simp
theorem exParts_ev (n : Nd) : Ev (fun k => spec_exParts.f k n) (partsOf n) := by
  refine Ev.step (fun k => spec_exParts.eq k n) (Ev.here (exOne_f _) ?_)
  unfold partsOf
  by_cases h : isOne n.1 = true
  · exact Ev.pos h (Ev.ret (by rw [if_pos (arity_one h)]))
  · refine Ev.neg (by simpa using h) (Ev.bind (exTwo_ev n.1) ?_)
    rw [if_neg (fun e => h (arity_eq_one.1 e))]
    by_cases h2 : isTwo n.1 = true
    · exact Ev.pos h2 (Ev.ret (by rw [if_pos (arity_two h2)]))
    · exact Ev.neg (by simpa using h2) (Ev.ret (by rw [if_neg (fun e => h2 (arity_eq_two.1 e))]))
theorem of_ev (n : Nd) : Ev (fun k => impl_Node_of.f k n) (partsOf n) := by
  refine Ev.step (fun k => impl_Node_of.eq k n) (Ev.bind (operands_ev n.1) ?_)
  unfold partsOf
  rcases arity_cases n.1 with ⟨h, _⟩ | ⟨h, _⟩ | ⟨h, _⟩ | ⟨h, _⟩ <;> rw [h] <;> exact Ev.pos (by decide) (Ev.pos (by simp [maxI]) (Ev.ret (by simp [maxI])))
/-- may this node stand at place i -/
def nodeOk (n : Nd) (i : Int) : Bool :=
  if n.1 = tIn then decide (n.2.1 = 0) && decide (n.2.2.1 = 0) && inB n.2.2.2 0 1
  else if n.1 = tConst then decide (n.2.1 = 0) && decide (n.2.2.1 = 0) && inB n.2.2.2 0 63
  else if isOne n.1 = true then inB n.2.1 0 (i - 1) && decide (n.2.2.1 = 0) && decide (n.2.2.2 = 0)
  else isTwo n.1 && inB n.2.1 0 (i - 1) && inB n.2.2.1 0 (i - 1) && decide (n.2.2.2 = 0)
theorem exNode_ev (n : Nd) (i : Int) (h0 : 0 ≤ i) (h1 : i ≤ 9223372036854775807) : Ev (fun k => spec_exNode.f k n i) (nodeOk n i) := by
  refine Ev.step (fun k => spec_exNode.eq k n i) ?_
  unfold nodeOk
  rw [wrap_ok (by omega) (by omega)]
  simp only [l1In_f, exWord_f, exOne_f]
  by_cases c : n.1 = tIn
  · refine Ev.pos (seq_t c) ?_
    rw [if_pos c]
    by_cases a : n.2.1 = 0
    · by_cases b : n.2.2.1 = 0
      · exact Ev.pos (by simpa using a) (Ev.pos (by simpa using b) (Ev.here rfl (Ev.ret (by simp [a, b]))))
      · exact Ev.pos (by simpa using a) (Ev.neg (by simpa using b) (Ev.ret (by simp [b])))
    · exact Ev.neg (by simpa using a) (Ev.ret (by simp [a]))
  · refine Ev.neg (seq_f c) ?_
    rw [if_neg c]
    by_cases c2 : n.1 = tConst
    · refine Ev.pos (seq_t c2) ?_
      rw [if_pos c2]
      by_cases a : n.2.1 = 0
      · by_cases b : n.2.2.1 = 0
        · exact Ev.pos (by simpa using a) (Ev.pos (by simpa using b) (Ev.here rfl (Ev.ret (by simp [a, b]))))
        · exact Ev.pos (by simpa using a) (Ev.neg (by simpa using b) (Ev.ret (by simp [b])))
      · exact Ev.neg (by simpa using a) (Ev.ret (by simp [a]))
    · refine Ev.neg (seq_f c2) ?_
      rw [if_neg c2]
      refine Ev.here rfl ?_
      by_cases h : isOne n.1 = true
      · refine Ev.pos h (Ev.here rfl ?_)
        rw [if_pos h]
        cases hb : inB n.2.1 0 (i - 1)
        · exact Ev.neg rfl (Ev.ret (by simp))
        · by_cases b : n.2.2.1 = 0
          · exact Ev.pos rfl (Ev.pos (by simpa using b) (Ev.ret (by simp [b]; rfl)))
          · exact Ev.pos rfl (Ev.neg (by simpa using b) (Ev.ret (by simp [b])))
      · refine Ev.neg (by simpa using h) (Ev.bind (exTwo_ev n.1) ?_)
        rw [if_neg h]
        cases h2 : isTwo n.1
        · exact Ev.neg rfl (Ev.ret (by simp))
        · refine Ev.pos rfl (Ev.here rfl ?_)
          cases hb : inB n.2.1 0 (i - 1)
          · exact Ev.neg rfl (Ev.ret (by simp))
          · refine Ev.pos rfl (Ev.here rfl ?_)
            cases hb2 : inB n.2.2.1 0 (i - 1)
            · exact Ev.neg rfl (Ev.ret (by simp))
            · exact Ev.pos rfl (Ev.ret (by simp; rfl))
end Go.Proofs.YtokdmaoconegkaaGreat.Am
end
section
/- Where a node may stand: the program's function; how often each node is an operand. -/
namespace Go.Proofs.YtokdmaoconegkaaGreat.Am
open Go
set_option linter.unusedVariables false
set_option linter.unusedSimpArgs false

theorem isNode_ev (n : Nd) (i : Int) (h0 : 0 ≤ i) (h1 : i ≤ 9223372036854775807) : Ev (fun k => impl_Node_isNode.f k n i) (nodeOk n i) := by
  refine Ev.step (fun k => impl_Node_isNode.eq k n i) (Ev.bind (operands_ev n.1) ?_)
  -- behind both places
  have hend : ∀ m : Int, m = arity n.1 → Ev (fun k => impl_Node_isNode.l0 k i m 2 2 n.1 n.2.1 n.2.2.1 n.2.2.2 [n.2.1, n.2.2.1]) (if n.1 = tIn then inB n.2.2.2 0 1 else if n.1 = tConst then inB n.2.2.2 0 63 else decide (m > 0) && decide (n.2.2.2 = 0)) := by
    intro m hm
    refine Ev.step (fun k => impl_Node_isNode.l0_eq k _ _ _ _ _ _ _ _ _) (Ev.neg (by simp) ?_)
    by_cases c : n.1 = tIn
    · exact Ev.pos (seq_t c) (Ev.here (within_f _ _ _) (Ev.ret (by rw [if_pos c])))
    · refine Ev.neg (seq_f c) ?_
      rw [if_neg c]
      by_cases c2 : n.1 = tConst
      · exact Ev.pos (seq_t c2) (Ev.here (isWord_f _) (Ev.ret (by rw [if_pos c2])))
      · refine Ev.neg (seq_f c2) ?_
        rw [if_neg c2]
        by_cases p : m > 0
        · exact Ev.pos (by simpa using p) (Ev.ret (by simp [p]; rfl))
        · exact Ev.neg (by simpa using p) (Ev.ret (by simp [p]))
  -- one place
  have hone : ∀ (m : Int) (j : Nat) (x : Int) (R : Bool), j < 2 → [n.2.1, n.2.2.1][j]? = some x → Ev (fun k => impl_Node_isNode.l0 k i m 2 ((j + 1 : Nat) : Int) n.1 n.2.1 n.2.2.1 n.2.2.2 [n.2.1, n.2.2.1]) R →
      Ev (fun k => impl_Node_isNode.l0 k i m 2 (j : Int) n.1 n.2.1 n.2.2.1 n.2.2.2 [n.2.1, n.2.2.1]) ((if (j : Int) < m then inB x 0 (i - 1) else decide (x = 0)) && R) := by
    intro m j x R hj hx hR
    refine Ev.step (fun k => impl_Node_isNode.l0_eq k _ _ _ _ _ _ _ _ _) (Ev.pos (by simp; omega) (Ev.pos (by simp) (Ev.pos (by simp; omega) (Ev.at (b := x) (by rw [Int.toNat_natCast]; exact hx) ?_))))
    rw [wrap_ok (x := i - 1) (by omega) (by omega), next_ok j 2 hj (by omega)]
    by_cases hm : (j : Int) < m
    · refine Ev.pos (by simpa using hm) (Ev.here (within_f _ _ _) ?_)
      rw [if_pos hm]
      cases hb : inB x 0 (i - 1) with
      | true => exact Ev.neg rfl (Ev.neg (by simp; omega) (by simpa using hR))
      | false => exact Ev.pos rfl (Ev.ret (by simp))
    · refine Ev.neg (by simpa using hm) (Ev.pos (by simp; omega) ?_)
      rw [if_neg hm]
      by_cases h0 : x = 0
      · exact Ev.neg (by simp [h0]) (by simpa [h0] using hR)
      · exact Ev.pos (by simpa using h0) (Ev.ret (by simp [h0]))
  have h1' := hone (arity n.1) 1 n.2.2.1 _ (by omega) rfl (hend (arity n.1) rfl)
  have h0' := hone (arity n.1) 0 n.2.1 _ (by omega) rfl h1'
  refine Ev.eq h0' ?_
  unfold nodeOk
  by_cases c : n.1 = tIn
  · have ha : arity n.1 = 0 := by unfold arity; rw [if_pos c]
    rw [ha, if_pos c, if_pos c]
    simp [Bool.and_assoc]
  · rw [if_neg c, if_neg c]
    by_cases c2 : n.1 = tConst
    · have ha : arity n.1 = 0 := by unfold arity; rw [if_neg c, if_pos c2]
      rw [ha, if_pos c2, if_pos c2]
      simp [Bool.and_assoc]
    · rw [if_neg c2, if_neg c2]
      rcases arity_cases n.1 with ⟨ha, h1, h2⟩ | ⟨ha, h1, h2⟩ | ⟨ha, h1, h2⟩ | ⟨ha, h1, h2⟩ <;> rw [ha, h1, h2] <;> simp [Bool.and_assoc]

/-! ### how often each node is an operand -/
def bumpU (u : List Int) (p : Int) : List Int := u.set p.toNat (IntKind.wrap .i64 (u.getD p.toNat 0 + 1))
def bumps (u : List Int) (n : Nd) : List Int := (partsOf n).foldl bumpU u
def usesOf (e : List Nd) : List Int := e.foldl bumps (List.replicate e.length 0)
theorem bump_len (u : List Int) (p : Int) : (bumpU u p).length = u.length := by simp [bumpU]
theorem fold_bump_len (l : List Int) (u : List Int) : (l.foldl bumpU u).length = u.length := by
  induction l generalizing u with
  | nil => rfl
  | cons p l ih => rw [List.foldl_cons, ih, bump_len]
theorem bumps_len (u : List Int) (n : Nd) : (bumps u n).length = u.length := fold_bump_len _ _
theorem fold_bumps_len (l : List Nd) (u : List Int) : (l.foldl bumps u).length = u.length := by
  induction l generalizing u with
  | nil => rfl
  | cons p l ih => rw [List.foldl_cons, ih, bumps_len]
theorem usesOf_len (e : List Nd) : (usesOf e).length = e.length := by unfold usesOf; rw [fold_bumps_len, List.length_replicate]
/-- all operands lie below this bound -/
def PartsIn (e : List Nd) (m : Nat) : Prop := ∀ n ∈ e, ∀ p ∈ partsOf n, 0 ≤ p ∧ p < m
theorem take_fold {α β : Type} (f : β → α → β) (l : List α) (b : β) (i : Nat) (h : i < l.length) : (l.take (i + 1)).foldl f b = f ((l.take i).foldl f b) l[i] := by
  rw [List.take_succ_eq_append_getElem h, List.foldl_append]; rfl
theorem bump_at {u : List Int} {p : Int} (h0 : 0 ≤ p) (h : p < u.length) : u[p.toNat]? = some (u.getD p.toNat 0) := by
  have hp : p.toNat < u.length := by omega
  rw [List.getElem?_eq_getElem hp, List.getD_eq_getElem?_getD, List.getElem?_eq_getElem hp]; rfl
theorem exUses_ev (e : List Nd) (hl : e.length ≤ 1048576) (hp : PartsIn e e.length) : Ev (fun k => spec_exUses.f k e) (usesOf e) := by
  refine Ev.step (fun k => spec_exUses.eq k e) (Ev.pos (by simp) (Ev.pos (by simp; omega) ?_))
  rw [Int.toNat_natCast]
  have key := Ev.loop e.length (fun k i => spec_exUses.l0 k e (e.length : Int) (i : Int) ((e.take i).foldl bumps (List.replicate e.length 0))) (fun _ => usesOf e) ?_ ?_ 0 (by omega)
  · simpa using key
  · exact Ev.step (fun k => spec_exUses.l0_eq k _ _ _ _) (Ev.neg (by simp) (Ev.ret (by rw [List.take_of_length_le (Nat.le_refl _)]; rfl)))
  · intro i hi ih
    refine Ev.step (fun k => spec_exUses.l0_eq k _ _ _ _) (Ev.pos (by simpa using hi) (Ev.pos (by simp) (Ev.get hi (Ev.bind (exParts_ev e[i]) ?_))))
    have hps : ∀ p ∈ partsOf e[i], 0 ≤ p ∧ p < e.length := hp _ (List.getElem_mem hi)
    have inner := Ev.loop (partsOf e[i]).length (fun k j => spec_exUses.l1 k e (e.length : Int) (i : Int) (partsOf e[i]) ((partsOf e[i]).length : Int) (j : Int) (((partsOf e[i]).take j).foldl bumpU ((e.take i).foldl bumps (List.replicate e.length 0)))) (fun _ => usesOf e) ?_ ?_ 0 (by omega)
    · simpa using inner
    · refine Ev.step (fun k => spec_exUses.l1_eq k _ _ _ _ _ _ _) (Ev.neg (by simp) ?_)
      rw [List.take_of_length_le (Nat.le_refl _), next_ok i _ hi (by omega)]
      rw [take_fold bumps e _ i hi] at ih
      exact ih
    · intro j hj ihj
      have hpj := hps _ (List.getElem_mem hj)
      have h2 := parts_le e[i]
      have hlen : (((partsOf e[i]).take j).foldl bumpU ((e.take i).foldl bumps (List.replicate e.length 0))).length = e.length := by rw [fold_bump_len, fold_bumps_len, List.length_replicate]
      refine Ev.step (fun k => spec_exUses.l1_eq k _ _ _ _ _ _ _) (Ev.pos (by simpa using hj) (Ev.pos (by simp) (Ev.get hj (Ev.pos (by simpa using hpj.1) (Ev.pos (by rw [hlen]; simpa using hpj.2) (Ev.at (bump_at hpj.1 (by rw [hlen]; exact hpj.2)) (Ev.pos (by simpa using hpj.1) (Ev.pos (by rw [hlen]; simpa using hpj.2) (Ev.at (bump_at hpj.1 (by rw [hlen]; exact hpj.2)) ?_)))))))))
      rw [take_fold bumpU (partsOf e[i]) _ j hj] at ihj
      rw [next_ok j _ hj (by omega)]
      exact ihj
theorem uses_ev (e : List Nd) (hl : e.length ≤ 1048576) (hp : PartsIn e e.length) : Ev (fun k => impl_uses.f k e) (usesOf e) := by
  refine Ev.step (fun k => impl_uses.eq k e) (Ev.pos (by simp) (Ev.pos (by simp; omega) ?_))
  rw [Int.toNat_natCast]
  have key := Ev.loop e.length (fun k i => impl_uses.l0 k e (e.length : Int) (i : Int) ((e.take i).foldl bumps (List.replicate e.length 0))) (fun _ => usesOf e) ?_ ?_ 0 (by omega)
  · simpa using key
  · exact Ev.step (fun k => impl_uses.l0_eq k _ _ _ _) (Ev.neg (by simp) (Ev.ret (by rw [List.take_of_length_le (Nat.le_refl _)]; rfl)))
  · intro i hi ih
    refine Ev.step (fun k => impl_uses.l0_eq k _ _ _ _) (Ev.pos (by simpa using hi) (Ev.pos (by simp) (Ev.get hi (Ev.bind (of_ev e[i]) ?_))))
    have hps : ∀ p ∈ partsOf e[i], 0 ≤ p ∧ p < e.length := hp _ (List.getElem_mem hi)
    have inner := Ev.loop (partsOf e[i]).length (fun k j => impl_uses.l1 k e (e.length : Int) (i : Int) (partsOf e[i]) ((partsOf e[i]).length : Int) (j : Int) (((partsOf e[i]).take j).foldl bumpU ((e.take i).foldl bumps (List.replicate e.length 0)))) (fun _ => usesOf e) ?_ ?_ 0 (by omega)
    · simpa using inner
    · refine Ev.step (fun k => impl_uses.l1_eq k _ _ _ _ _ _ _) (Ev.neg (by simp) ?_)
      rw [List.take_of_length_le (Nat.le_refl _), next_ok i _ hi (by omega)]
      rw [take_fold bumps e _ i hi] at ih
      exact ih
    · intro j hj ihj
      have hpj := hps _ (List.getElem_mem hj)
      have h2 := parts_le e[i]
      have hlen : (((partsOf e[i]).take j).foldl bumpU ((e.take i).foldl bumps (List.replicate e.length 0))).length = e.length := by rw [fold_bump_len, fold_bumps_len, List.length_replicate]
      refine Ev.step (fun k => impl_uses.l1_eq k _ _ _ _ _ _ _) (Ev.pos (by simpa using hj) (Ev.pos (by simp) (Ev.get hj (Ev.pos (by simpa using hpj.1) (Ev.pos (by rw [hlen]; simpa using hpj.2) (Ev.at (bump_at hpj.1 (by rw [hlen]; exact hpj.2)) (Ev.pos (by simpa using hpj.1) (Ev.pos (by rw [hlen]; simpa using hpj.2) (Ev.at (bump_at hpj.1 (by rw [hlen]; exact hpj.2)) ?_)))))))))
      rw [take_fold bumpU (partsOf e[i]) _ j hj] at ihj
      rw [next_ok j _ hj (by omega)]
      exact ihj
end Go.Proofs.YtokdmaoconegkaaGreat.Am
end
section
/- When a list of nodes is an expression, and a tree. -/
namespace Go.Proofs.YtokdmaoconegkaaGreat.Am
open Go
set_option linter.unusedVariables false
set_option linter.unusedSimpArgs false

/-- all nodes from place i on may stand where they stand -/
def nodesOk : List Nd → Nat → Bool
  | [], _ => true
  | n :: r, i => nodeOk n i && nodesOk r (i + 1)
theorem nodesOk_at {e : List Nd} {i : Nat} (h : i < e.length) : nodesOk (e.drop i) i = (nodeOk e[i] i && nodesOk (e.drop (i + 1)) (i + 1)) := by
  rw [drop_at e i h]; rfl
theorem inB_iff {n lo hi : Int} : inB n lo hi = true ↔ lo ≤ n ∧ n ≤ hi := by unfold inB; simp
theorem nodeOk_parts {n : Nd} {i : Nat} (h : nodeOk n i = true) : ∀ p ∈ partsOf n, 0 ≤ p ∧ p < i := by
  intro p hp
  unfold partsOf at hp
  unfold nodeOk at h
  rcases arity_cases n.1 with ⟨ha, h1, h2⟩ | ⟨ha, h1, h2⟩ | ⟨ha, h1, h2⟩ | ⟨ha, h1, h2⟩
  · rw [ha] at hp; simp at hp
  · rw [ha] at hp; simp at hp
  · have n1 : n.1 ≠ tIn := fun e => by rw [e] at h1; revert h1; decide
    have n2 : n.1 ≠ tConst := fun e => by rw [e] at h1; revert h1; decide
    rw [if_neg n1, if_neg n2, if_pos h1] at h
    rw [ha] at hp
    simp only [Bool.and_eq_true, inB_iff] at h
    simp at hp
    omega
  · obtain ⟨n1, n2, _⟩ := isTwo_not h2
    rw [if_neg n1, if_neg n2, if_neg (by simp [h1])] at h
    rw [ha] at hp
    simp only [Bool.and_eq_true, inB_iff] at h
    simp at hp
    omega
theorem nodesOk_get : ∀ (e : List Nd) (i : Nat), nodesOk e i = true → ∀ (j : Nat) (h : j < e.length), nodeOk e[j] ((i + j : Nat) : Int) = true
  | [], i, _, j, h => by simp at h
  | n :: r, i, hn, j, h => by
    simp only [nodesOk, Bool.and_eq_true] at hn
    cases j with
    | zero => simpa using hn.1
    | succ j =>
      have := nodesOk_get r (i + 1) hn.2 j (by simpa using h)
      rw [show i + (j + 1) = i + 1 + j by omega]
      simpa using this
theorem nodesOk_parts {e : List Nd} (h : nodesOk e 0 = true) : PartsIn e e.length := fun n hn p hp => by
  obtain ⟨j, hj, e1⟩ := List.getElem_of_mem hn
  have := nodesOk_get e 0 h j hj
  rw [e1] at this
  have := nodeOk_parts (i := 0 + j) this p hp
  omega
/-- is each node but the last one an operand -/
def allUsed (e : List Nd) : Bool := !decide ((0 : Int) ∈ (usesOf e).take (e.length - 1))
def exprOk (e : List Nd) : Bool := inB e.length 1 24 && (nodesOk e 0 && allUsed e)
theorem noneOf {α : Type} {e : List Nd} {g : Nat → Nat → Option Bool} (hl : e.length ≤ 1048576) (hbad : ∀ i (h : i < e.length), nodeOk e[i] i = false → Ev (fun k => g k i) false) (hgo : ∀ i (h : i < e.length), nodeOk e[i] i = true → Ev (fun k => g k (i + 1)) false → Ev (fun k => g k i) false) : ∀ (d i : Nat), i + d = e.length → nodesOk (e.drop i) i = false → Ev (fun k => g k i) false := by
  intro d
  induction d with
  | zero =>
    intro i hi h
    rw [List.drop_eq_nil_of_le (by omega)] at h
    cases h
  | succ d ih =>
    intro i hi h
    have hlt : i < e.length := by omega
    rw [nodesOk_at hlt] at h
    cases hn : nodeOk e[i] i with
    | false => exact hbad i hlt hn
    | true =>
      rw [hn, Bool.true_and] at h
      exact hgo i hlt hn (ih (i + 1) (by omega) h)
theorem exGood_ev (e : List Nd) (hl : e.length ≤ 1048576) : Ev (fun k => spec_exGood.f k e) (exprOk e) := by
  refine Ev.step (fun k => spec_exGood.eq k e) (Ev.here (l1In_f _ _ _) ?_)
  unfold exprOk
  cases hb : inB (e.length : Int) 1 24 with
  | false => exact Ev.pos rfl (Ev.ret (by simp))
  | true =>
    refine Ev.neg rfl ?_
    have hlen := inB_iff.1 hb
    rw [Bool.true_and]
    cases hn : nodesOk e 0 with
    | true =>
      have key := Ev.loop e.length (fun k i => spec_exGood.l0 k e e (e.length : Int) (i : Int)) (fun _ => allUsed e) ?_ ?_ 0 (by omega)
      · simpa using key
      · have hw : IntKind.wrap .i64 ((e.length : Int) - 1) = ((e.length - 1 : Nat) : Int) := by rw [wrap_ok (by omega) (by omega)]; omega
        refine Ev.step (fun k => spec_exGood.l0_eq k _ _ _ _) (Ev.neg (by simp) (Ev.bind (exUses_ev e hl (nodesOk_parts hn)) ?_))
        rw [hw, usesOf_len]
        refine Ev.pos (by simp) (Ev.pos (by simp) (Ev.bind (l1Has_ev _ _ (by rw [List.length_drop, List.length_take, usesOf_len]; omega)) (Ev.ret ?_)))
        simp [allUsed]
      · intro i hi ih
        have := nodesOk_get e 0 hn i hi
        rw [Nat.zero_add] at this
        refine Ev.step (fun k => spec_exGood.l0_eq k _ _ _ _) (Ev.pos (by simpa using hi) (Ev.pos (by simp) (Ev.get hi (Ev.bind (exNode_ev e[i] i (by omega) (by omega)) (Ev.neg (by rw [this]; rfl) ?_)))))
        rw [next_ok i _ hi (by omega)]
        exact ih
    | false =>
      refine noneOf (α := Nat) (e := e) (g := fun k i => spec_exGood.l0 k e e (e.length : Int) (i : Int)) hl (fun i hi hf => ?_) (fun i hi hf ih => ?_) e.length 0 (by omega) hn
      · exact Ev.step (fun k => spec_exGood.l0_eq k _ _ _ _) (Ev.pos (by simpa using hi) (Ev.pos (by simp) (Ev.get hi (Ev.bind (exNode_ev e[i] i (by omega) (by omega)) (Ev.pos (by rw [hf]; rfl) (Ev.now _))))))
      · refine Ev.step (fun k => spec_exGood.l0_eq k _ _ _ _) (Ev.pos (by simpa using hi) (Ev.pos (by simp) (Ev.get hi (Ev.bind (exNode_ev e[i] i (by omega) (by omega)) (Ev.neg (by rw [hf]; rfl) ?_)))))
        rw [next_ok i _ hi (by omega)]
        exact ih
theorem isExpr_ev (e : List Nd) (hl : e.length ≤ 1048576) : Ev (fun k => impl_IsExpr.f k e) (exprOk e) := by
  refine Ev.step (fun k => impl_IsExpr.eq k e) (Ev.here (within_f _ _ _) ?_)
  unfold exprOk
  cases hb : inB (e.length : Int) 1 24 with
  | false => exact Ev.pos rfl (Ev.ret (by simp))
  | true =>
    refine Ev.neg rfl ?_
    have hlen := inB_iff.1 hb
    rw [Bool.true_and]
    cases hn : nodesOk e 0 with
    | true =>
      have key := Ev.loop e.length (fun k i => impl_IsExpr.l0 k e e (e.length : Int) (i : Int)) (fun _ => allUsed e) ?_ ?_ 0 (by omega)
      · simpa using key
      · have hw : IntKind.wrap .i64 ((e.length : Int) - 1) = ((e.length - 1 : Nat) : Int) := by rw [wrap_ok (by omega) (by omega)]; omega
        refine Ev.step (fun k => impl_IsExpr.l0_eq k _ _ _ _) (Ev.neg (by simp) (Ev.bind (uses_ev e hl (nodesOk_parts hn)) ?_))
        rw [hw, usesOf_len]
        refine Ev.pos (by simp) (Ev.pos (by simp) (Ev.bind (containsI_ev _ _ (by rw [List.length_drop, List.length_take, usesOf_len]; omega)) (Ev.ret ?_)))
        simp [allUsed]
      · intro i hi ih
        have := nodesOk_get e 0 hn i hi
        rw [Nat.zero_add] at this
        refine Ev.step (fun k => impl_IsExpr.l0_eq k _ _ _ _) (Ev.pos (by simpa using hi) (Ev.pos (by simp) (Ev.get hi (Ev.bind (isNode_ev e[i] i (by omega) (by omega)) (Ev.neg (by rw [this]; rfl) ?_)))))
        rw [next_ok i _ hi (by omega)]
        exact ih
    | false =>
      refine noneOf (α := Nat) (e := e) (g := fun k i => impl_IsExpr.l0 k e e (e.length : Int) (i : Int)) hl (fun i hi hf => ?_) (fun i hi hf ih => ?_) e.length 0 (by omega) hn
      · exact Ev.step (fun k => impl_IsExpr.l0_eq k _ _ _ _) (Ev.pos (by simpa using hi) (Ev.pos (by simp) (Ev.get hi (Ev.bind (isNode_ev e[i] i (by omega) (by omega)) (Ev.pos (by rw [hf]; rfl) (Ev.now _))))))
      · refine Ev.step (fun k => impl_IsExpr.l0_eq k _ _ _ _) (Ev.pos (by simpa using hi) (Ev.pos (by simp) (Ev.get hi (Ev.bind (isNode_ev e[i] i (by omega) (by omega)) (Ev.neg (by rw [hf]; rfl) ?_)))))
        rw [next_ok i _ hi (by omega)]
        exact ih
end Go.Proofs.YtokdmaoconegkaaGreat.Am
end
section
/- When an expression is a tree: the program's function and the reference's. -/
namespace Go.Proofs.YtokdmaoconegkaaGreat.Am
open Go
set_option linter.unusedVariables false
set_option linter.unusedSimpArgs false

def Bnd (u : List Int) (m : Nat) : Prop := ∀ x ∈ u, 0 ≤ x ∧ x ≤ m
theorem bump_bnd {u : List Int} {m : Nat} (h : Bnd u m) (hm : m ≤ 1000000000) (p : Int) : Bnd (bumpU u p) (m + 1) := by
  intro x hx
  unfold bumpU at hx
  rcases List.mem_or_eq_of_mem_set hx with hx | hx
  · have := h x hx; omega
  · have hd : 0 ≤ u.getD p.toNat 0 ∧ u.getD p.toNat 0 ≤ m := by
      rw [List.getD_eq_getElem?_getD]
      cases hq : u[p.toNat]? with
      | none => simp
      | some y => exact h y (List.mem_of_getElem? hq)
    rw [hx, wrap_ok (by omega) (by omega)]
    omega
theorem fold_bnd : ∀ (l : List Int) (u : List Int) (m : Nat), Bnd u m → m + l.length ≤ 1000000000 → Bnd (l.foldl bumpU u) (m + l.length)
  | [], u, m, h, _ => h
  | p :: l, u, m, h, hm => by
    simp only [List.length_cons] at hm
    rw [List.foldl_cons, List.length_cons, show m + (l.length + 1) = (m + 1) + l.length by omega]
    exact fold_bnd l _ (m + 1) (bump_bnd h (by omega) p) (by omega)
theorem Bnd.mono {u : List Int} {m k : Nat} (h : Bnd u m) (hk : m ≤ k) : Bnd u k := fun x hx => by have := h x hx; omega
theorem folds_bnd : ∀ (l : List Nd) (u : List Int) (m : Nat), Bnd u m → m + 2 * l.length ≤ 1000000000 → Bnd (l.foldl bumps u) (m + 2 * l.length)
  | [], u, m, h, _ => h
  | n :: l, u, m, h, hm => by
    simp only [List.length_cons] at hm
    have hp := parts_le n
    rw [List.foldl_cons, List.length_cons, show m + 2 * (l.length + 1) = (m + 2) + 2 * l.length by omega]
    exact folds_bnd l _ (m + 2) ((fold_bnd (partsOf n) u m h (by omega)).mono (by omega)) (by omega)
theorem uses_bnd (e : List Nd) (hl : e.length ≤ 1048576) : Bnd (usesOf e) (2 * e.length) := by
  have := folds_bnd e (List.replicate e.length 0) 0 (fun x hx => by have := List.eq_of_mem_replicate hx; omega) (by omega)
  simpa [usesOf] using this
/-- is each node at most once an operand -/
def once (e : List Nd) : Bool := (usesOf e).all fun x => decide (x ≤ 1)
theorem l1All_ev (l : List Int) (hl : l.length ≤ 9223372036854775000) (hb : ∀ x ∈ l, 0 ≤ x) : Ev (fun k => spec_l1All.f k l 0 1) (l.all fun x => decide (x ≤ 1)) := by
  refine Ev.step (fun k => spec_l1All.eq k l 0 1) ?_
  have key := Ev.loop l.length (fun k i => spec_l1All.l0 k 0 1 l (l.length : Int) (i : Int)) (fun i => (l.drop i).all fun x => decide (x ≤ 1)) ?_ ?_ 0 (by omega)
  · exact key
  · exact Ev.step (fun k => spec_l1All.l0_eq k _ _ _ _ _) (Ev.neg (by simp) (Ev.ret (by simp)))
  · intro i hi ih
    refine Ev.step (fun k => spec_l1All.l0_eq k _ _ _ _ _) (Ev.pos (by simpa using hi) (Ev.pos (by simp) (Ev.get hi (Ev.here (l1In_f _ _ _) ?_))))
    have h0 := hb _ (List.getElem_mem hi)
    rw [next_ok i _ hi hl]
    rw [drop_at _ _ hi, List.all_cons]
    by_cases c : l[i] ≤ 1
    · exact Ev.neg (by rw [inB_iff.2 ⟨h0, c⟩]; rfl) (Ev.eq ih (by simp [c]))
    · have : inB l[i] 0 1 = false := by
        cases hq : inB l[i] 0 1 with
        | false => rfl
        | true => exact absurd (inB_iff.1 hq).2 c
      exact Ev.pos (by rw [this]; rfl) (Ev.ret (by simp [c]))
theorem many_ev (l : List Int) (hl : l.length ≤ 9223372036854775000) : Ev (fun k => slices_ContainsFunc_int_isTree.f k l) (!(l.all fun x => decide (x ≤ 1))) := by
  have key : ∀ (d : Nat) (i : Nat), i + d = l.length → ∃ r : Int, Ev (fun k => slices_IndexFunc_int_isTree.l0 k l (l.length : Int) (i : Int)) r ∧ (0 ≤ r ↔ ((l.drop i).all fun x => decide (x ≤ 1)) = false) := by
    intro d
    induction d with
    | zero =>
      intro i h
      refine ⟨-1, Ev.step (fun k => slices_IndexFunc_int_isTree.l0_eq k _ _ _) (Ev.neg (by simp; omega) (Ev.now _)), ?_⟩
      rw [List.drop_eq_nil_of_le (by omega)]; simp
    | succ d ih =>
      intro i h
      have hi : i < l.length := by omega
      by_cases c : l[i] > 1
      · refine ⟨i, Ev.step (fun k => slices_IndexFunc_int_isTree.l0_eq k _ _ _) (Ev.pos (by simpa using hi) (Ev.pos (by simp) (Ev.get hi (Ev.here (impl_isTree_1.eq _) (Ev.pos (by simpa using c) (Ev.now _)))))), ?_⟩
        have c' : ¬ l[i] ≤ 1 := by omega
        rw [drop_at _ _ hi, List.all_cons]; simp [c']
      · obtain ⟨r, hev, hiff⟩ := ih (i + 1) (by omega)
        refine ⟨r, Ev.step (fun k => slices_IndexFunc_int_isTree.l0_eq k _ _ _) (Ev.pos (by simpa using hi) (Ev.pos (by simp) (Ev.get hi (Ev.here (impl_isTree_1.eq _) (Ev.neg (by simpa using c) (by rw [next_ok i _ hi hl]; exact hev)))))), ?_⟩
        have c' : l[i] ≤ 1 := by omega
        rw [hiff, drop_at _ _ hi, List.all_cons]; simp [c']
  obtain ⟨r, hev, hiff⟩ := key l.length 0 (by omega)
  refine Ev.step (fun k => slices_ContainsFunc_int_isTree.eq k l) (Ev.bind (b := r) (Ev.step (fun k => slices_IndexFunc_int_isTree.eq k l) hev) (Ev.ret ?_))
  rw [List.drop_zero] at hiff
  cases hq : l.all fun x => decide (x ≤ 1) with
  | true => rw [hq] at hiff; have : ¬ 0 ≤ r := fun h => by have := hiff.1 h; cases this
            simp [this]
  | false => rw [hq] at hiff; have : 0 ≤ r := hiff.2 rfl
             simp [this]
theorem exTree_ev (e : List Nd) (hl : e.length ≤ 1048576) (hg : exprOk e = true) : Ev (fun k => spec_exTree.f k e) (once e) := by
  unfold exprOk at hg
  simp only [Bool.and_eq_true] at hg
  exact Ev.step (fun k => spec_exTree.eq k e) (Ev.bind (exUses_ev e hl (nodesOk_parts hg.2.1)) (Ev.bind (l1All_ev _ (by rw [usesOf_len]; omega) fun x hx => (uses_bnd e hl x hx).1) (Ev.now _)))
theorem isTree_ev (e : List Nd) (hl : e.length ≤ 1048576) : Ev (fun k => impl_isTree.f k e) (exprOk e && once e) := by
  refine Ev.step (fun k => impl_isTree.eq k e) (Ev.bind (isExpr_ev e hl) ?_)
  cases hg : exprOk e with
  | false => exact Ev.neg rfl (Ev.ret (by simp))
  | true =>
    have hg' := hg
    unfold exprOk at hg'
    simp only [Bool.and_eq_true] at hg'
    exact Ev.pos rfl (Ev.bind (uses_ev e hl (nodesOk_parts hg'.2.1)) (Ev.bind (many_ev _ (by rw [usesOf_len]; omega)) (Ev.ret (by simp [once]))))
theorem exprOk_parts {e : List Nd} (h : exprOk e = true) : nodesOk e 0 = true ∧ 1 ≤ e.length ∧ e.length ≤ 24 := by
  unfold exprOk at h
  simp only [Bool.and_eq_true, inB_iff] at h
  exact ⟨h.2.1, by omega, by omega⟩
end Go.Proofs.YtokdmaoconegkaaGreat.Am
end
section
/- Trees that may be asked for. -/
namespace Go.Proofs.YtokdmaoconegkaaGreat.Am
open Go
set_option linter.unusedVariables false
set_option linter.unusedSimpArgs false

theorem hole_val {n : Nd} {i : Int} (h : nodeOk n i = true) (c : n.1 = tIn) : ∃ v : Nat, v < 2 ∧ n.2.2.2 = (v : Int) := by
  unfold nodeOk at h
  rw [if_pos c] at h
  simp only [Bool.and_eq_true, inB_iff] at h
  exact ⟨n.2.2.2.toNat, by omega, by omega⟩
theorem last_w {n : Nat} (h0 : 1 ≤ n) (h1 : n ≤ 1048576) : IntKind.wrap .i64 ((n : Int) - 1) = ((n - 1 : Nat) : Int) := by
  rw [wrap_ok (by omega) (by omega)]; omega
/-- a tree that may be asked for -/
def treeOk (e : List Nd) : Bool := exprOk e && once e
theorem treeOk_parts {e : List Nd} (h : treeOk e = true) : nodesOk e 0 = true ∧ 1 ≤ e.length ∧ e.length ≤ 24 ∧ once e = true := by
  unfold treeOk at h
  rw [Bool.and_eq_true] at h
  obtain ⟨h1, h2, h3⟩ := exprOk_parts h.1
  exact ⟨h1, h2, h3, h.2⟩
theorem isTree_v (e : List Nd) (hl : e.length ≤ 1048576) : impl_isTree.v e = some (treeOk e) := ev_lim (isTree_ev e hl)
theorem exGood_v (e : List Nd) (hl : e.length ≤ 1048576) : spec_exGood.v e = some (exprOk e) := ev_lim (exGood_ev e hl)
theorem isExpr_v (e : List Nd) (hl : e.length ≤ 1048576) : impl_IsExpr.v e = some (exprOk e) := ev_lim (isExpr_ev e hl)
theorem exTree_v (e : List Nd) (hl : e.length ≤ 1048576) (hg : exprOk e = true) : spec_exTree.v e = some (once e) := ev_lim (exTree_ev e hl hg)
end Go.Proofs.YtokdmaoconegkaaGreat.Am
end
section
/- Rows of at most two numbers, sorted, turned round; a number put into a row; powers of two. -/
namespace Go.Proofs.YtokdmaoconegkaaGreat.Am
open Go
set_option linter.unusedVariables false
set_option linter.unusedSimpArgs false

theorem less_f (a b : Int) : cmp_Less_int.f a b = some (decide (a < b)) := by rw [cmp_Less_int.eq, cmp_isNaN_int.eq]; simp
theorem w01 : IntKind.wrap .i64 ((0 : Int) + 1) = 1 := rfl
theorem w11 : IntKind.wrap .i64 ((1 : Int) + 1) = 2 := rfl
theorem w1 : IntKind.wrap .i64 (1 : Int) = 1 := rfl
theorem w0 : IntKind.wrap .i64 (0 : Int) = 0 := rfl
theorem w2 : IntKind.wrap .i64 (2 : Int) = 2 := rfl
theorem w10 : IntKind.wrap .i64 ((1 : Int) - 1) = 0 := rfl
theorem ins_zero (l : List Int) : slices_insertionSortOrdered_int.v 0 0 l = some ((), l) := slices_insertionSortOrdered_int.vs _ _ _ (slices_insertionSortOrdered_int.v0s _ _ _ _ (by rw [w01]; rfl))
theorem ins_one (l : List Int) : slices_insertionSortOrdered_int.v 0 1 l = some ((), l) := slices_insertionSortOrdered_int.vs _ _ _ (slices_insertionSortOrdered_int.v0s _ _ _ _ (by rw [w01]; rfl))
def sort2 (a b : Int) : List Int := if b < a then [b, a] else [a, b]
theorem ins_two (a b : Int) : slices_insertionSortOrdered_int.v 0 2 [a, b] = some ((), sort2 a b) := by
  have e2 : ∀ l, slices_insertionSortOrdered_int.v0 0 2 2 l = some ((), l) := fun l => slices_insertionSortOrdered_int.v0s _ _ _ _ rfl
  have e0 : ∀ l, slices_insertionSortOrdered_int.v1 0 2 1 0 l = some ((), l) := fun l => slices_insertionSortOrdered_int.v1s _ _ _ _ _ (by rw [w11, e2]; rfl)
  refine slices_insertionSortOrdered_int.vs _ _ _ (slices_insertionSortOrdered_int.v0s _ _ _ _ ?_)
  rw [w01, br_t (by decide)]
  refine slices_insertionSortOrdered_int.v1s _ _ _ _ _ ?_
  unfold sort2
  by_cases c : b < a
  · simp [w10, w11, w1, w0, less_f, c, e0]
  · simp [w10, w11, w1, w0, w2, less_f, c, e2]
theorem pdq (n : Int) (h0 : 0 ≤ n) (h : n ≤ 12) (k : Int) (l : List Int) {r : Unit × List Int} (hi : slices_insertionSortOrdered_int.v 0 n l = some r) : slices_pdqsortOrdered_int.v 0 n k l = some ((), r.2) := by
  refine slices_pdqsortOrdered_int.vs _ _ _ _ (slices_pdqsortOrdered_int.v0s _ _ _ _ _ _ ?_)
  rw [wrap_ok (by omega) (by omega), br_t (decide_eq_true (by omega)), hi, bd_s]
theorem len0 : bits_Len.f (IntKind.wrap .u64 0) = some 0 := by kernel_rfl
theorem len1 : bits_Len.f (IntKind.wrap .u64 1) = some 1 := by kernel_rfl
theorem len2 : bits_Len.f (IntKind.wrap .u64 2) = some 2 := by kernel_rfl
theorem sort_nil : slices_Sort_int.v [] = some ((), []) := by
  refine slices_Sort_int.vs _ ?_
  rw [show ((([] : List Int).length : Nat) : Int) = 0 from rfl, len0, bd_s, pdq 0 (by omega) (by omega) _ _ (ins_zero []), bd_s]
theorem sort_one (a : Int) : slices_Sort_int.v [a] = some ((), [a]) := by
  refine slices_Sort_int.vs _ ?_
  rw [show ((([a] : List Int).length : Nat) : Int) = 1 from rfl, len1, bd_s, pdq 1 (by omega) (by omega) _ _ (ins_one [a]), bd_s]
theorem sort_two (a b : Int) : slices_Sort_int.v [a, b] = some ((), sort2 a b) := by
  refine slices_Sort_int.vs _ ?_
  rw [show ((([a, b] : List Int).length : Nat) : Int) = 2 from rfl, len2, bd_s, pdq 2 (by omega) (by omega) _ _ (ins_two a b), bd_s]
theorem put_two {b d : Int} (h : b < d) : spec_l1Put.v [d] b = some [b, d] := by
  have h1 : ¬ d < b := by omega
  have h2 : ¬ d = b := by omega
  exact spec_l1Put.vs _ _ (spec_l1Put.v0s _ _ _ (by simp [h1, h2]))
/-- whose power of 2 a word is -/
def powP (x : Int) : Int := if x = 2 then 1 else if x = 4 then 2 else if x = 8 then 3 else if x = 16 then 4 else if x = 32 then 5 else 0
theorem power_v (x : Int) : impl_power.v x = some (powP x) := by
  have e6 : impl_power.v0 x 6 = some 0 := impl_power.v0s _ _ rfl
  have st : ∀ (k y : Int) (r : Int), 0 ≤ k → k < 6 → IntKind.wrap .i64 ((1 : Int) * ((2 : Int) ^ (Min.min (Int.toNat k) 64))) = y → (if x = y then some k else impl_power.v0 x (k + 1)) = some r → impl_power.v0 x k = some r := fun k y r h0 h6 hy h => by
    refine impl_power.v0s _ _ ?_
    rw [br_t (decide_eq_true h6), br_t (decide_eq_true h0), hy, wrap_ok (by omega) (by omega), br_if]
    simpa using h
  refine impl_power.vs _ ?_
  unfold powP
  refine st 1 2 _ (by omega) (by omega) rfl ?_
  split
  · rfl
  refine st 2 4 _ (by omega) (by omega) rfl ?_
  split
  · rfl
  refine st 3 8 _ (by omega) (by omega) rfl ?_
  split
  · rfl
  refine st 4 16 _ (by omega) (by omega) rfl ?_
  split
  · rfl
  refine st 5 32 _ (by omega) (by omega) rfl ?_
  split
  · rfl
  exact e6
theorem rev_nil : slices_Reverse_int.v [] = some ((), []) := slices_Reverse_int.vs _ (slices_Reverse_int.v0s _ _ _ rfl)
theorem rev_one (a : Int) : slices_Reverse_int.v [a] = some ((), [a]) := slices_Reverse_int.vs _ (slices_Reverse_int.v0s _ _ _ rfl)
theorem rev_two (a b : Int) : slices_Reverse_int.v [a, b] = some ((), [b, a]) := by
  have e : ∀ l, slices_Reverse_int.v0 1 0 l = some ((), l) := fun l => slices_Reverse_int.v0s _ _ _ rfl
  refine slices_Reverse_int.vs _ ?_
  rw [show IntKind.wrap .i64 ((([a, b] : List Int).length : Int) - 1) = 1 from rfl]
  refine slices_Reverse_int.v0s _ _ _ ?_
  simp [w01, w10, w1, w0, e]
end Go.Proofs.YtokdmaoconegkaaGreat.Am
end
section
/- The forms of ops and their costs: the program's and the reference's. -/
namespace Go.Proofs.YtokdmaoconegkaaGreat.Am
open Go
set_option linter.unusedVariables false
set_option linter.unusedSimpArgs false

abbrev tSet : ByteArray := ⟨#[115, 101, 116]⟩
abbrev tMov : ByteArray := ⟨#[109, 111, 118]⟩
abbrev tMul : ByteArray := ⟨#[109, 117, 108]⟩
abbrev tShl : ByteArray := ⟨#[115, 104, 108]⟩
abbrev tShr : ByteArray := ⟨#[115, 104, 114]⟩
abbrev tAddi : ByteArray := ⟨#[97, 100, 100, 105]⟩
abbrev tAndi : ByteArray := ⟨#[97, 110, 100, 105]⟩
abbrev tXori : ByteArray := ⟨#[120, 111, 114, 105]⟩
abbrev tShli : ByteArray := ⟨#[115, 104, 108, 105]⟩
abbrev tShri : ByteArray := ⟨#[115, 104, 114, 105]⟩
abbrev tLea : ByteArray := ⟨#[108, 101, 97]⟩
/-- the cost of an op -/
def opCost (s : ByteArray) : Int := if s = tMul then 4 else if s = tShl then 2 else if s = tShr then 2 else 1
theorem cdCost_f (s : ByteArray) : spec_cdCost.f s = some (opCost s) := by
  rw [spec_cdCost.eq]
  unfold opCost
  simp only [seq_beq, br_if, decide_eq_true_eq]
  repeat' split
  all_goals first | rfl | simp_all
theorem opCost_pos (s : ByteArray) : 1 ≤ opCost s ∧ opCost s ≤ 4 := by
  unfold opCost
  repeat' split
  all_goals omega
abbrev Form := Bool × Bool × Int × Int × Int × ByteArray
/-- the form of an op -/
def formP (s : ByteArray) : Form × Bool :=
  if s = tSet then ((false, false, 0, 63, 1, s), true)
  else if s = tMov then ((true, false, 1, 0, 1, s), true)
  else if isOne s = true then ((true, false, 1, 0, 1, s), true)
  else if isTwo s = true then ((true, true, 1, 0, opCost s, s), true)
  else if s = tAddi then ((true, false, 0, 63, 1, s.extract 0 3), true)
  else if s = tAndi then ((true, false, 0, 63, 1, s.extract 0 3), true)
  else if s = tXori then ((true, false, 0, 63, 1, s.extract 0 3), true)
  else if s = tShli then ((true, false, 1, 5, 1, s.extract 0 3), true)
  else if s = tShri then ((true, false, 1, 5, 1, s.extract 0 3), true)
  else if s = tLea then ((true, true, 1, 3, 1, s), true)
  else ((false, false, 0, 0, 0, ⟨#[]⟩), false)
theorem containsS_v (l : List ByteArray) (s : ByteArray) (hl : l.length ≤ 9223372036854775000) : slices_Contains_string.v l s = some (isIn l s) := ev_lim (containsS_ev l s hl)
theorem formOf_v (s : ByteArray) : impl_formOf.v s = some (formP s) := by
  refine impl_formOf.vs _ ?_
  have hc := containsS_v opsL s (by decide)
  unfold opsL at hc
  simp only [impl_binary.eq, bd_s, hc, seq_beq, br_if, decide_eq_true_eq]
  have e2 : isIn [(⟨#[97, 100, 100]⟩ : ByteArray), (⟨#[115, 117, 98]⟩ : ByteArray), (⟨#[109, 117, 108]⟩ : ByteArray), (⟨#[97, 110, 100]⟩ : ByteArray), (⟨#[111, 114]⟩ : ByteArray), (⟨#[120, 111, 114]⟩ : ByteArray), (⟨#[115, 104, 108]⟩ : ByteArray), (⟨#[115, 104, 114]⟩ : ByteArray), (⟨#[108, 101, 115, 115]⟩ : ByteArray), (⟨#[101, 113]⟩ : ByteArray)] s = isTwo s := rfl
  rw [e2]
  by_cases c1 : s = tSet
  · subst c1; simp [formP]
  by_cases c2 : s = tMov
  · subst c2; simp [formP]
  by_cases c3 : s = tNot
  · subst c3; simp [formP, isOne]
  by_cases c4 : s = tNeg
  · subst c4; simp [formP, isOne]
  have h1 : isOne s = false := by unfold isOne; simp [c3, c4]
  by_cases h2 : isTwo s = true
  · simp only [formP, c1, c2, c3, c4, h1, h2, if_false, if_true, Bool.false_eq_true, opCost]
    by_cases d1 : s = tShl
    · subst d1; rfl
    by_cases d2 : s = tShr
    · subst d2; rfl
    by_cases d3 : s = tMul
    · subst d3; rfl
    simp only [d1, d2, d3, if_false]
  by_cases c5 : s = tAddi
  · subst c5; simp [formP, h2, isOne]; decide
  by_cases c6 : s = tAndi
  · subst c6; simp [formP, h2, isOne]; decide
  by_cases c7 : s = tXori
  · subst c7; simp [formP, h2, isOne]; decide
  by_cases c8 : s = tShli
  · subst c8; simp [formP, h2, isOne]; decide
  by_cases c9 : s = tShri
  · subst c9; simp [formP, h2, isOne]; decide
  by_cases c10 : s = tLea
  · subst c10; simp [formP, h2, isOne]
  simp only [formP, c1, c2, c3, c4, h1, h2, c5, c6, c7, c8, c9, c10, if_false, Bool.false_eq_true]
theorem formP_cost {s : ByteArray} (h : 0 < arity s) : (formP s).1.2.2.2.2.1 = opCost s := by
  rcases arity_cases s with ⟨e, _⟩ | ⟨e, _⟩ | ⟨_, e, _⟩ | ⟨_, _, e⟩
  · omega
  · omega
  · rcases isOne_mem e with rfl | rfl <;> decide
  · have h1 := (isTwo_not e).2.2
    have d1 : s ≠ tSet := fun q => by subst q; revert e; decide
    have d2 : s ≠ tMov := fun q => by subst q; revert e; decide
    simp only [formP, d1, d2, h1, e, if_false, if_true, Bool.false_eq_true]
end Go.Proofs.YtokdmaoconegkaaGreat.Am
end
section
/- Tiles at a node: the program's and the reference's are the same. -/
namespace Go.Proofs.YtokdmaoconegkaaGreat.Am
open Go
set_option linter.unusedVariables false
set_option linter.unusedSimpArgs false

def ndAt (e : List Nd) (p : Int) : Nd := e.getD p.toNat (⟨#[]⟩, 0, 0, 0)
theorem ndAt_nat {e : List Nd} {i : Nat} (h : i < e.length) : ndAt e (i : Int) = e[i] := by
  unfold ndAt
  rw [Int.toNat_natCast, List.getD_eq_getElem?_getD, List.getElem?_eq_getElem h]; rfl
theorem ndAt_get {e : List Nd} {p : Int} (h0 : 0 ≤ p) (h : p < e.length) : e[p.toNat]? = some (ndAt e p) := by
  obtain ⟨i, rfl⟩ := Int.eq_ofNat_of_zero_le h0
  rw [ndAt_nat (by omega), Int.toNat_natCast]; exact List.getElem?_eq_getElem (by omega)
theorem ndAt_ok {e : List Nd} (hn : nodesOk e 0 = true) {p : Int} (h0 : 0 ≤ p) (h : p < e.length) : nodeOk (ndAt e p) p = true := by
  obtain ⟨i, rfl⟩ := Int.eq_ofNat_of_zero_le h0
  rw [ndAt_nat (by omega)]
  have := nodesOk_get e 0 hn i (by omega)
  rwa [Nat.zero_add] at this
def wordsL : List Int := (List.range 64).map Int.ofNat
theorem mem_words {x : Int} : x ∈ wordsL ↔ 0 ≤ x ∧ x ≤ 63 := by
  unfold wordsL
  rw [List.mem_map]
  constructor
  · rintro ⟨j, hj, rfl⟩
    have := List.mem_range.1 hj
    constructor
    · exact Int.natCast_nonneg j
    · show (j : Int) ≤ 63; omega
  · rintro ⟨h0, h1⟩
    exact ⟨x.toNat, List.mem_range.2 (by omega), by show ((x.toNat : Nat) : Int) = x; omega⟩
def isCn (m : Nd) (S : List Int) : Bool := decide (m.1 = tConst) && decide (m.2.2.2 ∈ S)
theorem const_word {m : Nd} {i : Int} (h : nodeOk m i = true) (c : m.1 = tConst) : 0 ≤ m.2.2.2 ∧ m.2.2.2 ≤ 63 := by
  unfold nodeOk at h
  rw [if_neg (by rw [c]; decide), if_pos c] at h
  simp only [Bool.and_eq_true, inB_iff] at h
  omega
def ops4 : List ByteArray := [(⟨#[97, 100, 100]⟩ : ByteArray), (⟨#[115, 117, 98]⟩ : ByteArray), (⟨#[97, 110, 100]⟩ : ByteArray), (⟨#[120, 111, 114]⟩ : ByteArray)]
def ops5 : List ByteArray := [(⟨#[97, 100, 100]⟩ : ByteArray), (⟨#[97, 110, 100]⟩ : ByteArray), (⟨#[120, 111, 114]⟩ : ByteArray)]
def ops6 : List ByteArray := [(⟨#[115, 104, 108]⟩ : ByteArray), (⟨#[115, 104, 114]⟩ : ByteArray)]
abbrev tAdd : ByteArray := ⟨#[97, 100, 100]⟩
abbrev Tl := List Int × List Int
def constM (b : Bool) (m : Nd) (S : List Int) (p c : Int) : Option Tl := if b = true ∧ isCn m S = true then some ([p], [c]) else none
def deepM (e : List Nd) (b : Bool) (plain deep : Int) (op : ByteArray) (S : List Int) : Option Tl :=
  if b = true ∧ (ndAt e deep).1 = op ∧ isCn (ndAt e (ndAt e deep).2.2.1) S = true then some ([plain, (ndAt e deep).2.1], [(ndAt e deep).2.2.1, deep]) else none
/-- the parts and the inner nodes of a tile at a node -/
def tileN (e : List Nd) (n : Nd) (t : Int) : Option Tl :=
  if t = 0 then (if n.1 = tIn then some ([], []) else none)
  else if t = 1 then (if n.1 = tConst then some ([], []) else none)
  else if t = 2 then (if isOne n.1 = true then some ([n.2.1], []) else none)
  else if t = 3 then (if isTwo n.1 = true then some ([n.2.1, n.2.2.1], []) else none)
  else if t = 4 then constM (isIn ops4 n.1) (ndAt e n.2.2.1) wordsL n.2.1 n.2.2.1
  else if t = 5 then constM (isIn ops5 n.1) (ndAt e n.2.1) wordsL n.2.2.1 n.2.1
  else if t = 6 then constM (isIn ops6 n.1) (ndAt e n.2.2.1) [1, 2, 3, 4, 5] n.2.1 n.2.2.1
  else if t = 7 then constM (decide (n.1 = tMul)) (ndAt e n.2.2.1) [2, 4, 8, 16, 32] n.2.1 n.2.2.1
  else if t = 8 then constM (decide (n.1 = tMul)) (ndAt e n.2.1) [2, 4, 8, 16, 32] n.2.2.1 n.2.1
  else if t = 9 then deepM e (decide (n.1 = tAdd)) n.2.1 n.2.2.1 tShl [1, 2, 3]
  else if t = 10 then deepM e (decide (n.1 = tAdd)) n.2.2.1 n.2.1 tShl [1, 2, 3]
  else if t = 11 then deepM e (decide (n.1 = tAdd)) n.2.1 n.2.2.1 tMul [2, 4, 8]
  else if t = 12 then deepM e (decide (n.1 = tAdd)) n.2.2.1 n.2.1 tMul [2, 4, 8]
  else none
def tileM (e : List Nd) (i t : Int) : Option Tl := tileN e (ndAt e i) t
def told : Option Tl → List Int × List Int × Bool
  | some (p, q) => (p, q, true)
  | none => ([], [], false)
theorem two_parts {n : Nd} {i : Int} (h : nodeOk n i = true) (c : isTwo n.1 = true) : (0 ≤ n.2.1 ∧ n.2.1 < i) ∧ 0 ≤ n.2.2.1 ∧ n.2.2.1 < i := by
  obtain ⟨h1, h2, h3⟩ := isTwo_not c
  unfold nodeOk at h
  rw [if_neg h1, if_neg h2, if_neg (by rw [h3]; decide)] at h
  simp only [Bool.and_eq_true, inB_iff] at h
  omega
theorem in4 {s : ByteArray} (h : isIn ops4 s = true) : isTwo s = true := by
  unfold isIn ops4 at h
  simp only [List.any_cons, List.any_nil, Bool.or_eq_true, decide_eq_true_eq, Bool.or_false] at h
  rcases h with h | h | h | h <;> subst h <;> decide
theorem in5 {s : ByteArray} (h : isIn ops5 s = true) : isTwo s = true := by
  unfold isIn ops5 at h
  simp only [List.any_cons, List.any_nil, Bool.or_eq_true, decide_eq_true_eq, Bool.or_false] at h
  rcases h with h | h | h <;> subst h <;> decide
theorem in6 {s : ByteArray} (h : isIn ops6 s = true) : isTwo s = true := by
  unfold isIn ops6 at h
  simp only [List.any_cons, List.any_nil, Bool.or_eq_true, decide_eq_true_eq, Bool.or_false] at h
  rcases h with h | h <;> subst h <;> decide

/-! ### the reference -/
theorem l1Has_v (l : List Int) (s : Int) (hl : l.length ≤ 9223372036854775000) : spec_l1Has.v l s = some (decide (s ∈ l)) := ev_lim (l1Has_ev l s hl)
theorem l1HasS_v (l : List ByteArray) (s : ByteArray) (hl : l.length ≤ 9223372036854775000) : spec_l1HasS.v l s = some (isIn l s) := ev_lim (l1HasS_ev l s hl)
theorem exTwo_v (s : ByteArray) : spec_exTwo.v s = some (isTwo s) := ev_lim (exTwo_ev s)
theorem operands_v' (s : ByteArray) : impl_operands.v s = some (arity s) := ev_lim (operands_ev s)
theorem cvConst_v (m : Nd) (S : List Int) (hS : S.length ≤ 1000) : spec_cvConst.v m S = some (isCn m S) := by
  refine spec_cvConst.vs _ _ ?_
  rw [seq_beq]
  unfold isCn
  by_cases c : m.1 = tConst
  · rw [br_t (by simpa using c), l1Has_v _ _ (by omega), bd_s]; simp [c]
  · rw [br_f (by simpa using c)]; simp [c]
theorem cvWords_v : spec_cvWords.v = some wordsL := by
  have key : ∀ (d i : Nat), i + d = 64 → spec_cvWords.v0 (i : Int) ((List.range i).map Int.ofNat) = some wordsL := by
    intro d
    induction d with
    | zero =>
      intro i hi
      obtain rfl : i = 64 := by omega
      exact spec_cvWords.v0s _ _ (br_f (by decide))
    | succ d ih =>
      intro i hi
      refine spec_cvWords.v0s _ _ ?_
      rw [br_t (decide_eq_true (by omega)), br_t (decide_eq_true (by simp; omega)), next_ok i 64 (by omega) (by omega)]
      have := ih (i + 1) (by omega)
      rw [List.range_succ, List.map_append] at this
      exact this
  exact spec_cvWords.vs (key 64 0 (by omega))
theorem cvDeep_v {e : List Nd} (hn : nodesOk e 0 = true) {p d : Int} (h0 : 0 ≤ d) (h : d < e.length) {op : ByteArray} (hop : isTwo op = true) {S : List Int} (hS : S.length ≤ 1000) : spec_cvDeep.v e p d op S = some (told (deepM e true p d op S)) := by
  refine spec_cvDeep.vs _ _ _ _ _ ?_
  rw [br_t (by simpa using h0), gt_some (ndAt_get h0 h), seq_beq]
  unfold deepM
  by_cases c : (ndAt e d).1 = op
  · have hk := ndAt_ok hn h0 h
    have hp := two_parts hk (by rw [c]; exact hop)
    rw [br_f (by simp [c]), br_t (by simpa using hp.2.1), gt_some (ndAt_get hp.2.1 (by omega)), cvConst_v _ _ hS, bd_s]
    by_cases q : isCn (ndAt e (ndAt e d).2.2.1) S = true
    · rw [q, brn_t, put_two hp.2.2, bd_s]; simp [c, told]
    · rw [Bool.not_eq_true] at q
      rw [q, brn_f]; simp [told]
  · rw [br_t (by simp [c])]; simp [c, told]
section
variable {e : List Nd} {t : Int} {n : Nd} {i : Int}
abbrev vv (k : Nat) (x : Option (List Int × List Int × Bool)) : Prop := x = some ([], [], false)
theorem cvN10 : spec_cvTile.v10 = some ([], [], false) := spec_cvTile.v10s rfl
theorem cvN9 (h : t ≠ 12) : spec_cvTile.v9 e t n.1 n.2.1 n.2.2.1 n.2.2.2 = some ([], [], false) := spec_cvTile.v9s _ _ _ _ _ _ ((br_f (by simpa using h)).trans cvN10)
theorem cvN8 (h : t < 11 ∨ 12 < t) : spec_cvTile.v8 e t n.1 n.2.1 n.2.2.1 n.2.2.2 = some ([], [], false) := spec_cvTile.v8s _ _ _ _ _ _ ((br_f (by simp; omega)).trans (cvN9 (by omega)))
theorem cvN7 (h : t < 10 ∨ 12 < t) : spec_cvTile.v7 e t n.1 n.2.1 n.2.2.1 n.2.2.2 = some ([], [], false) := spec_cvTile.v7s _ _ _ _ _ _ ((br_f (by simp; omega)).trans (cvN8 (by omega)))
theorem cvN6 (h : t < 9 ∨ 12 < t) : spec_cvTile.v6 e t n.1 n.2.1 n.2.2.1 n.2.2.2 = some ([], [], false) := spec_cvTile.v6s _ _ _ _ _ _ ((br_f (by simp; omega)).trans (cvN7 (by omega)))
theorem cvN5 (h : t < 8 ∨ 12 < t) : spec_cvTile.v5 e t n.1 n.2.1 n.2.2.1 n.2.2.2 = some ([], [], false) := spec_cvTile.v5s _ _ _ _ _ _ ((br_f (by simp; omega)).trans (cvN6 (by omega)))
theorem cvN4 (h : t < 7 ∨ 12 < t) : spec_cvTile.v4 e t n.1 n.2.1 n.2.2.1 n.2.2.2 = some ([], [], false) := spec_cvTile.v4s _ _ _ _ _ _ ((br_f (by simp; omega)).trans (cvN5 (by omega)))
theorem cvN3 (h : t < 6 ∨ 12 < t) : spec_cvTile.v3 e t n.1 n.2.1 n.2.2.1 n.2.2.2 = some ([], [], false) := spec_cvTile.v3s _ _ _ _ _ _ ((br_f (by simp; omega)).trans (cvN4 (by omega)))
theorem cvN2 (h : t < 5 ∨ 12 < t) : spec_cvTile.v2 e t n.1 n.2.1 n.2.2.1 n.2.2.2 = some ([], [], false) := spec_cvTile.v2s _ _ _ _ _ _ ((br_f (by simp; omega)).trans (cvN3 (by omega)))
theorem cvN1 (h : t < 4 ∨ 12 < t) : spec_cvTile.v1 e t n.1 n.2.1 n.2.2.1 n.2.2.2 = some ([], [], false) := spec_cvTile.v1s _ _ _ _ _ _ ((br_f (by simp; omega)).trans (cvN2 (by omega)))
theorem cvN0 (h : t < 3 ∨ 12 < t) : spec_cvTile.v0 e t n.1 n.2.1 n.2.2.1 n.2.2.2 = some ([], [], false) := spec_cvTile.v0s _ _ _ _ _ _ ((br_f (by simp; omega)).trans (cvN1 (by omega)))
theorem constT {m : Nd} {S : List Int} {p c : Int} : (br (isCn m S) (some ([p], ([c], true))) (some ([], ([], false)))) = some (told (constM true m S p c)) := by
  unfold constM; cases isCn m S <;> rfl
theorem words_len : wordsL.length ≤ 1000 := by simp [wordsL]
/-- behind the first three kinds -/
theorem cvTail (hn : nodesOk e 0 = true) (hk : nodeOk n i = true) (hi : i ≤ e.length) (h3 : t ≠ 0 ∧ t ≠ 1 ∧ t ≠ 2) : spec_cvTile.v0 e t n.1 n.2.1 n.2.2.1 n.2.2.2 = some (told (tileN e n t)) := by
  by_cases ho : t < 3 ∨ 12 < t
  · rw [cvN0 ho]
    unfold tileN
    rw [if_neg h3.1, if_neg h3.2.1, if_neg h3.2.2, if_neg (by omega), if_neg (by omega), if_neg (by omega), if_neg (by omega), if_neg (by omega), if_neg (by omega), if_neg (by omega), if_neg (by omega), if_neg (by omega), if_neg (by omega)]
    rfl
  rcases (show t = 3 ∨ t = 4 ∨ t = 5 ∨ t = 6 ∨ t = 7 ∨ t = 8 ∨ t = 9 ∨ t = 10 ∨ t = 11 ∨ t = 12 by omega) with rfl | rfl | rfl | rfl | rfl | rfl | rfl | rfl | rfl | rfl
  · refine spec_cvTile.v0s _ _ _ _ _ _ ?_
    rw [br_t (by decide), exTwo_v, bd_s, cvN1 (by omega)]
    by_cases c : isTwo n.1 = true
    · simp [c, tileN, told]
    · rw [Bool.not_eq_true] at c; simp [c, tileN, told]
  all_goals refine spec_cvTile.v0s _ _ _ _ _ _ ((br_f (by decide)).trans (spec_cvTile.v1s _ _ _ _ _ _ ?_))
  · rw [br_t (by decide), l1HasS_v _ _ (by decide), bd_s, cvN2 (by omega)]
    by_cases c : isIn ops4 n.1 = true
    · have hp := two_parts hk (in4 c)
      have c' := c
      unfold ops4 at c'
      rw [c', br_t rfl, br_t (by simpa using hp.2.1), gt_some (ndAt_get hp.2.1 (by omega)), cvWords_v, bd_s, cvConst_v _ _ words_len, bd_s, constT]
      simp [tileN, c]
    · rw [Bool.not_eq_true] at c
      have c' := c
      unfold ops4 at c'
      rw [c', br_f rfl]
      simp [tileN, c, constM, told]
  · rw [br_f (by decide)]
    refine spec_cvTile.v2s _ _ _ _ _ _ ?_
    rw [br_t (by decide), l1HasS_v _ _ (by decide), bd_s, cvN3 (by omega)]
    by_cases c : isIn ops5 n.1 = true
    · have hp := two_parts hk (in5 c)
      have c' := c
      unfold ops5 at c'
      rw [c', br_t rfl, br_t (by simpa using hp.1.1), gt_some (ndAt_get hp.1.1 (by omega)), cvWords_v, bd_s, cvConst_v _ _ words_len, bd_s, constT]
      simp [tileN, c]
    · rw [Bool.not_eq_true] at c
      have c' := c
      unfold ops5 at c'
      rw [c', br_f rfl]
      simp [tileN, c, constM, told]
  · rw [br_f (by decide)]
    refine spec_cvTile.v2s _ _ _ _ _ _ ?_
    rw [br_f (by decide)]
    refine spec_cvTile.v3s _ _ _ _ _ _ ?_
    rw [br_t (by decide), l1HasS_v _ _ (by decide), bd_s, cvN4 (by omega)]
    by_cases c : isIn ops6 n.1 = true
    · have hp := two_parts hk (in6 c)
      have c' := c
      unfold ops6 at c'
      rw [c', br_t rfl, br_t (by simpa using hp.2.1), gt_some (ndAt_get hp.2.1 (by omega)), cvConst_v _ _ (by decide), bd_s, constT]
      simp [tileN, c]
    · rw [Bool.not_eq_true] at c
      have c' := c
      unfold ops6 at c'
      rw [c', br_f rfl]
      simp [tileN, c, constM, told]
  · rw [br_f (by decide)]
    refine spec_cvTile.v2s _ _ _ _ _ _ ?_
    rw [br_f (by decide)]
    refine spec_cvTile.v3s _ _ _ _ _ _ ?_
    rw [br_f (by decide)]
    refine spec_cvTile.v4s _ _ _ _ _ _ ?_
    rw [br_t (by decide), cvN5 (by omega), seq_beq]
    by_cases c : n.1 = tMul
    · have hp := two_parts hk (by rw [c]; decide)
      rw [br_t (by simpa using c), br_t (by simpa using hp.2.1), gt_some (ndAt_get hp.2.1 (by omega)), cvConst_v _ _ (by decide), bd_s, constT]
      simp [tileN, c]
    · rw [br_f (by simpa using c)]
      simp [tileN, c, constM, told]
  · rw [br_f (by decide)]
    refine spec_cvTile.v2s _ _ _ _ _ _ ?_
    rw [br_f (by decide)]
    refine spec_cvTile.v3s _ _ _ _ _ _ ?_
    rw [br_f (by decide)]
    refine spec_cvTile.v4s _ _ _ _ _ _ ?_
    rw [br_f (by decide)]
    refine spec_cvTile.v5s _ _ _ _ _ _ ?_
    rw [br_t (by decide), cvN6 (by omega), seq_beq]
    by_cases c : n.1 = tMul
    · have hp := two_parts hk (by rw [c]; decide)
      rw [br_t (by simpa using c), br_t (by simpa using hp.1.1), gt_some (ndAt_get hp.1.1 (by omega)), cvConst_v _ _ (by decide), bd_s, constT]
      simp [tileN, c]
    · rw [br_f (by simpa using c)]
      simp [tileN, c, constM, told]
  · rw [br_f (by decide)]
    refine spec_cvTile.v2s _ _ _ _ _ _ ?_
    rw [br_f (by decide)]
    refine spec_cvTile.v3s _ _ _ _ _ _ ?_
    rw [br_f (by decide)]
    refine spec_cvTile.v4s _ _ _ _ _ _ ?_
    rw [br_f (by decide)]
    refine spec_cvTile.v5s _ _ _ _ _ _ ?_
    rw [br_f (by decide)]
    refine spec_cvTile.v6s _ _ _ _ _ _ ?_
    rw [br_t (by decide), cvN7 (by omega), seq_beq]
    by_cases c : n.1 = tAdd
    · have hp := two_parts hk (by rw [c]; decide)
      rw [br_t (by simpa using c), cvDeep_v hn hp.2.1 (by omega) (by decide) (by decide), bd_s]
      simp [tileN, c]
    · rw [br_f (by simpa using c)]
      simp [tileN, c, deepM, told]
  · rw [br_f (by decide)]
    refine spec_cvTile.v2s _ _ _ _ _ _ ?_
    rw [br_f (by decide)]
    refine spec_cvTile.v3s _ _ _ _ _ _ ?_
    rw [br_f (by decide)]
    refine spec_cvTile.v4s _ _ _ _ _ _ ?_
    rw [br_f (by decide)]
    refine spec_cvTile.v5s _ _ _ _ _ _ ?_
    rw [br_f (by decide)]
    refine spec_cvTile.v6s _ _ _ _ _ _ ?_
    rw [br_f (by decide)]
    refine spec_cvTile.v7s _ _ _ _ _ _ ?_
    rw [br_t (by decide), cvN8 (by omega), seq_beq]
    by_cases c : n.1 = tAdd
    · have hp := two_parts hk (by rw [c]; decide)
      rw [br_t (by simpa using c), cvDeep_v hn hp.1.1 (by omega) (by decide) (by decide), bd_s]
      simp [tileN, c]
    · rw [br_f (by simpa using c)]
      simp [tileN, c, deepM, told]
  · rw [br_f (by decide)]
    refine spec_cvTile.v2s _ _ _ _ _ _ ?_
    rw [br_f (by decide)]
    refine spec_cvTile.v3s _ _ _ _ _ _ ?_
    rw [br_f (by decide)]
    refine spec_cvTile.v4s _ _ _ _ _ _ ?_
    rw [br_f (by decide)]
    refine spec_cvTile.v5s _ _ _ _ _ _ ?_
    rw [br_f (by decide)]
    refine spec_cvTile.v6s _ _ _ _ _ _ ?_
    rw [br_f (by decide)]
    refine spec_cvTile.v7s _ _ _ _ _ _ ?_
    rw [br_f (by decide)]
    refine spec_cvTile.v8s _ _ _ _ _ _ ?_
    rw [br_t (by decide), cvN9 (by omega), seq_beq]
    by_cases c : n.1 = tAdd
    · have hp := two_parts hk (by rw [c]; decide)
      rw [br_t (by simpa using c), cvDeep_v hn hp.2.1 (by omega) (by decide) (by decide), bd_s]
      simp [tileN, c]
    · rw [br_f (by simpa using c)]
      simp [tileN, c, deepM, told]
  · rw [br_f (by decide)]
    refine spec_cvTile.v2s _ _ _ _ _ _ ?_
    rw [br_f (by decide)]
    refine spec_cvTile.v3s _ _ _ _ _ _ ?_
    rw [br_f (by decide)]
    refine spec_cvTile.v4s _ _ _ _ _ _ ?_
    rw [br_f (by decide)]
    refine spec_cvTile.v5s _ _ _ _ _ _ ?_
    rw [br_f (by decide)]
    refine spec_cvTile.v6s _ _ _ _ _ _ ?_
    rw [br_f (by decide)]
    refine spec_cvTile.v7s _ _ _ _ _ _ ?_
    rw [br_f (by decide)]
    refine spec_cvTile.v8s _ _ _ _ _ _ ?_
    rw [br_f (by decide)]
    refine spec_cvTile.v9s _ _ _ _ _ _ ?_
    rw [br_t (by decide), cvN10, seq_beq]
    by_cases c : n.1 = tAdd
    · have hp := two_parts hk (by rw [c]; decide)
      rw [br_t (by simpa using c), cvDeep_v hn hp.1.1 (by omega) (by decide) (by decide), bd_s]
      simp [tileN, c]
    · rw [br_f (by simpa using c)]
      simp [tileN, c, deepM, told]
theorem cvTile_v (hn : nodesOk e 0 = true) {j : Nat} (hj : j < e.length) (t : Int) : spec_cvTile.v e (j : Int) t = some (told (tileM e j t)) := by
  have hk : nodeOk (ndAt e j) (j : Int) = true := ndAt_ok hn (by omega) (by omega)
  refine spec_cvTile.vs _ _ _ ?_
  rw [br_t (by simp), gt_some (ndAt_get (by omega) (by omega))]
  unfold tileM
  by_cases t0 : t = 0
  · subst t0
    rw [br_t (by decide), seq_beq]
    by_cases c : (ndAt e j).1 = tIn <;> simp [tileN, c, told]
  rw [br_f (by simpa using t0)]
  by_cases t1 : t = 1
  · subst t1
    rw [br_t (by decide), seq_beq]
    by_cases c : (ndAt e j).1 = tConst <;> simp [tileN, c, told]
  rw [br_f (by simpa using t1)]
  by_cases t2 : t = 2
  · subst t2
    rw [br_t (by decide), exOne_f, bd_s, cvN0 (by omega)]
    by_cases c : isOne (ndAt e j).1 = true
    · simp [tileN, c, told]
    · rw [Bool.not_eq_true] at c; simp [tileN, c, told]
  rw [br_f (by simpa using t2)]
  exact cvTail hn hk (by omega) ⟨t0, t1, t2⟩
end
end Go.Proofs.YtokdmaoconegkaaGreat.Am
end
section
/- Tiles at a node: the program's. -/
namespace Go.Proofs.YtokdmaoconegkaaGreat.Am
open Go
set_option linter.unusedVariables false
set_option linter.unusedSimpArgs false

abbrev Tile := List Int × List Int × Int
/-- what a tile at a node costs -/
def tCostN (n : Nd) (t : Int) : Int := if t = 0 then 0 else if t = 3 then opCost n.1 else 1
def tCost (e : List Nd) (i t : Int) : Int := tCostN (ndAt e i) t
/-- the program's answer x at a node tells the tile that is told -/
def Tells (e : List Nd) (n : Nd) (t : Int) (x : Option (Tile × Bool)) : Prop := ∃ T : Tile, x = some (T, (tileN e n t).isSome) ∧ T.1.length ≤ 2 ∧ ∀ p q, tileN e n t = some (p, q) → T = (p, q, tCostN n t)
section
variable {e : List Nd} {n : Nd} {t i : Int}
theorem Tells.yes {p q : List Int} {c : Int} (h : tileN e n t = some (p, q)) (hc : c = tCostN n t) (hl : p.length ≤ 2) : Tells e n t (some ((p, q, c), true)) :=
  ⟨(p, q, c), by rw [h]; rfl, hl, fun p' q' h' => by rw [h] at h'; simp only [Option.some.injEq, Prod.mk.injEq] at h'; rw [← h'.1, ← h'.2, hc]⟩
theorem Tells.no {T : Tile} (h : tileN e n t = none) (hl : T.1.length ≤ 2) : Tells e n t (some (T, false)) := ⟨T, by rw [h]; rfl, hl, fun p q h' => by rw [h] at h'; cases h'⟩
theorem powP_pos (x : Int) : decide (powP x > 0) = decide (x ∈ [2, 4, 8, 16, 32]) := by
  unfold powP
  by_cases h2 : x = 2
  · subst h2; decide
  by_cases h4 : x = 4
  · subst h4; decide
  by_cases h8 : x = 8
  · subst h8; decide
  by_cases h16 : x = 16
  · subst h16; decide
  by_cases h32 : x = 32
  · subst h32; decide
  simp [h2, h4, h8, h16, h32]
theorem powP_three (x : Int) : inB (powP x) 1 3 = decide (x ∈ [2, 4, 8]) := by
  unfold powP
  by_cases h2 : x = 2
  · subst h2; decide
  by_cases h4 : x = 4
  · subst h4; decide
  by_cases h8 : x = 8
  · subst h8; decide
  by_cases h16 : x = 16
  · subst h16; decide
  by_cases h32 : x = 32
  · subst h32; decide
  simp [h2, h4, h8, h16, h32, inB]
theorem in13 (x : Int) : inB x 1 3 = decide (x ∈ [1, 2, 3]) := by
  rw [Bool.eq_iff_iff, inB_iff, decide_eq_true_iff]
  simp only [List.mem_cons, List.not_mem_nil, or_false]
  omega
theorem in15 (x : Int) : inB x 1 5 = decide (x ∈ [1, 2, 3, 4, 5]) := by
  rw [Bool.eq_iff_iff, inB_iff, decide_eq_true_iff]
  simp only [List.mem_cons, List.not_mem_nil, or_false]
  omega
/-- a constant that is taken -/
theorem constW {z : Int} (hn : nodesOk e 0 = true) {p c : Int} (h0 : 0 ≤ c) (h : c < e.length) {ops : List ByteArray} (hops : ops.length ≤ 1000) {S : List Int} {b : Bool} (ht : tileN e n t = constM (isIn ops n.1) (ndAt e c) S p c) (hb : (ndAt e c).1 = tConst → b = decide ((ndAt e c).2.2.2 ∈ S)) (hc : tCostN n t = 1) :
    Tells e n t (impl_constTile.v1 e p c b n.1 n.2.1 n.2.2.1 n.2.2.2 z ops) := by
  have key : ∀ x, impl_constTile.v1 e p c b n.1 n.2.1 n.2.2.1 n.2.2.2 z ops = x → Tells e n t x → Tells e n t (impl_constTile.v1 e p c b n.1 n.2.1 n.2.2.1 n.2.2.2 z ops) := fun x hx hT => hx ▸ hT
  by_cases c1 : isIn ops n.1 = true
  · by_cases c2 : (ndAt e c).1 = tConst
    · refine key _ (impl_constTile.v1s _ _ _ _ _ _ _ _ _ _ (r := (([p], [c], 1), b)) ?_) ?_
      · rw [containsS_v _ _ (by omega), bd_s, br_t c1, br_t (by simpa using h0), gt_some (ndAt_get h0 h), seq_beq, br_t (by simpa using c2)]
      · have hb := hb c2
        cases b with
        | true => exact Tells.yes (by rw [ht]; unfold constM isCn; rw [if_pos ⟨c1, by rw [← hb]; simp [c2]⟩]) hc.symm (by simp)
        | false => exact Tells.no (by rw [ht]; unfold constM isCn; rw [if_neg (fun q => by rw [← hb] at q; simp at q)]) (by simp)
    · refine key _ (impl_constTile.v1s _ _ _ _ _ _ _ _ _ _ (r := (([p], [c], 1), false)) ?_) ?_
      · rw [containsS_v _ _ (by omega), bd_s, br_t c1, br_t (by simpa using h0), gt_some (ndAt_get h0 h), seq_beq, br_f (by simpa using c2)]
      · exact Tells.no (by rw [ht]; unfold constM isCn; rw [if_neg (fun q => by simp [c2] at q)]) (by simp)
  · refine key _ (impl_constTile.v1s _ _ _ _ _ _ _ _ _ _ (r := (([p], [c], 1), false)) ?_) ?_
    · rw [Bool.not_eq_true] at c1
      rw [containsS_v _ _ (by omega), bd_s, br_f c1]
    · exact Tells.no (by rw [ht]; unfold constM; rw [if_neg (fun q => c1 q.1)]) (by simp)
theorem Tells.of {x y : Option (Tile × Bool)} (h : ∀ r, y = some r → x = some r) (hT : Tells e n t y) : Tells e n t x := by
  obtain ⟨T, h1, h2⟩ := hT
  exact ⟨T, h _ h1, h2⟩
/-- the kinds 4 to 8 -/
theorem constI (hn : nodesOk e 0 = true) (hk : nodeOk n i = true) (hi : i ≤ e.length) (h2 : isTwo n.1 = true) (ht : t = 4 ∨ t = 5 ∨ t = 6 ∨ t = 7 ∨ t = 8) : Tells e n t (impl_constTile.v e n t) := by
  have hp := two_parts hk h2
  have wd : ∀ c : Int, 0 ≤ c → c < e.length → (ndAt e c).1 = tConst → true = decide ((ndAt e c).2.2.2 ∈ wordsL) := fun c c0 c1 hc => (decide_eq_true (mem_words.2 (const_word (ndAt_ok hn c0 c1) hc))).symm
  rcases ht with rfl | rfl | rfl | rfl | rfl
  · refine Tells.of (fun r hr => impl_constTile.vs _ _ _ ((br_f (by decide)).trans ((br_f (by decide)).trans ((br_f (by decide)).trans ((br_f (by decide)).trans (impl_constTile.v0s _ _ _ _ _ _ _ _ _ _ ?_)))))) (constW (z := 0) hn hp.2.1 (by omega) (ops := ops4) (by decide) (S := wordsL) (b := true) (p := n.2.1) rfl (wd _ hp.2.1 (by omega)) rfl)
    rw [br_t (by simpa using hp.2.1), gt_some (ndAt_get hp.2.1 (by omega)), br_t (by decide)]
    exact hr
  · refine Tells.of (fun r hr => impl_constTile.vs _ _ _ ((br_t (by decide)).trans (impl_constTile.v0s _ _ _ _ _ _ _ _ _ _ ?_))) (constW (z := 0) hn hp.1.1 (by omega) (ops := ops5) (by decide) (S := wordsL) (b := true) (p := n.2.2.1) rfl (wd _ hp.1.1 (by omega)) rfl)
    rw [br_t (by simpa using hp.1.1), gt_some (ndAt_get hp.1.1 (by omega)), br_t (by decide)]
    exact hr
  · refine Tells.of (fun r hr => impl_constTile.vs _ _ _ ((br_f (by decide)).trans ((br_t (by decide)).trans (impl_constTile.v0s _ _ _ _ _ _ _ _ _ _ ?_)))) (constW (z := 0) hn hp.2.1 (by omega) (ops := ops6) (by decide) (S := [1, 2, 3, 4, 5]) (b := inB (ndAt e n.2.2.1).2.2.2 1 5) (p := n.2.1) rfl (fun _ => in15 _) rfl)
    rw [br_t (by simpa using hp.2.1), gt_some (ndAt_get hp.2.1 (by omega)), br_f (by decide), br_t (by decide), within_f, bd_s]
    cases hb : inB (ndAt e n.2.2.1).2.2.2 1 5
    · rw [hb] at hr; rw [br_f rfl, br_f (by decide)]; exact hr
    · rw [hb] at hr; rw [br_t rfl]; exact hr
  · refine Tells.of (fun r hr => impl_constTile.vs _ _ _ ((br_f (by decide)).trans ((br_f (by decide)).trans ((br_t (by decide)).trans (impl_constTile.v0s _ _ _ _ _ _ _ _ _ _ ?_))))) (constW (z := 0) hn hp.2.1 (by omega) (ops := [tMul]) (by decide) (S := [2, 4, 8, 16, 32]) (b := decide (powP (ndAt e n.2.2.1).2.2.2 > 0)) (p := n.2.1) (by simp [tileN, isIn, eq_comm]) (fun _ => powP_pos _) rfl)
    rw [br_t (by simpa using hp.2.1), gt_some (ndAt_get hp.2.1 (by omega)), br_f (by decide), br_f (by decide), br_t (by decide), power_v, bd_s]
    exact hr
  · refine Tells.of (fun r hr => impl_constTile.vs _ _ _ ((br_f (by decide)).trans ((br_f (by decide)).trans ((br_f (by decide)).trans ((br_t (by decide)).trans (impl_constTile.v0s _ _ _ _ _ _ _ _ _ _ ?_)))))) (constW (z := 0) hn hp.1.1 (by omega) (ops := [tMul]) (by decide) (S := [2, 4, 8, 16, 32]) (b := decide (powP (ndAt e n.2.1).2.2.2 > 0)) (p := n.2.2.1) (by simp [tileN, isIn, eq_comm]) (fun _ => powP_pos _) rfl)
    rw [br_t (by simpa using hp.1.1), gt_some (ndAt_get hp.1.1 (by omega)), br_f (by decide), br_f (by decide), br_t (by decide), power_v, bd_s]
    exact hr
/-- a sum with a part that is moved -/
theorem sumW (hn : nodesOk e 0 = true) {p d : Int} (h0 : 0 ≤ d) (h : d < e.length) {op : ByteArray} (hop : isTwo op = true) {S : List Int} {q : Int → Bool} (ht : tileN e n t = deepM e (decide (n.1 = tAdd)) p d op S) (hq : ∀ x, q x = decide (x ∈ S)) (hc : tCostN n t = 1)
    {f : Nd → Int → Option (Tile × Bool)} (hf : (ndAt e d).1 = op → ∀ x, f (ndAt e d) x = some (([p, (ndAt e d).2.1], [(ndAt e d).2.2.1, d], 1), q x)) :
    Tells e n t (br (decide (0 ≤ d)) (gt e (Int.toNat d) fun r0 => br (Bool.not (seq n.1 tAdd)) (some (([], ([], 0)), false)) (br (Bool.not (seq r0.1 op)) (some (([], ([], 0)), false)) (br (decide (0 ≤ r0.2.2.1)) (gt e (Int.toNat r0.2.2.1) fun r1 => br (Bool.not (seq r1.1 tConst)) (some (([], ([], 0)), false)) (br (decide (0 ≤ r0.2.2.1)) (gt e (Int.toNat r0.2.2.1) fun r2 => f r0 r2.2.2.2) none)) none))) none) := by
  rw [br_t (by simpa using h0), gt_some (ndAt_get h0 h), seq_beq, seq_beq]
  by_cases c1 : n.1 = tAdd
  · rw [br_f (by simp [c1])]
    by_cases c2 : (ndAt e d).1 = op
    · have hp := two_parts (ndAt_ok hn h0 h) (by rw [c2]; exact hop)
      rw [br_f (by simp [c2]), br_t (by simpa using hp.2.1), gt_some (ndAt_get hp.2.1 (by omega)), seq_beq]
      by_cases c3 : (ndAt e (ndAt e d).2.2.1).1 = tConst
      · rw [br_f (by simp [c3]), br_t (by simpa using hp.2.1), gt_some (ndAt_get hp.2.1 (by omega)), hf c2 _]
        have hq' := hq (ndAt e (ndAt e d).2.2.1).2.2.2
        cases hb : q (ndAt e (ndAt e d).2.2.1).2.2.2 with
        | true => exact Tells.yes (by rw [ht]; unfold deepM isCn; rw [if_pos ⟨by simp [c1], c2, by rw [← hq', hb]; simp [c3]⟩]) hc.symm (by simp)
        | false => exact Tells.no (by rw [ht]; unfold deepM isCn; rw [if_neg (fun k => by rw [← hq', hb] at k; simp at k)]) (by simp)
      · rw [br_t (by simp [c3])]
        exact Tells.no (by rw [ht]; unfold deepM isCn; rw [if_neg (fun k => by simp [c3] at k)]) (by simp)
    · rw [br_t (by simp [c2])]
      exact Tells.no (by rw [ht]; unfold deepM; rw [if_neg (fun k => c2 k.2.1)]) (by simp)
  · rw [br_t (by simp [c1])]
    exact Tells.no (by rw [ht]; unfold deepM; rw [if_neg (fun k => by simp [c1] at k)]) (by simp)
theorem sort_part (hn : nodesOk e 0 = true) {d : Int} (h0 : 0 ≤ d) (h : d < e.length) {op : ByteArray} (hop : isTwo op = true) (hd : (ndAt e d).1 = op) : slices_Sort_int.v [(ndAt e d).2.2.1, d] = some ((), [(ndAt e d).2.2.1, d]) := by
  have hp := two_parts (ndAt_ok hn h0 h) (by rw [hd]; exact hop)
  rw [sort_two, sort2, if_neg (by omega)]
/-- the kinds 9 to 12 -/
theorem sumI (hn : nodesOk e 0 = true) (hk : nodeOk n i = true) (hi : i ≤ e.length) (h2 : isTwo n.1 = true) (ht : t = 9 ∨ t = 10 ∨ t = 11 ∨ t = 12) : Tells e n t (impl_sumTile.v e n t) := by
  have hp := two_parts hk h2
  rcases ht with rfl | rfl | rfl | rfl
  · refine Tells.of (fun r hr => impl_sumTile.vs _ _ _ ((br_f (by decide)).trans ((br_f (by decide)).trans ((br_f (by decide)).trans hr)))) (sumW hn hp.2.1 (by omega) (op := tShl) (by decide) (S := [1, 2, 3]) (p := n.2.1) rfl (q := fun x => inB x 1 3) (fun x => in13 x) rfl
      (f := fun r0 x => br (decide ((9 : Int) > 10)) (bd (impl_power.v x) fun r3 => bd (slices_Sort_int.v [r0.2.2.1, n.2.2.1]) fun r4 => bd (impl_within.f r3 1 3) fun r5 => some (([n.2.1, r0.2.1], (r4.2, 1)), r5)) (bd (slices_Sort_int.v [r0.2.2.1, n.2.2.1]) fun r6 => bd (impl_within.f x 1 3) fun r7 => some (([n.2.1, r0.2.1], (r6.2, 1)), r7))) (fun ho x => ?_))
    simp only [sort_part hn hp.2.1 (by omega) (by decide) ho, power_v, within_f, bd_s]
    rw [br_f (by decide)]
  · refine Tells.of (fun r hr => impl_sumTile.vs _ _ _ ((br_t (by decide)).trans ((br_f (by decide)).trans hr))) (sumW hn hp.1.1 (by omega) (op := tShl) (by decide) (S := [1, 2, 3]) (p := n.2.2.1) rfl (q := fun x => inB x 1 3) (fun x => in13 x) rfl
      (f := fun r0 x => br (decide ((10 : Int) > 10)) (bd (impl_power.v x) fun r3 => bd (slices_Sort_int.v [r0.2.2.1, n.2.1]) fun r4 => bd (impl_within.f r3 1 3) fun r5 => some (([n.2.2.1, r0.2.1], (r4.2, 1)), r5)) (bd (slices_Sort_int.v [r0.2.2.1, n.2.1]) fun r6 => bd (impl_within.f x 1 3) fun r7 => some (([n.2.2.1, r0.2.1], (r6.2, 1)), r7))) (fun ho x => ?_))
    simp only [sort_part hn hp.1.1 (by omega) (by decide) ho, power_v, within_f, bd_s]
    rw [br_f (by decide)]
  · refine Tells.of (fun r hr => impl_sumTile.vs _ _ _ ((br_f (by decide)).trans ((br_f (by decide)).trans ((br_t (by decide)).trans hr)))) (sumW hn hp.2.1 (by omega) (op := tMul) (by decide) (S := [2, 4, 8]) (p := n.2.1) rfl (q := fun x => inB (powP x) 1 3) (fun x => powP_three x) rfl
      (f := fun r0 x => br (decide ((11 : Int) > 10)) (bd (impl_power.v x) fun r3 => bd (slices_Sort_int.v [r0.2.2.1, n.2.2.1]) fun r4 => bd (impl_within.f r3 1 3) fun r5 => some (([n.2.1, r0.2.1], (r4.2, 1)), r5)) (bd (slices_Sort_int.v [r0.2.2.1, n.2.2.1]) fun r6 => bd (impl_within.f x 1 3) fun r7 => some (([n.2.1, r0.2.1], (r6.2, 1)), r7))) (fun ho x => ?_))
    simp only [sort_part hn hp.2.1 (by omega) (by decide) ho, power_v, within_f, bd_s]
    rw [br_t (by decide)]
  · refine Tells.of (fun r hr => impl_sumTile.vs _ _ _ ((br_f (by decide)).trans ((br_t (by decide)).trans ((br_t (by decide)).trans hr)))) (sumW hn hp.1.1 (by omega) (op := tMul) (by decide) (S := [2, 4, 8]) (p := n.2.2.1) rfl (q := fun x => inB (powP x) 1 3) (fun x => powP_three x) rfl
      (f := fun r0 x => br (decide ((12 : Int) > 10)) (bd (impl_power.v x) fun r3 => bd (slices_Sort_int.v [r0.2.2.1, n.2.1]) fun r4 => bd (impl_within.f r3 1 3) fun r5 => some (([n.2.2.1, r0.2.1], (r4.2, 1)), r5)) (bd (slices_Sort_int.v [r0.2.2.1, n.2.1]) fun r6 => bd (impl_within.f x 1 3) fun r7 => some (([n.2.2.1, r0.2.1], (r6.2, 1)), r7))) (fun ho x => ?_))
    simp only [sort_part hn hp.1.1 (by omega) (by decide) ho, power_v, within_f, bd_s]
    rw [br_t (by decide)]
theorem tileN_two (h : isTwo n.1 = false) (h3 : 3 ≤ t) : tileN e n t = none := by
  have n4 : isIn ops4 n.1 = false := by cases c : isIn ops4 n.1 with
    | false => rfl
    | true => rw [in4 c] at h; cases h
  have n5 : isIn ops5 n.1 = false := by cases c : isIn ops5 n.1 with
    | false => rfl
    | true => rw [in5 c] at h; cases h
  have n6 : isIn ops6 n.1 = false := by cases c : isIn ops6 n.1 with
    | false => rfl
    | true => rw [in6 c] at h; cases h
  have nm : decide (n.1 = tMul) = false := decide_eq_false fun c => by rw [c] at h; revert h; decide
  have na : decide (n.1 = tAdd) = false := decide_eq_false fun c => by rw [c] at h; revert h; decide
  unfold tileN
  rw [if_neg (by omega), if_neg (by omega), if_neg (by omega), h, n4, n5, n6, nm, na]
  unfold constM deepM
  simp
theorem tileAt_t (hn : nodesOk e 0 = true) {j : Nat} (hj : j < e.length) (h0 : 0 ≤ t) (h12 : t ≤ 12) : Tells e (ndAt e j) t (impl_tileAt.v e (j : Int) t) := by
  have hk : nodeOk (ndAt e j) (j : Int) = true := ndAt_ok hn (by omega) (by omega)
  have st : ∀ {y : Option (Tile × Bool)}, Tells e (ndAt e j) t y → (∀ r, y = some r → (br (t == (0 : Int)) (some (([], ([], (0 : Int))), (seq (ndAt e j).1 tIn))) (br (t == (1 : Int)) (some (([], ([], (1 : Int))), (seq (ndAt e j).1 tConst))) (br (t == (2 : Int)) (some ((((ndAt e j).2.1 :: []), ([], (1 : Int))), (arity (ndAt e j).1 == (1 : Int)))) (br (decide (arity (ndAt e j).1 < (2 : Int))) (some (([], ([], (0 : Int))), false)) (br (t == (3 : Int)) (bd (impl_formOf.v (ndAt e j).1) fun r2 => (some ((((ndAt e j).2.1 :: ((ndAt e j).2.2.1 :: [])), ([], r2.1.2.2.2.2.1)), true))) (br (decide (t ≤ (8 : Int))) (bd (impl_constTile.v e (ndAt e j) t) fun r3 => (some r3)) (bd (impl_sumTile.v e (ndAt e j) t) fun r4 => (some r4)))))))) = some r) → Tells e (ndAt e j) t (impl_tileAt.v e (j : Int) t) := fun hT hy => Tells.of (fun r hr => impl_tileAt.vs _ _ _ (by rw [br_t (by simp), gt_some (ndAt_get (by omega) (by omega)), operands_v', bd_s]; exact hy r hr)) hT
  by_cases t0 : t = 0
  · subst t0
    by_cases c : (ndAt e j).1 = tIn
    · exact st (Tells.yes (p := []) (q := []) (by simp [tileN, c]) rfl (by simp)) fun r hr => by rw [br_t (by decide), seq_t c]; exact hr
    · exact st (Tells.no (T := ([], [], 0)) (by simp [tileN, c]) (by simp)) fun r hr => by rw [br_t (by decide), seq_f c]; exact hr
  by_cases t1 : t = 1
  · subst t1
    by_cases c : (ndAt e j).1 = tConst
    · exact st (Tells.yes (p := []) (q := []) (by simp [tileN, c]) rfl (by simp)) fun r hr => by rw [br_f (by decide), br_t (by decide), seq_t c]; exact hr
    · exact st (Tells.no (T := ([], [], 1)) (by simp [tileN, c]) (by simp)) fun r hr => by rw [br_f (by decide), br_t (by decide), seq_f c]; exact hr
  by_cases t2 : t = 2
  · subst t2
    by_cases c : isOne (ndAt e j).1 = true
    · exact st (Tells.yes (p := [(ndAt e j).2.1]) (q := []) (by simp [tileN, c]) rfl (by simp)) fun r hr => by rw [br_f (by decide), br_f (by decide), br_t (by decide), arity_one c]; exact hr
    · have ca : (arity (ndAt e j).1 == (1 : Int)) = false := by
        have : ¬ arity (ndAt e j).1 = 1 := fun q => c (arity_eq_one.1 q)
        simpa using this
      exact st (Tells.no (T := ([(ndAt e j).2.1], [], 1)) (by simp [tileN, c]) (by simp)) fun r hr => by rw [br_f (by decide), br_f (by decide), br_t (by decide), ca]; exact hr
  by_cases c2 : isTwo (ndAt e j).1 = true
  · have ha := arity_two c2
    by_cases t3 : t = 3
    · subst t3
      refine st (Tells.yes (p := [(ndAt e j).2.1, (ndAt e j).2.2.1]) (q := []) (by simp [tileN, c2]) rfl (by simp)) fun r hr => ?_
      rw [br_f (by decide), br_f (by decide), br_f (by decide), ha, br_f (by decide), br_t (by decide), formOf_v, bd_s, formP_cost (by omega)]
      exact hr
    · by_cases t8 : t ≤ 8
      · refine st (constI hn hk (by omega) c2 (by omega)) fun r hr => ?_
        rw [br_f (by simpa using t0), br_f (by simpa using t1), br_f (by simpa using t2), ha, br_f (by decide), br_f (by simpa using t3), br_t (by simpa using t8), hr, bd_s]
      · refine st (sumI hn hk (by omega) c2 (by omega)) fun r hr => ?_
        rw [br_f (by simpa using t0), br_f (by simpa using t1), br_f (by simpa using t2), ha, br_f (by decide), br_f (by simpa using t3), br_f (by simpa using t8), hr, bd_s]
  · rw [Bool.not_eq_true] at c2
    have ha : arity (ndAt e j).1 < 2 := by
      rcases arity_cases (ndAt e j).1 with ⟨h, _⟩ | ⟨h, _⟩ | ⟨h, _⟩ | ⟨h, _, h2⟩
      · omega
      · omega
      · omega
      · rw [h2] at c2; cases c2
    exact st (Tells.no (T := ([], [], 0)) (tileN_two c2 (by omega)) (by simp)) fun r hr => by
      rw [br_f (by simpa using t0), br_f (by simpa using t1), br_f (by simpa using t2), br_t (by simpa using ha)]
      exact hr
end
/-- the program's tile at a node -/
noncomputable def tileI (e : List Nd) (i t : Int) : Tile := ((impl_tileAt.v e i t).getD (([], [], 0), false)).1
section
variable {e : List Nd} {t : Int} {j : Nat}
theorem tileAt_v (hn : nodesOk e 0 = true) (hj : j < e.length) (h0 : 0 ≤ t) (h12 : t ≤ 12) : impl_tileAt.v e (j : Int) t = some (tileI e j t, (tileM e j t).isSome) := by
  obtain ⟨T, h, _⟩ := tileAt_t hn hj h0 h12
  unfold tileI
  rw [h]; rfl
theorem tileI_len (hn : nodesOk e 0 = true) (hj : j < e.length) (h0 : 0 ≤ t) (h12 : t ≤ 12) : (tileI e j t).1.length ≤ 2 := by
  obtain ⟨T, h, hl, _⟩ := tileAt_t hn hj h0 h12
  unfold tileI
  rw [h]; exact hl
theorem tileI_eq (hn : nodesOk e 0 = true) (hj : j < e.length) (h0 : 0 ≤ t) (h12 : t ≤ 12) {p q : List Int} (hm : tileM e j t = some (p, q)) : tileI e j t = (p, q, tCost e j t) := by
  obtain ⟨T, h, hl, hq⟩ := tileAt_t hn hj h0 h12
  unfold tileI
  rw [h]; exact hq p q hm
end
end Go.Proofs.YtokdmaoconegkaaGreat.Am
end
section
/- A row of so many times -1. -/
namespace Go.Proofs.YtokdmaoconegkaaGreat.Am
open Go
set_option linter.unusedVariables false
set_option linter.unusedSimpArgs false

theorem mul_all : (List.range 25).all (fun n => decide (bits_Mul.f 1 (IntKind.wrap .u64 (n : Int)) = some ((0 : Int), (n : Int)))) = true := by kernel_rfl
theorem mul_small {n : Nat} (h : n ≤ 24) : bits_Mul.f 1 (IntKind.wrap .u64 (n : Int)) = some ((0 : Int), (n : Int)) := by
  have := List.all_eq_true.1 mul_all n (List.mem_range.2 (by omega))
  simpa using this
theorem rep_loop (a : Int) (n : Nat) (h24 : n ≤ 24) : ∀ (d m : Nat), n ≤ m + d → 1 ≤ m → m ≤ n → slices_Repeat_int.v0 (m : Int) (List.replicate m a ++ List.replicate (n - m) 0) = some (List.replicate n a, ()) := by
  intro d
  induction d with
  | zero =>
    intro m hd h1 hm
    obtain rfl : m = n := by omega
    refine slices_Repeat_int.v0s _ _ ?_
    rw [br_f (by simp)]
    simp
  | succ d ih =>
    intro m hd h1 hm
    have hlen : (List.replicate m a ++ List.replicate (n - m) (0 : Int)).length = n := by simp; omega
    by_cases c : m = n
    · subst c
      refine slices_Repeat_int.v0s _ _ ?_
      rw [br_f (by rw [hlen]; simp)]
      simp
    · refine slices_Repeat_int.v0s _ _ ?_
      rw [hlen, br_t (by simp; omega), br_t (by simp), br_t (by simp; omega), br_t (by simp), br_t (by simp), br_t (by simp; omega)]
      simp only [Int.toNat_natCast, show (0 : Int).toNat = 0 from rfl, Nat.sub_zero, List.drop_zero]
      have e1 : List.take m (List.replicate m a ++ List.replicate (n - m) (0 : Int)) = List.replicate m a := by
        rw [List.take_append_of_le_length (by simp)]; simp
      rw [e1, List.length_replicate, List.take_replicate, List.drop_append, List.drop_replicate, List.drop_replicate, List.length_replicate]
      have k : min m (n - m) ≤ n - m := Nat.min_le_right _ _
      have k2 : 1 ≤ min m (n - m) := by omega
      rw [show m - (m + min m (n - m)) = 0 by omega, show m + min m (n - m) - m = min m (n - m) by omega, Nat.min_comm (n - m) m]
      rw [show IntKind.wrap .i64 ((m : Int) + ((min m (n - m) : Nat) : Int)) = ((m + min m (n - m) : Nat) : Int) by rw [wrap_ok (by omega) (by omega)]; rfl]
      simp only [List.replicate_zero, List.nil_append]
      rw [List.replicate_append_replicate, show n - m - min m (n - m) = n - (m + min m (n - m)) by omega]
      exact ih (m + min m (n - m)) (by omega) (by omega) (by omega)
theorem repeat_v (a : Int) {n : Nat} (h1 : 1 ≤ n) (h24 : n ≤ 24) : slices_Repeat_int.v [a] (n : Int) = some (List.replicate n a, ()) := by
  refine slices_Repeat_int.vs _ _ ?_
  rw [br_f (by simp), show IntKind.wrap .u64 ((([a] : List Int).length : Nat) : Int) = 1 from rfl, mul_small h24, bd_s, br_f (by simp), br_f (by simp; omega)]
  simp only
  rw [show IntKind.wrap .i64 ((n : Nat) : Int) = (n : Int) from wrap_ok (by omega) (by omega), br_t (by simp), br_t (by simp), br_t (by simp; omega)]
  have := rep_loop a n h24 n 1 (by omega) (by omega) h1
  have e : min 1 n = 1 := by omega
  simp only [Int.toNat_natCast, List.length_replicate, List.length_cons, List.length_nil, List.take_zero, List.nil_append, Nat.zero_add, e]
  rw [List.take_of_length_le (by simp; omega), List.drop_replicate]
  exact this
theorem empty_v {e : List Nd} (h1 : 1 ≤ e.length) (h24 : e.length ≤ 24) : impl_empty.v e = some (List.replicate e.length (-1), ()) := by
  refine impl_empty.vs _ ?_
  rw [repeat_v (-1) h1 h24, bd_s]
end Go.Proofs.YtokdmaoconegkaaGreat.Am
end
section
/- Covers: which nodes need tiles; the program's walk and the reference's rounds find the same. -/
namespace Go.Proofs.YtokdmaoconegkaaGreat.Am
open Go
set_option linter.unusedVariables false
set_option linter.unusedSimpArgs false

def cvr (cover : List Int) (i : Nat) : Int := cover.getD i 0
/-- is there a tile, and is it told -/
def vld (e : List Nd) (cover : List Int) (i : Nat) : Bool := inB (cvr cover i) 0 12 && (tileM e (i : Int) (cvr cover i)).isSome
/-- the parts of a tile; none if it is not told -/
def prts (e : List Nd) (i : Nat) (t : Int) : List Int := match tileM e (i : Int) t with | some (p, _) => p | none => []
/-- the nodes below the parts -/
def kids (e : List Nd) (cover : List Int) (i : Nat) : List Nat := if vld e cover i = true then (prts e i (cvr cover i)).map Int.toNat else []
/-- the nodes that the walk from a node comes to -/
def dfs (e : List Nd) (cover : List Int) : Nat → Nat → List Nat
  | 0, _ => []
  | f + 1, i => i :: (kids e cover i).flatMap (dfs e cover f)
section
variable {e : List Nd} {cover : List Int}
theorem tile_parts (hn : nodesOk e 0 = true) {i : Nat} (hi : i < e.length) {t : Int} {p q : List Int} (h : tileM e (i : Int) t = some (p, q)) : p.length ≤ 2 ∧ ∀ x ∈ p, 0 ≤ x ∧ x < i := by
  have hk : nodeOk (ndAt e i) (i : Int) = true := ndAt_ok hn (by omega) (by omega)
  have tw : isTwo (ndAt e i).1 = true → (0 ≤ (ndAt e i).2.1 ∧ (ndAt e i).2.1 < i) ∧ 0 ≤ (ndAt e i).2.2.1 ∧ (ndAt e i).2.2.1 < i := fun c => two_parts hk c
  have cst : ∀ {b : Bool} {m : Nd} {S : List Int} {a c : Int}, (b = true → 0 ≤ a ∧ a < i) → constM b m S a c = some (p, q) → p.length ≤ 2 ∧ ∀ x ∈ p, 0 ≤ x ∧ x < i := fun ha hc => by
    unfold constM at hc
    split at hc
    · rename_i k
      simp only [Option.some.injEq, Prod.mk.injEq] at hc
      obtain ⟨rfl, _⟩ := hc
      refine ⟨by simp, fun x hx => ?_⟩
      simp only [List.mem_singleton] at hx
      subst hx; exact ha k.1
    · cases hc
  have dp : ∀ {b : Bool} {a d : Int} {op : ByteArray} {S : List Int}, isTwo op = true → (b = true → (0 ≤ a ∧ a < i) ∧ 0 ≤ d ∧ d < i) → deepM e b a d op S = some (p, q) → p.length ≤ 2 ∧ ∀ x ∈ p, 0 ≤ x ∧ x < i := fun ho ha hc => by
    unfold deepM at hc
    split at hc
    · rename_i k
      simp only [Option.some.injEq, Prod.mk.injEq] at hc
      obtain ⟨rfl, _⟩ := hc
      obtain ⟨h1, h2⟩ := ha k.1
      have := two_parts (ndAt_ok hn h2.1 (by omega)) (by rw [k.2.1]; exact ho)
      refine ⟨by simp, fun x hx => ?_⟩
      simp only [List.mem_cons, List.not_mem_nil, or_false] at hx
      rcases hx with rfl | rfl
      · exact h1
      · omega
    · cases hc
  unfold tileM tileN at h
  by_cases t0 : t = 0
  · rw [if_pos t0] at h
    by_cases c : (ndAt e (i : Int)).1 = tIn
    · rw [if_pos c] at h; simp only [Option.some.injEq, Prod.mk.injEq] at h; obtain ⟨rfl, _⟩ := h; simp
    · rw [if_neg c] at h; cases h
  rw [if_neg t0] at h
  by_cases t1 : t = 1
  · rw [if_pos t1] at h
    by_cases c : (ndAt e (i : Int)).1 = tConst
    · rw [if_pos c] at h; simp only [Option.some.injEq, Prod.mk.injEq] at h; obtain ⟨rfl, _⟩ := h; simp
    · rw [if_neg c] at h; cases h
  rw [if_neg t1] at h
  by_cases t2 : t = 2
  · rw [if_pos t2] at h
    by_cases c : isOne (ndAt e (i : Int)).1 = true
    · rw [if_pos c] at h
      simp only [Option.some.injEq, Prod.mk.injEq] at h; obtain ⟨rfl, _⟩ := h
      refine ⟨by simp, fun x hx => ?_⟩
      simp only [List.mem_singleton] at hx
      subst hx
      exact nodeOk_parts (i := i) hk _ (by unfold partsOf; rw [if_pos (arity_one c)]; simp)
    · rw [if_neg c] at h; cases h
  rw [if_neg t2] at h
  by_cases t3 : t = 3
  · rw [if_pos t3] at h
    by_cases c : isTwo (ndAt e (i : Int)).1 = true
    · rw [if_pos c] at h
      simp only [Option.some.injEq, Prod.mk.injEq] at h; obtain ⟨rfl, _⟩ := h
      refine ⟨by simp, fun x hx => ?_⟩
      simp only [List.mem_cons, List.not_mem_nil, or_false] at hx
      rcases hx with rfl | rfl
      · exact (tw c).1
      · exact (tw c).2
    · rw [if_neg c] at h; cases h
  rw [if_neg t3] at h
  by_cases t4 : t = 4
  · rw [if_pos t4] at h; exact cst (fun c => (tw (in4 c)).1) h
  rw [if_neg t4] at h
  by_cases t5 : t = 5
  · rw [if_pos t5] at h; exact cst (fun c => (tw (in5 c)).2) h
  rw [if_neg t5] at h
  by_cases t6 : t = 6
  · rw [if_pos t6] at h; exact cst (fun c => (tw (in6 c)).1) h
  rw [if_neg t6] at h
  by_cases t7 : t = 7
  · rw [if_pos t7] at h; exact cst (fun c => (tw (by rw [of_decide_eq_true c]; decide)).1) h
  rw [if_neg t7] at h
  by_cases t8 : t = 8
  · rw [if_pos t8] at h; exact cst (fun c => (tw (by rw [of_decide_eq_true c]; decide)).2) h
  rw [if_neg t8] at h
  by_cases t9 : t = 9
  · rw [if_pos t9] at h; exact dp (by decide) (fun c => tw (by rw [of_decide_eq_true c]; decide)) h
  rw [if_neg t9] at h
  by_cases t10 : t = 10
  · rw [if_pos t10] at h; exact dp (by decide) (fun c => (tw (by rw [of_decide_eq_true c]; decide)).symm) h
  rw [if_neg t10] at h
  by_cases t11 : t = 11
  · rw [if_pos t11] at h; exact dp (by decide) (fun c => tw (by rw [of_decide_eq_true c]; decide)) h
  rw [if_neg t11] at h
  by_cases t12 : t = 12
  · rw [if_pos t12] at h; exact dp (by decide) (fun c => (tw (by rw [of_decide_eq_true c]; decide)).symm) h
  rw [if_neg t12] at h
  cases h
theorem prts_ok (hn : nodesOk e 0 = true) {i : Nat} (hi : i < e.length) (t : Int) : (prts e i t).length ≤ 2 ∧ ∀ x ∈ prts e i t, 0 ≤ x ∧ x < i := by
  unfold prts
  split
  · rename_i p q h; exact tile_parts hn hi h
  · simp
theorem kids_lt (hn : nodesOk e 0 = true) {i : Nat} (hi : i < e.length) : ∀ x ∈ kids e cover i, x < i := by
  intro x hx
  unfold kids at hx
  split at hx
  · obtain ⟨y, hy, rfl⟩ := List.mem_map.1 hx
    have := (prts_ok hn hi _).2 y hy
    omega
  · cases hx
theorem dfs_self (f i : Nat) : i ∈ dfs e cover (f + 1) i := by simp [dfs]
theorem dfs_le (hn : nodesOk e 0 = true) : ∀ (f i : Nat), i < e.length → ∀ j ∈ dfs e cover f i, j ≤ i
  | 0, i, _, j, h => by simp [dfs] at h
  | f + 1, i, hi, j, h => by
    simp only [dfs, List.mem_cons, List.mem_flatMap] at h
    rcases h with rfl | ⟨q, hq, h⟩
    · omega
    · have := kids_lt hn hi q hq
      have := dfs_le hn f q (by omega) j h
      omega
theorem dfs_close (hn : nodesOk e 0 = true) : ∀ (f r : Nat), r < e.length → r < f → ∀ i ∈ dfs e cover f r, ∀ p ∈ kids e cover i, p ∈ dfs e cover f r
  | 0, r, _, h, _, _, _, _ => by omega
  | f + 1, r, hr, hf, i, hi, p, hp => by
    simp only [dfs, List.mem_cons, List.mem_flatMap] at hi ⊢
    rcases hi with rfl | ⟨q, hq, hi⟩
    · have h1 := kids_lt hn hr p hp
      obtain ⟨g, rfl⟩ : ∃ g, f = g + 1 := ⟨f - 1, by omega⟩
      exact .inr ⟨p, hp, dfs_self g p⟩
    · have h1 := kids_lt hn hr q hq
      exact .inr ⟨q, hq, dfs_close hn f q (by omega) (by omega) i hi p hp⟩
theorem dfs_parent (hn : nodesOk e 0 = true) : ∀ (f r : Nat), r < e.length → r < f → ∀ j ∈ dfs e cover f r, j = r ∨ ∃ i ∈ dfs e cover f r, j ∈ kids e cover i
  | 0, r, _, h, _, _ => by omega
  | f + 1, r, hr, hf, j, hj => by
    simp only [dfs, List.mem_cons, List.mem_flatMap] at hj
    rcases hj with rfl | ⟨q, hq, hj⟩
    · exact .inl rfl
    · have h1 := kids_lt hn hr q hq
      right
      rcases dfs_parent hn f q (by omega) (by omega) j hj with rfl | ⟨i, hi, hji⟩
      · exact ⟨r, dfs_self f r, hq⟩
      · refine ⟨i, ?_, hji⟩
        simp only [dfs, List.mem_cons, List.mem_flatMap]
        exact .inr ⟨q, hq, hi⟩
end
/-! ### the program -/
def setL (cover : List Int) (o : List Int) (l : List Nat) : List Int := l.foldl (fun o j => o.set j (cvr cover j)) o
theorem setL_len (cover : List Int) : ∀ (l : List Nat) (o : List Int), (setL cover o l).length = o.length
  | [], o => rfl
  | j :: r, o => by unfold setL; rw [List.foldl_cons]; have := setL_len cover r (o.set j (cvr cover j)); unfold setL at this; rw [this, List.length_set]
theorem setL_app (cover o : List Int) (l m : List Nat) : setL cover o (l ++ m) = setL cover (setL cover o l) m := by unfold setL; rw [List.foldl_append]
section
variable {e : List Nd} {cover : List Int}
theorem cvr_get (hl : cover.length = e.length) {i : Nat} (hi : i < e.length) : cover[i]? = some (cvr cover i) := by
  unfold cvr
  rw [List.getD_eq_getElem?_getD, List.getElem?_eq_getElem (by omega)]; rfl
abbrev isR (cover : List Int) (o : List Int) (b : Bool) (e : List Nd) : Unit × List Int × Unit × List Int × Bool × List Nd × Unit := ((), (cover, ((), (o, (b, (e, ()))))))
theorem walk_parts {ok : Bool} {ps : List Int} (h2 : ps.length ≤ 2) {w : Nat → List Nat} (hw : ok = true → ∀ p ∈ ps, ∃ q : Nat, p = (q : Int) ∧ ∀ (o : List Int) (b : Bool), o.length = e.length → impl_isCover_1.v p cover o b e = some (isR cover (setL cover o (w q)) (b && (w q).all (vld e cover)) e)) :
    ∀ (d j : Nat) (o : List Int) (b : Bool), j + d = ps.length → o.length = e.length → impl_isCover_1.v0 ok ps (ps.length : Int) (j : Int) cover o b e = some (isR cover (setL cover o (if ok = true then ((ps.drop j).map Int.toNat).flatMap w else [])) (b && (if ok = true then ((ps.drop j).map Int.toNat).flatMap w else []).all (vld e cover)) e) := by
  intro d
  induction d with
  | zero =>
    intro j o b hj ho
    refine impl_isCover_1.v0s _ _ _ _ _ _ _ _ ?_
    rw [br_f (by simp; omega), List.drop_eq_nil_of_le (by omega)]
    simp [setL]
  | succ d ih =>
    intro j o b hj ho
    have hlt : j < ps.length := by omega
    refine impl_isCover_1.v0s _ _ _ _ _ _ _ _ ?_
    rw [br_t (by simpa using hlt), br_t (by simp), Int.toNat_natCast, gt_at _ hlt, next_ok j _ hlt (by omega)]
    cases ok with
    | false =>
      rw [br_f rfl, ih (j + 1) o b (by omega) ho]
      simp [setL]
    | true =>
      obtain ⟨q, hq, hv⟩ := hw rfl _ (List.getElem_mem hlt)
      rw [br_t rfl, hv o b ho, bd_s]
      simp only
      rw [ih (j + 1) _ _ (by omega) (by rw [setL_len]; exact ho), drop_at _ _ hlt, hq]
      simp only [if_true, List.map_cons, Int.toNat_natCast, List.flatMap_cons, setL_app, List.all_append, Bool.and_assoc]
theorem isCover_1_v (hn : nodesOk e 0 = true) (hl : cover.length = e.length) : ∀ (f i : Nat) (o : List Int) (b : Bool), i < e.length → i < f → o.length = e.length →
    impl_isCover_1.v (i : Int) cover o b e = some (isR cover (setL cover o (dfs e cover f i)) (b && (dfs e cover f i).all (vld e cover)) e)
  | 0, i, o, b, _, h, _ => by omega
  | f + 1, i, o, b, hi, hf, ho => by
    have hc := cvr_get hl hi
    have ho' : ∃ z, o[i]? = some z := ⟨_, List.getElem?_eq_getElem (by omega)⟩
    obtain ⟨z, hz⟩ := ho'
    refine impl_isCover_1.vs _ _ _ _ _ ?_
    rw [br_t (by simp), Int.toNat_natCast, gt_some hc, br_t (by simp), br_t (by rw [ho]; simpa using hi), gt_some hz, br_t (by simp), gt_some hc, within_f, bd_s]
    simp only [dfs, kids]
    by_cases hb : inB (cvr cover i) 0 12 = true
    · obtain ⟨b0, b1⟩ := inB_iff.1 hb
      rw [hb, brn_t, br_t (by simp), gt_some hc, tileAt_v hn hi b0 b1, bd_s]
      have fin : ∀ b', b' = (b && (tileM e (i : Int) (cvr cover i)).isSome) → impl_isCover_1.v0 (tileM e (i : Int) (cvr cover i)).isSome (tileI e i (cvr cover i)).1 ((tileI e i (cvr cover i)).1.length : Int) 0 cover (o.set i (cvr cover i)) b' e = some (isR cover (setL cover o (i :: List.flatMap (dfs e cover f) (if vld e cover i = true then List.map Int.toNat (prts e i (cvr cover i)) else []))) (b && (i :: List.flatMap (dfs e cover f) (if vld e cover i = true then List.map Int.toNat (prts e i (cvr cover i)) else [])).all (vld e cover)) e) := by
        intro b' hb'
        have hpl := tileI_len (t := cvr cover i) hn hi b0 b1
        have := walk_parts (e := e) (cover := cover) (ok := (tileM e (i : Int) (cvr cover i)).isSome) hpl (w := dfs e cover f) (fun hok p hp => by
          obtain ⟨⟨pp, qq⟩, hpq⟩ := Option.isSome_iff_exists.1 hok
          rw [tileI_eq hn hi b0 b1 hpq] at hp
          obtain ⟨p0, p1⟩ := (tile_parts hn hi hpq).2 p hp
          obtain ⟨q, rfl⟩ := Int.eq_ofNat_of_zero_le p0
          exact ⟨q, rfl, fun o b ho => isCover_1_v hn hl f q o b (by omega) (by omega) ho⟩) (tileI e i (cvr cover i)).1.length 0 (o.set i (cvr cover i)) b' (by omega) (by rw [List.length_set]; exact ho)
        rw [List.drop_zero] at this
        refine this.trans ?_
        have hv : vld e cover i = (tileM e (i : Int) (cvr cover i)).isSome := by unfold vld; rw [hb]; simp
        have hset : ∀ l, setL cover o (i :: l) = setL cover (o.set i (cvr cover i)) l := fun l => rfl
        rw [hset, List.all_cons, hv, hb']
        cases hok : (tileM e (i : Int) (cvr cover i)).isSome with
        | false => simp
        | true =>
          obtain ⟨⟨pp, qq⟩, hpq⟩ := Option.isSome_iff_exists.1 hok
          rw [tileI_eq hn hi b0 b1 hpq, show prts e i (cvr cover i) = pp by unfold prts; rw [hpq]]
          simp
      cases b with
      | true => rw [br_t rfl]; exact fin _ (by simp)
      | false => rw [br_f rfl]; exact fin _ (by simp)
    · have hv : vld e cover i = false := by unfold vld; rw [Bool.not_eq_true] at hb; rw [hb]; rfl
      rw [Bool.not_eq_true] at hb
      rw [hb, brn_f, hv]
      simp [setL, hv]
end
end Go.Proofs.YtokdmaoconegkaaGreat.Am
end
section
/- The inner nodes of a tile. -/
namespace Go.Proofs.YtokdmaoconegkaaGreat.Am
open Go
set_option linter.unusedVariables false
set_option linter.unusedSimpArgs false
/-- what the inner nodes of a tile are: none; a constant; a constant below a node that is none -/
inductive Inner (e : List Nd) (i t : Int) (q : List Int) : Prop
  | none (h : q = []) (ht : t ≤ 3)
  | one (c : Int) (S : List Int) (ops : List ByteArray) (h : q = [c]) (h0 : 0 ≤ c) (hi : c < i) (hc : (ndAt e c).1 = tConst) (hv : (ndAt e c).2.2.2 ∈ S) (ho : isIn ops (ndAt e i).1 = true)
      (ht : (t = 4 ∧ ops = ops4 ∧ S = wordsL) ∨ (t = 5 ∧ ops = ops5 ∧ S = wordsL) ∨ (t = 6 ∧ ops = ops6) ∨ (t = 7 ∧ S = [2, 4, 8, 16, 32]) ∨ (t = 8 ∧ S = [2, 4, 8, 16, 32]))
  | two (d : Int) (S : List Int) (h : q = [(ndAt e d).2.2.1, d]) (h0 : 0 ≤ d) (hi : d < i) (hd : (ndAt e d).1 ≠ tConst) (hb : 0 ≤ (ndAt e d).2.2.1 ∧ (ndAt e d).2.2.1 < d) (hc : (ndAt e (ndAt e d).2.2.1).1 = tConst) (hv : (ndAt e (ndAt e d).2.2.1).2.2.2 ∈ S)
      (ht : t = 9 ∨ t = 10 ∨ (t = 11 ∧ S = [2, 4, 8]) ∨ (t = 12 ∧ S = [2, 4, 8]))
section
variable {e : List Nd}
theorem isCn_parts {m : Nd} {S : List Int} (h : isCn m S = true) : m.1 = tConst ∧ m.2.2.2 ∈ S := by
  unfold isCn at h
  rw [Bool.and_eq_true, decide_eq_true_iff, decide_eq_true_iff] at h
  exact h
theorem isIn_one {s : ByteArray} (h : decide (s = tMul) = true) : isIn [tMul] s = true := by
  rw [of_decide_eq_true h]; decide
theorem tile_inner (hn : nodesOk e 0 = true) {i : Nat} (hi : i < e.length) {t : Int} {p q : List Int} (h : tileM e (i : Int) t = some (p, q)) : Inner e i t q := by
  have hk : nodeOk (ndAt e i) (i : Int) = true := ndAt_ok hn (by omega) (by omega)
  have tw : isTwo (ndAt e i).1 = true → (0 ≤ (ndAt e i).2.1 ∧ (ndAt e i).2.1 < i) ∧ 0 ≤ (ndAt e i).2.2.1 ∧ (ndAt e i).2.2.1 < i := fun c => two_parts hk c
  have cst : ∀ {b : Bool} {S : List Int} {a c : Int}, constM b (ndAt e c) S a c = some (p, q) → b = true ∧ q = [c] ∧ (ndAt e c).1 = tConst ∧ (ndAt e c).2.2.2 ∈ S := fun hc => by
    unfold constM at hc
    split at hc
    · rename_i k
      simp only [Option.some.injEq, Prod.mk.injEq] at hc
      obtain ⟨_, rfl⟩ := hc
      obtain ⟨k1, k2⟩ := isCn_parts k.2
      exact ⟨k.1, rfl, k1, k2⟩
    · cases hc
  have dp : ∀ {b : Bool} {a d : Int} {op : ByteArray} {S : List Int}, isTwo op = true → op ≠ tConst → (b = true → 0 ≤ d ∧ d < i) → (t = 9 ∨ t = 10 ∨ (t = 11 ∧ S = [2, 4, 8]) ∨ (t = 12 ∧ S = [2, 4, 8])) → deepM e b a d op S = some (p, q) → Inner e i t q := fun ho hne ha ht hc => by
    unfold deepM at hc
    split at hc
    · rename_i k
      simp only [Option.some.injEq, Prod.mk.injEq] at hc
      obtain ⟨_, rfl⟩ := hc
      have h2 := ha k.1
      have := two_parts (ndAt_ok hn h2.1 (by omega)) (by rw [k.2.1]; exact ho)
      obtain ⟨k1, k2⟩ := isCn_parts k.2.2
      exact .two _ _ rfl h2.1 h2.2 (by rw [k.2.1]; exact hne) this.2 k1 k2 ht
    · cases hc
  unfold tileM tileN at h
  by_cases t0 : t = 0
  · rw [if_pos t0] at h
    by_cases c : (ndAt e (i : Int)).1 = tIn
    · rw [if_pos c] at h; simp only [Option.some.injEq, Prod.mk.injEq] at h; obtain ⟨_, rfl⟩ := h; exact .none rfl (by omega)
    · rw [if_neg c] at h; cases h
  rw [if_neg t0] at h
  by_cases t1 : t = 1
  · rw [if_pos t1] at h
    by_cases c : (ndAt e (i : Int)).1 = tConst
    · rw [if_pos c] at h; simp only [Option.some.injEq, Prod.mk.injEq] at h; obtain ⟨_, rfl⟩ := h; exact .none rfl (by omega)
    · rw [if_neg c] at h; cases h
  rw [if_neg t1] at h
  by_cases t2 : t = 2
  · rw [if_pos t2] at h
    by_cases c : isOne (ndAt e (i : Int)).1 = true
    · rw [if_pos c] at h; simp only [Option.some.injEq, Prod.mk.injEq] at h; obtain ⟨_, rfl⟩ := h; exact .none rfl (by omega)
    · rw [if_neg c] at h; cases h
  rw [if_neg t2] at h
  by_cases t3 : t = 3
  · rw [if_pos t3] at h
    by_cases c : isTwo (ndAt e (i : Int)).1 = true
    · rw [if_pos c] at h; simp only [Option.some.injEq, Prod.mk.injEq] at h; obtain ⟨_, rfl⟩ := h; exact .none rfl (by omega)
    · rw [if_neg c] at h; cases h
  rw [if_neg t3] at h
  by_cases t4 : t = 4
  · rw [if_pos t4] at h
    obtain ⟨b, rfl, c1, c2⟩ := cst h
    have := (tw (in4 b)).2
    exact .one _ _ ops4 rfl this.1 this.2 c1 c2 b (.inl ⟨t4, rfl, rfl⟩)
  rw [if_neg t4] at h
  by_cases t5 : t = 5
  · rw [if_pos t5] at h
    obtain ⟨b, rfl, c1, c2⟩ := cst h
    have := (tw (in5 b)).1
    exact .one _ _ ops5 rfl this.1 this.2 c1 c2 b (.inr (.inl ⟨t5, rfl, rfl⟩))
  rw [if_neg t5] at h
  by_cases t6 : t = 6
  · rw [if_pos t6] at h
    obtain ⟨b, rfl, c1, c2⟩ := cst h
    have := (tw (in6 b)).2
    exact .one _ _ ops6 rfl this.1 this.2 c1 c2 b (.inr (.inr (.inl ⟨t6, rfl⟩)))
  rw [if_neg t6] at h
  by_cases t7 : t = 7
  · rw [if_pos t7] at h
    obtain ⟨b, rfl, c1, c2⟩ := cst h
    have := (tw (by rw [of_decide_eq_true b]; decide)).2
    exact .one _ _ [tMul] rfl this.1 this.2 c1 c2 (isIn_one b) (.inr (.inr (.inr (.inl ⟨t7, rfl⟩))))
  rw [if_neg t7] at h
  by_cases t8 : t = 8
  · rw [if_pos t8] at h
    obtain ⟨b, rfl, c1, c2⟩ := cst h
    have := (tw (by rw [of_decide_eq_true b]; decide)).1
    exact .one _ _ [tMul] rfl this.1 this.2 c1 c2 (isIn_one b) (.inr (.inr (.inr (.inr ⟨t8, rfl⟩))))
  rw [if_neg t8] at h
  by_cases t9 : t = 9
  · rw [if_pos t9] at h; exact dp (by decide) (by decide) (fun c => (tw (by rw [of_decide_eq_true c]; decide)).2) (.inl t9) h
  rw [if_neg t9] at h
  by_cases t10 : t = 10
  · rw [if_pos t10] at h; exact dp (by decide) (by decide) (fun c => (tw (by rw [of_decide_eq_true c]; decide)).1) (.inr (.inl t10)) h
  rw [if_neg t10] at h
  by_cases t11 : t = 11
  · rw [if_pos t11] at h; exact dp (by decide) (by decide) (fun c => (tw (by rw [of_decide_eq_true c]; decide)).2) (.inr (.inr (.inl ⟨t11, rfl⟩))) h
  rw [if_neg t11] at h
  by_cases t12 : t = 12
  · rw [if_pos t12] at h; exact dp (by decide) (by decide) (fun c => (tw (by rw [of_decide_eq_true c]; decide)).1) (.inr (.inr (.inr ⟨t12, rfl⟩))) h
  rw [if_neg t12] at h
  cases h
end
end Go.Proofs.YtokdmaoconegkaaGreat.Am
end
section
/- Is a list a cover: the reference's rounds, the program's walk. -/
namespace Go.Proofs.YtokdmaoconegkaaGreat.Am
open Go
set_option linter.unusedVariables false
set_option linter.unusedSimpArgs false

/-- the nodes that need tiles -/
def need (e : List Nd) (cover : List Int) : List Nat := dfs e cover e.length (e.length - 1)
def inS (e : List Nd) (cover : List Int) (k j : Nat) : Bool := decide (j = e.length - 1) || (need e cover).any (fun i => decide (k ≤ i) && (kids e cover i).contains j)
def Nn (e : List Nd) (cover : List Int) (k : Nat) : List Bool := (List.range e.length).map (inS e cover k)
section
variable {e : List Nd} {cover : List Int}
theorem need_root (h1 : 1 ≤ e.length) : e.length - 1 ∈ need e cover := by
  unfold need
  obtain ⟨f, hf⟩ : ∃ f, e.length = f + 1 := ⟨e.length - 1, by omega⟩
  rw [hf]; exact dfs_self f _
theorem need_lt (hn : nodesOk e 0 = true) (h1 : 1 ≤ e.length) {j : Nat} (h : j ∈ need e cover) : j < e.length := by
  have := dfs_le hn _ _ (by omega) j h
  omega
theorem inS_need (hn : nodesOk e 0 = true) (h1 : 1 ≤ e.length) {k j : Nat} (hk : k ≤ j + 1) : inS e cover k j = (need e cover).contains j := by
  rw [Bool.eq_iff_iff]
  unfold inS
  rw [Bool.or_eq_true, decide_eq_true_iff, List.any_eq_true, List.contains_iff_mem]
  constructor
  · rintro (rfl | ⟨i, hi, hc⟩)
    · exact need_root h1
    · rw [Bool.and_eq_true, List.contains_iff_mem] at hc
      exact dfs_close hn _ _ (by omega) (by omega) i hi j hc.2
  · intro h
    rcases dfs_parent hn _ _ (by omega) (by omega) j h with rfl | ⟨i, hi, hj⟩
    · exact .inl rfl
    · have := kids_lt hn (need_lt hn h1 hi) j hj
      exact .inr ⟨i, hi, by rw [Bool.and_eq_true, List.contains_iff_mem]; exact ⟨decide_eq_true (by omega), hj⟩⟩
theorem Nn_len (k : Nat) : (Nn e cover k).length = e.length := by simp [Nn]
theorem Nn_get {k j : Nat} (hj : j < e.length) : (Nn e cover k)[j]? = some (inS e cover k j) := by
  unfold Nn
  rw [List.getElem?_map, List.getElem?_range hj]; rfl
theorem inS_skip {m : Nat} (h : (need e cover).contains m = false) (j : Nat) : inS e cover m j = inS e cover (m + 1) j := by
  unfold inS
  congr 1
  rw [Bool.eq_iff_iff, List.any_eq_true, List.any_eq_true]
  constructor
  · rintro ⟨i, hi, hc⟩
    rw [Bool.and_eq_true, decide_eq_true_iff] at hc
    refine ⟨i, hi, ?_⟩
    rw [Bool.and_eq_true, decide_eq_true_iff]
    have : i ≠ m := fun q => by subst q; rw [List.contains_iff_mem.2 hi] at h; cases h
    exact ⟨by omega, hc.2⟩
  · rintro ⟨i, hi, hc⟩
    rw [Bool.and_eq_true, decide_eq_true_iff] at hc
    exact ⟨i, hi, by rw [Bool.and_eq_true, decide_eq_true_iff]; exact ⟨by omega, hc.2⟩⟩
theorem inS_take {m : Nat} (h : (need e cover).contains m = true) (j : Nat) : inS e cover m j = (inS e cover (m + 1) j || (kids e cover m).contains j) := by
  unfold inS
  rw [Bool.or_assoc]
  congr 1
  rw [Bool.eq_iff_iff, Bool.or_eq_true, List.any_eq_true, List.any_eq_true]
  constructor
  · rintro ⟨i, hi, hc⟩
    rw [Bool.and_eq_true, decide_eq_true_iff] at hc
    by_cases q : i = m
    · subst q; exact .inr hc.2
    · exact .inl ⟨i, hi, by rw [Bool.and_eq_true, decide_eq_true_iff]; exact ⟨by omega, hc.2⟩⟩
  · rintro (⟨i, hi, hc⟩ | hc)
    · rw [Bool.and_eq_true, decide_eq_true_iff] at hc
      exact ⟨i, hi, by rw [Bool.and_eq_true, decide_eq_true_iff]; exact ⟨by omega, hc.2⟩⟩
    · exact ⟨m, List.contains_iff_mem.1 h, by rw [Bool.and_eq_true, decide_eq_true_iff]; exact ⟨by omega, hc⟩⟩
def setT (N : List Bool) (ps : List Int) : List Bool := ps.foldl (fun N p => N.set p.toNat true) N
theorem setT_get : ∀ (ps : List Int) (N : List Bool) (j : Nat), (setT N ps)[j]? = (N[j]?).map (fun b => b || (ps.map Int.toNat).contains j)
  | [], N, j => by simp [setT]
  | p :: r, N, j => by
    unfold setT
    rw [List.foldl_cons]
    have := setT_get r (N.set p.toNat true) j
    unfold setT at this
    rw [this, List.getElem?_set]
    by_cases c : p.toNat = j
    · subst c
      by_cases d : p.toNat < N.length
      · simp [d]
      · simp [d, List.getElem?_eq_none (Nat.le_of_not_lt d)]
    · have c' : ¬ j = p.toNat := fun q => c q.symm
      rw [if_neg c]
      simp [c']
theorem setT_len : ∀ (ps : List Int) (N : List Bool), (setT N ps).length = N.length
  | [], N => rfl
  | p :: r, N => by unfold setT; rw [List.foldl_cons]; have := setT_len r (N.set p.toNat true); unfold setT at this; rw [this, List.length_set]
theorem need_inner {m : Int} {ps : List Int} (h2 : ps.length ≤ 2) (hp : ∀ x ∈ ps, 0 ≤ x ∧ x < e.length) {r : List Bool × Bool} : ∀ (d j : Nat) (N : List Bool), j + d = ps.length → N.length = e.length → spec_cvNeeded.v0 e cover (IntKind.wrap .i64 (m - 1)) (setT N (ps.drop j)) = some r → spec_cvNeeded.v1 e cover m ps (ps.length : Int) (j : Int) N = some r := by
  intro d
  induction d with
  | zero =>
    intro j N hj hN h
    refine spec_cvNeeded.v1s _ _ _ _ _ _ _ ?_
    rw [br_f (by simp; omega)]
    rwa [List.drop_eq_nil_of_le (by omega)] at h
  | succ d ih =>
    intro j N hj hN h
    have hlt : j < ps.length := by omega
    obtain ⟨p0, p1⟩ := hp _ (List.getElem_mem hlt)
    have hz : ∃ z, N[ps[j].toNat]? = some z := ⟨_, List.getElem?_eq_getElem (by omega)⟩
    obtain ⟨z, hz⟩ := hz
    refine spec_cvNeeded.v1s _ _ _ _ _ _ _ ?_
    rw [br_t (by simpa using hlt), br_t (by simp), Int.toNat_natCast, gt_at _ hlt, br_t (by simpa using p0), br_t (by rw [hN]; simpa using p1), gt_some hz, next_ok j _ hlt (by omega)]
    refine ih (j + 1) _ (by omega) (by rw [List.length_set]; exact hN) ?_
    rw [drop_at _ _ hlt] at h
    exact h
theorem need_loop (hn : nodesOk e 0 = true) (h1 : 1 ≤ e.length) (h24 : e.length ≤ 24) (hl : cover.length = e.length) : ∀ k, k ≤ e.length → spec_cvNeeded.v0 e cover ((k : Int) - 1) (Nn e cover k) = some (if ((need e cover).all fun i => decide (k ≤ i) || vld e cover i) = true then (Nn e cover 0, true) else ([], false)) := by
  intro k
  induction k with
  | zero =>
    intro _
    refine spec_cvNeeded.v0s _ _ _ _ ?_
    rw [br_f (by simp), if_pos (by rw [List.all_eq_true]; intro i _; simp)]
  | succ m ih =>
    intro hk
    have hm : m < e.length := by omega
    have hx : (((m + 1 : Nat) : Int) - 1) = (m : Int) := by omega
    have wm : IntKind.wrap .i64 ((m : Int) - 1) = (m : Int) - 1 := wrap_ok (by omega) (by omega)
    have ih := ih (by omega)
    refine spec_cvNeeded.v0s _ _ _ _ ?_
    rw [hx, br_t (by simp), br_t (by simp), br_t (by rw [Nn_len]; simpa using hm), Int.toNat_natCast, gt_some (Nn_get hm), inS_need hn h1 (Nat.le_refl _)]
    cases hc : (need e cover).contains m with
    | false =>
      have e1 : Nn e cover (m + 1) = Nn e cover m := by unfold Nn; exact List.map_congr_left fun j _ => (inS_skip hc j).symm
      have e2 : ((need e cover).all fun i => decide (m + 1 ≤ i) || vld e cover i) = ((need e cover).all fun i => decide (m ≤ i) || vld e cover i) := by
        rw [Bool.eq_iff_iff, List.all_eq_true, List.all_eq_true]
        have : ∀ i ∈ need e cover, i ≠ m := fun i hi q => by subst q; rw [List.contains_iff_mem.2 hi] at hc; cases hc
        constructor
        · intro h i hi
          have := h i hi
          simp only [Bool.or_eq_true, decide_eq_true_eq] at this ⊢
          rcases this with q | q
          · exact .inl (by omega)
          · exact .inr q
        · intro h i hi
          have h3 := this i hi
          have := h i hi
          simp only [Bool.or_eq_true, decide_eq_true_eq] at this ⊢
          rcases this with q | q
          · exact .inl (by omega)
          · exact .inr q
      rw [brn_f, wm, e1, e2]; exact ih
    | true =>
      have hcv := cvr_get hl hm
      rw [brn_t, br_t (by simp), gt_some hcv, l1In_f, bd_s]
      have hall : vld e cover m = false → ((need e cover).all fun i => decide (m + 1 ≤ i) || vld e cover i) = false := fun hv => by
        cases ha : ((need e cover).all fun i => decide (m + 1 ≤ i) || vld e cover i) with
        | false => rfl
        | true =>
          have := List.all_eq_true.1 ha m (List.contains_iff_mem.1 hc)
          simp only [Bool.or_eq_true, decide_eq_true_eq, hv] at this
          rcases this with q | q
          · omega
          · cases q
      cases hb : inB (cvr cover m) 0 12 with
      | false =>
        rw [brn_f, hall (by unfold vld; rw [hb]; rfl)]; rfl
      | true =>
        rw [brn_t, br_t (by simp), gt_some hcv, cvTile_v hn hm, bd_s]
        cases hm2 : tileM e (m : Int) (cvr cover m) with
        | none =>
          simp only [told]
          rw [brn_f, hall (by unfold vld; rw [hm2]; simp)]; rfl
        | some pq =>
          obtain ⟨p, q⟩ := pq
          simp only [told]
          rw [brn_t]
          have hv : vld e cover m = true := by unfold vld; rw [hb, hm2]; rfl
          obtain ⟨t1, t2⟩ := tile_parts hn hm hm2
          have hkids : kids e cover m = p.map Int.toNat := by unfold kids prts; rw [if_pos hv, hm2]
          have e1 : setT (Nn e cover (m + 1)) p = Nn e cover m := by
            apply List.ext_getElem?
            intro j
            rw [setT_get]
            by_cases hj : j < e.length
            · rw [Nn_get hj, Nn_get hj, inS_take hc j, hkids]; rfl
            · rw [List.getElem?_eq_none (by rw [Nn_len]; omega), List.getElem?_eq_none (by rw [Nn_len]; omega)]; rfl
          have e2 : ((need e cover).all fun i => decide (m + 1 ≤ i) || vld e cover i) = ((need e cover).all fun i => decide (m ≤ i) || vld e cover i) := by
            rw [Bool.eq_iff_iff, List.all_eq_true, List.all_eq_true]
            constructor
            · intro h i hi
              have := h i hi
              simp only [Bool.or_eq_true, decide_eq_true_eq] at this ⊢
              rcases this with q | q
              · exact .inl (by omega)
              · exact .inr q
            · intro h i hi
              have := h i hi
              simp only [Bool.or_eq_true, decide_eq_true_eq] at this ⊢
              by_cases q : i = m
              · subst q; exact .inr hv
              · rcases this with k | k
                · exact .inl (by omega)
                · exact .inr k
          refine need_inner t1 (fun x hx => by have := t2 x hx; omega) p.length 0 _ (by omega) (Nn_len _) ?_
          rw [List.drop_zero, e1, e2, wm]; exact ih
theorem needed_v (hn : nodesOk e 0 = true) (h1 : 1 ≤ e.length) (h24 : e.length ≤ 24) (hl : cover.length = e.length) : spec_cvNeeded.v e cover = some (if (need e cover).all (vld e cover) = true then (Nn e cover 0, true) else ([], false)) := by
  have hr : ∃ z, (List.replicate e.length false)[e.length - 1]? = some z := ⟨_, List.getElem?_eq_getElem (by simp; omega)⟩
  obtain ⟨z, hz⟩ := hr
  refine spec_cvNeeded.vs _ _ ?_
  rw [br_t (by simp), br_t (by simp; omega), last_w h1 (by omega), br_t (by simp), br_t (by simp; omega), Int.toNat_natCast, Int.toNat_natCast, gt_some hz]
  have e0 : (List.replicate e.length false).set (e.length - 1) true = Nn e cover e.length := by
    apply List.ext_getElem?
    intro j
    by_cases hj : j < e.length
    · rw [Nn_get hj, List.getElem?_set]
      unfold inS
      have : (need e cover).any (fun i => decide (e.length ≤ i) && (kids e cover i).contains j) = false := by
        rw [List.any_eq_false]
        intro i hi
        have := need_lt hn h1 hi
        simp; omega
      rw [this]
      by_cases c : e.length - 1 = j
      · subst c; simp; omega
      · have c' : ¬ j = e.length - 1 := fun q => c q.symm
        simp [c, c', hj]
    · rw [List.getElem?_eq_none (by simp; omega), List.getElem?_eq_none (by rw [Nn_len]; omega)]
  rw [e0, show ((e.length - 1 : Nat) : Int) = (e.length : Int) - 1 by omega, need_loop hn h1 h24 hl e.length (Nat.le_refl _)]
  have e2 : ((need e cover).all fun i => decide (e.length ≤ i) || vld e cover i) = (need e cover).all (vld e cover) := by
    rw [Bool.eq_iff_iff, List.all_eq_true, List.all_eq_true]
    constructor
    · intro h i hi
      have := h i hi
      have hlt := need_lt hn h1 hi
      simp only [Bool.or_eq_true, decide_eq_true_eq] at this
      rcases this with q | q
      · omega
      · exact q
    · intro h i hi
      simp [h i hi]
  rw [e2]
/-- is it a cover -/
def isCoverP (e : List Nd) (cover : List Int) : Bool := decide (cover.length = e.length) && ((need e cover).all (vld e cover) && (List.range e.length).all (fun j => (need e cover).contains j || decide (cvr cover j = -1)))
theorem cvIs_v (hn : nodesOk e 0 = true) (h1 : 1 ≤ e.length) (h24 : e.length ≤ 24) : spec_cvIs.v e cover = some (isCoverP e cover) := by
  refine spec_cvIs.vs _ _ ?_
  unfold isCoverP
  by_cases hl : cover.length = e.length
  · rw [br_f (by simp [hl]), needed_v hn h1 h24 hl, bd_s]
    cases ha : (need e cover).all (vld e cover) with
    | false => simp
    | true =>
      rw [if_pos rfl, brn_t]
      have key : ∀ (d j : Nat), j + d = e.length → spec_cvIs.v0 (Nn e cover 0) cover (e.length : Int) (j : Int) = some (((List.range e.length).drop j).all (fun j => (need e cover).contains j || decide (cvr cover j = -1))) := by
        intro d
        induction d with
        | zero =>
          intro j hj
          refine spec_cvIs.v0s _ _ _ _ ?_
          rw [br_f (by simp; omega), List.drop_eq_nil_of_le (by simp; omega)]; rfl
        | succ d ih =>
          intro j hj
          have hlt : j < e.length := by omega
          refine spec_cvIs.v0s _ _ _ _ ?_
          rw [br_t (by simpa using hlt), br_t (by simp), Int.toNat_natCast, gt_some (cvr_get hl hlt), br_t (by simp), gt_some (Nn_get hlt), inS_need hn h1 (by omega), next_ok j _ hlt (by omega), ih (j + 1) (by omega)]
          rw [show (List.range e.length).drop j = j :: (List.range e.length).drop (j + 1) by rw [drop_at _ _ (by simpa using hlt)]; simp, List.all_cons]
          cases hc : (need e cover).contains j with
          | true => rw [brn_t]; simp
          | false =>
            rw [brn_f]
            by_cases c : cvr cover j = -1
            · rw [br_f (by simp [c])]; simp [c]
            · rw [br_t (by simpa using c)]; simp [c]
      have := key e.length 0 (by omega)
      rw [hl]
      refine Eq.trans this ?_
      rw [List.drop_zero]
      simp
  · rw [br_t (by simp; omega)]; simp [hl]
/-! ### the program -/
theorem equalI_v (xs ys : List Int) (hx : xs.length ≤ 1000000) : slices_Equal_int.v xs ys = some (decide (xs = ys)) := by
  refine slices_Equal_int.vs _ _ ?_
  by_cases hl : xs.length = ys.length
  · rw [br_f (by simp [hl])]
    have key : ∀ (d i : Nat), i + d = xs.length → slices_Equal_int.v0 xs ys (xs.length : Int) (i : Int) = some (decide (xs.drop i = ys.drop i)) := by
      intro d
      induction d with
      | zero =>
        intro i hi
        refine slices_Equal_int.v0s _ _ _ _ ?_
        rw [br_f (by simp; omega), List.drop_eq_nil_of_le (by omega), List.drop_eq_nil_of_le (by omega)]; simp
      | succ d ih =>
        intro i hi
        have h1 : i < xs.length := by omega
        have h2 : i < ys.length := by omega
        refine slices_Equal_int.v0s _ _ _ _ ?_
        rw [br_t (by simpa using h1), br_t (by simp), Int.toNat_natCast, gt_at _ h1, br_t (by simp), gt_at _ h2, next_ok i _ h1 (by omega), ih (i + 1) (by omega), drop_at _ _ h1, drop_at _ _ h2]
        by_cases c : xs[i] = ys[i]
        · rw [br_f (by simp [c]), c]; exact congrArg some (decide_eq_decide.2 ⟨fun h => by rw [h], fun h => (List.cons.inj h).2⟩)
        · rw [br_t (by simpa using c)]; exact congrArg some (decide_eq_false fun h => c (List.cons.inj h).1).symm
    have := key xs.length 0 (by omega)
    simpa using this
  · rw [br_t (by simp; omega)]
    have : ¬ xs = ys := fun h => hl (by rw [h])
    simp [this]
theorem setL_get : ∀ (l : List Nat) (o : List Int) (j : Nat), j < o.length → (setL cover o l)[j]? = some (if l.contains j = true then cvr cover j else o.getD j 0)
  | [], o, j, hj => by simp [setL, List.getElem?_eq_getElem hj]
  | i :: r, o, j, hj => by
    have := setL_get r (o.set i (cvr cover i)) j (by rw [List.length_set]; exact hj)
    unfold setL at this ⊢
    rw [List.foldl_cons, this]
    by_cases c : r.contains j = true
    · have c1 : (i :: r).contains j = true := by rw [List.contains_cons, c]; simp
      rw [if_pos c, if_pos c1]
    · rw [if_neg c]
      rw [List.getD_eq_getElem?_getD, List.getElem?_set]
      by_cases d : i = j
      · subst d
        have c1 : (i :: r).contains i = true := by simp
        rw [if_pos rfl, if_pos hj, if_pos c1]; rfl
      · have c1 : ¬ (i :: r).contains j = true := by
          rw [List.contains_cons]
          have d' : ¬ j = i := fun q => d q.symm
          simp at c
          simp [d', c]
        rw [if_neg d, if_neg c1, List.getD_eq_getElem?_getD]
theorem isCover_v (hn : nodesOk e 0 = true) (h1 : 1 ≤ e.length) (h24 : e.length ≤ 24) : impl_isCover.v e cover = some (isCoverP e cover) := by
  refine impl_isCover.vs _ _ ?_
  unfold isCoverP
  by_cases hl : cover.length = e.length
  · rw [br_f (by simp [hl]), empty_v h1 h24, bd_s, last_w h1 (by omega), isCover_1_v hn hl e.length (e.length - 1) _ _ (by omega) (by omega) (by simp), bd_s]
    simp only [Bool.true_and, isR]
    have hneed : dfs e cover e.length (e.length - 1) = need e cover := rfl
    rw [hneed]
    cases ha : (need e cover).all (vld e cover) with
    | false => rw [br_f rfl]; simp
    | true =>
      rw [br_t rfl, equalI_v _ _ (by rw [setL_len]; simp; omega), bd_s]
      congr 1
      rw [Bool.eq_iff_iff, decide_eq_true_iff]
      simp only [hl, decide_true, Bool.true_and]
      rw [List.all_eq_true]
      have hg : ∀ j, j < e.length → (setL cover (List.replicate e.length (-1)) (need e cover))[j]? = some (if (need e cover).contains j = true then cvr cover j else -1) := fun j hj => by
        rw [setL_get _ _ _ (by simpa using hj)]
        simp [List.getD_eq_getElem?_getD, hj]
      constructor
      · intro h j hj
        have hj := List.mem_range.1 hj
        have h2 := hg j hj
        rw [h, cvr_get hl hj] at h2
        rw [Bool.or_eq_true, decide_eq_true_iff]
        by_cases c : (need e cover).contains j = true
        · exact .inl c
        · rw [if_neg c] at h2
          exact .inr (Option.some.inj h2)
      · intro h
        apply List.ext_getElem?
        intro j
        by_cases hj : j < e.length
        · rw [hg j hj, cvr_get hl hj]
          have := h j (List.mem_range.2 hj)
          rw [Bool.or_eq_true, decide_eq_true_iff] at this
          by_cases c : (need e cover).contains j = true
          · rw [if_pos c]
          · rw [if_neg c]
            rcases this with q | q
            · exact absurd q c
            · rw [q]
        · rw [List.getElem?_eq_none (by rw [setL_len]; simp; omega), List.getElem?_eq_none (by omega)]
  · rw [br_t (by simp; omega)]; simp [hl]
theorem cvTree_v (hl : e.length ≤ 1048576) : spec_cvTree.v e = some (treeOk e) := by
  refine spec_cvTree.vs _ ?_
  rw [exGood_v e hl, bd_s]
  unfold treeOk
  by_cases c : exprOk e = true
  · rw [br_t c, exTree_v e hl c, bd_s, c]; rfl
  · rw [Bool.not_eq_true] at c
    rw [br_f c, c]; rfl
def isCoverA (e : List Nd) (cover : List Int) : Bool × Bool := if treeOk e = true then (isCoverP e cover, true) else (false, false)
end
end Go.Proofs.YtokdmaoconegkaaGreat.Am
end
section
/- What a cover costs. -/
namespace Go.Proofs.YtokdmaoconegkaaGreat.Am
open Go
set_option linter.unusedVariables false
set_option linter.unusedSimpArgs false
section
variable {e : List Nd} {cover : List Int}
theorem cover_len (h : isCoverP e cover = true) : cover.length = e.length := by
  unfold isCoverP at h
  rw [Bool.and_eq_true] at h
  exact of_decide_eq_true h.1
theorem cover_vld (h : isCoverP e cover = true) {j : Nat} (hj : j < e.length) (h0 : 0 ≤ cvr cover j) : vld e cover j = true := by
  unfold isCoverP at h
  rw [Bool.and_eq_true, Bool.and_eq_true, List.all_eq_true, List.all_eq_true] at h
  have := h.2.2 j (List.mem_range.2 hj)
  rw [Bool.or_eq_true, decide_eq_true_iff] at this
  rcases this with q | q
  · exact h.2.1 j (List.contains_iff_mem.1 q)
  · omega
theorem vld_parts {j : Nat} (h : vld e cover j = true) : (0 ≤ cvr cover j ∧ cvr cover j ≤ 12) ∧ ∃ p q, tileM e j (cvr cover j) = some (p, q) := by
  unfold vld at h
  rw [Bool.and_eq_true] at h
  refine ⟨by have := h.1; unfold inB at this; simp at this; exact this, ?_⟩
  obtain ⟨⟨p, q⟩, hx⟩ := Option.isSome_iff_exists.1 h.2
  exact ⟨p, q, hx⟩
theorem cvCost_f {j : Nat} (hj : j < e.length) (t : Int) : spec_cvCost.f e (j : Int) t = some (tCost e j t) := by
  rw [spec_cvCost.eq]
  unfold tCost tCostN
  by_cases c0 : t = 0
  · rw [br_t (by simp [c0]), if_pos c0]
  · rw [br_f (by simp [c0]), if_neg c0]
    by_cases c3 : t = 3
    · rw [br_t (by simp [c3]), if_pos c3, br_t (by simp), gt_some (ndAt_get (by omega) (by omega)), cdCost_f, bd_s]
    · rw [br_f (by simp [c3]), if_neg c3]
/-- the sum from a node on -/
def sumC (e : List Nd) (cover : List Int) : Nat → Nat → Int → Int
  | 0, _, x => x
  | d + 1, i, x => sumC e cover d (i + 1) (if 0 ≤ cvr cover i then IntKind.wrap .i64 (x + tCost e i (cvr cover i)) else x)
/-- a tree with a cover -/
def coverA (e : List Nd) (cover : List Int) : Bool := treeOk e && isCoverP e cover
theorem areCovered_v (hl : e.length ≤ 1048576) : impl_areCovered.v e cover = some (coverA e cover) := by
  refine impl_areCovered.vs _ _ ?_
  rw [isTree_v e hl, bd_s]; unfold coverA
  by_cases c : treeOk e = true
  · obtain ⟨h1, h2, h3, _⟩ := treeOk_parts c
    rw [br_t c, isCover_v h1 h2 h3, bd_s, c, Bool.true_and]
  · rw [Bool.not_eq_true] at c; rw [br_f c, c]; rfl
def coverCostA (e : List Nd) (cover : List Int) : Int × Bool := if coverA e cover = true then (sumC e cover e.length 0 0, true) else (0, false)
theorem coverA_parts (h : coverA e cover = true) : (nodesOk e 0 = true ∧ 1 ≤ e.length ∧ e.length ≤ 24) ∧ isCoverP e cover = true := by
  unfold coverA at h
  rw [Bool.and_eq_true] at h
  obtain ⟨h1, h2, h3, _⟩ := treeOk_parts h.1
  exact ⟨⟨h1, h2, h3⟩, h.2⟩
/-- how the reference asks for a tree with a cover -/
theorem covered_f {α : Type} (hl : e.length ≤ 1048576) (no : α) (k : Option α) : (bd (spec_cvTree.v e) fun r0 => br (Bool.not r0) (some no) (bd (spec_cvIs.v e cover) fun r1 => br (Bool.not r1) (some no) k)) = if coverA e cover = true then k else some no := by
  rw [cvTree_v hl, bd_s]; unfold coverA
  by_cases c : treeOk e = true
  · obtain ⟨h1, h2, h3, _⟩ := treeOk_parts c
    rw [c, brn_t, cvIs_v h1 h2 h3, bd_s]
    cases isCoverP e cover <;> rfl
  · rw [Bool.not_eq_true] at c; rw [c]; rfl
end
end Go.Proofs.YtokdmaoconegkaaGreat.Am
end
section
/- The instruction of a tile: its constant, powers of two. -/
namespace Go.Proofs.YtokdmaoconegkaaGreat.Am
open Go
set_option linter.unusedVariables false
set_option linter.unusedSimpArgs false
theorem seLog_step {x k y r : Int} (h0 : 0 ≤ k) (hy : IntKind.wrap .i64 ((1 : Int) * ((2 : Int) ^ (Min.min (Int.toNat k) 64))) = y) {k' : Int} (hk : IntKind.wrap .i64 (k + 1) = k') (h : (if y < x then spec_seLog.v0 x k' else some k) = some r) : spec_seLog.v0 x k = some r := by
  refine spec_seLog.v0s _ _ ?_
  rw [br_t (by simpa using h0), hy, hk]
  by_cases c : y < x
  · rw [br_t (by simpa using c)]; rw [if_pos c] at h; exact h
  · rw [br_f (by simpa using c)]; rw [if_neg c] at h; exact h
theorem seLog_v {x : Int} (h : x = 2 ∨ x = 4 ∨ x = 8 ∨ x = 16 ∨ x = 32) : spec_seLog.v x = some (powP x) := by
  have s0 : ∀ {r}, (if 1 < x then spec_seLog.v0 x 1 else some 0) = some r → spec_seLog.v0 x 0 = some r := fun h => seLog_step (by decide) (by decide) (by decide) h
  have s1 : ∀ {r}, (if 2 < x then spec_seLog.v0 x 2 else some 1) = some r → spec_seLog.v0 x 1 = some r := fun h => seLog_step (by decide) (by decide) (by decide) h
  have s2 : ∀ {r}, (if 4 < x then spec_seLog.v0 x 3 else some 2) = some r → spec_seLog.v0 x 2 = some r := fun h => seLog_step (by decide) (by decide) (by decide) h
  have s3 : ∀ {r}, (if 8 < x then spec_seLog.v0 x 4 else some 3) = some r → spec_seLog.v0 x 3 = some r := fun h => seLog_step (by decide) (by decide) (by decide) h
  have s4 : ∀ {r}, (if 16 < x then spec_seLog.v0 x 5 else some 4) = some r → spec_seLog.v0 x 4 = some r := fun h => seLog_step (by decide) (by decide) (by decide) h
  have s5 : ∀ {r}, (if 32 < x then spec_seLog.v0 x 6 else some 5) = some r → spec_seLog.v0 x 5 = some r := fun h => seLog_step (by decide) (by decide) (by decide) h
  refine spec_seLog.vs _ (s0 ?_)
  rcases h with h | h | h | h | h <;> subst h
  · exact s1 rfl
  · exact s1 (s2 rfl)
  · exact s1 (s2 (s3 rfl))
  · exact s1 (s2 (s3 (s4 rfl)))
  · exact s1 (s2 (s3 (s4 (s5 rfl))))
section
variable {e : List Nd}
/-- the constant of a tile -/
def wordOf (e : List Nd) (q : List Int) : Int := match q with | [] => 0 | c :: _ => (ndAt e c).2.2.2
theorem seConst_v (hn : nodesOk e 0 = true) {i : Nat} (hi : i < e.length) {t : Int} {p q : List Int} (h : tileM e (i : Int) t = some (p, q)) : spec_seConst.v e (i : Int) t = some (wordOf e q) := by
  refine spec_seConst.vs _ _ _ ?_
  rw [cvTile_v hn hi, bd_s, h]
  have one : ∀ (c : Int) (r : List Int), 0 ≤ c → c < e.length → (ndAt e c).1 = tConst → spec_seConst.v0 e (c :: r) ((c :: r).length : Int) 0 = some (ndAt e c).2.2.2 := fun c r h0 h1 hc => by
    refine spec_seConst.v0s _ _ _ _ ?_
    rw [br_t (by simp), br_t (by simp), gt_some (a := c) rfl, br_t (by simpa using h0), gt_some (ndAt_get h0 h1), hc]
    rw [br_t (seq_t rfl), br_t (by simpa using h0), gt_some (ndAt_get h0 h1)]
  cases tile_inner hn hi h with
  | none h _ => subst h; exact spec_seConst.v0s _ _ _ _ rfl
  | one c S ops hq h0 hc1 hc hv ho ht => subst hq; exact one c [] h0 (by omega) hc
  | two d S hq h0 hd1 hd hb hc hv ht => rw [hq]; exact one _ [d] hb.1 (by omega) hc
theorem moved_v {b d : Int} (hb : 0 ≤ b ∧ b < e.length) (hd : 0 ≤ d ∧ d < e.length) (hc : (ndAt e b).1 = tConst) (hn : (ndAt e d).1 ≠ tConst) (p : List Int) (z : Int) : impl_tile_moved.v (p, [b, d], z) e = some d := by
  have m1 : ∀ x : Int, 0 ≤ x → x < e.length → impl_tile_moved_1.f x e = some (!(seq (ndAt e x).1 tConst)) := fun x h0 h1 => by
    rw [impl_tile_moved_1.eq, br_t (by simpa using h0), gt_some (ndAt_get h0 h1)]
  have e1 : slices_IndexFunc_int_moved.v0 [b, d] e 2 1 = some 1 := by
    refine slices_IndexFunc_int_moved.v0s _ _ _ _ ?_
    rw [br_t (by decide), br_t (by decide), gt_some (a := d) rfl, m1 d hd.1 hd.2, bd_s, br_t (by rw [seq_f hn]; rfl)]
  have e0 : slices_IndexFunc_int_moved.v [b, d] e = some 1 := by
    refine slices_IndexFunc_int_moved.vs _ _ ?_
    refine slices_IndexFunc_int_moved.v0s _ _ _ _ ?_
    rw [br_t (by simp), br_t (by decide), gt_some (a := b) rfl, m1 b hb.1 hb.2, bd_s, hc, br_f (by rw [seq_t rfl]; rfl)]
    exact e1
  refine impl_tile_moved.vs _ _ ?_
  simp only
  rw [e0, bd_s]; rfl
end
end Go.Proofs.YtokdmaoconegkaaGreat.Am
end
section
/- How many temporaries the nodes need. -/
namespace Go.Proofs.YtokdmaoconegkaaGreat.Am
open Go
set_option linter.unusedVariables false
set_option linter.unusedSimpArgs false
def bothN (a b : Int) : Int := maxI (maxI 1 a) (IntKind.wrap .i64 (b + if a = 0 then 0 else 1))
theorem l1Most_f (a b : Int) : spec_l1Most.f a b = some (maxI a b) := by
  rw [spec_l1Most.eq]
  unfold maxI
  by_cases c : a > b
  · rw [br_t (by simpa using c), if_neg (by omega)]
  · rw [br_f (by simpa using c)]
    by_cases d : b > a
    · rw [if_pos d]
    · rw [if_neg d]; congr 1; omega
theorem l1Least_f (a b : Int) : spec_l1Least.f a b = some (minI a b) := by
  rw [spec_l1Least.eq]
  unfold minI
  by_cases c : a < b
  · rw [br_t (by simpa using c), if_neg (by omega)]
  · rw [br_f (by simpa using c)]
    by_cases d : b < a
    · rw [if_pos d]
    · rw [if_neg d]; congr 1; omega
theorem maxI_assoc (a b c : Int) : maxI a (maxI b c) = maxI (maxI a b) c := by
  unfold maxI
  repeat' split
  all_goals omega
theorem maxI_ge (a b : Int) : a ≤ maxI a b := by
  unfold maxI
  split <;> omega
theorem bothN_pos (a b : Int) : 0 ≤ bothN a b := by
  unfold bothN
  have h1 := maxI_ge 1 a
  have h2 := maxI_ge (maxI 1 a) (IntKind.wrap .i64 (b + if a = 0 then 0 else 1))
  omega
theorem seBoth_f {a : Int} (b : Int) (h : 0 ≤ a) : spec_seBoth.f a b = some (bothN a b) := by
  rw [spec_seBoth.eq]
  unfold bothN
  by_cases c : a > 0
  · rw [br_t (by simpa using c), if_neg (by omega), l1Most_f, bd_s, l1Most_f, bd_s, maxI_assoc]
  · rw [br_f (by simpa using c), if_pos (by omega), l1Most_f, bd_s, l1Most_f, bd_s, maxI_assoc]
/-- the need of a node whose parts need so many -/
def needP (left : Bool) (t : Int) : List Int → Int
  | [] => if t = 0 then 0 else 1
  | [a] => maxI 1 a
  | a :: b :: _ => if left = true then bothN a b else bothN (maxI a b) (minI a b)
theorem needP_pos (left : Bool) (t : Int) (l : List Int) : 0 ≤ needP left t l := by
  unfold needP
  split
  · split <;> omega
  · have := maxI_ge 1 ‹Int›
    omega
  · split <;> exact bothN_pos _ _
theorem need_f0 (t : Int) : impl_need.f t [] = some (if t = 0 then 0 else 1) := by
  rw [impl_need.eq]
  by_cases c : t = 0
  · rw [br_t (by simpa using c), if_pos c]
  · rw [br_f (by simpa using c), if_neg c]; rfl
theorem need_f1 {t : Int} (h : t ≠ 0) (a : Int) : impl_need.f t [a] = some (maxI 1 a) := by
  rw [impl_need.eq, br_f (by simpa using h)]; rfl
theorem need_f2 {t : Int} (h : t ≠ 0) (a b : Int) : impl_need.f t [a, b] = some (bothN a b) := by
  rw [impl_need.eq, br_f (by simpa using h), br_f (by simp), br_f (by simp), gt_some (a := a) rfl, gt_some (a := b) rfl, gt_some (a := a) rfl, impl_bit.eq]
  unfold bothN
  by_cases c : a = 0
  · rw [br_f (by simp [c]), bd_s, if_pos c]
  · rw [br_t (by simp [c]), bd_s, if_neg c]
theorem sort_desc (a b : Int) : ∃ x y, slices_Sort_int.v [a, b] = some ((), [y, x]) ∧ bothN x y = bothN (maxI a b) (minI a b) := by
  rw [sort_two]
  unfold sort2 maxI minI
  by_cases c : b < a
  · exact ⟨a, b, by rw [if_pos c], by rw [if_neg (by omega), if_pos c]⟩
  · refine ⟨b, a, by rw [if_neg c], ?_⟩
    by_cases d : b > a
    · rw [if_pos d, if_neg (by omega)]
    · rw [if_neg d, if_neg (by omega), show a = b by omega]
section
variable {e : List Nd} {cover : List Int}
theorem cvNone_g (h24 : e.length ≤ 1000) : spec_cvNone.v e = some (List.replicate e.length (-1), ()) := by
  refine spec_cvNone.vs _ ?_
  have key : ∀ (d i : Nat), i + d = e.length → spec_cvNone.v0 (e.length : Int) (i : Int) (List.replicate i (-1)) = some (List.replicate e.length (-1), ()) := by
    intro d
    induction d with
    | zero =>
      intro i hi
      refine spec_cvNone.v0s _ _ _ ?_
      rw [br_f (by simp; omega), show i = e.length by omega]
    | succ d ih =>
      intro i hi
      refine spec_cvNone.v0s _ _ _ ?_
      rw [br_t (by simp; omega), br_t (by simp; omega), next_ok i e.length (by omega) (by omega), show List.replicate i (-1 : Int) ++ [-1] = List.replicate (i + 1) (-1) from (List.replicate_succ' ).symm]
      exact ih (i + 1) (by omega)
  exact key e.length 0 (by omega)
theorem cvNone_v (h24 : e.length ≤ 24) : spec_cvNone.v e = some (List.replicate e.length (-1), ()) := cvNone_g (by omega)
/-- the parts of a tile of a cover have tiles -/
theorem part_used (h : isCoverP e cover = true) (hn : nodesOk e 0 = true) (h1 : 1 ≤ e.length) {i : Nat} (hi : i < e.length) (h0 : 0 ≤ cvr cover i) {p q : List Int} (hm : tileM e i (cvr cover i) = some (p, q)) : ∀ x ∈ p, 0 ≤ cvr cover x.toNat := by
  intro x hx
  have hv := cover_vld h hi h0
  unfold isCoverP at h
  rw [Bool.and_eq_true, Bool.and_eq_true, List.all_eq_true, List.all_eq_true] at h
  have hin := h.2.2 i (List.mem_range.2 hi)
  rw [Bool.or_eq_true, decide_eq_true_iff] at hin
  have hin : i ∈ need e cover := by
    rcases hin with q | q
    · exact List.contains_iff_mem.1 q
    · omega
  have hk : x.toNat ∈ kids e cover i := by
    unfold kids prts
    rw [if_pos hv, hm]
    exact List.mem_map_of_mem hx
  have hs : inS e cover 0 x.toNat = true := by
    unfold inS
    rw [Bool.or_eq_true, List.any_eq_true]
    exact .inr ⟨i, hin, by simp [hk]⟩
  rw [inS_need hn h1 (by omega)] at hs
  exact (vld_parts (h.2.1 _ (List.contains_iff_mem.1 hs))).1.1
theorem tile0 {i : Nat} {p q : List Int} (hm : tileM e i 0 = some (p, q)) : p = [] := by
  unfold tileM tileN at hm
  rw [if_pos rfl] at hm
  split at hm
  · exact (Prod.mk.inj (Option.some.inj hm)).1.symm
  · cases hm
def atP (o : List Int) (p : List Int) : List Int := p.map (fun x => o.getD x.toNat 0)
def needT (e : List Nd) (cover : List Int) (left : Bool) : Nat → Nat → List Int → List Int
  | 0, _, o => o
  | d + 1, i, o => needT e cover left d (i + 1) (if 0 ≤ cvr cover i then o.set i (needP left (cvr cover i) (atP o (prts e i (cvr cover i)))) else o)
theorem needT_len {left : Bool} : ∀ (d i : Nat) (o : List Int), (needT e cover left d i o).length = o.length
  | 0, _, _ => rfl
  | d + 1, i, o => by
    unfold needT; rw [needT_len d]
    split <;> simp
/-- what is known at a node -/
structure Nds (e : List Nd) (cover : List Int) (i : Nat) (o : List Int) : Prop where
  len : o.length = e.length
  pos : ∀ j, j < i → 0 ≤ cvr cover j → 0 ≤ o.getD j 0
theorem Nds.skip {i : Nat} {o : List Int} (h : Nds e cover i o) (c : ¬ 0 ≤ cvr cover i) : Nds e cover (i + 1) o :=
  ⟨h.len, fun j hj h0 => by
    by_cases d : j = i
    · subst d; exact absurd h0 c
    · exact h.pos j (by omega) h0⟩
theorem Nds.set {i : Nat} {o : List Int} (h : Nds e cover i o) {y : Int} (hy : 0 ≤ y) (hi : i < e.length) : Nds e cover (i + 1) (o.set i y) :=
  ⟨by rw [List.length_set]; exact h.len, fun j hj h0 => by
    rw [List.getD_eq_getElem?_getD, List.getElem?_set]
    by_cases d : i = j
    · subst d; rw [if_pos rfl, if_pos (by have := h.len; omega)]; exact hy
    · rw [if_neg d, ← List.getD_eq_getElem?_getD]; exact h.pos j (by omega) h0⟩
theorem get_o {i : Nat} {o : List Int} (h : Nds e cover i o) {x : Int} (h0 : 0 ≤ x) (hx : x < e.length) : o[x.toNat]? = some (o.getD x.toNat 0) ∧ x < (o.length : Int) := by
  have := h.len
  have hb : x.toNat < o.length := by omega
  exact ⟨by rw [List.getD_eq_getElem?_getD, List.getElem?_eq_getElem hb]; rfl, by omega⟩
theorem two_of {p : List Int} (h : p.length ≤ 2) : p = [] ∨ (∃ a, p = [a]) ∨ ∃ a b, p = [a, b] := by
  match p, h with
  | [], _ => exact .inl rfl
  | [a], _ => exact .inr (.inl ⟨a, rfl⟩)
  | [a, b], _ => exact .inr (.inr ⟨a, b, rfl⟩)
theorem seNeeds_l (hn : nodesOk e 0 = true) (h1 : 1 ≤ e.length) (h24 : e.length ≤ 24) (h : isCoverP e cover = true) (left : Bool) : ∀ (d i : Nat) (o : List Int), i + d = e.length → Nds e cover i o → spec_seNeeds.v0 e left cover (e.length : Int) (i : Int) o = some (needT e cover left d i o) := by
  have hl := cover_len h
  intro d
  induction d with
  | zero =>
    intro i o hi ho
    refine spec_seNeeds.v0s _ _ _ _ _ _ ?_
    rw [br_f (by simp; omega)]; rfl
  | succ d ih =>
    intro i o hi ho
    have hlt : i < e.length := by omega
    refine spec_seNeeds.v0s _ _ _ _ _ _ ?_
    rw [br_t (by simpa using hlt), br_t (by simp), Int.toNat_natCast, gt_some (cvr_get hl hlt), next_ok i _ hlt (by omega)]
    unfold needT
    by_cases c : 0 ≤ cvr cover i
    · have hv := cover_vld h hlt c
      obtain ⟨_, p, q, hm⟩ := vld_parts hv
      have hp := tile_parts hn hlt hm
      have hu := part_used h hn h1 hlt c hm
      have hpr : prts e i (cvr cover i) = p := by unfold prts; rw [hm]
      have hi2 : i < o.length := by rw [ho.len]; exact hlt
      have hend : ∀ y, 0 ≤ y → (br (decide ((0 : Int) ≤ i)) (br (decide ((i : Int) < (o.length : Int))) (gt o i fun _ => spec_seNeeds.v0 e left cover (e.length : Int) ((i + 1 : Nat) : Int) (o.set i y)) none) none) = some (needT e cover left d (i + 1) (o.set i y)) := fun y hy => by
        rw [br_t (by simp), br_t (by simpa using hi2), gt_at _ hi2]
        exact ih _ _ (by omega) (ho.set hy hlt)
      rw [br_f (by simpa using c), if_pos c, cvTile_v hn hlt, bd_s, hm, hpr]
      have hpos := needP_pos left (cvr cover i) (atP o p)
      rcases two_of hp.1 with e0 | ⟨a, e1⟩ | ⟨a, b, e2⟩
      · subst e0
        rw [br_t (show (((told (some (([] : List Int), q))).1.length : Int) == 0) = true from rfl), l1Least_f, bd_s]
        rw [show needP left (cvr cover i) (atP o []) = minI (cvr cover i) 1 from by
          show (if cvr cover i = 0 then (0 : Int) else 1) = _
          unfold minI
          by_cases z : cvr cover i = 0
          · rw [if_pos z, if_neg (by omega), z]
          · rw [if_neg z]
            by_cases z1 : (1 : Int) < cvr cover i
            · rw [if_pos z1]
            · rw [if_neg z1]; omega] at hpos ⊢
        exact hend _ hpos
      · subst e1
        have ha := hp.2 a (by simp)
        obtain ⟨ga, la⟩ := get_o ho ha.1 (by omega)
        rw [br_f (by simp [told]), br_t (show (((told (some ([a], q))).1.length : Int) == 1) = true from rfl), gt_some (a := a) rfl, br_t (by simpa using ha.1), br_t (by simpa using la), gt_some ga, l1Most_f, bd_s]
        exact hend _ hpos
      · subst e2
        have ha := hp.2 a (by simp)
        have hb := hp.2 b (by simp)
        obtain ⟨ga, la⟩ := get_o ho ha.1 (by omega)
        obtain ⟨gb, lb⟩ := get_o ho hb.1 (by omega)
        have pa := ho.pos a.toNat (by omega) (hu a (by simp))
        have pb := ho.pos b.toNat (by omega) (hu b (by simp))
        have xa : ∀ {β : Type} (f : Int → Option β), gt (told (some ([a, b], q))).1 (Int.toNat 0) f = f a := fun f => rfl
        have xb : ∀ {β : Type} (f : Int → Option β), gt (told (some ([a, b], q))).1 (Int.toNat 1) f = f b := fun f => rfl
        have b1 : decide (0 ≤ a) = true := by simpa using ha.1
        have b2 : decide (a < (o.length : Int)) = true := by simpa using la
        have b3 : decide (0 ≤ b) = true := by simpa using hb.1
        have b4 : decide (b < (o.length : Int)) = true := by simpa using lb
        rw [br_f (by simp [told]), br_f (by simp [told])]
        cases left with
        | true =>
          rw [br_t rfl, xa, br_t b1, br_t b2, gt_some ga, xb, br_t b3, br_t b4, gt_some gb, seBoth_f _ pa, bd_s]
          exact hend _ hpos
        | false =>
          rw [br_f rfl, xa, br_t b1, br_t b2, gt_some ga, xb, br_t b3, br_t b4, gt_some gb, l1Most_f, bd_s, xa, br_t b1, br_t b2, gt_some ga, xb, br_t b3, br_t b4, gt_some gb, l1Least_f, bd_s, seBoth_f _ (by have := maxI_ge (o.getD a.toNat 0) (o.getD b.toNat 0); omega), bd_s]
          exact hend _ hpos
    · rw [br_t (by simpa using c), if_neg c]; exact ih _ _ (by omega) (ho.skip c)
/-! ### the program -/
theorem nd_step {g : Bool} {i t n i2 : Int} {ps : List Int} {k : Nat} {o acc : List Int} {x y : Int} {R} (hk : k < ps.length) (hp : ps.length ≤ 2) (hx : ps[k]? = some x) (h0 : 0 ≤ x) (hl : x < (o.length : Int)) (hy : o[x.toNat]? = some y) (ha : acc.length ≤ 10)
    (h : impl_needs.v1 e g i t cover n i2 ps (ps.length : Int) ((k + 1 : Nat) : Int) o (acc ++ [y]) = some R) : impl_needs.v1 e g i t cover n i2 ps (ps.length : Int) (k : Int) o acc = some R := by
  refine impl_needs.v1s _ _ _ _ _ _ _ _ _ _ _ _ ?_
  rw [br_t (by simpa using hk), br_t (by simp), Int.toNat_natCast, gt_some hx, br_t (by simpa using h0), br_t (by simpa using hl), gt_some hy, br_t (by simp; omega), next_ok k _ hk (by omega)]
  exact h
theorem nd_end {g : Bool} {i : Nat} {t n : Int} {ps : List Int} {o l : List Int} {y : Int} {R} (hi : i < o.length) (h24 : o.length ≤ 24)
    (hv : (if g = true then (bd (slices_Sort_int.v l) fun r5 => bd (slices_Reverse_int.v r5.2) fun r6 => impl_need.f t r6.2) else impl_need.f t l) = some y)
    (h : impl_needs.v0 e g cover n ((i + 1 : Nat) : Int) (o.set i y) = some R) : impl_needs.v1 e g (i : Int) t cover n (i : Int) ps (ps.length : Int) (ps.length : Int) o l = some R := by
  refine impl_needs.v1s _ _ _ _ _ _ _ _ _ _ _ _ ?_
  rw [br_f (by simp)]
  have hw : IntKind.wrap .i64 ((i : Int) + 1) = ((i + 1 : Nat) : Int) := next_ok i _ hi (by omega)
  have hend : (br (decide ((0 : Int) ≤ i)) (br (decide ((i : Int) < (o.length : Int))) (gt o (Int.toNat i) fun _ => impl_needs.v0 e g cover n (IntKind.wrap .i64 ((i : Int) + 1)) (o.set (Int.toNat i) y)) none) none) = some R := by
    rw [br_t (by simp), br_t (by simpa using hi), Int.toNat_natCast, gt_at _ hi, hw]; exact h
  cases g with
  | true =>
    rw [if_pos rfl] at hv
    rw [br_t rfl]
    cases h1 : slices_Sort_int.v l with
    | none => rw [h1] at hv; cases hv
    | some r5 =>
      rw [h1, bd_s] at hv
      rw [bd_s]
      cases h2 : slices_Reverse_int.v r5.2 with
      | none => rw [h2] at hv; cases hv
      | some r6 =>
        rw [h2, bd_s] at hv
        rw [bd_s, hv, bd_s]
        exact hend
  | false =>
    rw [if_neg (by simp)] at hv
    rw [br_f rfl, hv, bd_s]
    exact hend
theorem needs_l (hn : nodesOk e 0 = true) (h1 : 1 ≤ e.length) (h24 : e.length ≤ 24) (h : isCoverP e cover = true) (left : Bool) : ∀ (d i : Nat) (o : List Int), i + d = e.length → Nds e cover i o → impl_needs.v0 e (!left) cover (e.length : Int) (i : Int) o = some (needT e cover left d i o, ()) := by
  have hl := cover_len h
  intro d
  induction d with
  | zero =>
    intro i o hi ho
    refine impl_needs.v0s _ _ _ _ _ _ ?_
    rw [br_f (by simp; omega)]; rfl
  | succ d ih =>
    intro i o hi ho
    have hlt : i < e.length := by omega
    refine impl_needs.v0s _ _ _ _ _ _ ?_
    rw [br_t (by simpa using hlt), br_t (by simp), Int.toNat_natCast, gt_some (cvr_get hl hlt), next_ok i _ hlt (by omega)]
    unfold needT
    by_cases c : 0 ≤ cvr cover i
    · have hv := cover_vld h hlt c
      obtain ⟨⟨_, h12⟩, p, q, hm⟩ := vld_parts hv
      have hp := tile_parts hn hlt hm
      have hpr : prts e i (cvr cover i) = p := by unfold prts; rw [hm]
      have hi2 : i < o.length := by rw [ho.len]; exact hlt
      have ho24 : o.length ≤ 24 := by rw [ho.len]; exact h24
      have hpos := needP_pos left (cvr cover i) (atP o p)
      rw [br_f (by simpa using c), if_pos c, tileAt_v hn hlt c h12, bd_s, tileI_eq hn hlt c h12 hm, hpr]
      have hnext := ih _ _ (by omega) (ho.set hpos hlt)
      rcases two_of hp.1 with e0 | ⟨a, e1⟩ | ⟨a, b, e2⟩
      · subst e0
        refine nd_end (ps := []) hi2 ho24 ?_ hnext
        have : impl_need.f (cvr cover i) [] = some (needP left (cvr cover i) (atP o [])) := need_f0 _
        split
        · rw [sort_nil, bd_s, rev_nil, bd_s]; exact this
        · exact this
      · have ht : cvr cover i ≠ 0 := fun q => by rw [q] at hm; rw [tile0 hm] at e1; cases e1
        subst e1
        have ha := hp.2 a (by simp)
        obtain ⟨ga, la⟩ := get_o ho ha.1 (by omega)
        refine nd_step (ps := [a]) (k := 0) (by simp) (by simp) rfl ha.1 la ga (by simp) ?_
        refine nd_end (ps := [a]) hi2 ho24 ?_ hnext
        have : impl_need.f (cvr cover i) [o.getD a.toNat 0] = some (needP left (cvr cover i) (atP o [a])) := need_f1 ht _
        split
        · rw [show ([] : List Int) ++ [o.getD a.toNat 0] = [o.getD a.toNat 0] from rfl, sort_one, bd_s, rev_one, bd_s]; exact this
        · exact this
      · have ht : cvr cover i ≠ 0 := fun q => by rw [q] at hm; rw [tile0 hm] at e2; cases e2
        subst e2
        have ha := hp.2 a (by simp)
        have hb := hp.2 b (by simp)
        obtain ⟨ga, la⟩ := get_o ho ha.1 (by omega)
        obtain ⟨gb, lb⟩ := get_o ho hb.1 (by omega)
        refine nd_step (ps := [a, b]) (k := 0) (by simp) (by simp) rfl ha.1 la ga (by simp) ?_
        refine nd_step (ps := [a, b]) (k := 1) (by simp) (by simp) rfl hb.1 lb gb (by simp) ?_
        refine nd_end (ps := [a, b]) hi2 ho24 ?_ hnext
        rw [show ([] : List Int) ++ [o.getD a.toNat 0] ++ [o.getD b.toNat 0] = [o.getD a.toNat 0, o.getD b.toNat 0] from rfl]
        cases left with
        | true => rw [if_neg (by simp)]; exact need_f2 ht _ _
        | false =>
          rw [if_pos (by simp)]
          obtain ⟨x, y, hs, hxy⟩ := sort_desc (o.getD a.toNat 0) (o.getD b.toNat 0)
          rw [hs, bd_s, rev_two, bd_s, need_f2 ht, hxy]
          rfl
    · rw [br_t (by simpa using c), if_neg c]; exact ih _ _ (by omega) (ho.skip c)
/-- the needs of the nodes -/
def needL (e : List Nd) (cover : List Int) (left : Bool) : List Int := needT e cover left e.length 0 (List.replicate e.length (-1))
theorem needL_len {left : Bool} : (needL e cover left).length = e.length := by unfold needL; rw [needT_len]; simp
theorem seNeeds_v (hn : nodesOk e 0 = true) (h1 : 1 ≤ e.length) (h24 : e.length ≤ 24) (h : isCoverP e cover = true) (left : Bool) : spec_seNeeds.v e cover left = some (needL e cover left) := by
  refine spec_seNeeds.vs _ _ _ ?_
  rw [cvNone_v h24, bd_s, cover_len h]
  exact seNeeds_l hn h1 h24 h left e.length 0 _ (by omega) ⟨by simp, fun j hj => by omega⟩
theorem needs_v (hn : nodesOk e 0 = true) (h1 : 1 ≤ e.length) (h24 : e.length ≤ 24) (h : isCoverP e cover = true) (left : Bool) : impl_needs.v e cover (!left) = some (needL e cover left, ()) := by
  refine impl_needs.vs _ _ _ ?_
  rw [empty_v h1 h24, bd_s, cover_len h]
  exact needs_l hn h1 h24 h left e.length 0 _ (by omega) ⟨by simp, fun j hj => by omega⟩
theorem seGiven_v (hl : e.length ≤ 1048576) : spec_seGiven.v e cover = some (coverA e cover) := by
  refine spec_seGiven.vs _ _ ?_
  rw [cvTree_v hl, bd_s]; unfold coverA
  by_cases c : treeOk e = true
  · obtain ⟨h1, h2, h3, _⟩ := treeOk_parts c
    rw [br_t c, cvIs_v h1 h2 h3, bd_s, c, Bool.true_and]
  · rw [Bool.not_eq_true] at c; rw [br_f c, c]; rfl
def needsOfA (e : List Nd) (cover : List Int) : List Int × Bool := if coverA e cover = true then (needL e cover false, true) else ([], false)
def needOfA (e : List Nd) (cover : List Int) (left : Bool) : Int × Bool := if coverA e cover = true then ((needL e cover left).getD (e.length - 1) 0, true) else (0, false)
theorem needsOfA_len (hl : e.length ≤ 1048576) : (needsOfA e cover).1.length ≤ 1048576 := by
  unfold needsOfA
  split
  · rw [needL_len]; exact hl
  · simp
theorem needL_last {left : Bool} (h1 : 1 ≤ e.length) : (needL e cover left)[e.length - 1]? = some ((needL e cover left).getD (e.length - 1) 0) := by
  rw [List.getD_eq_getElem?_getD, List.getElem?_eq_getElem (by rw [needL_len]; omega)]; rfl
theorem specNeedsOf_v (hl : e.length ≤ 1048576) : spec_NeedsOf.v e cover = some (needsOfA e cover) := by
  refine spec_NeedsOf.vs _ _ ?_
  rw [seGiven_v hl, bd_s]; unfold needsOfA
  by_cases c : coverA e cover = true
  · obtain ⟨⟨h1, h2, h3⟩, h4⟩ := coverA_parts c
    rw [if_pos c, c, brn_t, seNeeds_v h1 h2 h3 h4, bd_s]
  · rw [if_neg c]; rw [Bool.not_eq_true] at c; rw [c]; rfl
theorem implNeedsOf_v (hl : e.length ≤ 1048576) : impl_NeedsOf.v e cover = some (needsOfA e cover, ()) := by
  refine impl_NeedsOf.vs _ _ ?_
  rw [areCovered_v hl, bd_s]; unfold needsOfA
  by_cases c : coverA e cover = true
  · obtain ⟨⟨h1, h2, h3⟩, h4⟩ := coverA_parts c
    rw [if_pos c, c, brn_t, show true = (!false) from rfl, needs_v h1 h2 h3 h4, bd_s]
  · rw [if_neg c]; rw [Bool.not_eq_true] at c; rw [c]; rfl
end
end Go.Proofs.YtokdmaoconegkaaGreat.Am
end
section
/- The instruction of a tile: both sides. -/
namespace Go.Proofs.YtokdmaoconegkaaGreat.Am
open Go
set_option linter.unusedVariables false
set_option linter.unusedSimpArgs false
theorem neg_v {x : Int} (h0 : 0 ≤ x) (h1 : x ≤ 63) : spec_exApply.f (⟨#[110, 101, 103]⟩ : ByteArray) x 0 = some (Int.tmod (IntKind.wrap .i64 (64 - x)) 64) := by
  rw [spec_exApply.eq, br_f (seq_f (by decide)), br_t (seq_t rfl)]
  obtain ⟨n, rfl⟩ := Int.eq_ofNat_of_zero_le h0
  have key : ∀ n : Fin 64, (IntKind.wrap .i64 (((BitVec.toNat ((BitVec.ofInt 64 (IntKind.wrap .i64 ((0 : Int) - ((n.val : Nat) : Int)))) &&& (BitVec.ofInt 64 (63 : Int)))) : Nat) : Int)) = Int.tmod (IntKind.wrap .i64 (64 - ((n.val : Nat) : Int))) 64 := by decide
  exact congrArg some (key ⟨n, by omega⟩)
abbrev In5 := ByteArray × (Int × (Int × (Int × Int)))
abbrev tSub : ByteArray := ⟨#[115, 117, 98]⟩
/-- the instruction of a tile -/
def instrP (n : Nd) (t dst A B w : Int) : In5 :=
  if t = 1 then ((⟨#[115, 101, 116]⟩ : ByteArray), dst, A, B, n.2.2.2)
  else if t = 4 ∨ t = 5 ∨ t = 6 then (if n.1 = tSub then ((⟨#[97, 100, 100, 105]⟩ : ByteArray), dst, A, B, Int.tmod (IntKind.wrap .i64 (64 - w)) 64) else (n.1 ++ (⟨#[105]⟩ : ByteArray), dst, A, B, w))
  else if t = 7 ∨ t = 8 then ((⟨#[115, 104, 108, 105]⟩ : ByteArray), dst, A, B, powP w)
  else if t = 9 ∨ t = 10 then ((⟨#[108, 101, 97]⟩ : ByteArray), dst, A, B, w)
  else if t = 11 ∨ t = 12 then ((⟨#[108, 101, 97]⟩ : ByteArray), dst, A, B, powP w)
  else (n.1, dst, A, B, 0)
section
variable {e : List Nd}
/-- the end of the program's rounds over inner nodes -/
theorem instr_end (hn : nodesOk e 0 = true) {i : Nat} (hi : i < e.length) {t : Int} {p q : List Int} (h : tileM e (i : Int) t = some (p, q)) (h0 : 0 ≤ t) (h12 : t ≤ 12) (hs : (ndAt e i).1.size ≤ 1000) (x6 : ByteArray) (x7 x8 x9 x10 z dst A B w : Int) :
    impl_instr.v0 e t w q (q.length : Int) (q.length : Int) x6 x7 x8 x9 x10 (ndAt e i).1 (ndAt e i).2.1 (ndAt e i).2.2.1 (ndAt e i).2.2.2 p q z (ndAt e i).1 dst A B 0 = some (instrP (ndAt e i) t dst A B w) := by
  refine impl_instr.v0s _ _ _ _ _ _ _ _ _ _ _ _ _ _ _ _ _ _ _ _ _ _ _ ?_
  rw [br_f (by simp)]
  have hb : Nat.ble ((ByteArray.size (ndAt e i).1) + (ByteArray.size (⟨#[105]⟩ : ByteArray))) 9223372036854775807 = true := by
    have : ByteArray.size (⟨#[105]⟩ : ByteArray) = 1 := rfl
    rw [this, Nat.ble_eq]; omega
  have sb : ∀ {α : Type} (a b : α), br (seq (ndAt e i).1 tSub) (some a) (some b) = some (if (ndAt e i).1 = tSub then a else b) := fun a b => by
    by_cases c : (ndAt e i).1 = tSub
    · rw [br_t (seq_t c), if_pos c]
    · rw [br_f (seq_f c), if_neg c]
  have ns : t = 6 → ¬ (ndAt e i).1 = tSub := fun t6 c => by
    cases tile_inner hn hi h with
    | none _ ht => omega
    | one c' S ops hq h0 hc1 hc hv ho ht =>
      rcases ht with q | q | q | q | q
      · omega
      · omega
      · rw [q.2, c] at ho; exact absurd ho (by decide)
      · omega
      · omega
    | two d S hq h0 hd1 hd hb hc hv ht => omega
  have hcase : t = 0 ∨ t = 1 ∨ t = 2 ∨ t = 3 ∨ t = 4 ∨ t = 5 ∨ t = 6 ∨ t = 7 ∨ t = 8 ∨ t = 9 ∨ t = 10 ∨ t = 11 ∨ t = 12 := by omega
  rcases hcase with c | c | c | c | c | c | c | c | c | c | c | c | c <;> subst c
  · rfl
  · rfl
  · rfl
  · rfl
  · rw [br_f (by decide), br_t (by decide), br_t hb, sb]; rfl
  · rw [br_f (by decide), br_f (by decide), br_t (by decide), br_t hb, sb]; rfl
  · rw [br_f (by decide), br_f (by decide), br_f (by decide), br_t (by decide), br_t hb]; unfold instrP; rw [if_neg (by decide), if_pos (by decide), if_neg (ns rfl)]
  · rw [br_f (by decide), br_f (by decide), br_f (by decide), br_f (by decide), br_t (by decide), power_v, bd_s]; rfl
  · rw [br_f (by decide), br_f (by decide), br_f (by decide), br_f (by decide), br_f (by decide), br_t (by decide), power_v, bd_s]; rfl
  · rfl
  · rfl
  · rw [br_f (by decide), br_f (by decide), br_f (by decide), br_f (by decide), br_f (by decide), br_f (by decide), br_f (by decide), br_f (by decide), br_t (by decide), power_v, bd_s]; rfl
  · rw [br_f (by decide), br_f (by decide), br_f (by decide), br_f (by decide), br_f (by decide), br_f (by decide), br_f (by decide), br_f (by decide), br_t (by decide), power_v, bd_s]; rfl
theorem instr_rounds (hn : nodesOk e 0 = true) {i : Nat} (hi : i < e.length) {t : Int} {p q : List Int} (h : tileM e (i : Int) t = some (p, q)) (h0 : 0 ≤ t) (h12 : t ≤ 12) (hs : (ndAt e i).1.size ≤ 1000) (x6 : ByteArray) (x7 x8 x9 x10 z dst A B : Int) :
    impl_instr.v0 e t 0 q (q.length : Int) 0 x6 x7 x8 x9 x10 (ndAt e i).1 (ndAt e i).2.1 (ndAt e i).2.2.1 (ndAt e i).2.2.2 p q z (ndAt e i).1 dst A B 0 = some (instrP (ndAt e i) t dst A B (wordOf e q)) := by
  have fin := instr_end hn hi h h0 h12 hs x6 x7 x8 x9 x10 z dst A B
  have w0 : IntKind.wrap .i64 (0 + 1) = 1 := by decide
  have w1 : IntKind.wrap .i64 (1 + 1) = 2 := by decide
  cases tile_inner hn hi h with
  | none hq _ => subst hq; exact fin 0
  | one c S ops hq hc0 hc1 hc hv ho ht =>
    subst hq
    refine impl_instr.v0s _ _ _ _ _ _ _ _ _ _ _ _ _ _ _ _ _ _ _ _ _ _ _ ?_
    rw [br_t (by simp), br_t (by decide), gt_some (a := c) rfl, br_t (by simpa using hc0), gt_some (ndAt_get hc0 (by omega)), br_t (by rw [hc]; exact seq_t rfl), br_t (by simp; omega), br_t (by simpa using hc0), gt_some (ndAt_get hc0 (by omega)), w0]
    exact fin _
  | two d S hq hd0 hd1 hd hb hc hv ht =>
    have hw : wordOf e q = (ndAt e (ndAt e d).2.2.1).2.2.2 := by rw [hq]; rfl
    have mv : impl_tile_moved.v (p, (q, z)) e = some d := by
      rw [hq]
      exact moved_v ⟨hb.1, by omega⟩ ⟨hd0, by omega⟩ hc hd p z
    have hql : (q.length : Int) = 2 := by rw [hq]; rfl
    have q0 : q[Int.toNat 0]? = some (ndAt e d).2.2.1 := by rw [hq]; rfl
    have q1 : q[Int.toNat 1]? = some d := by rw [hq]; rfl
    have last := fin (ndAt e (ndAt e d).2.2.1).2.2.2
    rw [hql] at last
    rw [hw, hql]
    refine impl_instr.v0s _ _ _ _ _ _ _ _ _ _ _ _ _ _ _ _ _ _ _ _ _ _ _ ?_
    rw [br_t (by decide), br_t (by decide), gt_some q0, br_t (by simpa using hb.1), gt_some (ndAt_get hb.1 (by omega)), br_t (by rw [hc]; exact seq_t rfl), br_f (by simp; omega), mv, bd_s, br_t (by simpa using hd0), gt_some (ndAt_get hd0 (by omega)), br_t (by simp), br_t (by simpa using hb.1), gt_some (ndAt_get hb.1 (by omega)), w0]
    refine impl_instr.v0s _ _ _ _ _ _ _ _ _ _ _ _ _ _ _ _ _ _ _ _ _ _ _ ?_
    rw [br_t (by decide), br_t (by decide), gt_some q1, br_t (by simpa using hd0), gt_some (ndAt_get hd0 (by omega)), br_f (seq_f hd), w1]
    exact last
theorem impl_instr_v (hn : nodesOk e 0 = true) {i : Nat} (hi : i < e.length) {t : Int} {p q : List Int} (h : tileM e (i : Int) t = some (p, q)) (h0 : 0 ≤ t) (h12 : t ≤ 12) (hs : (ndAt e i).1.size ≤ 1000) (dst : Int) {regs : List Int} (hr : regs.length ≤ 2) :
    impl_instr.v e (i : Int) t dst regs = some (instrP (ndAt e i) t dst (regs.getD 0 0) (regs.getD 1 0) (wordOf e q)) := by
  refine impl_instr.vs _ _ _ _ _ ?_
  rw [br_t (by simp), gt_some (ndAt_get (by omega) (by omega)), tileAt_v hn hi h0 h12, bd_s, tileI_eq hn hi h0 h12 h]
  rcases two_of hr with e0 | ⟨a, e1⟩ | ⟨a, b, e2⟩
  · subst e0
    rw [br_f (by decide), br_f (by decide)]
    exact instr_rounds hn hi h h0 h12 hs _ _ _ _ _ _ _ _ _
  · subst e1
    rw [br_t (by simp), gt_some (a := a) rfl, br_f (by simp)]
    exact instr_rounds hn hi h h0 h12 hs _ _ _ _ _ _ _ _ _
  · subst e2
    rw [br_t (by simp), gt_some (a := a) rfl, br_t (by simp), gt_some (a := b) rfl]
    exact instr_rounds hn hi h h0 h12 hs _ _ _ _ _ _ _ _ _
end
end Go.Proofs.YtokdmaoconegkaaGreat.Am
end
section
/- The instruction of a tile: the reference. -/
namespace Go.Proofs.YtokdmaoconegkaaGreat.Am
open Go
set_option linter.unusedVariables false
set_option linter.unusedSimpArgs false
section
variable {e : List Nd}
theorem seInstr_v (hn : nodesOk e 0 = true) {i : Nat} (hi : i < e.length) {t : Int} {p q : List Int} (h : tileM e (i : Int) t = some (p, q)) (h0 : 0 ≤ t) (h12 : t ≤ 12) (hs : (ndAt e i).1.size ≤ 1000) (dst : Int) {regs : List Int} (hr : regs.length ≤ 2) :
    spec_seInstr.v e (i : Int) t dst regs = some (instrP (ndAt e i) t dst (regs.getD 0 0) (regs.getD 1 0) (wordOf e q)) := by
  refine spec_seInstr.vs _ _ _ _ _ ?_
  have hg := ndAt_get (e := e) (p := (i : Int)) (by omega) (by omega)
  have hb : Nat.ble ((ByteArray.size (ndAt e i).1) + (ByteArray.size (⟨#[105]⟩ : ByteArray))) 9223372036854775807 = true := by
    have : ByteArray.size (⟨#[105]⟩ : ByteArray) = 1 := rfl
    rw [this, Nat.ble_eq]; omega
  have cv := seConst_v hn hi h
  have facts : (t = 4 → 0 ≤ wordOf e q ∧ wordOf e q ≤ 63) ∧ (t = 5 ∨ t = 6 → ¬ (ndAt e i).1 = tSub) ∧ (t = 7 ∨ t = 8 ∨ t = 11 ∨ t = 12 → wordOf e q = 2 ∨ wordOf e q = 4 ∨ wordOf e q = 8 ∨ wordOf e q = 16 ∨ wordOf e q = 32) := by
    cases tile_inner hn hi h with
    | none hq ht => exact ⟨fun _ => by omega, fun _ => by omega, fun _ => by omega⟩
    | one c S ops hq hc0 hc1 hc hv ho ht =>
      have hw : wordOf e q = (ndAt e c).2.2.2 := by rw [hq]; rfl
      rw [hw]
      rcases ht with ⟨r, ro, rs⟩ | ⟨r, ro, rs⟩ | ⟨r, ro⟩ | ⟨r, rs⟩ | ⟨r, rs⟩
      · rw [rs, mem_words] at hv; exact ⟨fun _ => hv, fun _ => by omega, fun _ => by omega⟩
      · exact ⟨fun _ => by omega, fun _ k => (by rw [ro, k] at ho; exact absurd ho (by decide)), fun _ => by omega⟩
      · exact ⟨fun _ => by omega, fun _ k => (by rw [ro, k] at ho; exact absurd ho (by decide)), fun _ => by omega⟩
      · exact ⟨fun _ => by omega, fun _ => by omega, fun _ => by rw [rs] at hv; simpa using hv⟩
      · exact ⟨fun _ => by omega, fun _ => by omega, fun _ => by rw [rs] at hv; simpa using hv⟩
    | two d S hq hd0 hd1 hd hb hc hv ht =>
      have hw : wordOf e q = (ndAt e (ndAt e d).2.2.1).2.2.2 := by rw [hq]; rfl
      rw [hw]
      refine ⟨fun _ => by omega, fun _ => by omega, fun hh => ?_⟩
      rcases ht with r | r | ⟨r, rs⟩ | ⟨r, rs⟩
      · omega
      · omega
      · rw [rs] at hv; simp at hv; omega
      · rw [rs] at hv; simp at hv; omega
  obtain ⟨f4, f5, f7⟩ := facts
  have hcase : t = 0 ∨ t = 1 ∨ t = 2 ∨ t = 3 ∨ t = 4 ∨ t = 5 ∨ t = 6 ∨ t = 7 ∨ t = 8 ∨ t = 9 ∨ t = 10 ∨ t = 11 ∨ t = 12 := by omega
  rw [br_t (by simp), gt_some hg]
  rcases two_of hr with e0 | ⟨a, e1⟩ | ⟨a, b, e2⟩
  · subst e0
    rw [br_f (by decide), br_f (by decide)]
    rcases hcase with c | c | c | c | c | c | c | c | c | c | c | c | c <;> subst c
    · rfl
    · rw [br_t (by decide), br_t (by simp), gt_some hg]; rfl
    · rfl
    · rfl
    · rw [br_f (by decide), br_t (by decide)]
      by_cases c : (ndAt e (i : Int)).1 = tSub
      · rw [br_t (seq_t c), cv, bd_s, neg_v (f4 rfl).1 (f4 rfl).2, bd_s]; unfold instrP; rw [if_neg (by decide), if_pos (by decide), if_pos c]; rfl
      · rw [br_f (seq_f c), br_t (by decide), br_t hb, cv, bd_s]; unfold instrP; rw [if_neg (by decide), if_pos (by decide), if_neg c]; rfl
    · rw [br_f (by decide), br_f (by decide), br_f (by decide), br_t (by decide), br_t hb, cv, bd_s]; unfold instrP; rw [if_neg (by decide), if_pos (by decide), if_neg (f5 (by decide))]; rfl
    · rw [br_f (by decide), br_f (by decide), br_f (by decide), br_f (by decide), br_t (by decide), br_t hb, cv, bd_s]; unfold instrP; rw [if_neg (by decide), if_pos (by decide), if_neg (f5 (by decide))]; rfl
    · rw [br_f (by decide), br_f (by decide), br_f (by decide), br_f (by decide), br_f (by decide), br_t (by decide), cv, bd_s, seLog_v (f7 (by decide)), bd_s]; rfl
    · rw [br_f (by decide), br_f (by decide), br_f (by decide), br_f (by decide), br_f (by decide), br_f (by decide), br_t (by decide), cv, bd_s, seLog_v (f7 (by decide)), bd_s]; rfl
    · rw [br_f (by decide), br_f (by decide), br_f (by decide), br_f (by decide), br_f (by decide), br_f (by decide), br_f (by decide), br_t (by decide), cv, bd_s]; rfl
    · rw [br_f (by decide), br_f (by decide), br_f (by decide), br_f (by decide), br_f (by decide), br_f (by decide), br_f (by decide), br_f (by decide), br_t (by decide), cv, bd_s]; rfl
    · rw [br_f (by decide), br_f (by decide), br_f (by decide), br_f (by decide), br_f (by decide), br_f (by decide), br_f (by decide), br_f (by decide), br_f (by decide), br_t (by decide), cv, bd_s, seLog_v (f7 (by decide)), bd_s]; rfl
    · rw [br_f (by decide), br_f (by decide), br_f (by decide), br_f (by decide), br_f (by decide), br_f (by decide), br_f (by decide), br_f (by decide), br_f (by decide), br_f (by decide), br_t (by decide), cv, bd_s, seLog_v (f7 (by decide)), bd_s]; rfl
  · subst e1
    rw [br_t (by simp), gt_some (a := a) rfl, br_f (by simp)]
    rcases hcase with c | c | c | c | c | c | c | c | c | c | c | c | c <;> subst c
    · rfl
    · rw [br_t (by decide), br_t (by simp), gt_some hg]; rfl
    · rfl
    · rfl
    · rw [br_f (by decide), br_t (by decide)]
      by_cases c : (ndAt e (i : Int)).1 = tSub
      · rw [br_t (seq_t c), cv, bd_s, neg_v (f4 rfl).1 (f4 rfl).2, bd_s]; unfold instrP; rw [if_neg (by decide), if_pos (by decide), if_pos c]; rfl
      · rw [br_f (seq_f c), br_t (by decide), br_t hb, cv, bd_s]; unfold instrP; rw [if_neg (by decide), if_pos (by decide), if_neg c]; rfl
    · rw [br_f (by decide), br_f (by decide), br_f (by decide), br_t (by decide), br_t hb, cv, bd_s]; unfold instrP; rw [if_neg (by decide), if_pos (by decide), if_neg (f5 (by decide))]; rfl
    · rw [br_f (by decide), br_f (by decide), br_f (by decide), br_f (by decide), br_t (by decide), br_t hb, cv, bd_s]; unfold instrP; rw [if_neg (by decide), if_pos (by decide), if_neg (f5 (by decide))]; rfl
    · rw [br_f (by decide), br_f (by decide), br_f (by decide), br_f (by decide), br_f (by decide), br_t (by decide), cv, bd_s, seLog_v (f7 (by decide)), bd_s]; rfl
    · rw [br_f (by decide), br_f (by decide), br_f (by decide), br_f (by decide), br_f (by decide), br_f (by decide), br_t (by decide), cv, bd_s, seLog_v (f7 (by decide)), bd_s]; rfl
    · rw [br_f (by decide), br_f (by decide), br_f (by decide), br_f (by decide), br_f (by decide), br_f (by decide), br_f (by decide), br_t (by decide), cv, bd_s]; rfl
    · rw [br_f (by decide), br_f (by decide), br_f (by decide), br_f (by decide), br_f (by decide), br_f (by decide), br_f (by decide), br_f (by decide), br_t (by decide), cv, bd_s]; rfl
    · rw [br_f (by decide), br_f (by decide), br_f (by decide), br_f (by decide), br_f (by decide), br_f (by decide), br_f (by decide), br_f (by decide), br_f (by decide), br_t (by decide), cv, bd_s, seLog_v (f7 (by decide)), bd_s]; rfl
    · rw [br_f (by decide), br_f (by decide), br_f (by decide), br_f (by decide), br_f (by decide), br_f (by decide), br_f (by decide), br_f (by decide), br_f (by decide), br_f (by decide), br_t (by decide), cv, bd_s, seLog_v (f7 (by decide)), bd_s]; rfl
  · subst e2
    rw [br_t (by simp), gt_some (a := a) rfl, br_t (by simp), gt_some (a := b) rfl]
    rcases hcase with c | c | c | c | c | c | c | c | c | c | c | c | c <;> subst c
    · rfl
    · rw [br_t (by decide), br_t (by simp), gt_some hg]; rfl
    · rfl
    · rfl
    · rw [br_f (by decide), br_t (by decide)]
      by_cases c : (ndAt e (i : Int)).1 = tSub
      · rw [br_t (seq_t c), cv, bd_s, neg_v (f4 rfl).1 (f4 rfl).2, bd_s]; unfold instrP; rw [if_neg (by decide), if_pos (by decide), if_pos c]; rfl
      · rw [br_f (seq_f c), br_t (by decide), br_t hb, cv, bd_s]; unfold instrP; rw [if_neg (by decide), if_pos (by decide), if_neg c]; rfl
    · rw [br_f (by decide), br_f (by decide), br_f (by decide), br_t (by decide), br_t hb, cv, bd_s]; unfold instrP; rw [if_neg (by decide), if_pos (by decide), if_neg (f5 (by decide))]; rfl
    · rw [br_f (by decide), br_f (by decide), br_f (by decide), br_f (by decide), br_t (by decide), br_t hb, cv, bd_s]; unfold instrP; rw [if_neg (by decide), if_pos (by decide), if_neg (f5 (by decide))]; rfl
    · rw [br_f (by decide), br_f (by decide), br_f (by decide), br_f (by decide), br_f (by decide), br_t (by decide), cv, bd_s, seLog_v (f7 (by decide)), bd_s]; rfl
    · rw [br_f (by decide), br_f (by decide), br_f (by decide), br_f (by decide), br_f (by decide), br_f (by decide), br_t (by decide), cv, bd_s, seLog_v (f7 (by decide)), bd_s]; rfl
    · rw [br_f (by decide), br_f (by decide), br_f (by decide), br_f (by decide), br_f (by decide), br_f (by decide), br_f (by decide), br_t (by decide), cv, bd_s]; rfl
    · rw [br_f (by decide), br_f (by decide), br_f (by decide), br_f (by decide), br_f (by decide), br_f (by decide), br_f (by decide), br_f (by decide), br_t (by decide), cv, bd_s]; rfl
    · rw [br_f (by decide), br_f (by decide), br_f (by decide), br_f (by decide), br_f (by decide), br_f (by decide), br_f (by decide), br_f (by decide), br_f (by decide), br_t (by decide), cv, bd_s, seLog_v (f7 (by decide)), bd_s]; rfl
    · rw [br_f (by decide), br_f (by decide), br_f (by decide), br_f (by decide), br_f (by decide), br_f (by decide), br_f (by decide), br_f (by decide), br_f (by decide), br_f (by decide), br_t (by decide), cv, bd_s, seLog_v (f7 (by decide)), bd_s]; rfl
end
end Go.Proofs.YtokdmaoconegkaaGreat.Am
end
section
/- What the laws do with rows of numbers: compared, written on, held. -/
namespace Go.Proofs.YtokdmaoconegkaaGreat.Am
open Go
set_option linter.unusedVariables false
set_option linter.unusedSimpArgs false

def mkI : Int → List Int → List Int
  | _, [] => []
  | k, _ :: r => k :: mkI (k + 1) r
theorem mkI_len : ∀ (l : List Int) (k : Int), (mkI k l).length = l.length
  | [], _ => rfl
  | _ :: r, k => by simp [mkI, mkI_len r]
end Go.Proofs.YtokdmaoconegkaaGreat.Am
end
section
/- What the laws do with trees and rows of numbers. -/
namespace Go.Proofs.YtokdmaoconegkaaGreat.Am
open Go
set_option linter.unusedVariables false
set_option linter.unusedSimpArgs false
abbrev tyNd : Ty := .pr .s (.pr (.i .i64) (.pr (.i .i64) (.i .i64)))
end Go.Proofs.YtokdmaoconegkaaGreat.Am
end
section
/- InstrOfTile: both sides, the law. -/
namespace Go.Proofs.YtokdmaoconegkaaGreat.Am
open Go
set_option linter.unusedVariables false
set_option linter.unusedSimpArgs false
theorem isIn_mem {l : List ByteArray} {s : ByteArray} (h : isIn l s = true) : s ∈ l := by
  unfold isIn at h
  rw [List.any_eq_true] at h
  obtain ⟨x, hx, hs⟩ := h
  rw [← of_decide_eq_true hs]; exact hx
theorem op_size {n : Nd} {i : Int} (h : nodeOk n i = true) : n.1.size ≤ 1000 := by
  unfold nodeOk at h
  by_cases c0 : n.1 = tIn
  · rw [c0]; decide
  by_cases c1 : n.1 = tConst
  · rw [c1]; decide
  rw [if_neg c0, if_neg c1] at h
  by_cases c2 : isOne n.1 = true
  · rcases isOne_mem c2 with q | q <;> rw [q] <;> decide
  · rw [if_neg c2, Bool.and_eq_true, Bool.and_eq_true, Bool.and_eq_true] at h
    have hm := isIn_mem h.1.1.1
    have : ∀ x ∈ opsL, x.size ≤ 1000 := by decide
    exact this _ hm
theorem l1All_v (l : List Int) (lo hi : Int) (hl : l.length ≤ 1048576) : spec_l1All.v l lo hi = some (l.all (fun x => inB x lo hi)) := by
  refine spec_l1All.vs _ _ _ ?_
  have key : ∀ (d j : Nat), j + d = l.length → spec_l1All.v0 lo hi l (l.length : Int) (j : Int) = some ((l.drop j).all (fun x => inB x lo hi)) := by
    intro d
    induction d with
    | zero =>
      intro j hj
      refine spec_l1All.v0s _ _ _ _ _ ?_
      rw [br_f (by simp; omega), List.drop_eq_nil_of_le (by omega)]; rfl
    | succ d ih =>
      intro j hj
      have hjl : j < l.length := by omega
      refine spec_l1All.v0s _ _ _ _ _ ?_
      rw [br_t (by simpa using hjl), br_t (by simp), Int.toNat_natCast, gt_at _ hjl, l1In_f, bd_s, next_ok j _ hjl (by omega), ih (j + 1) (by omega), drop_at _ _ hjl, List.all_cons]
      cases inB l[j] lo hi <;> rfl
  exact key l.length 0 (by omega)
theorem regs_v (l : List Int) (hl : l.length ≤ 1048576) : slices_ContainsFunc_int_InstrOfTile.v l = some (!(l.all (fun x => inB x 0 5))) := by
  refine slices_ContainsFunc_int_InstrOfTile.vs _ ?_
  have key : ∀ (d j : Nat), j + d = l.length → ∃ x, slices_IndexFunc_int_InstrOfTile.v0 l (l.length : Int) (j : Int) = some x ∧ decide (x ≥ 0) = !((l.drop j).all (fun x => inB x 0 5)) := by
    intro d
    induction d with
    | zero =>
      intro j hj
      refine ⟨-1, slices_IndexFunc_int_InstrOfTile.v0s _ _ _ ?_, ?_⟩
      · rw [br_f (by simp; omega)]
      · rw [List.drop_eq_nil_of_le (by omega)]; rfl
    | succ d ih =>
      intro j hj
      have hjl : j < l.length := by omega
      rw [drop_at _ _ hjl, List.all_cons]
      have hf : impl_InstrOfTile_1.f l[j] = some (!(inB l[j] 0 5)) := by rw [impl_InstrOfTile_1.eq, impl_isRegister.eq, within_f, bd_s, bd_s]
      cases c : inB l[j] 0 5 with
      | false =>
        refine ⟨j, slices_IndexFunc_int_InstrOfTile.v0s _ _ _ ?_, by simp⟩
        rw [br_t (by simpa using hjl), br_t (by simp), Int.toNat_natCast, gt_at _ hjl, hf, c, bd_s]; rfl
      | true =>
        obtain ⟨x, hx, hd⟩ := ih (j + 1) (by omega)
        refine ⟨x, slices_IndexFunc_int_InstrOfTile.v0s _ _ _ ?_, by simpa using hd⟩
        rw [br_t (by simpa using hjl), br_t (by simp), Int.toNat_natCast, gt_at _ hjl, hf, c, bd_s, next_ok j _ hjl (by omega)]; exact hx
  obtain ⟨x, hx, hd⟩ := key l.length 0 (by omega)
  rw [show slices_IndexFunc_int_InstrOfTile.v l = some x from slices_IndexFunc_int_InstrOfTile.vs _ hx, bd_s, hd]; rfl
section
variable {e : List Nd}
abbrev In0 : In5 := ((⟨#[]⟩ : ByteArray), 0, 0, 0, 0)
def atA (e : List Nd) (i t : Int) : Bool := treeOk e && (inB i 0 ((e.length : Int) - 1) && (inB t 0 12 && (tileM e i t).isSome))
def instrA (e : List Nd) (i t dst : Int) (regs : List Int) : In5 × Bool :=
  if atA e i t = true ∧ t ≠ 0 ∧ inB dst 0 5 = true ∧ regs.all (fun x => inB x 0 5) = true ∧ (told (tileM e i t)).1.length = regs.length then (instrP (ndAt e i) t dst (regs.getD 0 0) (regs.getD 1 0) (wordOf e (told (tileM e i t)).2.1), true) else (In0, false)
theorem w_len (hl : e.length ≤ 1048576) : IntKind.wrap .i64 ((e.length : Int) - 1) = (e.length : Int) - 1 := wrap_ok (by omega) (by omega)
theorem cvAt_v (hl : e.length ≤ 1048576) (i t : Int) : spec_cvAt.v e i t = some (atA e i t) := by
  refine spec_cvAt.vs _ _ _ ?_
  rw [cvTree_v hl, bd_s]; unfold atA
  by_cases c : treeOk e = true
  · obtain ⟨h1, h2, h3, _⟩ := treeOk_parts c
    rw [c, brn_t, w_len hl, l1In_f, bd_s]
    cases c1 : inB i 0 ((e.length : Int) - 1) with
    | false => rfl
    | true =>
      obtain ⟨i0, i1⟩ := inB_iff.1 c1
      obtain ⟨j, rfl⟩ := Int.eq_ofNat_of_zero_le i0
      rw [brn_t, l1In_f, bd_s]
      cases c2 : inB t 0 12 with
      | false => rfl
      | true =>
        rw [brn_t, cvTile_v h1 (by omega), bd_s]
        cases tileM e (j : Int) t <;> rfl
  · rw [Bool.not_eq_true] at c; rw [c]; rfl
theorem specInstr_v (hl : e.length ≤ 1048576) (i t dst : Int) {regs : List Int} (hr : regs.length ≤ 1048576) : spec_InstrOfTile.v e i t dst regs = some (instrA e i t dst regs) := by
  refine spec_InstrOfTile.vs _ _ _ _ _ ?_
  rw [cvAt_v hl, bd_s]; unfold instrA
  cases c : atA e i t with
  | false => rw [if_neg (by simp)]; rfl
  | true =>
    have c' := c
    unfold atA at c'
    rw [Bool.and_eq_true, Bool.and_eq_true, Bool.and_eq_true] at c'
    obtain ⟨k1, k2, k3, k4⟩ := c'
    obtain ⟨h1, h2, h3, _⟩ := treeOk_parts k1
    obtain ⟨i0, i1⟩ := inB_iff.1 k2
    obtain ⟨t0, t12⟩ := inB_iff.1 k3
    obtain ⟨j, rfl⟩ := Int.eq_ofNat_of_zero_le i0
    have hj : j < e.length := by omega
    obtain ⟨⟨p, q⟩, hm⟩ := Option.isSome_iff_exists.1 k4
    rw [brn_t]
    by_cases z : t = 0
    · rw [br_t (by simpa using z), if_neg (fun w => w.2.1 z)]
    · rw [br_f (by simpa using z), spec_cdReg.eq, l1In_f, bd_s, bd_s]
      cases d : inB dst 0 5 with
      | false => rw [if_neg (by simp)]; rfl
      | true =>
        rw [brn_t, l1All_v _ _ _ hr, bd_s]
        cases g : regs.all (fun x => inB x 0 5) with
        | false => rw [if_neg (by simp)]; rfl
        | true =>
          rw [brn_t, cvTile_v h1 hj, bd_s, hm]
          by_cases l : p.length = regs.length
          · have hp := (tile_parts h1 hj hm).1
            rw [br_f (by simp [told, l]), seInstr_v h1 hj hm t0 t12 (op_size (ndAt_ok h1 (by omega) (by omega))) dst (by omega), bd_s, if_pos ⟨rfl, z, rfl, rfl, l⟩]; rfl
          · rw [br_t (by simp [told]; omega), if_neg (fun w => l w.2.2.2.2)]
theorem implInstr_v (hl : e.length ≤ 1048576) (i t dst : Int) {regs : List Int} (hr : regs.length ≤ 1048576) : impl_InstrOfTile.v e i t dst regs = some (instrA e i t dst regs) := by
  refine impl_InstrOfTile.vs _ _ _ _ _ ?_
  have told_v : impl_toldTile.v e i t = some (if atA e i t = true then (tileI e i t, true) else (([], [], 0), false)) := by
    refine impl_toldTile.vs _ _ _ ?_
    rw [isTree_v e hl, bd_s]; unfold atA
    by_cases c : treeOk e = true
    · obtain ⟨h1, h2, h3, _⟩ := treeOk_parts c
      rw [c, brn_t, w_len hl, within_f, bd_s]
      cases c1 : inB i 0 ((e.length : Int) - 1) with
      | false => rfl
      | true =>
        obtain ⟨i0, i1⟩ := inB_iff.1 c1
        obtain ⟨j, rfl⟩ := Int.eq_ofNat_of_zero_le i0
        rw [brn_t, within_f, bd_s]
        cases c2 : inB t 0 12 with
        | false => rfl
        | true =>
          obtain ⟨t0, t12⟩ := inB_iff.1 c2
          rw [brn_t, tileAt_v h1 (by omega) t0 t12, bd_s]
          cases (tileM e (j : Int) t).isSome <;> rfl
    · rw [Bool.not_eq_true] at c; rw [c]; rfl
  rw [told_v, bd_s]; unfold instrA
  cases c : atA e i t with
  | false => rw [if_neg (by simp), if_neg (by simp)]; rfl
  | true =>
    have c' := c
    unfold atA at c'
    rw [Bool.and_eq_true, Bool.and_eq_true, Bool.and_eq_true] at c'
    obtain ⟨k1, k2, k3, k4⟩ := c'
    obtain ⟨h1, h2, h3, _⟩ := treeOk_parts k1
    obtain ⟨i0, i1⟩ := inB_iff.1 k2
    obtain ⟨t0, t12⟩ := inB_iff.1 k3
    obtain ⟨j, rfl⟩ := Int.eq_ofNat_of_zero_le i0
    have hj : j < e.length := by omega
    obtain ⟨⟨p, q⟩, hm⟩ := Option.isSome_iff_exists.1 k4
    rw [if_pos rfl, tileI_eq h1 hj t0 t12 hm]
    simp only
    rw [brn_t]
    by_cases z : t = 0
    · rw [br_t (by simpa using z), if_neg (fun w => w.2.1 z)]
    · rw [br_f (by simpa using z), impl_isRegister.eq, within_f, bd_s, bd_s]
      cases d : inB dst 0 5 with
      | false => rw [if_neg (by simp)]; rfl
      | true =>
        rw [brn_t, hm]
        by_cases l : p.length = regs.length
        · have hp := (tile_parts h1 hj hm).1
          rw [br_f (by simp [l]), regs_v _ hr, bd_s]
          cases g : regs.all (fun x => inB x 0 5) with
          | false => rw [if_neg (by simp)]; rfl
          | true =>
            rw [br_f (by decide), impl_instr_v h1 hj hm t0 t12 (op_size (ndAt_ok h1 (by omega) (by omega))) dst (by omega), bd_s, if_pos ⟨by simp, z, rfl, rfl, l⟩]; rfl
        · rw [br_t (by simp; omega), if_neg (fun w => l w.2.2.2.2)]
end
end Go.Proofs.YtokdmaoconegkaaGreat.Am
end
section
/- What ops make of words, what expressions are for inputs, their tables: the program's functions and the reference's answer alike. -/
namespace Go.Proofs.YtokdmaoconegkaaGreat.Am
open Go
set_option linter.unusedVariables false
set_option linter.unusedSimpArgs false

def word (x : Int) : Prop := 0 ≤ x ∧ x ≤ 63
theorem and63 (x : BitVec 64) : ((x &&& BitVec.ofInt 64 63).toNat) ≤ 63 := by
  rw [BitVec.toNat_and]
  exact Nat.and_le_right
theorem wand63 (x : BitVec 64) : word (IntKind.wrap .i64 (((x &&& BitVec.ofInt 64 63).toNat : Nat) : Int)) := by
  have := and63 x
  rw [wrap_ok (by omega) (by omega)]
  exact ⟨by omega, by omega⟩
def isW (x : Option Int) : Prop := ∃ r, x = some r ∧ word r
theorem isW_ite {c : Prop} [Decidable c] {x y : Option Int} (hx : isW x) (hy : isW y) : isW (if c then x else y) := by split <;> assumption
theorem isW_and (x : BitVec 64) : isW (some (IntKind.wrap .i64 (((x &&& BitVec.ofInt 64 63).toNat : Nat) : Int))) := ⟨_, rfl, wand63 x⟩
theorem apply_some (s : ByteArray) (a b : Int) (hb : 0 ≤ b) : isW (impl_apply.f s a b) := by
  rw [impl_apply.eq]
  simp only [impl_bit.eq, br_if, bd_ite, bd_s, hb, decide_true, if_true]
  repeat' first | exact isW_and _ | apply isW_ite
noncomputable def appP (s : ByteArray) (a b : Int) : Int := (impl_apply.f s a b).getD 0
theorem apply_f (s : ByteArray) (a b : Int) (hb : 0 ≤ b) : impl_apply.f s a b = some (appP s a b) := by
  obtain ⟨r, h, _⟩ := apply_some s a b hb
  unfold appP; rw [h]; rfl
theorem appP_word (s : ByteArray) (a b : Int) (hb : 0 ≤ b) : word (appP s a b) := by
  obtain ⟨r, h, hw⟩ := apply_some s a b hb
  unfold appP; rw [h]; exact hw
theorem exApply_eq (s : ByteArray) (a b : Int) : spec_exApply.f s a b = impl_apply.f s a b := by
  rw [spec_exApply.eq, impl_apply.eq]
  simp only [impl_bit.eq, br_if, bd_ite, bd_s]
  repeat' split
  all_goals first | rfl | simp_all
theorem exApply_f (s : ByteArray) (a b : Int) (hb : 0 ≤ b) : spec_exApply.f s a b = some (appP s a b) := by rw [exApply_eq, apply_f s a b hb]
theorem appP_one {s : ByteArray} (h : isOne s = true) (a b : Int) : appP s a b = appP s a 0 := by
  unfold appP
  rcases isOne_mem h with rfl | rfl <;> rw [impl_apply.eq, impl_apply.eq] <;> simp [br_if, seq_beq]

/-! ### the values of all nodes -/
noncomputable def nVal (x0 x1 : Int) (o : List Int) (n : Nd) : Int :=
  if n.1 = tConst then n.2.2.2 else if n.1 = tIn then (if n.2.2.2 = 0 then x0 else x1)
  else if isOne n.1 = true then appP n.1 (o.getD n.2.1.toNat 0) 0 else appP n.1 (o.getD n.2.1.toNat 0) (o.getD n.2.2.1.toNat 0)
noncomputable def valsP (x0 x1 : Int) (e : List Nd) : List Int := e.foldl (fun o n => o ++ [nVal x0 x1 o n]) []
theorem vals_len (x0 x1 : Int) : ∀ (e : List Nd) (o : List Int), (e.foldl (fun o n => o ++ [nVal x0 x1 o n]) o).length = o.length + e.length
  | [], o => rfl
  | n :: r, o => by rw [List.foldl_cons, vals_len x0 x1 r]; simp; omega
theorem valsP_len (x0 x1 : Int) (e : List Nd) : (valsP x0 x1 e).length = e.length := by unfold valsP; rw [vals_len]; simp
theorem valsP_take (x0 x1 : Int) {e : List Nd} {i : Nat} (h : i < e.length) : valsP x0 x1 (e.take (i + 1)) = valsP x0 x1 (e.take i) ++ [nVal x0 x1 (valsP x0 x1 (e.take i)) e[i]] := take_fold _ _ _ i h
def words (l : List Int) : Prop := ∀ x ∈ l, word x
theorem words_get {l : List Int} (h : words l) (j : Nat) : word (l.getD j 0) := by
  rw [List.getD_eq_getElem?_getD]
  by_cases c : j < l.length
  · rw [List.getElem?_eq_getElem c]; exact h _ (List.getElem_mem c)
  · rw [List.getElem?_eq_none (Nat.le_of_not_lt c)]; exact ⟨by decide, by decide⟩
theorem nVal_word {x0 x1 : Int} (h0 : word x0) (h1 : word x1) {o : List Int} (ho : words o) {n : Nd} {i : Int} (hn : nodeOk n i = true) : word (nVal x0 x1 o n) := by
  unfold nVal
  split
  · rename_i c
    unfold nodeOk at hn
    rw [if_neg (by rw [c]; decide), if_pos c] at hn
    simp only [Bool.and_eq_true, inB_iff] at hn
    exact hn.2
  · split
    · split
      · exact h0
      · exact h1
    · split
      · exact appP_word _ _ _ (by omega)
      · exact appP_word _ _ _ (words_get ho _).1
theorem valsP_words {x0 x1 : Int} (h0 : word x0) (h1 : word x1) {e : List Nd} (hn : nodesOk e 0 = true) : ∀ i, i ≤ e.length → words (valsP x0 x1 (e.take i)) := by
  intro i
  induction i with
  | zero => intro _ x hx; simp [valsP] at hx
  | succ i ih =>
    intro hi
    have ih := ih (by omega)
    rw [valsP_take x0 x1 (by omega)]
    intro x hx
    rcases List.mem_append.1 hx with hx | hx
    · exact ih x hx
    · simp only [List.mem_singleton] at hx
      subst hx
      have := nodesOk_get e 0 hn i (by omega)
      exact nVal_word h0 h1 ih this
theorem in_val {n : Nd} {i : Int} (h : nodeOk n i = true) (c : n.1 = tIn) : n.2.2.2 = 0 ∨ n.2.2.2 = 1 := by
  obtain ⟨v, hv, e⟩ := hole_val h c
  rcases Nat.lt_or_ge v 1 with q | q
  · exact .inl (by omega)
  · exact .inr (by omega)
theorem room8 {n m : Nat} (hn : n ≤ 1000000) (hm : m ≤ 1000000) : decide (n + m ≤ 35184372088832 / (8 + 1)) = true := decide_eq_true (by omega)
theorem getD_at {l : List Int} {p : Int} (h0 : 0 ≤ p) (h : p < l.length) : l[p.toNat]? = some (l.getD p.toNat 0) := by
  have hp : p.toNat < l.length := by omega
  rw [List.getD_eq_getElem?_getD, List.getElem?_eq_getElem hp]; rfl
theorem one_parts {n : Nd} {i : Nat} (h : nodeOk n i = true) (c1 : n.1 ≠ tIn) (c2 : n.1 ≠ tConst) : (0 ≤ n.2.1 ∧ n.2.1 < i) ∧ ((isOne n.1 = true ∧ n.2.2.1 = 0) ∨ (isOne n.1 = false ∧ 0 ≤ n.2.2.1 ∧ n.2.2.1 < i)) := by
  unfold nodeOk at h
  rw [if_neg c1, if_neg c2] at h
  split at h
  · rename_i h1
    simp only [Bool.and_eq_true, inB_iff, decide_eq_true_iff] at h
    exact ⟨by omega, .inl ⟨h1, by omega⟩⟩
  · rename_i h1
    simp only [Bool.and_eq_true, inB_iff, decide_eq_true_iff] at h
    exact ⟨by omega, .inr ⟨by simpa using h1, by omega⟩⟩
theorem get_pad {l : List Int} {p : Int} (h0 : 0 ≤ p) (h : p < l.length) (m : Nat) : (l ++ List.replicate m (0 : Int))[p.toNat]? = some (l.getD p.toNat 0) := by
  rw [List.getElem?_append_left (by omega)]
  exact getD_at h0 h
theorem set_pad (l : List Int) (m : Nat) (x : Int) : (l ++ List.replicate (m + 1) (0 : Int)).set l.length x = (l ++ [x]) ++ List.replicate m 0 := by
  rw [List.replicate_succ, set_mid, List.append_assoc]; rfl
theorem values_v {e : List Nd} (hn : nodesOk e 0 = true) (hl : e.length ≤ 1000000) {x0 x1 : Int} (h0 : word x0) (h1 : word x1) : impl_values.v e x0 x1 = some (valsP x0 x1 e) := by
  have key : ∀ (d i : Nat), i + d = e.length → impl_values.v0 x0 x1 e (e.length : Int) (i : Int) (valsP x0 x1 (e.take i) ++ List.replicate d 0) = some (valsP x0 x1 e) := by
    intro d
    induction d with
    | zero =>
      intro i hi
      refine impl_values.v0s _ _ _ _ _ _ ?_
      rw [br_f (by simp; omega), List.take_of_length_le (by omega)]
      simp
    | succ d ih =>
      intro i hi
      have hlt : i < e.length := by omega
      have hk := nodesOk_get e 0 hn i hlt
      rw [Nat.zero_add] at hk
      have hw := valsP_words h0 h1 hn i (by omega)
      have hvl : (valsP x0 x1 (e.take i)).length = i := by rw [valsP_len, List.length_take]; omega
      have go := ih (i + 1) (by omega)
      rw [valsP_take x0 x1 hlt] at go
      have hs : ∀ x, (valsP x0 x1 (e.take i) ++ List.replicate (d + 1) (0 : Int)).set i x = (valsP x0 x1 (e.take i) ++ [x]) ++ List.replicate d 0 := fun x => by
        have := set_pad (valsP x0 x1 (e.take i)) d x
        rwa [hvl] at this
      have hln : (valsP x0 x1 (e.take i) ++ List.replicate (d + 1) (0 : Int)).length = e.length := by rw [List.length_append, hvl, List.length_replicate]; omega
      have hgi : ∃ z, (valsP x0 x1 (e.take i) ++ List.replicate (d + 1) (0 : Int))[i]? = some z := ⟨_, List.getElem?_eq_getElem (by rw [hln]; exact hlt)⟩
      obtain ⟨z, hz⟩ := hgi
      refine impl_values.v0s _ _ _ _ _ _ ?_
      rw [br_t (by simpa using hlt), br_t (by simp), Int.toNat_natCast, gt_at _ hlt, next_ok i _ hlt (by omega), seq_beq, seq_beq]
      unfold nVal at go
      by_cases c1 : e[i].1 = tIn
      · have c2 : ¬ e[i].1 = tConst := by rw [c1]; decide
        rw [if_neg c2, if_pos c1] at go
        rw [br_t (by simpa using c1)]
        rcases in_val hk c1 with v | v
        · rw [if_pos v] at go
          rw [v, br_t (by simp), br_t (by simp), show (0 : Int).toNat = 0 from rfl, gt_zero, br_t (by simp), br_t (by rw [hln]; simpa using hlt), gt_some hz, hs]
          exact go
        · rw [if_neg (by omega)] at go
          rw [v, br_t (by simp), br_t (by simp), show (1 : Int).toNat = 1 from rfl, gt_one, br_t (by simp), br_t (by rw [hln]; simpa using hlt), gt_some hz, hs]
          exact go
      · rw [br_f (by simpa using c1)]
        by_cases c2 : e[i].1 = tConst
        · rw [if_pos c2] at go
          rw [br_t (by simpa using c2), br_t (by simp), br_t (by rw [hln]; simpa using hlt), gt_some hz, hs]
          exact go
        · rw [if_neg c2, if_neg c1] at go
          rw [br_f (by simpa using c2)]
          obtain ⟨pa, pb⟩ := one_parts hk c1 c2
          have fin : ∀ b : Int, b = e[i].2.2.1 → 0 ≤ b → b < e.length → ∀ y, (valsP x0 x1 (e.take i) ++ List.replicate (d + 1) (0 : Int))[b.toNat]? = some y → 0 ≤ y → appP e[i].1 ((valsP x0 x1 (e.take i)).getD e[i].2.1.toNat 0) y = (if isOne e[i].1 = true then appP e[i].1 ((valsP x0 x1 (e.take i)).getD e[i].2.1.toNat 0) 0 else appP e[i].1 ((valsP x0 x1 (e.take i)).getD e[i].2.1.toNat 0) ((valsP x0 x1 (e.take i)).getD e[i].2.2.1.toNat 0)) →
              (br (decide ((0 : Int) ≤ e[i].2.1)) (br (decide (e[i].2.1 < (((valsP x0 x1 (e.take i) ++ List.replicate (d + 1) (0 : Int)).length : Nat) : Int))) (gt (valsP x0 x1 (e.take i) ++ List.replicate (d + 1) (0 : Int)) (Int.toNat e[i].2.1) fun r4 => br (decide ((0 : Int) ≤ e[i].2.2.1)) (br (decide (e[i].2.2.1 < (((valsP x0 x1 (e.take i) ++ List.replicate (d + 1) (0 : Int)).length : Nat) : Int))) (gt (valsP x0 x1 (e.take i) ++ List.replicate (d + 1) (0 : Int)) (Int.toNat e[i].2.2.1) fun r5 => bd (impl_apply.f e[i].1 r4 r5) fun r6 => br (decide ((0 : Int) ≤ (i : Int))) (br (decide ((i : Int) < (((valsP x0 x1 (e.take i) ++ List.replicate (d + 1) (0 : Int)).length : Nat) : Int))) (gt (valsP x0 x1 (e.take i) ++ List.replicate (d + 1) (0 : Int)) i fun r7 => impl_values.v0 x0 x1 e (e.length : Int) ((i + 1 : Nat) : Int) ((valsP x0 x1 (e.take i) ++ List.replicate (d + 1) (0 : Int)).set i r6)) none) none) none) none) none) none) = some (valsP x0 x1 e) := by
            intro b hb b0 b1 y hy y0 hq
            subst hb
            rw [br_t (by simpa using pa.1), br_t (by rw [hln]; simp; omega), gt_some (get_pad pa.1 (by rw [hvl]; exact pa.2) _), br_t (by simpa using b0), br_t (by rw [hln]; simpa using b1), gt_some hy, apply_f _ _ _ y0, bd_s, br_t (by simp), br_t (by rw [hln]; simpa using hlt), gt_some hz, hs, hq]
            exact go
          rcases pb with ⟨ho, hb⟩ | ⟨ho, hb⟩
          · -- one operand: the other place is 0
            have h00 : ∃ y, (valsP x0 x1 (e.take i) ++ List.replicate (d + 1) (0 : Int))[(0 : Int).toNat]? = some y ∧ 0 ≤ y := by
              by_cases hi0 : i = 0
              · refine ⟨0, ?_, by omega⟩
                have : valsP x0 x1 (e.take i) = [] := List.length_eq_zero_iff.1 (by omega)
                rw [this]; rfl
              · exact ⟨_, get_pad (p := 0) (by omega) (by omega) _, (words_get hw _).1⟩
            obtain ⟨y, hy, hy0⟩ := h00
            exact fin e[i].2.2.1 rfl (by omega) (by omega) y (by rw [hb]; exact hy) hy0 (by rw [if_pos ho, appP_one ho])
          · exact fin e[i].2.2.1 rfl hb.1 (by omega) _ (get_pad hb.1 (by rw [hvl]; exact hb.2) _) (words_get hw _).1 (by rw [if_neg (by rw [ho]; decide)])
  refine impl_values.vs _ _ _ ?_
  rw [br_t (by simp), br_t (by simp; omega), Int.toNat_natCast]
  have := key e.length 0 (by omega)
  simpa [valsP] using this
noncomputable def evalP (e : List Nd) (x0 x1 : Int) : Int := (valsP x0 x1 e).getD (e.length - 1) 0
theorem evalP_word {e : List Nd} (hn : nodesOk e 0 = true) {x0 x1 : Int} (h0 : word x0) (h1 : word x1) : word (evalP e x0 x1) := by
  have := valsP_words h0 h1 hn e.length (Nat.le_refl _)
  rw [List.take_of_length_le (Nat.le_refl _)] at this
  exact words_get this _
theorem eval_last {e : List Nd} (h1 : 1 ≤ e.length) (x0 x1 : Int) : (valsP x0 x1 e)[e.length - 1]? = some (evalP e x0 x1) := by
  unfold evalP
  have hl := valsP_len x0 x1 e
  rw [List.getD_eq_getElem?_getD, List.getElem?_eq_getElem (by omega)]; rfl
/-! ### tables -/
noncomputable def tabU (e : List Nd) (m : Nat) : List Int := (List.range m).map fun i => evalP e ((i / 64 : Nat) : Int) ((i % 64 : Nat) : Int)
theorem tabU_len (e : List Nd) (m : Nat) : (tabU e m).length = m := by simp [tabU]
theorem tabU_zero (e : List Nd) : tabU e (64 * 0) = [] := rfl
theorem tabU_succ (e : List Nd) {a b : Nat} (hb : b < 64) : tabU e (64 * a + b) ++ [evalP e (a : Int) (b : Int)] = tabU e (64 * a + (b + 1)) := by
  unfold tabU
  rw [show 64 * a + (b + 1) = (64 * a + b) + 1 by omega, List.range_succ, List.map_append]
  simp only [List.map_cons, List.map_nil]
  rw [show (64 * a + b) / 64 = a by omega, show (64 * a + b) % 64 = b by omega]
noncomputable def tabP (e : List Nd) : List Int := tabU e 4096
end Go.Proofs.YtokdmaoconegkaaGreat.Am
end
section
/- What is drawn off bytes: a cursor, numbers. -/
namespace Go.Proofs.YtokdmaoconegkaaGreat.Am
open Go
set_option linter.unusedVariables false
set_option linter.unusedSimpArgs false

abbrev Cur := List Int × Int × Int
/-- a cursor over bytes that stands at n at most -/
def Cu (n : Int) (c : Cur) : Prop := (∀ x ∈ c.1, 0 ≤ x ∧ x ≤ 255) ∧ 0 ≤ c.2.1 ∧ c.2.1 ≤ n
/-- something is drawn -/
def Dr {α : Type} (x : Option (α × Cur)) (n : Int) (P : α → Prop) : Prop := ∃ r c, x = some (r, c) ∧ P r ∧ Cu n c
theorem Cu.mono {n m : Int} {c : Cur} (h : Cu n c) (hm : n ≤ m) : Cu m c := ⟨h.1, h.2.1, by have := h.2.2; omega⟩
section
variable {α β : Type}
theorem Dr.ret {r : α} {c : Cur} {n m : Int} {P : α → Prop} (hc : Cu n c) (hm : n ≤ m) (hr : P r) : Dr (some (r, c)) m P := ⟨r, c, rfl, hr, hc.mono hm⟩
theorem Dr.bd {x : Option (α × Cur)} {g : α × Cur → Option (β × Cur)} {n m : Int} {P : α → Prop} {Q : β → Prop} (h : Dr x n P) (k : ∀ r c, P r → Cu n c → Dr (g (r, c)) m Q) : Dr (Am.bd x g) m Q := by
  obtain ⟨r, c, e, hr, hc⟩ := h
  obtain ⟨s, d, e2, hs, hd⟩ := k r c hr hc
  exact ⟨s, d, by rw [e]; exact e2, hs, hd⟩
theorem Dr.here {γ : Type} {x : Option γ} {v : γ} {g : γ → Option (β × Cur)} {m : Int} {Q : β → Prop} (e : x = some v) (k : Dr (g v) m Q) : Dr (Am.bd x g) m Q := by rw [e]; exact k
theorem Dr.br {b : Bool} {x y : Option (β × Cur)} {m : Int} {Q : β → Prop} (h1 : b = true → Dr x m Q) (h2 : b = false → Dr y m Q) : Dr (Am.br b x y) m Q := by
  cases b with
  | true => exact h1 rfl
  | false => exact h2 rfl
theorem Dr.pos {b : Bool} {x y : Option (β × Cur)} {m : Int} {Q : β → Prop} (hb : b = true) (h : Dr x m Q) : Dr (Am.br b x y) m Q := by rw [br_t hb]; exact h
theorem Dr.neg {b : Bool} {x y : Option (β × Cur)} {m : Int} {Q : β → Prop} (hb : b = false) (h : Dr y m Q) : Dr (Am.br b x y) m Q := by rw [br_f hb]; exact h
theorem Dr.gt {xs : List α} {j : Nat} {f : α → Option (β × Cur)} {m : Int} {Q : β → Prop} (hj : j < xs.length) (h : Dr (f xs[j]) m Q) : Dr (Am.gt xs j f) m Q := by rw [gt_at _ hj]; exact h
theorem Dr.imp {x : Option (α × Cur)} {n m : Int} {P Q : α → Prop} (h : Dr x n P) (hm : n ≤ m) (hp : ∀ r, P r → Q r) : Dr x m Q := by
  obtain ⟨r, c, e, hr, hc⟩ := h
  exact ⟨r, c, e, hp r hr, hc.mono hm⟩
end
theorem byteAnd (x : Int) : 0 ≤ IntKind.wrap .i64 (IntKind.wrap .u64 (((BitVec.toNat ((BitVec.ofInt 64 x) &&& (BitVec.ofInt 64 (255 : Int)))) : Nat) : Int)) ∧ IntKind.wrap .i64 (IntKind.wrap .u64 (((BitVec.toNat ((BitVec.ofInt 64 x) &&& (BitVec.ofInt 64 (255 : Int)))) : Nat) : Int)) ≤ 255 := by
  have h : (BitVec.toNat ((BitVec.ofInt 64 x) &&& (BitVec.ofInt 64 (255 : Int)))) ≤ 255 := by
    rw [BitVec.toNat_and]
    exact Nat.and_le_right
  have hu : ∀ n : Nat, n ≤ 255 → IntKind.wrap .u64 (n : Int) = (n : Int) := by
    intro n hn
    exact IntWalk.u64_in _ ⟨by omega, by omega⟩
  rw [hu _ h, wrap_ok (by omega) (by omega)]
  omega
theorem next_d {n : Int} {c : Cur} (h : Cu n c) (hn : n ≤ 9000000000000000000) : Dr (spec_l1Cur_next.f c.1 c.2.1 c.2.2) (n + 1) fun r => 0 ≤ r ∧ r ≤ 255 := by
  obtain ⟨h1, h2, h3⟩ := h
  rw [spec_l1Cur_next.eq, wrap_ok (x := c.2.1 + 1) (by omega) (by omega)]
  refine Dr.br (fun e => ?_) fun e => ?_
  · have e := of_decide_eq_true e
    have hj : c.2.1.toNat < c.1.length := by omega
    have hb := h1 _ (List.getElem_mem hj)
    refine Dr.pos (decide_eq_true h2) (Dr.gt hj (Dr.pos (decide_eq_true (by omega)) ⟨_, _, rfl, ?_, h1, ?_, ?_⟩))
    · rw [wrap_ok (by omega) (by omega)]; exact hb
    · show 0 ≤ c.2.1 + 1; omega
    · show c.2.1 + 1 ≤ n + 1; omega
  · have e := of_decide_eq_false e
    refine Dr.neg (decide_eq_false (by omega)) ⟨_, _, rfl, byteAnd _, h1, ?_, ?_⟩
    · show 0 ≤ c.2.1 + 1; omega
    · show c.2.1 + 1 ≤ n + 1; omega
theorem tmod_b {x a : Int} (hx : 0 ≤ x) (ha : 1 ≤ a) : 0 ≤ Int.tmod x a ∧ Int.tmod x a < a := ⟨Int.tmod_nonneg _ hx, Int.tmod_lt_of_pos _ (by omega)⟩
theorem pick_d (a : Int) {n : Int} {c : Cur} (h : Cu n c) (hn : n ≤ 8999999999999999990) : Dr (spec_l1Cur_pick.f a c.1 c.2.1 c.2.2) (n + 2) fun r => 0 ≤ r ∧ (1 ≤ a → r < a) := by
  rw [spec_l1Cur_pick.eq]
  refine Dr.br (fun e => ?_) fun e => ?_
  · have e := of_decide_eq_true e
    exact ⟨0, c, rfl, ⟨by omega, by omega⟩, h.mono (by omega)⟩
  · have e := of_decide_eq_false e
    have ne : ¬ a = 0 := by omega
    refine Dr.bd (next_d h (by omega)) fun r c1 hr hc => ?_
    refine Dr.br (fun e2 => ?_) fun e2 => ?_
    · refine Dr.bd (next_d hc (by omega)) fun s c2 hs hc2 => ?_
      refine Dr.pos (by simpa using ne) ?_
      dsimp only
      refine ⟨_, _, rfl, ?_, hc2.mono (by omega)⟩
      rw [wrap_ok (x := r * 256) (by omega) (by omega), wrap_ok (by omega) (by omega)]
      have := tmod_b (x := r * 256 + s) (a := a) (by omega) (by omega)
      exact ⟨this.1, fun _ => this.2⟩
    · refine Dr.pos (by simpa using ne) ⟨_, _, rfl, ?_, hc.mono (by omega)⟩
      have := tmod_b (x := r) (a := a) (by omega) (by omega)
      exact ⟨this.1, fun _ => this.2⟩
theorem one_d (a : Int) {n : Int} {c : Cur} (h : Cu n c) (hn : n ≤ 8999999999999999990) : Dr (spec_l1Cur_one.f a c.1 c.2.1 c.2.2) (n + 2) fun _ => True := by
  rw [spec_l1Cur_one.eq]
  exact Dr.bd (pick_d a h hn) fun r c1 hr hc => Dr.ret hc (by omega) trivial
theorem of_d (l : List ByteArray) (hl : 1 ≤ l.length) {n : Int} {c : Cur} (h : Cu n c) (hn : n ≤ 8999999999999999990) : Dr (spec_l1Cur_of.f l c.1 c.2.1 c.2.2) (n + 2) fun r => r ∈ l := by
  rw [spec_l1Cur_of.eq]
  refine Dr.bd (pick_d _ h hn) fun r c1 hr hc => ?_
  have := hr.2 (by omega)
  refine Dr.pos (decide_eq_true hr.1) (Dr.gt (show (r : Int).toNat < l.length by omega) (Dr.ret hc (by omega) (List.getElem_mem _)))
theorem among_d (l : List Int) (hl : 1 ≤ l.length) {n : Int} {c : Cur} (h : Cu n c) (hn : n ≤ 8999999999999999990) : Dr (spec_l1Cur_among.f l c.1 c.2.1 c.2.2) (n + 2) fun r => r ∈ l := by
  rw [spec_l1Cur_among.eq]
  refine Dr.bd (pick_d _ h hn) fun r c1 hr hc => ?_
  have := hr.2 (by omega)
  refine Dr.pos (decide_eq_true hr.1) (Dr.gt (show (r : Int).toNat < l.length by omega) (Dr.ret hc (by omega) (List.getElem_mem _)))
theorem word_d {n : Int} {c : Cur} (h : Cu n c) (hn : n ≤ 999999980) : Dr (spec_l1Cur_word.f c.1 c.2.1 c.2.2) (n + 4) fun r => 0 ≤ r ∧ r ≤ 63 := by
  rw [spec_l1Cur_word.eq]
  refine Dr.bd (one_d 2 h (by omega)) fun r c1 hr hc => Dr.br (fun _ => ?_) fun _ => ?_
  · refine Dr.bd (among_d _ (by simp) hc (by omega)) fun r c2 hr hc2 => Dr.ret hc2 (by omega) ?_
    simp only [List.mem_cons, List.not_mem_nil, or_false] at hr
    omega
  · refine Dr.bd (pick_d 64 hc (by omega)) fun r c2 hr hc2 => Dr.ret hc2 (by omega) ?_
    have := hr.2 (by omega)
    omega
theorem dr_v {α : Type} {v : Option (α × Cur)} {n : Int} {P : α → Prop} {x : Option (α × Cur)} (h : Dr x n P) (vs : ∀ r, x = some r → v = some r) : Dr v n P := by
  obtain ⟨r, c, e, hr, hc⟩ := h
  exact ⟨r, c, vs _ e, hr, hc⟩
def Bytes (l : List Int) : Prop := ∀ x ∈ l, 0 ≤ x ∧ x ≤ 255
theorem Bytes.cu {l : List Int} (h : Bytes l) : Cu 0 (l, 0, 0) := ⟨h, by dsimp only; omega, by dsimp only; omega⟩
end Go.Proofs.YtokdmaoconegkaaGreat.Am
end
section
/- What laws over draws do: rows compared, sizes measured, numbers looked for. -/
namespace Go.Proofs.YtokdmaoconegkaaGreat.Am
open Go
set_option linter.unusedVariables false
set_option linter.unusedSimpArgs false

/-! ### rows that are compared -/
def sameI (a b : List Int) : Bool := decide (a = b)
theorem sameI_cons (x y : Int) (a b : List Int) : sameI (x :: a) (y :: b) = (decide (x = y) && sameI a b) := by
  unfold sameI
  rw [Bool.eq_iff_iff]; simp
theorem pSame_v (a b : List Int) (ha : a.length ≤ 1000000) : laws_pSame.v a b = some (sameI a b) := by
  have key : ∀ (d i : Nat), i + d = a.length → a.length = b.length → laws_pSame.v0 a b (a.length : Int) (i : Int) = some (sameI (a.drop i) (b.drop i)) := by
    intro d
    induction d with
    | zero =>
      intro i hi hab
      refine laws_pSame.v0s _ _ _ _ ?_
      rw [br_f (by simp; omega), List.drop_eq_nil_of_le (by omega), List.drop_eq_nil_of_le (by omega)]; rfl
    | succ d ih =>
      intro i hi hab
      have hlt : i < a.length := by omega
      have hlb : i < b.length := by omega
      refine laws_pSame.v0s _ _ _ _ ?_
      rw [br_t (by simpa using hlt), br_t (by simp), Int.toNat_natCast, gt_at _ hlt, br_t (by simp), gt_at _ hlb, drop_at _ _ hlt, drop_at _ _ hlb]
      by_cases c : a[i] = b[i]
      · rw [br_f (by simpa using c), next_ok i _ hlt (by omega), ih (i + 1) (by omega) hab, sameI_cons, decide_eq_true c, Bool.true_and]
      · rw [br_t (by simpa using c), sameI_cons, decide_eq_false c, Bool.false_and]
  refine laws_pSame.vs _ _ ?_
  by_cases h : a.length = b.length
  · rw [br_f (by simp; omega)]
    have := key a.length 0 (by omega) h
    simpa using this
  · rw [br_t (by simp; omega)]
    unfold sameI; rw [Option.some_inj, eq_comm, decide_eq_false_iff_not]
    intro e; exact h (by rw [e])
theorem pSame_self (a : List Int) (ha : a.length ≤ 1000000) : laws_pSame.v a a = some true := by rw [pSame_v a a ha]; simp [sameI]
/-- draws of no size -/
theorem big_f (a b : List Int) : ∃ r, laws_big.f a b = some r ∧ (r = false → a.length ≤ 1048576 ∧ b.length ≤ 1048576) := by
  rw [laws_big.eq]
  by_cases h : (a.length : Int) > 1048576
  · exact ⟨true, br_t (decide_eq_true h), by simp⟩
  · refine ⟨_, br_f (decide_eq_false h), fun e => ?_⟩
    rw [wrap_ok (by omega) (by omega)] at e
    have := of_decide_eq_false e
    omega
theorem bytes_of {l : List Int} (q : Qd (.sl (.i .u8)) l) : Bytes l := fun x hx => by
  have h := q.2 x hx
  simp only [Qd, Lit.wf] at h
  simpa [IntKind.min, IntKind.max, IntKind.bits, IntKind.signed] using h
end Go.Proofs.YtokdmaoconegkaaGreat.Am
end
section
/- Instructions: which ones are right, what they write; code and registers: the program's functions and the reference's answer alike. -/
namespace Go.Proofs.YtokdmaoconegkaaGreat.Am
open Go
set_option linter.unusedVariables false
set_option linter.unusedSimpArgs false

abbrev Ins := ByteArray × Int × Int × Int × Int
def allOps : List ByteArray := [tSet, tMov, tNot, tNeg, tAddi, tAndi, tXori, tShli, tShri, tLea] ++ opsL
/-- the shape of an op, out of its form -/
def shapeP (s : ByteArray) : Bool × Bool × Bool × Int × Int :=
  let f := formP s
  (f.2, f.1.1, f.1.2.1, if f.1.2.2.1 ≤ f.1.2.2.2.1 then f.1.2.2.1 else 0, if f.1.2.2.1 ≤ f.1.2.2.2.1 then f.1.2.2.2.1 else 0)
theorem form_none {s : ByteArray} (h : s ∉ allOps) : formP s = ((false, false, 0, 0, 0, ⟨#[]⟩), false) := by
  simp only [allOps, opsL, List.cons_append, List.nil_append, List.mem_cons, not_or] at h
  obtain ⟨h1, h2, h3, h4, h5, h6, h7, h8, h9, h10, g1, g2, g3, g4, g5, g6, g7, g8, g9, g10, _⟩ := h
  have e1 : isOne s = false := by simp [isOne, h3, h4]
  have e2 : isTwo s = false := by simp [isTwo, isIn, opsL, Ne.symm g1, Ne.symm g2, Ne.symm g3, Ne.symm g4, Ne.symm g5, Ne.symm g6, Ne.symm g7, Ne.symm g8, Ne.symm g9, Ne.symm g10]
  simp only [formP, h1, h2, e1, e2, h5, h6, h7, h8, h9, h10, if_false, Bool.false_eq_true]
def usedP (u : Bool) (r : Int) : Bool := (u && inB r 0 5) || decide (r = 0)
def immP (f : Form) (n : Int) : Bool := if f.2.2.1 ≤ f.2.2.2.1 then inB n f.2.2.1 f.2.2.2.1 else decide (n = 0)
/-- is this an instruction -/
def insOk (x : Ins) : Bool := (formP x.1).2 && inB x.2.1 0 5 && usedP (formP x.1).1.1 x.2.2.1 && usedP (formP x.1).1.2.1 x.2.2.2.1 && immP (formP x.1).1 x.2.2.2.2
theorem beq_dec (x y : Int) : (x == y) = decide (x = y) := by
  by_cases h : x = y
  · simp [h]
  · simp [h]
theorem isRegister_f (r : Int) : impl_isRegister.f r = some (inB r 0 5) := by rw [impl_isRegister.eq, within_f]; rfl
theorem isUsed_f (u : Bool) (r : Int) : impl_isUsed.f u r = some (usedP u r) := by
  rw [impl_isUsed.eq, isRegister_f]
  unfold usedP
  simp only [bd_s, beq_dec]
  cases u <;> cases inB r 0 5 <;> simp [br]
theorem isInstr_v (x : Ins) : impl_IsInstr.v x = some (insOk x) := by
  refine impl_IsInstr.vs _ ?_
  simp only [formOf_v, bd_s, impl_form_imm.eq, within_f, isRegister_f, isUsed_f, beq_dec]
  unfold insOk immP
  generalize formP x.1 = f
  by_cases h : f.1.2.2.1 ≤ f.1.2.2.2.1
  · simp only [h, decide_true, if_true]
    generalize usedP f.1.1 x.2.2.1 = u1
    generalize usedP f.1.2.1 x.2.2.2.1 = u2
    generalize inB x.2.1 0 5 = u3
    generalize inB x.2.2.2.2 f.1.2.2.1 f.1.2.2.2.1 = u4
    generalize f.2 = u5
    cases u1 <;> cases u2 <;> cases u3 <;> cases u4 <;> cases u5 <;> rfl
  · simp only [h, decide_false, if_false]
    generalize usedP f.1.1 x.2.2.1 = u1
    generalize usedP f.1.2.1 x.2.2.2.1 = u2
    generalize inB x.2.1 0 5 = u3
    generalize decide (x.2.2.2.2 = 0) = u4
    generalize f.2 = u5
    cases u1 <;> cases u2 <;> cases u3 <;> cases u4 <;> cases u5 <;> rfl
theorem cdReg_f (r : Int) : spec_cdReg.f r = some (inB r 0 5) := by rw [spec_cdReg.eq, l1In_f]; rfl
theorem inB_zero (n : Int) : inB n 0 0 = decide (n = 0) := by
  rw [Bool.eq_iff_iff, inB_iff, decide_eq_true_iff]; omega
theorem used_reg (u : Bool) (r : Int) : usedP u r = (inB r 0 5 && (u || decide (r = 0))) := by
  unfold usedP
  by_cases h : r = 0
  · subst h; cases u <;> rfl
  · simp only [h, decide_false, Bool.or_false]
    cases u <;> simp
theorem reg_of {u : Bool} {r : Int} (h : usedP u r = true) : 0 ≤ r ∧ r ≤ 5 := by
  rw [used_reg] at h
  simp only [Bool.and_eq_true, inB_iff] at h
  exact h.1
theorem form_low (s : ByteArray) : 0 ≤ (formP s).1.2.2.1 ∧ (formP s).1.2.2.2.1 ≤ 63 := by
  unfold formP
  repeat' split
  all_goals (dsimp only; omega)
structure InsOk (x : Ins) : Prop where
  known : (formP x.1).2 = true
  d0 : 0 ≤ x.2.1
  d1 : x.2.1 ≤ 5
  ua : usedP (formP x.1).1.1 x.2.2.1 = true
  ub : usedP (formP x.1).1.2.1 x.2.2.2.1 = true
  im : immP (formP x.1).1 x.2.2.2.2 = true
  a0 : 0 ≤ x.2.2.1
  a1 : x.2.2.1 ≤ 5
  b0 : 0 ≤ x.2.2.2.1
  b1 : x.2.2.2.1 ≤ 5
  i0 : 0 ≤ x.2.2.2.2
  i1 : x.2.2.2.2 ≤ 63
theorem insOk_of {x : Ins} (h : insOk x = true) : InsOk x := by
  unfold insOk at h
  simp only [Bool.and_eq_true, inB_iff] at h
  obtain ⟨⟨⟨⟨h1, h2⟩, h3⟩, h4⟩, h5⟩ := h
  have hl := form_low x.1
  have h6 : 0 ≤ x.2.2.2.2 ∧ x.2.2.2.2 ≤ 63 := by
    have h5 := h5
    unfold immP at h5
    split at h5
    · rw [inB_iff] at h5; omega
    · have := of_decide_eq_true h5; omega
  exact ⟨h1, h2.1, h2.2, h3, h4, h5, (reg_of h3).1, (reg_of h3).2, (reg_of h4).1, (reg_of h4).2, h6.1, h6.2⟩

/-! ### code -/
def codeOk (c : List Ins) : Bool := decide (c.length ≤ 40) && c.all insOk
theorem isCode1_v (x : Ins) : impl_IsCode_1.v x = some (!insOk x) := impl_IsCode_1.vs _ (by rw [isInstr_v, bd_s])
theorem contCode_v (c : List Ins) (hl : c.length ≤ 1000000) : slices_ContainsFunc_Instr.v c = some (!c.all insOk) := by
  have key : ∀ (d i : Nat), i + d = c.length → ∃ r : Int, slices_IndexFunc_Instr.v0 c (c.length : Int) (i : Int) = some r ∧ (0 ≤ r ↔ (c.drop i).all insOk = false) := by
    intro d
    induction d with
    | zero =>
      intro i hi
      refine ⟨-1, slices_IndexFunc_Instr.v0s _ _ _ (by rw [br_f (by simp; omega)]), ?_⟩
      rw [List.drop_eq_nil_of_le (by omega)]; simp
    | succ d ih =>
      intro i hi
      have hlt : i < c.length := by omega
      rw [drop_at _ _ hlt, List.all_cons]
      cases e : insOk c[i] with
      | false => exact ⟨i, slices_IndexFunc_Instr.v0s _ _ _ (by rw [br_t (by simpa using hlt), br_t (by simp), Int.toNat_natCast, gt_at _ hlt, isCode1_v, bd_s, e, brn_f]), by simp⟩
      | true =>
        obtain ⟨r, h, hr⟩ := ih (i + 1) (by omega)
        exact ⟨r, slices_IndexFunc_Instr.v0s _ _ _ (by rw [br_t (by simpa using hlt), br_t (by simp), Int.toNat_natCast, gt_at _ hlt, isCode1_v, bd_s, e, brn_t, next_ok i _ hlt (by omega), h]), by simpa using hr⟩
  obtain ⟨r, h, hr⟩ := key c.length 0 (by omega)
  refine slices_ContainsFunc_Instr.vs _ ?_
  rw [slices_IndexFunc_Instr.vs _ h, bd_s]
  congr 1
  rw [List.drop_zero] at hr
  rw [Bool.eq_iff_iff, decide_eq_true_iff]
  simpa using hr
theorem isCode_v (c : List Ins) (hl : c.length ≤ 1000000) : impl_IsCode.v c = some (codeOk c) := by
  refine impl_IsCode.vs _ ?_
  unfold codeOk
  by_cases h : c.length ≤ 40
  · rw [br_t (decide_eq_true (by omega)), contCode_v c hl, bd_s]; simp [h]
  · rw [br_f (decide_eq_false (by omega))]; simp [h]
/-! ### registers -/
def regsOk (l : List Int) : Bool := decide (l.length = 6) && l.all fun x => inB x 0 63
theorem regsOk_iff {l : List Int} : regsOk l = true ↔ l.length = 6 ∧ words l := by
  unfold regsOk words word
  simp only [Bool.and_eq_true, decide_eq_true_iff, List.all_eq_true, inB_iff]
theorem contRegs_v (c : List Int) (hl : c.length ≤ 1000000) : slices_ContainsFunc_int_areRegs.v c = some (!c.all fun x => inB x 0 63) := by
  have key : ∀ (d i : Nat), i + d = c.length → ∃ r : Int, slices_IndexFunc_int_areRegs.v0 c (c.length : Int) (i : Int) = some r ∧ (0 ≤ r ↔ (c.drop i).all (fun x => inB x 0 63) = false) := by
    intro d
    induction d with
    | zero =>
      intro i hi
      refine ⟨-1, slices_IndexFunc_int_areRegs.v0s _ _ _ (by rw [br_f (by simp; omega)]), ?_⟩
      rw [List.drop_eq_nil_of_le (by omega)]; simp
    | succ d ih =>
      intro i hi
      have hlt : i < c.length := by omega
      rw [drop_at _ _ hlt, List.all_cons]
      cases e : inB c[i] 0 63 with
      | false => exact ⟨i, slices_IndexFunc_int_areRegs.v0s _ _ _ (by rw [br_t (by simpa using hlt), br_t (by simp), Int.toNat_natCast, gt_at _ hlt, impl_areRegs_1.eq, isWord_f, bd_s, e, bd_s, brn_f]), by simp⟩
      | true =>
        obtain ⟨r, h, hr⟩ := ih (i + 1) (by omega)
        exact ⟨r, slices_IndexFunc_int_areRegs.v0s _ _ _ (by rw [br_t (by simpa using hlt), br_t (by simp), Int.toNat_natCast, gt_at _ hlt, impl_areRegs_1.eq, isWord_f, bd_s, e, bd_s, brn_t, next_ok i _ hlt (by omega), h]), by simpa using hr⟩
  obtain ⟨r, h, hr⟩ := key c.length 0 (by omega)
  refine slices_ContainsFunc_int_areRegs.vs _ ?_
  rw [slices_IndexFunc_int_areRegs.vs _ h, bd_s]
  congr 1
  rw [List.drop_zero] at hr
  rw [Bool.eq_iff_iff, decide_eq_true_iff]
  simpa using hr
theorem areRegs_v (c : List Int) (hl : c.length ≤ 1000000) : impl_areRegs.v c = some (regsOk c) := by
  refine impl_areRegs.vs _ ?_
  unfold regsOk
  by_cases h : c.length = 6
  · rw [br_t (by rw [beq_dec]; exact decide_eq_true (by omega)), contRegs_v c hl, bd_s]; simp [h]
  · rw [br_f (by rw [beq_dec]; exact decide_eq_false (by omega))]; simp [h]
end Go.Proofs.YtokdmaoconegkaaGreat.Am
end
section
/- Code that runs: what instructions write, the registers behind them: the program's functions and the reference's answer alike. -/
namespace Go.Proofs.YtokdmaoconegkaaGreat.Am
open Go
set_option linter.unusedVariables false
set_option linter.unusedSimpArgs false

def isImm (s : ByteArray) : Bool := decide (s = tAddi) || decide (s = tAndi) || decide (s = tXori) || decide (s = tShli) || decide (s = tShri)
/-- the word that an instruction writes -/
noncomputable def wrdP (x : Ins) (a b : Int) : Int :=
  if x.1 = tSet then x.2.2.2.2 else if x.1 = tMov then a else if x.1 = tLea then appP tAdd a (appP tShl b x.2.2.2.2)
  else if isImm x.1 = true then appP (x.1.extract 0 3) a x.2.2.2.2 else appP x.1 a b
theorem wrdP_word {x : Ins} (h : InsOk x) {a b : Int} (ha : word a) (hb : word b) : word (wrdP x a b) := by
  unfold wrdP
  split
  · exact ⟨h.i0, h.i1⟩
  split
  · exact ha
  split
  · exact appP_word _ _ _ (appP_word _ _ _ h.i0).1
  split
  · exact appP_word _ _ _ h.i0
  · exact appP_word _ _ _ hb.1
theorem word_f {x : Ins} (h : InsOk x) {a b : Int} (hb : word b) : impl_Instr_word.f x a b = some (wrdP x a b) := by
  have hi := h.i0
  obtain ⟨s, d, p, q, im⟩ := x
  dsimp only at hi
  rw [impl_Instr_word.eq]
  unfold wrdP isImm
  dsimp only
  simp only [seq_beq, br_if, decide_eq_true_eq]
  have e3 : Int.toNat (3 : Int) = 3 := rfl
  have e0 : Int.toNat (0 : Int) = 0 := rfl
  by_cases c1 : s = tSet
  · subst c1; rfl
  by_cases c2 : s = tMov
  · subst c2; rfl
  by_cases c3 : s = tLea
  · subst c3
    simp only [c1, c2, if_false, if_true]
    rw [apply_f _ _ _ hi, bd_s, apply_f _ _ _ (appP_word _ _ _ hi).1, bd_s]
  simp only [c1, c2, c3, if_false, e3, e0]
  by_cases c4 : s = tAddi
  · subst c4; simp only [if_true, if_false, decide_true, Bool.true_or]
    rw [apply_f _ _ _ hi]; rfl
  by_cases c5 : s = tAndi
  · subst c5; simp only [if_true, if_false, decide_true, Bool.true_or, Bool.or_true, c4]
    rw [apply_f _ _ _ hi]; rfl
  by_cases c6 : s = tXori
  · subst c6; simp only [if_true, if_false, decide_true, Bool.true_or, Bool.or_true, c4, c5]
    rw [apply_f _ _ _ hi]; rfl
  by_cases c7 : s = tShli
  · subst c7; simp only [if_true, if_false, decide_true, Bool.true_or, Bool.or_true, c4, c5, c6]
    rw [apply_f _ _ _ hi]; rfl
  by_cases c8 : s = tShri
  · subst c8; simp only [if_true, if_false, decide_true, Bool.true_or, Bool.or_true, c4, c5, c6, c7]
    rw [apply_f _ _ _ hi]; rfl
  simp only [c4, c5, c6, c7, c8, if_false, decide_false, Bool.or_self, Bool.false_eq_true]
  rw [apply_f _ _ _ hb.1, bd_s]
/-! ### steps -/
noncomputable def stepP (x : Ins) (l : List Int) : List Int := l.set x.2.1.toNat (wrdP x (l.getD x.2.2.1.toNat 0) (l.getD x.2.2.2.1.toNat 0))
noncomputable def runP (c : List Ins) (l : List Int) : List Int := c.foldl (fun r x => stepP x r) l
structure Regs (l : List Int) : Prop where
  len : l.length = 6
  ws : words l
theorem Regs.get {l : List Int} (h : Regs l) (j : Nat) : word (l.getD j 0) := words_get h.ws j
theorem Regs.set {l : List Int} (h : Regs l) {x : Int} (hx : word x) (j : Nat) : Regs (l.set j x) := by
  refine ⟨by rw [List.length_set]; exact h.len, fun y hy => ?_⟩
  rcases List.mem_or_eq_of_mem_set hy with hy | rfl
  · exact h.ws y hy
  · exact hx
theorem regs_of {l : List Int} (h : regsOk l = true) : Regs l := ⟨(regsOk_iff.1 h).1, (regsOk_iff.1 h).2⟩
theorem Regs.ok {l : List Int} (h : Regs l) : regsOk l = true := regsOk_iff.2 ⟨h.len, h.ws⟩
theorem Regs.step {l : List Int} (h : Regs l) {x : Ins} (hx : InsOk x) : Regs (stepP x l) := h.set (wrdP_word hx (h.get _) (h.get _)) _
theorem stepP_len (x : Ins) (l : List Int) : (stepP x l).length = l.length := List.length_set
def Inss (c : List Ins) : Prop := ∀ x ∈ c, InsOk x
theorem Inss.cons {x : Ins} {c : List Ins} (h : Inss (x :: c)) : InsOk x ∧ Inss c := ⟨h x List.mem_cons_self, fun y hy => h y (List.mem_cons_of_mem x hy)⟩
structure CodeOk (c : List Ins) : Prop where
  len : c.length ≤ 40
  all : Inss c
theorem code_of {c : List Ins} (h : codeOk c = true) : CodeOk c := by
  unfold codeOk at h
  simp only [Bool.and_eq_true, decide_eq_true_iff, List.all_eq_true] at h
  exact ⟨h.1, fun x hx => insOk_of (h.2 x hx)⟩
theorem InsOk.ok {x : Ins} (h : InsOk x) : insOk x = true := by
  unfold insOk
  simp only [Bool.and_eq_true, inB_iff]
  exact ⟨⟨⟨⟨h.known, h.d0, h.d1⟩, h.ua⟩, h.ub⟩, h.im⟩
theorem CodeOk.ok {c : List Ins} (h : CodeOk c) : codeOk c = true := by
  unfold codeOk
  simp only [Bool.and_eq_true, decide_eq_true_iff, List.all_eq_true]
  exact ⟨h.len, fun x hx => (h.all x hx).ok⟩
theorem Regs.run {c : List Ins} (hc : Inss c) {l : List Int} (h : Regs l) : Regs (runP c l) := by
  induction c generalizing l with
  | nil => exact h
  | cons x c ih => exact ih hc.cons.2 (h.step hc.cons.1)
theorem run_v {c : List Ins} (hc : Inss c) (hl : c.length ≤ 1000000) {l : List Int} (h : Regs l) : impl_run.v c l = some ((), runP c l) := by
  have key : ∀ (d i : Nat) (l : List Int), i + d = c.length → Regs l → impl_run.v0 c (c.length : Int) (i : Int) l = some ((), runP (c.drop i) l) := by
    intro d
    induction d with
    | zero =>
      intro i l hi h
      refine impl_run.v0s _ _ _ _ ?_
      rw [br_f (by simp; omega), List.drop_eq_nil_of_le (by omega)]; rfl
    | succ d ih =>
      intro i l hi h
      have hlt : i < c.length := by omega
      have hx := hc _ (List.getElem_mem hlt)
      have hn := h.len
      refine impl_run.v0s _ _ _ _ ?_
      rw [br_t (by simpa using hlt), br_t (by simp), Int.toNat_natCast, gt_at _ hlt]
      rw [br_t (decide_eq_true hx.a0), br_t (decide_eq_true (by have := hx.a1; omega)), gt_some (getD_at hx.a0 (by have := hx.a1; omega))]
      rw [br_t (decide_eq_true hx.b0), br_t (decide_eq_true (by have := hx.b1; omega)), gt_some (getD_at hx.b0 (by have := hx.b1; omega))]
      rw [word_f hx (h.get _), bd_s]
      rw [br_t (decide_eq_true hx.d0), br_t (decide_eq_true (by have := hx.d1; omega)), gt_some (getD_at hx.d0 (by have := hx.d1; omega)), next_ok i _ hlt (by omega)]
      rw [drop_at _ _ hlt]
      exact ih (i + 1) _ (by omega) (h.step hx)
  exact impl_run.vs _ _ (by have := key c.length 0 l (by omega) h; simpa using this)
theorem clone_f (l : List Int) (h : l.length ≤ 1000000) : slices_Clone_int.f l = some (l, ()) := by
  rw [slices_Clone_int.eq]
  have e : decide (0 + l.length ≤ 35184372088832 / (8 + 1)) = true := decide_eq_true (by omega)
  rw [br_t e, List.nil_append]
  cases l with
  | nil => rw [br_f (by simp), both_same]
  | cons x r => rw [br_t (by simp)]
theorem runCode_v (c : List Ins) (hc : c.length ≤ 1000000) (l : List Int) (hl : l.length ≤ 1000000) :
    impl_RunCode.v c l = some (if codeOk c && regsOk l then (runP c l, true) else ([], false)) := by
  refine impl_RunCode.vs _ _ ?_
  rw [isCode_v c hc, bd_s]
  cases h1 : codeOk c with
  | false => rw [brn_f]; rfl
  | true =>
    rw [brn_t, areRegs_v l hl, bd_s]
    cases h2 : regsOk l with
    | false => rw [brn_f]; rfl
    | true => rw [brn_t, clone_f l hl, bd_s, run_v (code_of h1).all hc (regs_of h2), bd_s]; rfl
theorem stepInstr_v (x : Ins) (l : List Int) (hl : l.length ≤ 1000000) :
    impl_StepInstr.v x l = some (if insOk x && regsOk l then (stepP x l, true) else ([], false)) := by
  refine impl_StepInstr.vs _ _ ?_
  rw [runCode_v [x] (by simp) l hl, bd_s]
  have : codeOk [x] = insOk x := by unfold codeOk; simp
  rw [this]; rfl

end Go.Proofs.YtokdmaoconegkaaGreat.Am
end
section
/- What the instructions of tiles compute: the values of their nodes. -/
namespace Go.Proofs.YtokdmaoconegkaaGreat.Am
open Go
set_option linter.unusedVariables false
set_option linter.unusedSimpArgs false

/-! ### what instructions cost -/
theorem formCost {s : ByteArray} (h : (formP s).2 = true) : (formP s).1.2.2.2.2.1 = opCost s := by
  by_cases hs : s ∈ allOps
  · simp only [allOps, opsL, List.cons_append, List.nil_append, List.mem_cons, List.not_mem_nil, or_false] at hs
    rcases hs with rfl | rfl | rfl | rfl | rfl | rfl | rfl | rfl | rfl | rfl | rfl | rfl | rfl | rfl | rfl | rfl | rfl | rfl | rfl | rfl <;> decide
  · rw [form_none hs] at h; cases h
theorem cost_v {x : Ins} (h : InsOk x) : impl_Instr_cost.v x = some (opCost x.1) := by
  refine impl_Instr_cost.vs _ ?_
  rw [formOf_v, bd_s, formCost h.known]
theorem costOfInstr_v (x : Ins) : impl_CostOfInstr.v x = some (if insOk x then (opCost x.1, true) else (0, false)) := by
  refine impl_CostOfInstr.vs _ ?_
  rw [isInstr_v, bd_s]
  cases h : insOk x with
  | false => rw [brn_f]; rfl
  | true => rw [brn_t, cost_v (insOk_of h), bd_s]; rfl

/-! ### ops on words -/
theorem m63 (y : Int) : IntKind.wrap .i64 (((BitVec.toNat ((BitVec.ofInt 64 y) &&& (BitVec.ofInt 64 (63 : Int)))) : Nat) : Int) = y % 64 := by
  have e : (BitVec.toNat ((BitVec.ofInt 64 y) &&& (BitVec.ofInt 64 (63 : Int)))) = (BitVec.ofInt 64 y).toNat % 64 := by
    rw [BitVec.toNat_and]
    exact Nat.and_two_pow_sub_one_eq_mod _ 6
  rw [e, BitVec.toNat_ofInt]
  have h2 : ((2 ^ 64 : Nat) : Int) = 18446744073709551616 := by decide
  rw [h2, wrap_ok (by omega) (by omega)]
  omega
section
variable {a b : Int}
theorem mul_word (ha : word a) (hb : word b) : 0 ≤ a * b ∧ a * b ≤ 63 * 63 := ⟨Int.mul_nonneg ha.1 hb.1, Int.mul_le_mul ha.2 hb.2 hb.1 (by decide)⟩
theorem app_add (ha : word a) (hb : word b) : appP tAdd a b = (a + b) % 64 := by
  obtain ⟨a0, a1⟩ := ha; obtain ⟨b0, b1⟩ := hb
  unfold appP
  rw [impl_apply.eq, br_f (seq_f (by decide)), br_f (seq_f (by decide)), br_t (seq_t rfl), m63, wrap_ok (by omega) (by omega)]; rfl
theorem app_sub (ha : word a) (hb : word b) : appP tSub a b = (a - b) % 64 := by
  obtain ⟨a0, a1⟩ := ha; obtain ⟨b0, b1⟩ := hb
  unfold appP
  rw [impl_apply.eq, br_f (seq_f (by decide)), br_f (seq_f (by decide)), br_f (seq_f (by decide)), br_t (seq_t rfl), m63, wrap_ok (by omega) (by omega)]; rfl
theorem app_mul (ha : word a) (hb : word b) : appP tMul a b = (a * b) % 64 := by
  obtain ⟨h0, h1⟩ := mul_word ha hb
  unfold appP
  rw [impl_apply.eq, br_f (seq_f (by decide)), br_f (seq_f (by decide)), br_f (seq_f (by decide)), br_f (seq_f (by decide)), br_t (seq_t rfl), m63, wrap_ok (by omega) (by omega)]; rfl
abbrev tAnd : ByteArray := ⟨#[97, 110, 100]⟩
abbrev tXor : ByteArray := ⟨#[120, 111, 114]⟩
theorem app_and_comm (a b : Int) : appP tAnd a b = appP tAnd b a := by
  unfold appP
  rw [impl_apply.eq, impl_apply.eq]
  iterate 5 rw [br_f (seq_f (by decide))]
  rw [br_t (seq_t rfl)]
  iterate 5 rw [br_f (seq_f (by decide))]
  rw [br_t (seq_t rfl), BitVec.and_comm (BitVec.ofInt 64 a)]
theorem app_xor_comm (a b : Int) : appP tXor a b = appP tXor b a := by
  unfold appP
  rw [impl_apply.eq, impl_apply.eq]
  iterate 7 rw [br_f (seq_f (by decide))]
  rw [br_t (seq_t rfl)]
  iterate 7 rw [br_f (seq_f (by decide))]
  rw [br_t (seq_t rfl), BitVec.xor_comm (BitVec.ofInt 64 a)]
theorem app_add_comm (ha : word a) (hb : word b) : appP tAdd a b = appP tAdd b a := by rw [app_add ha hb, app_add hb ha, Int.add_comm]
theorem app_mul_comm (ha : word a) (hb : word b) : appP tMul a b = appP tMul b a := by rw [app_mul ha hb, app_mul hb ha, Int.mul_comm]
theorem app_comm5 {s : ByteArray} (h : isIn ops5 s = true) (ha : word a) (hb : word b) : appP s a b = appP s b a := by
  unfold isIn ops5 at h
  simp only [List.any_cons, List.any_nil, Bool.or_eq_true, decide_eq_true_eq, Bool.or_false] at h
  rcases h with h | h | h <;> subst h
  · exact app_add_comm ha hb
  · exact app_and_comm a b
  · exact app_xor_comm a b
def isPow (x : Int) : Prop := x = 2 ∨ x = 4 ∨ x = 8 ∨ x = 16 ∨ x = 32
theorem app_shl_one (ha : word a) (k : Int) (w : Int) (h0 : 0 ≤ k) (h6 : k < 6) (hw : (2 : Int) ^ (Min.min (Int.toNat k) 64) = w) (hb : word w) : appP tShl a k = (a * w) % 64 := by
  obtain ⟨m0, m1⟩ := mul_word ha hb
  unfold appP
  rw [impl_apply.eq]
  iterate 8 rw [br_f (seq_f (by decide))]
  rw [br_t (seq_t rfl), br_t (decide_eq_true h6), br_t (decide_eq_true h0), hw, m63, wrap_ok (by omega) (by omega)]; rfl
theorem app_shl (ha : word a) {x : Int} (hx : isPow x) : appP tShl a (powP x) = appP tMul a x := by
  rcases hx with rfl | rfl | rfl | rfl | rfl
  · rw [app_mul ha ⟨by decide, by decide⟩, app_shl_one ha (powP 2) 2 (by decide) (by decide) (by decide) ⟨by decide, by decide⟩]
  · rw [app_mul ha ⟨by decide, by decide⟩, app_shl_one ha (powP 4) 4 (by decide) (by decide) (by decide) ⟨by decide, by decide⟩]
  · rw [app_mul ha ⟨by decide, by decide⟩, app_shl_one ha (powP 8) 8 (by decide) (by decide) (by decide) ⟨by decide, by decide⟩]
  · rw [app_mul ha ⟨by decide, by decide⟩, app_shl_one ha (powP 16) 16 (by decide) (by decide) (by decide) ⟨by decide, by decide⟩]
  · rw [app_mul ha ⟨by decide, by decide⟩, app_shl_one ha (powP 32) 32 (by decide) (by decide) (by decide) ⟨by decide, by decide⟩]
theorem neg_word (hb : word b) : Int.tmod (IntKind.wrap .i64 (64 - b)) 64 = (64 - b) % 64 := by
  obtain ⟨b0, b1⟩ := hb
  rw [wrap_ok (by omega) (by omega), Int.tmod_eq_emod_of_nonneg (by omega)]
theorem app_neg (ha : word a) (hb : word b) : appP tAdd a (Int.tmod (IntKind.wrap .i64 (64 - b)) 64) = appP tSub a b := by
  rw [neg_word hb, app_add ha ⟨by omega, by omega⟩, app_sub ha hb]
  omega
end

/-! ### the values of nodes -/
theorem fold_pre (x0 x1 : Int) : ∀ (l : List Nd) (o : List Int), ∃ s, l.foldl (fun o n => o ++ [nVal x0 x1 o n]) o = o ++ s
  | [], o => ⟨[], by simp⟩
  | n :: l, o => by
    obtain ⟨s, h⟩ := fold_pre x0 x1 l (o ++ [nVal x0 x1 o n])
    exact ⟨[nVal x0 x1 o n] ++ s, by rw [List.foldl_cons, h, List.append_assoc]⟩
theorem vals_pre (x0 x1 : Int) (e : List Nd) {i j : Nat} (h : j < i) (hi : i ≤ e.length) : (valsP x0 x1 (e.take i)).getD j 0 = (valsP x0 x1 e).getD j 0 := by
  have hl : (valsP x0 x1 (e.take i)).length = i := by rw [valsP_len, List.length_take]; omega
  obtain ⟨s, hs⟩ := fold_pre x0 x1 (e.drop i) (valsP x0 x1 (e.take i))
  have : valsP x0 x1 e = valsP x0 x1 (e.take i) ++ s := by
    rw [← hs]
    unfold valsP
    rw [← List.foldl_append, List.take_append_drop]
  rw [this, List.getD_eq_getElem?_getD, List.getD_eq_getElem?_getD, List.getElem?_append_left (by omega)]
noncomputable def vA (e : List Nd) (x0 x1 : Int) (p : Int) : Int := (valsP x0 x1 e).getD p.toNat 0
section
variable {e : List Nd} {x0 x1 : Int}
theorem vA_word (hn : nodesOk e 0 = true) (h0 : word x0) (h1 : word x1) (p : Int) : word (vA e x0 x1 p) := by
  have := valsP_words h0 h1 hn e.length (Nat.le_refl _)
  rw [List.take_length] at this
  exact words_get this _
theorem vA_node {i : Nat} (hi : i < e.length) : vA e x0 x1 (i : Int) = nVal x0 x1 (valsP x0 x1 (e.take i)) (ndAt e i) := by
  have hl : (valsP x0 x1 (e.take i)).length = i := by rw [valsP_len, List.length_take]; omega
  unfold vA
  rw [Int.toNat_natCast, ← vals_pre x0 x1 e (Nat.lt_succ_self i) hi, valsP_take x0 x1 hi, ndAt_nat hi, List.getD_eq_getElem?_getD, List.getElem?_append_right (by omega), hl, Nat.sub_self]; rfl
theorem vA_low {i : Nat} (hi : i ≤ e.length) {p : Int} (h0 : 0 ≤ p) (h : p < i) : (valsP x0 x1 (e.take i)).getD p.toNat 0 = vA e x0 x1 p := vals_pre x0 x1 e (by omega) hi
theorem vA_const {p : Int} (h0 : 0 ≤ p) (h : p < e.length) (c : (ndAt e p).1 = tConst) : vA e x0 x1 p = (ndAt e p).2.2.2 := by
  obtain ⟨i, rfl⟩ := Int.eq_ofNat_of_zero_le h0
  rw [vA_node (by omega)]; unfold nVal; rw [if_pos c]
theorem vA_one (hn : nodesOk e 0 = true) {p : Int} (h0 : 0 ≤ p) (h : p < e.length) (c : isOne (ndAt e p).1 = true) : vA e x0 x1 p = appP (ndAt e p).1 (vA e x0 x1 (ndAt e p).2.1) 0 := by
  obtain ⟨i, rfl⟩ := Int.eq_ofNat_of_zero_le h0
  have hk := ndAt_ok hn h0 h
  have c1 : (ndAt e (i : Int)).1 ≠ tIn := fun q => by rw [q] at c; revert c; decide
  have c2 : (ndAt e (i : Int)).1 ≠ tConst := fun q => by rw [q] at c; revert c; decide
  have hp := (one_parts hk c1 c2).1
  rw [vA_node (by omega)]; unfold nVal; rw [if_neg c2, if_neg c1, if_pos c, vA_low (by omega) hp.1 hp.2]
theorem vA_two (hn : nodesOk e 0 = true) {p : Int} (h0 : 0 ≤ p) (h : p < e.length) (c : isTwo (ndAt e p).1 = true) : vA e x0 x1 p = appP (ndAt e p).1 (vA e x0 x1 (ndAt e p).2.1) (vA e x0 x1 (ndAt e p).2.2.1) := by
  obtain ⟨i, rfl⟩ := Int.eq_ofNat_of_zero_le h0
  have hk := ndAt_ok hn h0 h
  obtain ⟨c1, c2, c3⟩ := isTwo_not c
  have hp := two_parts hk c
  rw [vA_node (by omega)]; unfold nVal; rw [if_neg c2, if_neg c1, if_neg (by rw [c3]; decide), vA_low (by omega) hp.1.1 hp.1.2, vA_low (by omega) hp.2.1 hp.2.2]

/-! ### instructions -/
theorem wrd_set (d A B w a b : Int) : wrdP (tSet, d, A, B, w) a b = w := by unfold wrdP; rw [if_pos rfl]
theorem wrd_lea (d A B w a b : Int) : wrdP (tLea, d, A, B, w) a b = appP tAdd a (appP tShl b w) := by
  unfold wrdP; rw [if_neg (by show ¬ tLea = tSet; decide), if_neg (by show ¬ tLea = tMov; decide), if_pos rfl]
theorem wrd_imm {s : ByteArray} (h : s = tAddi ∨ s = tAndi ∨ s = tXori ∨ s = tShli ∨ s = tShri) (d A B w a b : Int) : wrdP (s, d, A, B, w) a b = appP (s.extract 0 3) a w := by
  unfold wrdP
  rcases h with rfl | rfl | rfl | rfl | rfl <;> rfl
theorem plain_ops {s : ByteArray} (h : isOne s = true ∨ isTwo s = true) : s ≠ tSet ∧ s ≠ tMov ∧ s ≠ tLea ∧ isImm s = false := by
  have no : ∀ x : ByteArray, isOne x = false → isTwo x = false → s ≠ x := fun x h1 h2 q => by
    rw [q] at h
    rcases h with h | h
    · rw [h1] at h; cases h
    · rw [h2] at h; cases h
  refine ⟨no _ (by decide) (by decide), no _ (by decide) (by decide), no _ (by decide) (by decide), ?_⟩
  unfold isImm
  rw [decide_eq_false (no tAddi (by decide) (by decide)), decide_eq_false (no tAndi (by decide) (by decide)), decide_eq_false (no tXori (by decide) (by decide)), decide_eq_false (no tShli (by decide) (by decide)), decide_eq_false (no tShri (by decide) (by decide))]; rfl
theorem wrd_plain {s : ByteArray} (h : isOne s = true ∨ isTwo s = true) (d A B w a b : Int) : wrdP (s, d, A, B, w) a b = appP s a b := by
  obtain ⟨h1, h2, h3, h4⟩ := plain_ops h
  unfold wrdP
  rw [if_neg h1, if_neg h2, if_neg h3, if_neg (by rw [h4]; decide)]
theorem ok_set {d w : Int} (hd : inB d 0 5 = true) (hw : inB w 0 63 = true) : insOk (tSet, d, 0, 0, w) = true := by
  have hf : formP tSet = ((false, false, 0, 63, 1, tSet), true) := by decide
  unfold insOk usedP immP
  simp [hf, hd, hw]
theorem ok_imm {s : ByteArray} {d A w lo hi : Int} {c : Int} {z : ByteArray} (hf : formP s = ((true, false, lo, hi, c, z), true)) (hl : lo ≤ hi) (hd : inB d 0 5 = true) (hA : inB A 0 5 = true) (hw : inB w lo hi = true) : insOk (s, d, A, 0, w) = true := by
  unfold insOk usedP immP
  simp [hf, hd, hA, hw, hl]
theorem ok_lea {d A B w : Int} (hd : inB d 0 5 = true) (hA : inB A 0 5 = true) (hB : inB B 0 5 = true) (hw : inB w 1 3 = true) : insOk (tLea, d, A, B, w) = true := by
  have hf : formP tLea = ((true, true, 1, 3, 1, tLea), true) := by decide
  unfold insOk usedP immP
  simp [hf, hd, hA, hB, hw]
theorem ok_one {s : ByteArray} (h : isOne s = true) {d A : Int} (hd : inB d 0 5 = true) (hA : inB A 0 5 = true) : insOk (s, d, A, 0, 0) = true := by
  obtain ⟨h1, h2, h3, h4⟩ := plain_ops (.inl h)
  have hf : formP s = ((true, false, 1, 0, 1, s), true) := by unfold formP; rw [if_neg h1, if_neg h2, if_pos h]
  unfold insOk usedP immP
  simp [hf, hd, hA]
theorem ok_two {s : ByteArray} (h : isTwo s = true) {d A B : Int} (hd : inB d 0 5 = true) (hA : inB A 0 5 = true) (hB : inB B 0 5 = true) : insOk (s, d, A, B, 0) = true := by
  obtain ⟨h1, h2, h3, h4⟩ := plain_ops (.inr h)
  have h5 := (isTwo_not h).2.2
  have hf : formP s = ((true, true, 1, 0, opCost s, s), true) := by unfold formP; rw [if_neg h1, if_neg h2, if_neg (by rw [h5]; decide), if_pos h]
  unfold insOk usedP immP
  simp [hf, hd, hA, hB]

/-! ### tiles -/
theorem constM_some {b : Bool} {m : Nd} {S : List Int} {a c : Int} {p q : List Int} (h : constM b m S a c = some (p, q)) : b = true ∧ p = [a] ∧ q = [c] ∧ m.1 = tConst ∧ m.2.2.2 ∈ S := by
  unfold constM at h
  split at h
  · rename_i k
    simp only [Option.some.injEq, Prod.mk.injEq] at h
    exact ⟨k.1, h.1.symm, h.2.symm, isCn_parts k.2⟩
  · cases h
theorem deepM_some {b : Bool} {S : List Int} {a d : Int} {op : ByteArray} {p q : List Int} (h : deepM e b a d op S = some (p, q)) : b = true ∧ p = [a, (ndAt e d).2.1] ∧ q = [(ndAt e d).2.2.1, d] ∧ (ndAt e d).1 = op ∧ (ndAt e (ndAt e d).2.2.1).1 = tConst ∧ (ndAt e (ndAt e d).2.2.1).2.2.2 ∈ S := by
  unfold deepM at h
  split at h
  · rename_i k
    simp only [Option.some.injEq, Prod.mk.injEq] at h
    exact ⟨k.1, h.1.symm, h.2.symm, k.2.1, isCn_parts k.2.2⟩
  · cases h
/-- the instruction of a tile is one, costs what the tile costs, and writes its node's value -/
structure Sem (e : List Nd) (i t : Int) (p : List Int) (I : In5) : Prop where
  ok : insOk I = true
  cost : opCost I.1 = tCost e i t
  val : ∀ x0 x1, word x0 → word x1 → ∀ a b, word a → word b → (∀ y, p[0]? = some y → a = vA e x0 x1 y) → (∀ y, p[1]? = some y → b = vA e x0 x1 y) → wrdP I a b = vA e x0 x1 i
theorem imm4 {s : ByteArray} (h : isIn ops4 s = true) : s = tSub ∨ isIn ops5 s = true := by
  unfold isIn ops4 at h
  simp only [List.any_cons, List.any_nil, Bool.or_eq_true, decide_eq_true_eq, Bool.or_false] at h
  rcases h with h | h | h | h <;> subst h
  · exact .inr (by decide)
  · exact .inl rfl
  · exact .inr (by decide)
  · exact .inr (by decide)
theorem imm5 {s : ByteArray} (h : isIn ops5 s = true) : s ≠ tSub ∧ (s ++ (⟨#[105]⟩ : ByteArray) = tAddi ∨ s ++ (⟨#[105]⟩ : ByteArray) = tAndi ∨ s ++ (⟨#[105]⟩ : ByteArray) = tXori) ∧ (s ++ (⟨#[105]⟩ : ByteArray)).extract 0 3 = s ∧ opCost (s ++ (⟨#[105]⟩ : ByteArray)) = 1 ∧ ∃ z, formP (s ++ (⟨#[105]⟩ : ByteArray)) = ((true, false, 0, 63, 1, z), true) := by
  unfold isIn ops5 at h
  simp only [List.any_cons, List.any_nil, Bool.or_eq_true, decide_eq_true_eq, Bool.or_false] at h
  rcases h with h | h | h <;> subst h
  · exact ⟨by decide, .inl (by decide), by decide, by decide, tAdd, by decide⟩
  · exact ⟨by decide, .inr (.inl (by decide)), by decide, by decide, tAnd, by decide⟩
  · exact ⟨by decide, .inr (.inr (by decide)), by decide, by decide, tXor, by decide⟩
theorem imm6 {s : ByteArray} (h : isIn ops6 s = true) : s ≠ tSub ∧ (s ++ (⟨#[105]⟩ : ByteArray) = tShli ∨ s ++ (⟨#[105]⟩ : ByteArray) = tShri) ∧ (s ++ (⟨#[105]⟩ : ByteArray)).extract 0 3 = s ∧ opCost (s ++ (⟨#[105]⟩ : ByteArray)) = 1 ∧ ∃ z, formP (s ++ (⟨#[105]⟩ : ByteArray)) = ((true, false, 1, 5, 1, z), true) := by
  unfold isIn ops6 at h
  simp only [List.any_cons, List.any_nil, Bool.or_eq_true, decide_eq_true_eq, Bool.or_false] at h
  rcases h with h | h <;> subst h
  · exact ⟨by decide, .inl (by decide), by decide, by decide, tShl, by decide⟩
  · exact ⟨by decide, .inr (by decide), by decide, by decide, tShr, by decide⟩
theorem one_reg {regs : List Int} (h : regs.length = 1) (hr : regs.all (fun x => inB x 0 5) = true) : ∃ A, regs = [A] ∧ inB A 0 5 = true := by
  match regs, h with
  | [A], _ => exact ⟨A, rfl, by simpa using hr⟩
theorem two_regs {regs : List Int} (h : regs.length = 2) (hr : regs.all (fun x => inB x 0 5) = true) : ∃ A B, regs = [A, B] ∧ inB A 0 5 = true ∧ inB B 0 5 = true := by
  match regs, h with
  | [A, B], _ =>
    simp only [List.all_cons, List.all_nil, Bool.and_true, Bool.and_eq_true] at hr
    exact ⟨A, B, rfl, hr⟩
theorem pow_mem {x : Int} (h : x ∈ [(2 : Int), 4, 8, 16, 32]) : isPow x := by
  unfold isPow
  simpa using h
theorem pow3_mem {x : Int} (h : x ∈ [(2 : Int), 4, 8]) : isPow x ∧ inB (powP x) 1 3 = true := by
  simp only [List.mem_cons, List.not_mem_nil, or_false] at h
  rcases h with rfl | rfl | rfl
  · exact ⟨.inl rfl, by decide⟩
  · exact ⟨.inr (.inl rfl), by decide⟩
  · exact ⟨.inr (.inr (.inl rfl)), by decide⟩
theorem pow_in {x : Int} (h : isPow x) : inB (powP x) 1 5 = true := by
  rcases h with rfl | rfl | rfl | rfl | rfl <;> decide
theorem tile_sem (hn : nodesOk e 0 = true) {i : Nat} (hi : i < e.length) {t : Int} {p q : List Int} (h : tileM e (i : Int) t = some (p, q)) (z : t ≠ 0) {dst : Int} (hd : inB dst 0 5 = true) {regs : List Int} (hl : p.length = regs.length) (hr : regs.all (fun x => inB x 0 5) = true) :
    Sem e i t p (instrP (ndAt e i) t dst (regs.getD 0 0) (regs.getD 1 0) (wordOf e q)) := by
  have hk : nodeOk (ndAt e i) (i : Int) = true := ndAt_ok hn (by omega) (by omega)
  have i0 : (0 : Int) ≤ (i : Int) := by omega
  have i1 : (i : Int) < e.length := by omega
  unfold tileM tileN at h
  rw [if_neg z] at h
  by_cases t1 : t = 1
  · rw [if_pos t1] at h
    by_cases c : (ndAt e (i : Int)).1 = tConst
    · rw [if_pos c] at h; simp only [Option.some.injEq, Prod.mk.injEq] at h; obtain ⟨rfl, rfl⟩ := h
      have : regs = [] := List.length_eq_zero_iff.1 hl.symm
      subst this; subst t1
      refine ⟨ok_set hd (inB_iff.2 (const_word hk c)), by show opCost tSet = 1; decide, fun x0 x1 h0 h1 a b ha hb e0 e1 => ?_⟩
      exact (wrd_set _ _ _ _ _ _).trans (vA_const i0 i1 c).symm
    · rw [if_neg c] at h; cases h
  rw [if_neg t1] at h
  by_cases t2 : t = 2
  · rw [if_pos t2] at h
    by_cases c : isOne (ndAt e (i : Int)).1 = true
    · rw [if_pos c] at h; simp only [Option.some.injEq, Prod.mk.injEq] at h; obtain ⟨rfl, rfl⟩ := h
      obtain ⟨A, rfl, hA⟩ := one_reg hl.symm hr
      subst t2
      refine ⟨ok_one c hd hA, by unfold tCost tCostN; rcases isOne_mem c with q | q <;> (show opCost (ndAt e (i : Int)).1 = _; rw [q]; decide), fun x0 x1 h0 h1 a b ha hb e0 e1 => ?_⟩
      refine (wrd_plain (.inl c) _ _ _ _ _ _).trans ?_
      rw [vA_one hn i0 i1 c, appP_one c, e0 _ rfl]
    · rw [if_neg c] at h; cases h
  rw [if_neg t2] at h
  by_cases t3 : t = 3
  · rw [if_pos t3] at h
    by_cases c : isTwo (ndAt e (i : Int)).1 = true
    · rw [if_pos c] at h; simp only [Option.some.injEq, Prod.mk.injEq] at h; obtain ⟨rfl, rfl⟩ := h
      obtain ⟨A, B, rfl, hA, hB⟩ := two_regs hl.symm hr
      subst t3
      refine ⟨ok_two c hd hA hB, by unfold tCost tCostN; rw [if_neg (by decide), if_pos rfl]; rfl, fun x0 x1 h0 h1 a b ha hb e0 e1 => ?_⟩
      refine (wrd_plain (.inr c) _ _ _ _ _ _).trans ?_
      rw [vA_two hn i0 i1 c, e0 _ rfl, e1 _ rfl]
    · rw [if_neg c] at h; cases h
  rw [if_neg t3] at h
  have cost1 : ∀ {s : ByteArray}, opCost s = 1 → opCost s = tCost e i t := fun hs => by unfold tCost tCostN; rw [if_neg z, if_neg t3]; exact hs
  by_cases t4 : t = 4
  · rw [if_pos t4] at h
    obtain ⟨b4, rfl, rfl, c1, c2⟩ := constM_some h
    have h2 := in4 b4
    have hp := two_parts hk h2
    obtain ⟨A, rfl, hA⟩ := one_reg hl.symm hr
    have hw : word (ndAt e (ndAt e (i : Int)).2.2.1).2.2.2 := mem_words.1 c2
    have hI : instrP (ndAt e i) t dst ([A].getD 0 0) ([A].getD 1 0) (wordOf e [(ndAt e (i : Int)).2.2.1]) = (if (ndAt e (i : Int)).1 = tSub then ((⟨#[97, 100, 100, 105]⟩ : ByteArray), dst, A, 0, Int.tmod (IntKind.wrap .i64 (64 - (ndAt e (ndAt e (i : Int)).2.2.1).2.2.2)) 64) else ((ndAt e (i : Int)).1 ++ (⟨#[105]⟩ : ByteArray), dst, A, 0, (ndAt e (ndAt e (i : Int)).2.2.1).2.2.2)) := by
      subst t4; rfl
    rw [hI]
    rcases imm4 b4 with c | c
    · rw [if_pos c]
      refine ⟨ok_imm (s := tAddi) (z := tAdd) (c := 1) (lo := 0) (hi := 63) (by decide) (by decide) hd hA (by rw [neg_word hw, inB_iff]; omega), cost1 (by show opCost tAddi = 1; decide), fun x0 x1 h0 h1 a b ha hb e0 e1 => ?_⟩
      refine (wrd_imm (s := tAddi) (.inl rfl) _ _ _ _ _ _).trans ?_
      refine (app_neg ha hw).trans ?_
      rw [vA_two hn i0 i1 h2, c, ← e0 _ rfl, vA_const hp.2.1 (by omega) c1]
    · obtain ⟨n1, n2, n3, n4, z5, n5⟩ := imm5 c
      rw [if_neg n1]
      refine ⟨ok_imm n5 (by decide) hd hA (inB_iff.2 hw), cost1 n4, fun x0 x1 h0 h1 a b ha hb e0 e1 => ?_⟩
      refine (wrd_imm (by rcases n2 with n | n | n <;> simp [n]) _ _ _ _ _ _).trans ?_
      rw [n3, vA_two hn i0 i1 h2, ← e0 _ rfl, vA_const hp.2.1 (by omega) c1]
  rw [if_neg t4] at h
  by_cases t5 : t = 5
  · rw [if_pos t5] at h
    obtain ⟨b5, rfl, rfl, c1, c2⟩ := constM_some h
    have h2 := in5 b5
    have hp := two_parts hk h2
    obtain ⟨A, rfl, hA⟩ := one_reg hl.symm hr
    have hw : word (ndAt e (ndAt e (i : Int)).2.1).2.2.2 := mem_words.1 c2
    obtain ⟨n1, n2, n3, n4, z5, n5⟩ := imm5 b5
    have hI : instrP (ndAt e i) t dst ([A].getD 0 0) ([A].getD 1 0) (wordOf e [(ndAt e (i : Int)).2.1]) = ((ndAt e (i : Int)).1 ++ (⟨#[105]⟩ : ByteArray), dst, A, 0, (ndAt e (ndAt e (i : Int)).2.1).2.2.2) := by
      subst t5; unfold instrP; rw [if_neg (by decide), if_pos (by decide), if_neg n1]; rfl
    rw [hI]
    refine ⟨ok_imm n5 (by decide) hd hA (inB_iff.2 hw), cost1 n4, fun x0 x1 h0 h1 a b ha hb e0 e1 => ?_⟩
    refine (wrd_imm (by rcases n2 with n | n | n <;> simp [n]) _ _ _ _ _ _).trans ?_
    rw [n3, vA_two hn i0 i1 h2, ← e0 _ rfl, vA_const hp.1.1 (by omega) c1, app_comm5 b5 ha hw]
  rw [if_neg t5] at h
  by_cases t6 : t = 6
  · rw [if_pos t6] at h
    obtain ⟨b6, rfl, rfl, c1, c2⟩ := constM_some h
    have h2 := in6 b6
    have hp := two_parts hk h2
    obtain ⟨A, rfl, hA⟩ := one_reg hl.symm hr
    obtain ⟨n1, n2, n3, n4, z5, n5⟩ := imm6 b6
    have hI : instrP (ndAt e i) t dst ([A].getD 0 0) ([A].getD 1 0) (wordOf e [(ndAt e (i : Int)).2.2.1]) = ((ndAt e (i : Int)).1 ++ (⟨#[105]⟩ : ByteArray), dst, A, 0, (ndAt e (ndAt e (i : Int)).2.2.1).2.2.2) := by
      subst t6; unfold instrP; rw [if_neg (by decide), if_pos (by decide), if_neg n1]; rfl
    rw [hI]
    refine ⟨ok_imm n5 (by decide) hd hA (by rw [inB_iff]; simp only [List.mem_cons, List.not_mem_nil, or_false] at c2; omega), cost1 n4, fun x0 x1 h0 h1 a b ha hb e0 e1 => ?_⟩
    refine (wrd_imm (by rcases n2 with n | n <;> simp [n]) _ _ _ _ _ _).trans ?_
    rw [n3, vA_two hn i0 i1 h2, ← e0 _ rfl, vA_const hp.2.1 (by omega) c1]
  rw [if_neg t6] at h
  by_cases t7 : t = 7
  · rw [if_pos t7] at h
    obtain ⟨b7, rfl, rfl, c1, c2⟩ := constM_some h
    have b7 := of_decide_eq_true b7
    have h2 : isTwo (ndAt e (i : Int)).1 = true := by rw [b7]; decide
    have hp := two_parts hk h2
    obtain ⟨A, rfl, hA⟩ := one_reg hl.symm hr
    have hw := pow_mem c2
    subst t7
    refine ⟨ok_imm (s := tShli) (z := tShl) (c := 1) (lo := 1) (hi := 5) (by decide) (by decide) hd hA (pow_in hw), cost1 (by show opCost tShli = 1; decide), fun x0 x1 h0 h1 a b ha hb e0 e1 => ?_⟩
    refine (wrd_imm (s := tShli) (.inr (.inr (.inr (.inl rfl)))) _ _ _ _ _ _).trans ?_
    refine (app_shl ha hw).trans ?_
    rw [vA_two hn i0 i1 h2, b7, ← e0 _ rfl, vA_const hp.2.1 (by omega) c1]
  rw [if_neg t7] at h
  by_cases t8 : t = 8
  · rw [if_pos t8] at h
    obtain ⟨b8, rfl, rfl, c1, c2⟩ := constM_some h
    have b8 := of_decide_eq_true b8
    have h2 : isTwo (ndAt e (i : Int)).1 = true := by rw [b8]; decide
    have hp := two_parts hk h2
    obtain ⟨A, rfl, hA⟩ := one_reg hl.symm hr
    have hw := pow_mem c2
    subst t8
    refine ⟨ok_imm (s := tShli) (z := tShl) (c := 1) (lo := 1) (hi := 5) (by decide) (by decide) hd hA (pow_in hw), cost1 (by show opCost tShli = 1; decide), fun x0 x1 h0 h1 a b ha hb e0 e1 => ?_⟩
    refine (wrd_imm (s := tShli) (.inr (.inr (.inr (.inl rfl)))) _ _ _ _ _ _).trans ?_
    refine (app_shl ha hw).trans ?_
    rw [vA_two hn i0 i1 h2, b8, ← e0 _ rfl, app_mul_comm (vA_word hn h0 h1 _) ha, vA_const hp.1.1 (by omega) c1]
  rw [if_neg t8] at h
  by_cases t9 : t = 9
  · rw [if_pos t9] at h
    obtain ⟨b9, rfl, rfl, c0, c1, c2⟩ := deepM_some h
    have b9 := of_decide_eq_true b9
    have h2 : isTwo (ndAt e (i : Int)).1 = true := by rw [b9]; decide
    have hp := two_parts hk h2
    have h3 : isTwo (ndAt e (ndAt e (i : Int)).2.2.1).1 = true := by rw [c0]; decide
    have hq := two_parts (ndAt_ok hn hp.2.1 (by omega)) h3
    obtain ⟨A, B, rfl, hA, hB⟩ := two_regs hl.symm hr
    subst t9
    refine ⟨ok_lea hd hA hB (by show inB (ndAt e (ndAt e (ndAt e (i : Int)).2.2.1).2.2.1).2.2.2 1 3 = true; rw [inB_iff]; simp only [List.mem_cons, List.not_mem_nil, or_false] at c2; omega), cost1 (by show opCost tLea = 1; decide), fun x0 x1 h0 h1 a b ha hb e0 e1 => ?_⟩
    refine (wrd_lea _ _ _ _ _ _).trans ?_
    rw [vA_two hn i0 i1 h2, b9, vA_two hn hp.2.1 (by omega) h3, c0, ← e0 _ rfl, ← e1 _ rfl, vA_const hq.2.1 (by omega) c1]; rfl
  rw [if_neg t9] at h
  by_cases t10 : t = 10
  · rw [if_pos t10] at h
    obtain ⟨b9, rfl, rfl, c0, c1, c2⟩ := deepM_some h
    have b9 := of_decide_eq_true b9
    have h2 : isTwo (ndAt e (i : Int)).1 = true := by rw [b9]; decide
    have hp := two_parts hk h2
    have h3 : isTwo (ndAt e (ndAt e (i : Int)).2.1).1 = true := by rw [c0]; decide
    have hq := two_parts (ndAt_ok hn hp.1.1 (by omega)) h3
    obtain ⟨A, B, rfl, hA, hB⟩ := two_regs hl.symm hr
    subst t10
    refine ⟨ok_lea hd hA hB (by show inB (ndAt e (ndAt e (ndAt e (i : Int)).2.1).2.2.1).2.2.2 1 3 = true; rw [inB_iff]; simp only [List.mem_cons, List.not_mem_nil, or_false] at c2; omega), cost1 (by show opCost tLea = 1; decide), fun x0 x1 h0 h1 a b ha hb e0 e1 => ?_⟩
    refine (wrd_lea _ _ _ _ _ _).trans ?_
    rw [vA_two hn i0 i1 h2, b9, app_add_comm (vA_word hn h0 h1 _) (vA_word hn h0 h1 _), vA_two hn hp.1.1 (by omega) h3, c0, ← e0 _ rfl, ← e1 _ rfl, vA_const hq.2.1 (by omega) c1]; rfl
  rw [if_neg t10] at h
  by_cases t11 : t = 11
  · rw [if_pos t11] at h
    obtain ⟨b9, rfl, rfl, c0, c1, c2⟩ := deepM_some h
    have b9 := of_decide_eq_true b9
    have h2 : isTwo (ndAt e (i : Int)).1 = true := by rw [b9]; decide
    have hp := two_parts hk h2
    have h3 : isTwo (ndAt e (ndAt e (i : Int)).2.2.1).1 = true := by rw [c0]; decide
    have hq := two_parts (ndAt_ok hn hp.2.1 (by omega)) h3
    obtain ⟨A, B, rfl, hA, hB⟩ := two_regs hl.symm hr
    obtain ⟨hw, hw3⟩ := pow3_mem c2
    subst t11
    refine ⟨ok_lea hd hA hB hw3, cost1 (by show opCost tLea = 1; decide), fun x0 x1 h0 h1 a b ha hb e0 e1 => ?_⟩
    refine (wrd_lea _ _ _ _ _ _).trans ?_
    rw [vA_two hn i0 i1 h2, b9, vA_two hn hp.2.1 (by omega) h3, c0, ← e0 _ rfl, ← e1 _ rfl, vA_const hq.2.1 (by omega) c1, ← app_shl hb hw]; rfl
  rw [if_neg t11] at h
  by_cases t12 : t = 12
  · rw [if_pos t12] at h
    obtain ⟨b9, rfl, rfl, c0, c1, c2⟩ := deepM_some h
    have b9 := of_decide_eq_true b9
    have h2 : isTwo (ndAt e (i : Int)).1 = true := by rw [b9]; decide
    have hp := two_parts hk h2
    have h3 : isTwo (ndAt e (ndAt e (i : Int)).2.1).1 = true := by rw [c0]; decide
    have hq := two_parts (ndAt_ok hn hp.1.1 (by omega)) h3
    obtain ⟨A, B, rfl, hA, hB⟩ := two_regs hl.symm hr
    obtain ⟨hw, hw3⟩ := pow3_mem c2
    subst t12
    refine ⟨ok_lea hd hA hB hw3, cost1 (by show opCost tLea = 1; decide), fun x0 x1 h0 h1 a b ha hb e0 e1 => ?_⟩
    refine (wrd_lea _ _ _ _ _ _).trans ?_
    rw [vA_two hn i0 i1 h2, b9, app_add_comm (vA_word hn h0 h1 _) (vA_word hn h0 h1 _), vA_two hn hp.1.1 (by omega) h3, c0, ← e0 _ rfl, ← e1 _ rfl, vA_const hq.2.1 (by omega) c1, ← app_shl hb hw]; rfl
  rw [if_neg t12] at h
  cases h
end
end Go.Proofs.YtokdmaoconegkaaGreat.Am
end
section
/- The cover that choices give: the program's walk; tiles at a node; the reference's queue. -/
namespace Go.Proofs.YtokdmaoconegkaaGreat.Am
open Go
set_option linter.unusedVariables false
set_option linter.unusedSimpArgs false
section
variable {e : List Nd} {best : List Int}
abbrev cbR (best o : List Int) (e : List Nd) : Unit × List Int × Unit × List Int × List Nd × Unit := ((), (best, ((), (o, (e, ())))))
/-- the cover that choices give -/
def chosen (e : List Nd) (best : List Int) : List Int := setL best (List.replicate e.length (-1)) (need e best)
theorem chosen_len : (chosen e best).length = e.length := by unfold chosen; rw [setL_len]; simp
theorem chosen_get {j : Nat} (hj : j < e.length) : (chosen e best)[j]? = some (if (need e best).contains j = true then cvr best j else -1) := by
  unfold chosen
  rw [setL_get _ _ _ (by simpa using hj)]
  simp [List.getD_eq_getElem?_getD, hj]
/-- the tiles at a node -/
def tl (e : List Nd) (i k : Nat) : List Int := ((List.range k).map (fun t : Nat => (t : Int))).filter (fun t => (tileM e i t).isSome)
theorem tl_succ (i k : Nat) : tl e i (k + 1) = tl e i k ++ if (tileM e i (k : Int)).isSome = true then [(k : Int)] else [] := by
  unfold tl
  rw [List.range_succ, List.map_append, List.filter_append]
  congr 1
  cases h : (tileM e i (k : Int)).isSome <;> simp [h]
theorem tl_len (i k : Nat) : (tl e i k).length ≤ k := by
  unfold tl
  exact Nat.le_trans (List.length_filter_le _ _) (by simp)
theorem tl_mem {i k : Nat} {t : Int} (h : t ∈ tl e i k) : 0 ≤ t ∧ t < k ∧ (tileM e i t).isSome = true := by
  unfold tl at h
  rw [List.mem_filter, List.mem_map] at h
  obtain ⟨⟨a, ha, rfl⟩, h2⟩ := h
  have := List.mem_range.1 ha
  exact ⟨by omega, by omega, h2⟩
theorem cvTiles_v (hn : nodesOk e 0 = true) {i : Nat} (hi : i < e.length) : spec_cvTiles.v e (i : Int) = some (tl e i 13) := by
  refine spec_cvTiles.vs _ _ ?_
  have key : ∀ (d k : Nat), k + d = 13 → spec_cvTiles.v0 e (i : Int) (k : Int) (tl e i k) = some (tl e i 13) := by
    intro d
    induction d with
    | zero =>
      intro k hk
      refine spec_cvTiles.v0s _ _ _ _ ?_
      rw [br_f (by simp; omega), show k = 13 by omega]
    | succ d ih =>
      intro k hk
      have := tl_len (e := e) i k
      have h := ih (k + 1) (by omega)
      refine spec_cvTiles.v0s _ _ _ _ ?_
      rw [br_t (by simp; omega), cvTile_v hn hi, bd_s, next_ok k 13 (by omega) (by omega)]
      rw [tl_succ] at h
      cases c : tileM e i (k : Int) with
      | some pq => rw [c, if_pos (show (some pq).isSome = true from rfl)] at h; rw [br_t (show (told (some pq)).2.2 = true from rfl), br_t (by simp; omega)]; exact h
      | none => rw [c, if_neg (by simp), List.append_nil] at h; rw [br_f (show (told none).2.2 = false from rfl)]; exact h
  exact key 13 0 rfl
/-- each node has a tile -/
theorem tl_some (hn : nodesOk e 0 = true) {i : Nat} (hi : i < e.length) : tl e i 13 ≠ [] := by
  have hk : nodeOk (ndAt e i) (i : Int) = true := ndAt_ok hn (by omega) (by omega)
  have : ∃ t : Nat, t < 13 ∧ (tileM e i (t : Int)).isSome = true := by
    unfold tileM tileN
    by_cases c0 : (ndAt e i).1 = tIn
    · exact ⟨0, by omega, by simp [c0]⟩
    by_cases c1 : (ndAt e i).1 = tConst
    · exact ⟨1, by omega, by simp [c1]⟩
    by_cases c2 : isOne (ndAt e i).1 = true
    · exact ⟨2, by omega, by simp [c2]⟩
    by_cases c3 : isTwo (ndAt e i).1 = true
    · exact ⟨3, by omega, by simp [c3]⟩
    · exfalso
      unfold nodeOk at hk
      simp [c0, c1, c2, c3] at hk
  obtain ⟨t, ht, hs⟩ := this
  intro h0
  have : (t : Int) ∈ tl e i 13 := by
    unfold tl
    rw [List.mem_filter]
    exact ⟨List.mem_map.2 ⟨t, List.mem_range.2 ht, rfl⟩, hs⟩
  rw [h0] at this
  cases this
end
end Go.Proofs.YtokdmaoconegkaaGreat.Am
end
section
/- The reference's queue of nodes that need tiles. -/
namespace Go.Proofs.YtokdmaoconegkaaGreat.Am
open Go
set_option linter.unusedVariables false
set_option linter.unusedSimpArgs false
section
variable {e : List Nd} {best : List Int}
/-- what is still to come, at most -/
def mq (l : List Int) : Nat := (l.map (fun x : Int => 3 ^ x.toNat)).sum
theorem mq_cons (x : Int) (l : List Int) : mq (x :: l) = 3 ^ x.toNat + mq l := by simp [mq]
theorem mq_app (l m : List Int) : mq (l ++ m) = mq l + mq m := by simp [mq]
theorem mq_len : ∀ l : List Int, l.length ≤ mq l
  | [] => by simp [mq]
  | x :: l => by
    have := mq_len l
    have : 0 < 3 ^ x.toNat := Nat.pow_pos (by omega)
    rw [mq_cons, List.length_cons]; omega
theorem mq_parts {n : Nat} {ps : List Int} (h2 : ps.length ≤ 2) (h : ∀ y ∈ ps, 0 ≤ y ∧ y < n) : mq ps + 1 ≤ 3 ^ n := by
  have one : ∀ y : Int, 0 ≤ y → y < n → 3 * 3 ^ y.toNat ≤ 3 ^ n := fun y h0 h1 => by
    rw [Nat.mul_comm, ← Nat.pow_succ]
    exact Nat.pow_le_pow_right (by omega) (by omega)
  have pos : 0 < 3 ^ n := Nat.pow_pos (by omega)
  rcases two_of h2 with e0 | ⟨a, e1⟩ | ⟨a, b, e2⟩
  · subst e0; simp [mq]; omega
  · subst e1
    have ha := h a (by simp)
    have := one a ha.1 ha.2
    have : 0 < 3 ^ a.toNat := Nat.pow_pos (by omega)
    simp [mq]; omega
  · subst e2
    have ha := h a (by simp)
    have hb := h b (by simp)
    have := one a ha.1 ha.2
    have := one b hb.1 hb.2
    have : 0 < 3 ^ a.toNat := Nat.pow_pos (by omega)
    simp [mq]; omega
structure Bfs (e : List Nd) (best o op : List Int) (k : Nat) : Prop where
  len : o.length = e.length
  le : k ≤ op.length
  ok : ∀ x ∈ op, 0 ≤ x ∧ x < e.length ∧ x.toNat ∈ need e best
  root : ((e.length - 1 : Nat) : Int) ∈ op
  val : ∀ j, j < e.length → o[j]? = some (if (j : Int) ∈ op.take k then cvr best j else -1)
  kid : ∀ x ∈ op.take k, ∀ y ∈ kids e best x.toNat, ((y : Nat) : Int) ∈ op
  size : k + mq (op.drop k) ≤ 282429536481
theorem Bfs.bound {o op : List Int} {k : Nat} (h : Bfs e best o op k) : op.length ≤ 282429536481 := by
  have h1 := mq_len (op.drop k)
  have h2 := h.size
  have h3 := h.le
  rw [List.length_drop] at h1
  omega
theorem Bfs.start (hn : nodesOk e 0 = true) (h1 : 1 ≤ e.length) (h24 : e.length ≤ 24) : Bfs e best (List.replicate e.length (-1)) [((e.length - 1 : Nat) : Int)] 0 :=
  ⟨by simp, by simp, fun x hx => by
    rw [List.mem_singleton] at hx
    subst hx
    exact ⟨by omega, by omega, by rw [Int.toNat_natCast]; exact need_root h1⟩, by simp, fun j hj => by simp [hj], fun x hx => by simp at hx, by
    have : 3 ^ (e.length - 1) ≤ 3 ^ 23 := Nat.pow_le_pow_right (by omega) (by omega)
    simp [mq]; omega⟩
theorem Bfs.step (hn : nodesOk e 0 = true) (h1 : 1 ≤ e.length) (hv : ∀ j, j < e.length → vld e best j = true) {o op : List Int} {k : Nat} (h : Bfs e best o op k) (hk : k < op.length) {i : Nat} (hi : op[k] = (i : Int)) :
    Bfs e best (o.set i (cvr best i)) (op ++ prts e i (cvr best i)) (k + 1) ∧ mq ((op ++ prts e i (cvr best i)).drop (k + 1)) < mq (op.drop k) := by
  have hx := h.ok _ (List.getElem_mem hk)
  rw [hi] at hx
  have hie : i < e.length := by omega
  have hp := prts_ok hn hie (cvr best i)
  have hin : i ∈ need e best := by have := hx.2.2; rw [Int.toNat_natCast] at this; exact this
  have hkid : kids e best i = (prts e i (cvr best i)).map Int.toNat := by unfold kids; rw [if_pos (hv i hie)]
  have htake : (op ++ prts e i (cvr best i)).take (k + 1) = op.take k ++ [(i : Int)] := by
    rw [List.take_append_of_le_length (by omega), List.take_succ_eq_append_getElem hk, hi]
  have hdrop : (op ++ prts e i (cvr best i)).drop (k + 1) = op.drop (k + 1) ++ prts e i (cvr best i) := List.drop_append_of_le_length (by omega)
  have hd : op.drop k = (i : Int) :: op.drop (k + 1) := by rw [drop_at _ _ hk, hi]
  have hm := mq_parts hp.1 (n := i) hp.2
  have hs := h.size
  rw [hd, mq_cons, Int.toNat_natCast] at hs
  refine ⟨⟨by rw [List.length_set]; exact h.len, by rw [List.length_append]; omega, ?_, List.mem_append.2 (.inl h.root), ?_, ?_, ?_⟩, ?_⟩
  · intro x hx
    rcases List.mem_append.1 hx with q | q
    · exact h.ok x q
    · have := hp.2 x q
      exact ⟨this.1, by omega, dfs_close hn _ _ (by omega) (by omega) i hin _ (by rw [hkid]; exact List.mem_map_of_mem q)⟩
  · intro j hj
    rw [htake, List.getElem?_set]
    by_cases c : i = j
    · subst c
      rw [if_pos rfl, if_pos (by rw [h.len]; exact hj), if_pos (by simp)]
    · rw [if_neg c, h.val j hj]
      have : ((j : Int) ∈ op.take k ++ [(i : Int)]) ↔ (j : Int) ∈ op.take k := by
        rw [List.mem_append, List.mem_singleton]
        constructor
        · rintro (q | q)
          · exact q
          · omega
        · exact .inl
      simp only [this]
  · intro x hx y hy
    rw [htake] at hx
    rcases List.mem_append.1 hx with q | q
    · exact List.mem_append.2 (.inl (h.kid x q y hy))
    · rw [List.mem_singleton] at q
      subst q
      rw [Int.toNat_natCast, hkid] at hy
      obtain ⟨z, hz, rfl⟩ := List.mem_map.1 hy
      have := hp.2 z hz
      rw [Int.toNat_of_nonneg this.1]
      exact List.mem_append.2 (.inr hz)
  · rw [hdrop, mq_app]; omega
  · rw [hdrop, mq_app, hd, mq_cons, Int.toNat_natCast]; omega
theorem Bfs.done (hn : nodesOk e 0 = true) (h1 : 1 ≤ e.length) {o op : List Int} {k : Nat} (h : Bfs e best o op k) (hk : ¬ k < op.length) : o = chosen e best := by
  have ht : op.take k = op := List.take_of_length_le (by omega)
  have hall : ∀ (d j : Nat), j + d = e.length → j ∈ need e best → (j : Int) ∈ op := by
    intro d
    induction d using Nat.strongRecOn with
    | ind d ih =>
      intro j hj hm
      rcases dfs_parent hn _ _ (by omega) (by omega) j hm with q | ⟨i, hi, hji⟩
      · subst q; exact h.root
      · have hil := need_lt hn h1 hi
        have := kids_lt hn hil j hji
        have hio := ih (e.length - i) (by omega) i (by omega) hi
        exact h.kid (i : Int) (by rw [ht]; exact hio) j (by rw [Int.toNat_natCast]; exact hji)
  apply List.ext_getElem?
  intro j
  by_cases hj : j < e.length
  · rw [h.val j hj, chosen_get hj, ht]
    have : ((j : Int) ∈ op) ↔ (need e best).contains j = true := by
      rw [List.contains_iff_mem]
      exact ⟨fun q => by have := (h.ok _ q).2.2; rw [Int.toNat_natCast] at this; exact this, fun q => hall (e.length - j) j (by omega) q⟩
    simp only [this]
  · rw [List.getElem?_eq_none (by have := h.len; omega), List.getElem?_eq_none (by rw [chosen_len]; omega)]
theorem Bfs.cur {o op : List Int} {k : Nat} (h : Bfs e best o op k) {i : Nat} (hi : i < e.length) : ∃ c, o[i]? = some c ∧ (c = -1 ∨ c = cvr best i) := by
  refine ⟨_, h.val i hi, ?_⟩
  split
  · exact .inr rfl
  · exact .inl rfl
end
end Go.Proofs.YtokdmaoconegkaaGreat.Am
end
section
/- The cover with the largest tiles. -/
namespace Go.Proofs.YtokdmaoconegkaaGreat.Am
open Go
set_option linter.unusedVariables false
set_option linter.unusedSimpArgs false
section
variable {e : List Nd}
theorem set_same {o : List Int} {i : Nat} {c : Int} (h : o[i]? = some c) : o.set i c = o := by
  apply List.ext_getElem?
  intro j
  rw [List.getElem?_set]
  by_cases d : i = j
  · subst d
    have : i < o.length := by
      by_cases q : i < o.length
      · exact q
      · rw [List.getElem?_eq_none (by omega)] at h; cases h
    rw [if_pos rfl, if_pos this, h]
  · rw [if_neg d]
theorem told_prts (i : Nat) (t : Int) : (told (tileM e i t)).1 = prts e i t := by
  unfold prts
  cases tileM e i t with
  | none => rfl
  | some pq => rfl
theorem lt_of_get {o : List Int} {i : Nat} {c : Int} (h : o[i]? = some c) : i < o.length := by
  by_cases q : i < o.length
  · exact q
  · rw [List.getElem?_eq_none (by omega)] at h; cases h
/-! ### the program -/
end
end Go.Proofs.YtokdmaoconegkaaGreat.Am
end
section
/- The cover with the least cost. -/
namespace Go.Proofs.YtokdmaoconegkaaGreat.Am
open Go
set_option linter.unusedVariables false
set_option linter.unusedSimpArgs false
section
variable {e : List Nd}
def sumP (P : List Int) : List Int → Int → Int
  | [], s => s
  | k :: r, s => sumP P r (IntKind.wrap .i64 (s + P.getD k.toNat 0))
/-- a tile's cost with its parts' prices -/
def wth (e : List Nd) (i : Nat) (P : List Int) (t : Int) : Int := sumP P (prts e i t) (tCost e i t)
theorem sumP_same {P Q : List Int} : ∀ (ps : List Int) (s : Int), (∀ k ∈ ps, P.getD k.toNat 0 = Q.getD k.toNat 0) → sumP P ps s = sumP Q ps s
  | [], s, _ => rfl
  | k :: r, s, h => by
    unfold sumP
    rw [h k (by simp)]
    exact sumP_same r _ (fun x hx => h x (by simp [hx]))
theorem wth_same (hn : nodesOk e 0 = true) {i : Nat} (hi : i < e.length) {P Q : List Int} (h : ∀ k, k < i → P.getD k 0 = Q.getD k 0) (t : Int) : wth e i P t = wth e i Q t :=
  sumP_same _ _ (fun k hk => h _ (by have := (prts_ok hn hi t).2 k hk; omega))
theorem get_D {P : List Int} {j : Nat} (h : j < P.length) : P[j]? = some (P.getD j 0) := by
  rw [List.getD_eq_getElem?_getD, List.getElem?_eq_getElem h]; rfl
theorem cvWith_v (hn : nodesOk e 0 = true) {i : Nat} (hi : i < e.length) {P : List Int} (hP : P.length = e.length) (t : Int) : spec_cvWith.v e (i : Int) t P = some (wth e i P t) := by
  refine spec_cvWith.vs _ _ _ _ ?_
  have hp := prts_ok hn hi t
  rw [cvCost_f hi, bd_s, cvTile_v hn hi, bd_s, told_prts]
  have key : ∀ (d j : Nat) (s : Int), j + d = (prts e i t).length → spec_cvWith.v0 P s (prts e i t) ((prts e i t).length : Int) (j : Int) = some (sumP P ((prts e i t).drop j) s) := by
    intro d
    induction d with
    | zero =>
      intro j s hj
      refine spec_cvWith.v0s _ _ _ _ _ ?_
      rw [br_f (by simp; omega), List.drop_eq_nil_of_le (by omega)]; rfl
    | succ d ih =>
      intro j s hj
      have hjl : j < (prts e i t).length := by omega
      have hx := hp.2 _ (List.getElem_mem hjl)
      refine spec_cvWith.v0s _ _ _ _ _ ?_
      rw [br_t (by simpa using hjl), br_t (by simp), Int.toNat_natCast, gt_at _ hjl, br_t (by simpa using hx.1), gt_some (get_D (P := P) (j := ((prts e i t)[j]).toNat) (by omega)), next_ok j _ hjl (by omega), drop_at _ _ hjl]
      exact ih (j + 1) _ (by omega)
  exact key (prts e i t).length 0 _ (by omega)
/-- the least sum so far, and its tile -/
def selB (e : List Nd) (i : Nat) (P : List Int) (x : Option (Int × Int)) (t : Int) : Option (Int × Int) :=
  match x with
  | none => some (wth e i P t, t)
  | some (s, b) => if wth e i P t < s then some (wth e i P t, t) else some (s, b)
def selS (e : List Nd) (i : Nat) (P : List Int) (m : Int) (c t : Int) : Int := if c < 0 ∧ wth e i P t = m then t else c
theorem selS_keep {i : Nat} {P : List Int} {m : Int} : ∀ (l : List Int) (c : Int), (0 ≤ c ∨ ∀ u ∈ l, m < wth e i P u) → l.foldl (selS e i P m) c = c
  | [], c, _ => rfl
  | t :: l, c, h => by
    rw [List.foldl_cons, show selS e i P m c t = c from by
      unfold selS
      rw [if_neg]
      rintro ⟨h1, h2⟩
      rcases h with q | q
      · omega
      · have := q t (by simp); omega]
    exact selS_keep l c (h.imp id (fun q u hu => q u (by simp [hu])))
theorem selB_fold {i : Nat} {P : List Int} : ∀ (l seen : List Int) (s b : Int), (∀ t ∈ l, 0 ≤ t) → 0 ≤ b → b ∈ seen → (∀ u ∈ seen, s ≤ wth e i P u) → seen.foldl (selS e i P s) (-1) = b →
    ∃ s' b', l.foldl (selB e i P) (some (s, b)) = some (s', b') ∧ 0 ≤ b' ∧ b' ∈ seen ++ l ∧ (seen ++ l).foldl (selS e i P s') (-1) = b'
  | [], seen, s, b, _, h1, h2, h3, h4 => ⟨s, b, rfl, h1, by simpa using h2, by simpa using h4⟩
  | t :: l, seen, s, b, h0, h1, h2, h3, h4 => by
    have ht := h0 t (by simp)
    by_cases c : wth e i P t < s
    · obtain ⟨s', b', k1, k2, k3, k4⟩ := selB_fold (i := i) (P := P) l (seen ++ [t]) (wth e i P t) t (fun u hu => h0 u (by simp [hu])) ht (by simp) (fun u hu => by
        rcases List.mem_append.1 hu with z | z
        · have := h3 u z; omega
        · simp at z; subst z; omega) (by
        rw [List.foldl_append, selS_keep (e := e) (i := i) (P := P) seen (-1) (.inr fun u hu => by have := h3 u hu; omega)]
        simp [selS])
      rw [List.append_assoc] at k3 k4
      exact ⟨s', b', by rw [List.foldl_cons, show selB e i P (some (s, b)) t = some (wth e i P t, t) from if_pos c]; exact k1, k2, k3, k4⟩
    · obtain ⟨s', b', k1, k2, k3, k4⟩ := selB_fold (i := i) (P := P) l (seen ++ [t]) s b (fun u hu => h0 u (by simp [hu])) h1 (by simp [h2]) (fun u hu => by
        rcases List.mem_append.1 hu with z | z
        · exact h3 u z
        · simp at z; subst z; omega) (by
        rw [List.foldl_append, h4]
        exact selS_keep [t] b (.inl h1))
      rw [List.append_assoc] at k3 k4
      exact ⟨s', b', by rw [List.foldl_cons, show selB e i P (some (s, b)) t = some (s, b) from if_neg c]; exact k1, k2, k3, k4⟩
/-- the price and the tile of a node, the prices ahead of it known -/
def prA (e : List Nd) (i : Nat) (P : List Int) : Int × Int := ((tl e i 13).foldl (selB e i P) none).getD (0, 0)
theorem prA_ok (hn : nodesOk e 0 = true) {i : Nat} (hi : i < e.length) (P : List Int) : (tl e i 13).foldl (selB e i P) none = some (prA e i P) ∧ (prA e i P).2 ∈ tl e i 13 ∧ (tl e i 13).foldl (selS e i P (prA e i P).1) (-1) = (prA e i P).2 := by
  have hne := tl_some hn hi
  have h0 : ∀ t ∈ tl e i 13, 0 ≤ t := fun t ht => (tl_mem ht).1
  unfold prA
  generalize tl e i 13 = l at hne h0 ⊢
  cases l with
  | nil => exact absurd rfl hne
  | cons t l =>
    obtain ⟨s', b', k1, k2, k3, k4⟩ := selB_fold (e := e) (i := i) (P := P) l [t] (wth e i P t) t (fun u hu => h0 u (by simp [hu])) (h0 t (by simp)) (by simp) (fun u hu => by simp at hu; subst hu; omega) (by simp [selS])
    rw [List.foldl_cons, show selB e i P none t = some (wth e i P t, t) from rfl, k1]
    exact ⟨rfl, k3, k4⟩
/-- prices and tiles of the nodes ahead of one -/
def prB (e : List Nd) : Nat → List (Int × Int)
  | 0 => []
  | i + 1 => prB e i ++ [prA e i ((prB e i).map (·.1))]
def prices (e : List Nd) : List Int := (prB e e.length).map (·.1)
def bests (e : List Nd) : List Int := (prB e e.length).map (·.2)
theorem prB_len : ∀ i, (prB e i).length = i
  | 0 => rfl
  | i + 1 => by simp [prB, prB_len i]
theorem prB_get : ∀ {n i : Nat}, i < n → (prB e n)[i]? = some (prA e i ((prB e i).map (·.1)))
  | 0, i, h => by omega
  | n + 1, i, h => by
    rw [show prB e (n + 1) = prB e n ++ [prA e n ((prB e n).map (·.1))] from rfl]
    by_cases c : i < n
    · rw [List.getElem?_append_left (by rw [prB_len]; exact c)]; exact prB_get c
    · have : i = n := by omega
      subst this
      rw [List.getElem?_append_right (by rw [prB_len]; exact Nat.le_refl _), prB_len]; simp
theorem prices_len : (prices e).length = e.length := by simp [prices, prB_len]
theorem bests_len : (bests e).length = e.length := by simp [bests, prB_len]
theorem prices_same {n i : Nat} (h : i < n) : ((prB e n).map (·.1)).getD i 0 = (prA e i ((prB e i).map (·.1))).1 := by
  rw [List.getD_eq_getElem?_getD, List.getElem?_map, prB_get h]; rfl
theorem prA_same (hn : nodesOk e 0 = true) {i : Nat} (hi : i < e.length) {P Q : List Int} (h : ∀ k, k < i → P.getD k 0 = Q.getD k 0) : prA e i P = prA e i Q := by
  have : selB e i P = selB e i Q := by
    funext x t
    unfold selB
    rw [wth_same hn hi h t]
  unfold prA
  rw [this]
theorem price_at (hn : nodesOk e 0 = true) {i : Nat} (hi : i < e.length) : (prices e)[i]? = some (prA e i (prices e)).1 ∧ cvr (bests e) i = (prA e i (prices e)).2 := by
  have hs : prA e i ((prB e i).map (·.1)) = prA e i (prices e) := prA_same hn hi (fun k hk => by
    unfold prices
    rw [prices_same hk, prices_same (n := e.length) (by omega)])
  constructor
  · unfold prices at hs ⊢
    rw [List.getElem?_map, prB_get hi, ← hs]; rfl
  · unfold cvr bests
    rw [List.getD_eq_getElem?_getD, List.getElem?_map, prB_get hi, ← hs]; rfl
theorem bests_vld (hn : nodesOk e 0 = true) : ∀ j, j < e.length → vld e (bests e) j = true := fun j hj => by
  have := (prA_ok hn hj (prices e)).2.1
  rw [← (price_at hn hj).2] at this
  obtain ⟨h0, h1, h2⟩ := tl_mem this
  unfold vld
  rw [h2, Bool.and_true, inB_iff]
  omega
end
end Go.Proofs.YtokdmaoconegkaaGreat.Am
end
section
/- The cover with the least cost: both sides. -/
namespace Go.Proofs.YtokdmaoconegkaaGreat.Am
open Go
set_option linter.unusedVariables false
set_option linter.unusedSimpArgs false
section
variable {e : List Nd}
/-- a state of the rounds over tiles: nothing at first, then the least price and its tile in their places -/
structure Pst (i j : Nat) (x : Option (Int × Int)) (P B : List Int) : Prop where
  no : j = 0 → x = none
  yes : j ≠ 0 → ∃ s b, x = some (s, b) ∧ P[i]? = some s ∧ B[i]? = some b
theorem set_low {P : List Int} {i k : Nat} (h : k < i) (s : Int) : (P.set i s).getD k 0 = P.getD k 0 := by
  rw [List.getD_eq_getElem?_getD, List.getElem?_set, if_neg (by omega), ← List.getD_eq_getElem?_getD]
theorem cvPrices_in (hn : nodesOk e 0 = true) {i : Nat} (hi : i < e.length) (h24 : e.length ≤ 24) {n : Int} {l : List Int} (hl : l.length ≤ 13) (hne : l ≠ []) {R} {P : List Int} {s b : Int}
    (hfin : spec_cvPrices.v0 e n ((i + 1 : Nat) : Int) (P.set i s) = some R) : ∀ (d j : Nat) (x : Option (Int × Int)) (P' : List Int), j + d = l.length → P'.length = e.length → (j = 0 → x = none) → (j ≠ 0 → ∃ s b, x = some (s, b) ∧ P'[i]? = some s) → (∀ k, k < i → P'.getD k 0 = P.getD k 0) →
    P'.set i s = P.set i s → (l.drop j).foldl (selB e i P) x = some (s, b) → spec_cvPrices.v1 e (i : Int) n (i : Int) l (l.length : Int) (j : Int) P' = some R := by
  intro d
  induction d with
  | zero =>
    intro j x P' hj hP hx0 hx hlow h1 hf
    rw [List.drop_eq_nil_of_le (by omega)] at hf
    have hf : x = some (s, b) := hf
    obtain ⟨s', b', q, q1⟩ := hx (by have : 0 < l.length := List.length_pos_iff.2 hne; omega)
    rw [hf] at q
    obtain ⟨rfl, rfl⟩ := Prod.mk.inj (Option.some.inj q)
    rw [set_same q1] at h1
    subst h1
    refine spec_cvPrices.v1s _ _ _ _ _ _ _ _ ?_
    rw [br_f (by simp; omega), next_ok i _ hi (by omega)]
    exact hfin
  | succ d ih =>
    intro j x P' hj hP hx0 hx hlow h1 hf
    have hjl : j < l.length := by omega
    have hiP : i < P'.length := by omega
    rw [drop_at _ _ hjl, List.foldl_cons] at hf
    have hw : wth e i P' l[j] = wth e i P l[j] := wth_same hn hi hlow _
    have hgo : ∀ w, (l.drop (j + 1)).foldl (selB e i P) (some (w, l[j])) = some (s, b) → spec_cvPrices.v1 e (i : Int) n (i : Int) l (l.length : Int) ((j + 1 : Nat) : Int) (P'.set i w) = some R := fun w hw =>
      ih (j + 1) _ _ (by omega) (by rw [List.length_set]; exact hP) (fun q => by omega) (fun _ => ⟨w, l[j], rfl, by rw [List.getElem?_set, if_pos rfl, if_pos hiP]⟩) (fun k hk => by rw [set_low hk]; exact hlow k hk) (by rw [List.set_set]; exact h1) hw
    refine spec_cvPrices.v1s _ _ _ _ _ _ _ _ ?_
    rw [br_t (by simpa using hjl), br_t (by simp), Int.toNat_natCast, gt_at _ hjl, cvWith_v hn hi hP, bd_s, next_ok j _ hjl (by omega), hw]
    by_cases c0 : j = 0
    · rw [hx0 c0, show selB e i P none l[j] = some (wth e i P l[j], l[j]) from rfl] at hf
      rw [br_t (by simp; omega), br_t (by simp), br_t (by simpa using hiP), Int.toNat_natCast, gt_at _ hiP]
      exact hgo _ hf
    · obtain ⟨s', b', q, q1⟩ := hx c0
      rw [q] at hf
      rw [br_f (by simp; omega), br_t (by simp), br_t (by simpa using hiP), Int.toNat_natCast, gt_some q1]
      by_cases g : wth e i P l[j] < s'
      · rw [show selB e i P (some (s', b')) l[j] = some (wth e i P l[j], l[j]) from if_pos g] at hf
        rw [br_t (by simpa using g), br_t (by simp), br_t (by simpa using hiP), gt_at _ hiP]
        exact hgo _ hf
      · rw [show selB e i P (some (s', b')) l[j] = some (s', b') from if_neg g] at hf
        rw [br_f (by simpa using g)]
        exact ih (j + 1) _ _ (by omega) hP (fun q => by omega) (fun _ => ⟨s', b', rfl, q1⟩) hlow h1 hf
abbrev pz (l : List Int) : List Int × Unit := (l, ())
theorem row_all {P Q : List Int} (h : P.length = e.length) (k : Q.length = e.length) (hv : ∀ j, j < e.length → P[j]? = Q[j]?) : P = Q := List.ext_getElem? fun j => by
  by_cases hj : j < e.length
  · exact hv j hj
  · rw [List.getElem?_eq_none (by omega), List.getElem?_eq_none (by omega)]
theorem prA_upto (hn : nodesOk e 0 = true) {i : Nat} (hi : i < e.length) {P : List Int} (h : ∀ j, j < i → P[j]? = (prices e)[j]?) : prA e i P = prA e i (prices e) :=
  prA_same hn hi (fun k hk => by rw [List.getD_eq_getElem?_getD, h k hk, ← List.getD_eq_getElem?_getD])
theorem cvPrices_v (hn : nodesOk e 0 = true) (h24 : e.length ≤ 24) : spec_cvPrices.v e = some (pz (prices e)) := by
  refine spec_cvPrices.vs _ ?_
  have key : ∀ (d i : Nat) (P : List Int), i + d = e.length → P.length = e.length → (∀ j, j < i → P[j]? = (prices e)[j]?) → spec_cvPrices.v0 e (e.length : Int) (i : Int) P = some (pz (prices e)) := by
    intro d
    induction d with
    | zero =>
      intro i P hi hP h
      refine spec_cvPrices.v0s _ _ _ _ ?_
      rw [br_f (by simp; omega), row_all hP prices_len (fun j hj => h j (by omega))]
    | succ d ih =>
      intro i P hi hP h
      have hie : i < e.length := by omega
      refine spec_cvPrices.v0s _ _ _ _ ?_
      rw [br_t (by simpa using hie), cvTiles_v hn hie, bd_s]
      refine cvPrices_in hn hie h24 (s := (prA e i P).1) (b := (prA e i P).2) (P := P) (tl_len _ _) (tl_some hn hie) (ih (i + 1) _ (by omega) (by rw [List.length_set]; exact hP) ?_) (tl e i 13).length 0 none P (by omega) hP (fun _ => rfl) (fun q => absurd rfl q) (fun _ _ => rfl) rfl (prA_ok hn hie P).1
      intro j hj
      rw [List.getElem?_set]
      by_cases c : i = j
      · subst c; rw [if_pos rfl, if_pos (by omega), prA_upto hn hie h, (price_at hn hie).1]
      · rw [if_neg c]; exact h j (by omega)
  rw [br_t (by simp), br_t (by simp; omega)]
  exact key e.length 0 _ (by omega) (by simp) (fun j hj => by omega)
end
end Go.Proofs.YtokdmaoconegkaaGreat.Am
end
