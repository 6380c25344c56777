/- Expressions: which operands a node has, where a node may stand; the program's functions and the reference's answer alike. -/
import Derived.Test.YtohfaccniialmaaPStr
namespace Go.Proofs.Ytohfaccniialmaa.Am
open Go
set_option linter.unusedVariables false
set_option linter.unusedSimpArgs false

abbrev tIn : ByteArray := ⟨#[105, 110]⟩
abbrev tConst : ByteArray := ⟨#[99, 111, 110, 115, 116]⟩
abbrev tNot : ByteArray := ⟨#[110, 111, 116]⟩
abbrev tNeg : ByteArray := ⟨#[110, 101, 103]⟩
def opsL : List ByteArray := [(⟨#[97, 100, 100]⟩ : ByteArray), (⟨#[115, 117, 98]⟩ : ByteArray), (⟨#[109, 117, 108]⟩ : ByteArray), (⟨#[97, 110, 100]⟩ : ByteArray), (⟨#[111, 114]⟩ : ByteArray), (⟨#[120, 111, 114]⟩ : ByteArray), (⟨#[115, 104, 108]⟩ : ByteArray), (⟨#[115, 104, 114]⟩ : ByteArray), (⟨#[108, 101, 115, 115]⟩ : ByteArray), (⟨#[101, 113]⟩ : ByteArray)]
def isTwo (s : ByteArray) : Bool := isIn opsL s
def isOne (s : ByteArray) : Bool := decide (s = tNot) || decide (s = tNeg)
/-- how many operands an op has; -1: it is none -/
def arity (s : ByteArray) : Int := if s = tIn then 0 else if s = tConst then 0 else if isOne s = true then 1 else if isTwo s = true then 2 else -1
theorem isOne_mem {s : ByteArray} (h : isOne s = true) : s = tNot ∨ s = tNeg := by
  unfold isOne at h
  simpa using h
theorem arity_one {s : ByteArray} (h : isOne s = true) : arity s = 1 := by
  unfold arity
  rw [if_neg (by rcases isOne_mem h with e | e <;> rw [e] <;> decide), if_neg (by rcases isOne_mem h with e | e <;> rw [e] <;> decide), if_pos h]
theorem isTwo_not {s : ByteArray} (h : isTwo s = true) : s ≠ tIn ∧ s ≠ tConst ∧ isOne s = false := by
  refine ⟨fun e => ?_, fun e => ?_, ?_⟩
  · rw [e] at h; revert h; decide
  · rw [e] at h; revert h; decide
  · cases h1 : isOne s with
    | false => rfl
    | true => rcases isOne_mem h1 with e | e <;> (rw [e] at h; revert h; decide)
theorem arity_two {s : ByteArray} (h : isTwo s = true) : arity s = 2 := by
  obtain ⟨h1, h2, h3⟩ := isTwo_not h
  unfold arity
  rw [if_neg h1, if_neg h2, if_neg (by simp [h3]), if_pos h]
theorem arity_cases (s : ByteArray) : (arity s = -1 ∧ isOne s = false ∧ isTwo s = false) ∨ (arity s = 0 ∧ isOne s = false ∧ isTwo s = false) ∨ (arity s = 1 ∧ isOne s = true ∧ isTwo s = false) ∨ (arity s = 2 ∧ isOne s = false ∧ isTwo s = true) := by
  by_cases h2 : isTwo s = true
  · exact .inr (.inr (.inr ⟨arity_two h2, (isTwo_not h2).2.2, h2⟩))
  · have h2' : isTwo s = false := by simpa using h2
    by_cases h1 : isOne s = true
    · exact .inr (.inr (.inl ⟨arity_one h1, h1, h2'⟩))
    · have h1' : isOne s = false := by simpa using h1
      by_cases c : s = tIn
      · exact .inr (.inl ⟨by unfold arity; rw [if_pos c], h1', h2'⟩)
      · by_cases c2 : s = tConst
        · exact .inr (.inl ⟨by unfold arity; rw [if_neg c, if_pos c2], h1', h2'⟩)
        · exact .inl ⟨by unfold arity; rw [if_neg c, if_neg c2, if_neg h1, if_neg h2], h1', h2'⟩
theorem arity_eq_one {s : ByteArray} : arity s = 1 ↔ isOne s = true := by
  rcases arity_cases s with ⟨h, h1, h2⟩ | ⟨h, h1, h2⟩ | ⟨h, h1, h2⟩ | ⟨h, h1, h2⟩ <;> rw [h, h1] <;> simp
theorem arity_eq_two {s : ByteArray} : arity s = 2 ↔ isTwo s = true := by
  rcases arity_cases s with ⟨h, h1, h2⟩ | ⟨h, h1, h2⟩ | ⟨h, h1, h2⟩ | ⟨h, h1, h2⟩ <;> rw [h, h2] <;> simp
theorem seq_t {x y : ByteArray} (h : x = y) : seq x y = true := seq_iff.2 h
theorem seq_f {x y : ByteArray} (h : ¬ x = y) : seq x y = false := by rw [seq_beq]; simp [h]
theorem exOne_f (s : ByteArray) : spec_exOne.f s = some (isOne s) := by
  rw [spec_exOne.eq, seq_beq, seq_beq]
  unfold isOne
  by_cases h : s = tNot
  · rw [br_t (by simpa using h)]; simp [h]
  · rw [br_f (by simpa using h)]; simp [h]
theorem exTwo_ev (s : ByteArray) : Ev (fun k => spec_exTwo.f k s) (isTwo s) := Ev.step (fun k => spec_exTwo.eq k s) (Ev.here spec_exOps.eq (Ev.bind (l1HasS_ev opsL s (by decide)) (Ev.now _)))
theorem operands_ev (s : ByteArray) : Ev (fun k => impl_operands.f k s) (arity s) := by
  refine Ev.step (fun k => impl_operands.eq k s) ?_
  unfold arity
  by_cases c : s = tIn
  · rw [if_pos c]; exact Ev.pos (seq_t c) (Ev.now _)
  · refine Ev.neg (seq_f c) ?_
    rw [if_neg c]
    by_cases c2 : s = tConst
    · rw [if_pos c2]; exact Ev.pos (seq_t c2) (Ev.now _)
    · refine Ev.neg (seq_f c2) ?_
      rw [if_neg c2]
      by_cases c3 : s = tNot
      · rw [if_pos (by unfold isOne; simp [c3])]; exact Ev.pos (seq_t c3) (Ev.now _)
      · refine Ev.neg (seq_f c3) ?_
        by_cases c4 : s = tNeg
        · rw [if_pos (by unfold isOne; simp [c4])]; exact Ev.pos (seq_t c4) (Ev.now _)
        · refine Ev.neg (seq_f c4) (Ev.here impl_binary.eq (Ev.bind (containsS_ev opsL s (by decide)) ?_))
          rw [if_neg (by unfold isOne; simp [c3, c4])]
          by_cases h : isTwo s = true
          · rw [if_pos h]; exact Ev.pos h (Ev.now _)
          · have h' : isTwo s = false := by simpa using h
            rw [if_neg h]; exact Ev.neg h' (Ev.now _)

/-! ### nodes -/
/-- the operands of a node -/
def partsOf (n : Nd) : List Int := if arity n.1 = 1 then [n.2.1] else if arity n.1 = 2 then [n.2.1, n.2.2.1] else []
theorem parts_le (n : Nd) : (partsOf n).length ≤ 2 := by unfold partsOf; split <;> (try split) <;> simp
theorem exParts_ev (n : Nd) : Ev (fun k => spec_exParts.f k n) (partsOf n) := by
  refine Ev.step (fun k => spec_exParts.eq k n) (Ev.here (exOne_f _) ?_)
  unfold partsOf
  by_cases h : isOne n.1 = true
  · exact Ev.pos h (Ev.ret (by rw [if_pos (arity_one h)]))
  · refine Ev.neg (by simpa using h) (Ev.bind (exTwo_ev n.1) ?_)
    rw [if_neg (fun e => h (arity_eq_one.1 e))]
    by_cases h2 : isTwo n.1 = true
    · exact Ev.pos h2 (Ev.ret (by rw [if_pos (arity_two h2)]))
    · exact Ev.neg (by simpa using h2) (Ev.ret (by rw [if_neg (fun e => h2 (arity_eq_two.1 e))]))
theorem of_ev (n : Nd) : Ev (fun k => impl_Node_of.f k n) (partsOf n) := by
  refine Ev.step (fun k => impl_Node_of.eq k n) (Ev.bind (operands_ev n.1) ?_)
  unfold partsOf
  rcases arity_cases n.1 with ⟨h, _⟩ | ⟨h, _⟩ | ⟨h, _⟩ | ⟨h, _⟩ <;> rw [h] <;> exact Ev.pos (by decide) (Ev.pos (by simp [maxI]) (Ev.ret (by simp [maxI])))
/-- may this node stand at place i -/
def nodeOk (n : Nd) (i : Int) : Bool :=
  if n.1 = tIn then decide (n.2.1 = 0) && decide (n.2.2.1 = 0) && inB n.2.2.2 0 1
  else if n.1 = tConst then decide (n.2.1 = 0) && decide (n.2.2.1 = 0) && inB n.2.2.2 0 63
  else if isOne n.1 = true then inB n.2.1 0 (i - 1) && decide (n.2.2.1 = 0) && decide (n.2.2.2 = 0)
  else isTwo n.1 && inB n.2.1 0 (i - 1) && inB n.2.2.1 0 (i - 1) && decide (n.2.2.2 = 0)
theorem exNode_ev (n : Nd) (i : Int) (h0 : 0 ≤ i) (h1 : i ≤ 9223372036854775807) : Ev (fun k => spec_exNode.f k n i) (nodeOk n i) := by
  refine Ev.step (fun k => spec_exNode.eq k n i) ?_
  unfold nodeOk
  rw [wrap_ok (by omega) (by omega)]
  simp only [l1In_f, exWord_f, exOne_f]
  by_cases c : n.1 = tIn
  · refine Ev.pos (seq_t c) ?_
    rw [if_pos c]
    by_cases a : n.2.1 = 0
    · by_cases b : n.2.2.1 = 0
      · exact Ev.pos (by simpa using a) (Ev.pos (by simpa using b) (Ev.here rfl (Ev.ret (by simp [a, b]))))
      · exact Ev.pos (by simpa using a) (Ev.neg (by simpa using b) (Ev.ret (by simp [b])))
    · exact Ev.neg (by simpa using a) (Ev.ret (by simp [a]))
  · refine Ev.neg (seq_f c) ?_
    rw [if_neg c]
    by_cases c2 : n.1 = tConst
    · refine Ev.pos (seq_t c2) ?_
      rw [if_pos c2]
      by_cases a : n.2.1 = 0
      · by_cases b : n.2.2.1 = 0
        · exact Ev.pos (by simpa using a) (Ev.pos (by simpa using b) (Ev.here rfl (Ev.ret (by simp [a, b]))))
        · exact Ev.pos (by simpa using a) (Ev.neg (by simpa using b) (Ev.ret (by simp [b])))
      · exact Ev.neg (by simpa using a) (Ev.ret (by simp [a]))
    · refine Ev.neg (seq_f c2) ?_
      rw [if_neg c2]
      refine Ev.here rfl ?_
      by_cases h : isOne n.1 = true
      · refine Ev.pos h (Ev.here rfl ?_)
        rw [if_pos h]
        cases hb : inB n.2.1 0 (i - 1)
        · exact Ev.neg rfl (Ev.ret (by simp))
        · by_cases b : n.2.2.1 = 0
          · exact Ev.pos rfl (Ev.pos (by simpa using b) (Ev.ret (by simp [b]; rfl)))
          · exact Ev.pos rfl (Ev.neg (by simpa using b) (Ev.ret (by simp [b])))
      · refine Ev.neg (by simpa using h) (Ev.bind (exTwo_ev n.1) ?_)
        rw [if_neg h]
        cases h2 : isTwo n.1
        · exact Ev.neg rfl (Ev.ret (by simp))
        · refine Ev.pos rfl (Ev.here rfl ?_)
          cases hb : inB n.2.1 0 (i - 1)
          · exact Ev.neg rfl (Ev.ret (by simp))
          · refine Ev.pos rfl (Ev.here rfl ?_)
            cases hb2 : inB n.2.2.1 0 (i - 1)
            · exact Ev.neg rfl (Ev.ret (by simp))
            · exact Ev.pos rfl (Ev.ret (by simp; rfl))
end Go.Proofs.Ytohfaccniialmaa.Am
