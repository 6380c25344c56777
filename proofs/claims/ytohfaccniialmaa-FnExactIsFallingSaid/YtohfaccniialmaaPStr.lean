/- Lists of texts and numbers that are searched; numbers within bounds. -/
import Derived.Test.YtohfaccniialmaaWLaw
namespace Go.Proofs.Ytohfaccniialmaa.Am
open Go
set_option linter.unusedVariables false
set_option linter.unusedSimpArgs false

theorem seq_beq (x y : ByteArray) : seq x y = decide (x = y) := by
  by_cases h : x = y
  · rw [decide_eq_true h]; exact seq_iff.2 h
  · rw [decide_eq_false h]
    cases e : seq x y with
    | false => rfl
    | true => exact absurd (seq_iff.1 e) h
/-- is a text among these -/
def isIn (l : List ByteArray) (s : ByteArray) : Bool := l.any fun x => decide (x = s)
theorem drop_at {α : Type} (l : List α) (i : Nat) (h : i < l.length) : l.drop i = l[i] :: l.drop (i + 1) := List.drop_eq_getElem_cons h
theorem l1HasS_ev (l : List ByteArray) (s : ByteArray) (hl : l.length ≤ 9223372036854775000) : Ev (fun k => spec_l1HasS.f k l s) (isIn l s) := by
  refine Ev.step (fun k => spec_l1HasS.eq k l s) ?_
  have := Ev.loop l.length (fun k i => spec_l1HasS.l0 k s l (l.length : Int) (i : Int)) (fun i => isIn (l.drop i) s) ?_ ?_ 0 (by omega)
  · exact this
  · exact Ev.step (fun k => spec_l1HasS.l0_eq k s l _ _) (Ev.neg (by simp) (Ev.ret (by simp [isIn])))
  · intro i hi ih
    refine Ev.step (fun k => spec_l1HasS.l0_eq k s l _ _) (Ev.pos (by simpa using hi) (Ev.pos (by simp) (Ev.get hi ?_)))
    rw [next_ok i _ hi hl, seq_beq]
    by_cases c : l[i] = s
    · exact Ev.pos (by simp [c]) (Ev.ret (by unfold isIn; rw [drop_at _ _ hi, List.any_cons]; simp [c]))
    · exact Ev.neg (by simp [c]) (Ev.eq ih (by unfold isIn; rw [drop_at _ _ hi, List.any_cons]; simp [c]))
theorem containsS_ev (l : List ByteArray) (s : ByteArray) (hl : l.length ≤ 9223372036854775000) : Ev (fun k => slices_Contains_string.f k l s) (isIn l s) := by
  have key : ∀ (d : Nat) (i : Nat), i + d = l.length → ∃ r : Int, Ev (fun k => slices_Index_string.l0 k l s (l.length : Int) (i : Int)) r ∧ (0 ≤ r ↔ isIn (l.drop i) s = true) := by
    intro d
    induction d with
    | zero =>
      intro i h
      refine ⟨-1, Ev.step (fun k => slices_Index_string.l0_eq k l s _ _) (Ev.neg (by simp; omega) (Ev.now _)), ?_⟩
      rw [List.drop_eq_nil_of_le (by omega)]; simp [isIn]
    | succ d ih =>
      intro i h
      have hi : i < l.length := by omega
      by_cases c : l[i] = s
      · refine ⟨i, Ev.step (fun k => slices_Index_string.l0_eq k l s _ _) (Ev.pos (by simpa using hi) (Ev.pos (by simp) (Ev.get hi (Ev.pos (by rw [seq_beq]; simp [c]) (Ev.now _))))), ?_⟩
        unfold isIn; rw [drop_at _ _ hi, List.any_cons]; simp [c]
      · obtain ⟨r, hev, hiff⟩ := ih (i + 1) (by omega)
        refine ⟨r, Ev.step (fun k => slices_Index_string.l0_eq k l s _ _) (Ev.pos (by simpa using hi) (Ev.pos (by simp) (Ev.get hi (Ev.neg (by rw [seq_beq]; simp only [decide_eq_false_iff_not]; exact fun e => c e.symm) (by rw [next_ok i _ hi hl]; exact hev))))), ?_⟩
        rw [hiff]; unfold isIn; rw [drop_at _ _ hi, List.any_cons]; simp [c]
  obtain ⟨r, hev, hiff⟩ := key l.length 0 (by omega)
  refine Ev.step (fun k => slices_Contains_string.eq k l s) (Ev.bind (b := r) (Ev.step (fun k => slices_Index_string.eq k l s) hev) (Ev.ret ?_))
  rw [Bool.eq_iff_iff, decide_eq_true_iff]
  exact hiff
theorem containsI_ev (l : List Int) (s : Int) (hl : l.length ≤ 9223372036854775000) : Ev (fun k => slices_Contains_int.f k l s) (decide (s ∈ l)) := by
  have key : ∀ (d : Nat) (i : Nat), i + d = l.length → ∃ r : Int, Ev (fun k => slices_Index_int.l0 k l s (l.length : Int) (i : Int)) r ∧ (0 ≤ r ↔ s ∈ l.drop i) := by
    intro d
    induction d with
    | zero =>
      intro i h
      refine ⟨-1, Ev.step (fun k => slices_Index_int.l0_eq k l s _ _) (Ev.neg (by simp; omega) (Ev.now _)), ?_⟩
      rw [List.drop_eq_nil_of_le (by omega)]; simp
    | succ d ih =>
      intro i h
      have hi : i < l.length := by omega
      by_cases c : s = l[i]
      · refine ⟨i, Ev.step (fun k => slices_Index_int.l0_eq k l s _ _) (Ev.pos (by simpa using hi) (Ev.pos (by simp) (Ev.get hi (Ev.pos (by simp [c]) (Ev.now _))))), ?_⟩
        rw [drop_at _ _ hi, List.mem_cons]; simp [c]
      · obtain ⟨r, hev, hiff⟩ := ih (i + 1) (by omega)
        refine ⟨r, Ev.step (fun k => slices_Index_int.l0_eq k l s _ _) (Ev.pos (by simpa using hi) (Ev.pos (by simp) (Ev.get hi (Ev.neg (by simp [c]) (by rw [next_ok i _ hi hl]; exact hev))))), ?_⟩
        rw [hiff, drop_at _ _ hi, List.mem_cons]; simp [c]
  obtain ⟨r, hev, hiff⟩ := key l.length 0 (by omega)
  refine Ev.step (fun k => slices_Contains_int.eq k l s) (Ev.bind (b := r) (Ev.step (fun k => slices_Index_int.eq k l s) hev) (Ev.ret ?_))
  rw [Bool.eq_iff_iff, decide_eq_true_iff, decide_eq_true_iff]
  exact hiff
theorem l1Has_ev (l : List Int) (s : Int) (hl : l.length ≤ 9223372036854775000) : Ev (fun k => spec_l1Has.f k l s) (decide (s ∈ l)) := by
  refine Ev.step (fun k => spec_l1Has.eq k l s) ?_
  have := Ev.loop l.length (fun k i => spec_l1Has.l0 k s l (l.length : Int) (i : Int)) (fun i => decide (s ∈ l.drop i)) ?_ ?_ 0 (by omega)
  · exact this
  · exact Ev.step (fun k => spec_l1Has.l0_eq k s l _ _) (Ev.neg (by simp) (Ev.ret (by simp)))
  · intro i hi ih
    refine Ev.step (fun k => spec_l1Has.l0_eq k s l _ _) (Ev.pos (by simpa using hi) (Ev.pos (by simp) (Ev.get hi ?_)))
    rw [next_ok i _ hi hl]
    by_cases c : l[i] = s
    · exact Ev.pos (by simp [c]) (Ev.ret (by rw [drop_at _ _ hi]; simp only [List.mem_cons]; simp [c]))
    · exact Ev.neg (by simp [c]) (Ev.eq ih (by rw [drop_at _ _ hi]; simp only [List.mem_cons]; have e : ¬ s = l[i] := fun e => c e.symm; simp [e]))
/-- is a number within these bounds -/
def inB (n lo hi : Int) : Bool := decide (lo ≤ n) && decide (n ≤ hi)
theorem l1In_f (n lo hi : Int) : spec_l1In.f n lo hi = some (inB n lo hi) := by
  rw [spec_l1In.eq]; unfold inB
  by_cases h : lo ≤ n
  · rw [br_t (by simpa using h)]; simp [h]
  · rw [br_f (by simpa using h)]; simp [h]
theorem within_f (n lo hi : Int) : impl_within.f n lo hi = some (inB n lo hi) := by
  rw [impl_within.eq]; unfold inB
  by_cases h : lo ≤ n
  · rw [br_t (by simpa using h)]; simp [h]
  · rw [br_f (by simpa using h)]; simp [h]
theorem exWord_f (n : Int) : spec_exWord.f n = some (inB n 0 63) := by rw [spec_exWord.eq, l1In_f]; rfl
theorem isWord_f (n : Int) : impl_isWord.f n = some (inB n 0 63) := by rw [impl_isWord.eq, within_f]; rfl
end Go.Proofs.Ytohfaccniialmaa.Am
