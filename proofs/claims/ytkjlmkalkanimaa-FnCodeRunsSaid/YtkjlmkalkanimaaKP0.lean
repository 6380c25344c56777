/- Plain texts: what the functions answer (part 0). -/
import Derived.Test.YtkjlmkalkanimaaKF1
section
/- Words of plain Lean; texts that are compared; forms of ops; what ops make of words: the program's functions and the reference's answer alike. -/
namespace Go.Proofs.Ytkjlmkalkanimaa.Am
open Go
set_option linter.unusedVariables false
set_option linter.unusedSimpArgs false

theorem brn_t {α : Type} (x y : Option α) : br (!true) x y = y := rfl
theorem brn_f {α : Type} (x y : Option α) : br (!false) x y = x := rfl
theorem gt_mid {α β : Type} (l : List β) (x : β) (r : List β) (f : β → Option α) : gt (l ++ x :: r) l.length f = f x := gt_some (by simp)
theorem set_mid {β : Type} (l : List β) (x y : β) (r : List β) : (l ++ x :: r).set l.length y = l ++ y :: r := by simp
theorem take_fold {α β : Type} (f : β → α → β) (l : List α) (b : β) (i : Nat) (h : i < l.length) : (l.take (i + 1)).foldl f b = f ((l.take i).foldl f b) l[i] := by
  rw [List.take_succ_eq_append_getElem h, List.foldl_append]; rfl
theorem getD_at {l : List Int} {p : Int} (h0 : 0 ≤ p) (h : p < l.length) : l[p.toNat]? = some (l.getD p.toNat 0) := by
  have hp : p.toNat < l.length := by omega
  rw [List.getD_eq_getElem?_getD, List.getElem?_eq_getElem hp]; rfl

theorem seq_beq (x y : ByteArray) : seq x y = decide (x = y) := by
  by_cases h : x = y
  · rw [decide_eq_true h]; exact seq_iff.2 h
  · rw [decide_eq_false h]
    cases e : seq x y with
    | false => rfl
    | true => exact absurd (seq_iff.1 e) h
/-- is a text among these -/
def isIn (l : List ByteArray) (s : ByteArray) : Bool := l.any fun x => decide (x = s)
theorem drop_at {α : Type} (l : List α) (i : Nat) (h : i < l.length) : l.drop i = l[i] :: l.drop (i + 1) := List.drop_eq_getElem_cons h
theorem l1HasS_ev (l : List ByteArray) (s : ByteArray) (hl : l.length ≤ 9223372036854775000) : Ev (fun k => spec_l1HasS.f k l s) (isIn l s) := by
  refine Ev.step (fun k => spec_l1HasS.eq k l s) ?_
  have := Ev.loop l.length (fun k i => spec_l1HasS.l0 k s l (l.length : Int) (i : Int)) (fun i => isIn (l.drop i) s) ?_ ?_ 0 (by omega)
  · exact this
  · exact Ev.step (fun k => spec_l1HasS.l0_eq k s l _ _) (Ev.neg (by simp) (Ev.ret (by simp [isIn])))
  · intro i hi ih
    refine Ev.step (fun k => spec_l1HasS.l0_eq k s l _ _) (Ev.pos (by simpa using hi) (Ev.pos (by simp) (Ev.get hi ?_)))
    rw [next_ok i _ hi hl, seq_beq]
    by_cases c : l[i] = s
    · exact Ev.pos (by simp [c]) (Ev.ret (by unfold isIn; rw [drop_at _ _ hi, List.any_cons]; simp [c]))
    · exact Ev.neg (by simp [c]) (Ev.eq ih (by unfold isIn; rw [drop_at _ _ hi, List.any_cons]; simp [c]))
theorem containsS_ev (l : List ByteArray) (s : ByteArray) (hl : l.length ≤ 9223372036854775000) : Ev (fun k => slices_Contains_string.f k l s) (isIn l s) := by
  have key : ∀ (d : Nat) (i : Nat), i + d = l.length → ∃ r : Int, Ev (fun k => slices_Index_string.l0 k l s (l.length : Int) (i : Int)) r ∧ (0 ≤ r ↔ isIn (l.drop i) s = true) := by
    intro d
    induction d with
    | zero =>
      intro i h
      refine ⟨-1, Ev.step (fun k => slices_Index_string.l0_eq k l s _ _) (Ev.neg (by simp; omega) (Ev.now _)), ?_⟩
      rw [List.drop_eq_nil_of_le (by omega)]; simp [isIn]
    | succ d ih =>
      intro i h
      have hi : i < l.length := by omega
      by_cases c : l[i] = s
      · refine ⟨i, Ev.step (fun k => slices_Index_string.l0_eq k l s _ _) (Ev.pos (by simpa using hi) (Ev.pos (by simp) (Ev.get hi (Ev.pos (by rw [seq_beq]; simp [c]) (Ev.now _))))), ?_⟩
        unfold isIn; rw [drop_at _ _ hi, List.any_cons]; simp [c]
      · obtain ⟨r, hev, hiff⟩ := ih (i + 1) (by omega)
        refine ⟨r, Ev.step (fun k => slices_Index_string.l0_eq k l s _ _) (Ev.pos (by simpa using hi) (Ev.pos (by simp) (Ev.get hi (Ev.neg (by rw [seq_beq]; simp only [decide_eq_false_iff_not]; exact fun e => c e.symm) (by rw [next_ok i _ hi hl]; exact hev))))), ?_⟩
        rw [hiff]; unfold isIn; rw [drop_at _ _ hi, List.any_cons]; simp [c]
  obtain ⟨r, hev, hiff⟩ := key l.length 0 (by omega)
  refine Ev.step (fun k => slices_Contains_string.eq k l s) (Ev.bind (b := r) (Ev.step (fun k => slices_Index_string.eq k l s) hev) (Ev.ret ?_))
  rw [Bool.eq_iff_iff, decide_eq_true_iff]
  exact hiff
theorem containsI_ev (l : List Int) (s : Int) (hl : l.length ≤ 9223372036854775000) : Ev (fun k => slices_Contains_int.f k l s) (decide (s ∈ l)) := by
  have key : ∀ (d : Nat) (i : Nat), i + d = l.length → ∃ r : Int, Ev (fun k => slices_Index_int.l0 k l s (l.length : Int) (i : Int)) r ∧ (0 ≤ r ↔ s ∈ l.drop i) := by
    intro d
    induction d with
    | zero =>
      intro i h
      refine ⟨-1, Ev.step (fun k => slices_Index_int.l0_eq k l s _ _) (Ev.neg (by simp; omega) (Ev.now _)), ?_⟩
      rw [List.drop_eq_nil_of_le (by omega)]; simp
    | succ d ih =>
      intro i h
      have hi : i < l.length := by omega
      by_cases c : s = l[i]
      · refine ⟨i, Ev.step (fun k => slices_Index_int.l0_eq k l s _ _) (Ev.pos (by simpa using hi) (Ev.pos (by simp) (Ev.get hi (Ev.pos (by simp [c]) (Ev.now _))))), ?_⟩
        rw [drop_at _ _ hi, List.mem_cons]; simp [c]
      · obtain ⟨r, hev, hiff⟩ := ih (i + 1) (by omega)
        refine ⟨r, Ev.step (fun k => slices_Index_int.l0_eq k l s _ _) (Ev.pos (by simpa using hi) (Ev.pos (by simp) (Ev.get hi (Ev.neg (by simp [c]) (by rw [next_ok i _ hi hl]; exact hev))))), ?_⟩
        rw [hiff, drop_at _ _ hi, List.mem_cons]; simp [c]
  obtain ⟨r, hev, hiff⟩ := key l.length 0 (by omega)
  refine Ev.step (fun k => slices_Contains_int.eq k l s) (Ev.bind (b := r) (Ev.step (fun k => slices_Index_int.eq k l s) hev) (Ev.ret ?_))
  rw [Bool.eq_iff_iff, decide_eq_true_iff, decide_eq_true_iff]
  exact hiff
theorem l1Has_ev (l : List Int) (s : Int) (hl : l.length ≤ 9223372036854775000) : Ev (fun k => spec_l1Has.f k l s) (decide (s ∈ l)) := by
  refine Ev.step (fun k => spec_l1Has.eq k l s) ?_
  have := Ev.loop l.length (fun k i => spec_l1Has.l0 k s l (l.length : Int) (i : Int)) (fun i => decide (s ∈ l.drop i)) ?_ ?_ 0 (by omega)
  · exact this
  · exact Ev.step (fun k => spec_l1Has.l0_eq k s l _ _) (Ev.neg (by simp) (Ev.ret (by simp)))
  · intro i hi ih
    refine Ev.step (fun k => spec_l1Has.l0_eq k s l _ _) (Ev.pos (by simpa using hi) (Ev.pos (by simp) (Ev.get hi ?_)))
    rw [next_ok i _ hi hl]
    by_cases c : l[i] = s
    · exact Ev.pos (by simp [c]) (Ev.ret (by rw [drop_at _ _ hi]; simp only [List.mem_cons]; simp [c]))
    · exact Ev.neg (by simp [c]) (Ev.eq ih (by rw [drop_at _ _ hi]; simp only [List.mem_cons]; have e : ¬ s = l[i] := fun e => c e.symm; simp [e]))
/-- is a number within these bounds -/
def inB (n lo hi : Int) : Bool := decide (lo ≤ n) && decide (n ≤ hi)
theorem l1In_f (n lo hi : Int) : spec_l1In.f n lo hi = some (inB n lo hi) := by
  rw [spec_l1In.eq]; unfold inB
  by_cases h : lo ≤ n
  · rw [br_t (by simpa using h)]; simp [h]
  · rw [br_f (by simpa using h)]; simp [h]
theorem within_f (n lo hi : Int) : impl_within.f n lo hi = some (inB n lo hi) := by
  rw [impl_within.eq]; unfold inB
  by_cases h : lo ≤ n
  · rw [br_t (by simpa using h)]; simp [h]
  · rw [br_f (by simpa using h)]; simp [h]
theorem exWord_f (n : Int) : spec_exWord.f n = some (inB n 0 63) := by rw [spec_exWord.eq, l1In_f]; rfl
theorem isWord_f (n : Int) : impl_isWord.f n = some (inB n 0 63) := by rw [impl_isWord.eq, within_f]; rfl
theorem inB_iff {n lo hi : Int} : inB n lo hi = true ↔ lo ≤ n ∧ n ≤ hi := by unfold inB; simp
abbrev tNot : ByteArray := ⟨#[110, 111, 116]⟩
abbrev tNeg : ByteArray := ⟨#[110, 101, 103]⟩
def opsL : List ByteArray := [(⟨#[97, 100, 100]⟩ : ByteArray), (⟨#[115, 117, 98]⟩ : ByteArray), (⟨#[109, 117, 108]⟩ : ByteArray), (⟨#[97, 110, 100]⟩ : ByteArray), (⟨#[111, 114]⟩ : ByteArray), (⟨#[120, 111, 114]⟩ : ByteArray), (⟨#[115, 104, 108]⟩ : ByteArray), (⟨#[115, 104, 114]⟩ : ByteArray), (⟨#[108, 101, 115, 115]⟩ : ByteArray), (⟨#[101, 113]⟩ : ByteArray)]
def isTwo (s : ByteArray) : Bool := isIn opsL s
def isOne (s : ByteArray) : Bool := decide (s = tNot) || decide (s = tNeg)
abbrev tIn : ByteArray := ⟨#[105, 110]⟩
abbrev tConst : ByteArray := ⟨#[99, 111, 110, 115, 116]⟩
/-- how many operands an op has; -1: it is none -/
def arity (s : ByteArray) : Int := if s = tIn then 0 else if s = tConst then 0 else if isOne s = true then 1 else if isTwo s = true then 2 else -1
theorem isOne_mem {s : ByteArray} (h : isOne s = true) : s = tNot ∨ s = tNeg := by
  unfold isOne at h
  simpa using h
theorem arity_one {s : ByteArray} (h : isOne s = true) : arity s = 1 := by
  unfold arity
  rw [if_neg (by rcases isOne_mem h with e | e <;> rw [e] <;> decide), if_neg (by rcases isOne_mem h with e | e <;> rw [e] <;> decide), if_pos h]
theorem isTwo_not {s : ByteArray} (h : isTwo s = true) : s ≠ tIn ∧ s ≠ tConst ∧ isOne s = false := by
  refine ⟨fun e => ?_, fun e => ?_, ?_⟩
  · rw [e] at h; revert h; decide
  · rw [e] at h; revert h; decide
  · cases h1 : isOne s with
    | false => rfl
    | true => rcases isOne_mem h1 with e | e <;> (rw [e] at h; revert h; decide)
theorem arity_two {s : ByteArray} (h : isTwo s = true) : arity s = 2 := by
  obtain ⟨h1, h2, h3⟩ := isTwo_not h
  unfold arity
  rw [if_neg h1, if_neg h2, if_neg (by simp [h3]), if_pos h]
theorem arity_cases (s : ByteArray) : (arity s = -1 ∧ isOne s = false ∧ isTwo s = false) ∨ (arity s = 0 ∧ isOne s = false ∧ isTwo s = false) ∨ (arity s = 1 ∧ isOne s = true ∧ isTwo s = false) ∨ (arity s = 2 ∧ isOne s = false ∧ isTwo s = true) := by
  by_cases h2 : isTwo s = true
  · exact .inr (.inr (.inr ⟨arity_two h2, (isTwo_not h2).2.2, h2⟩))
  · have h2' : isTwo s = false := by simpa using h2
    by_cases h1 : isOne s = true
    · exact .inr (.inr (.inl ⟨arity_one h1, h1, h2'⟩))
    · have h1' : isOne s = false := by simpa using h1
      by_cases c : s = tIn
      · exact .inr (.inl ⟨by unfold arity; rw [if_pos c], h1', h2'⟩)
      · by_cases c2 : s = tConst
        · exact .inr (.inl ⟨by unfold arity; rw [if_neg c, if_pos c2], h1', h2'⟩)
        · exact .inl ⟨by unfold arity; rw [if_neg c, if_neg c2, if_neg h1, if_neg h2], h1', h2'⟩
theorem arity_eq_one {s : ByteArray} : arity s = 1 ↔ isOne s = true := by
  rcases arity_cases s with ⟨h, h1, h2⟩ | ⟨h, h1, h2⟩ | ⟨h, h1, h2⟩ | ⟨h, h1, h2⟩ <;> rw [h, h1] <;> simp
theorem arity_eq_two {s : ByteArray} : arity s = 2 ↔ isTwo s = true := by
  rcases arity_cases s with ⟨h, h1, h2⟩ | ⟨h, h1, h2⟩ | ⟨h, h1, h2⟩ | ⟨h, h1, h2⟩ <;> rw [h, h2] <;> simp
theorem seq_t {x y : ByteArray} (h : x = y) : seq x y = true := seq_iff.2 h
theorem seq_f {x y : ByteArray} (h : ¬ x = y) : seq x y = false := by rw [seq_beq]; simp [h]
theorem operands_ev (s : ByteArray) : Ev (fun k => impl_operands.f k s) (arity s) := by
  refine Ev.step (fun k => impl_operands.eq k s) ?_
  unfold arity
  by_cases c : s = tIn
  · rw [if_pos c]; exact Ev.pos (seq_t c) (Ev.now _)
  · refine Ev.neg (seq_f c) ?_
    rw [if_neg c]
    by_cases c2 : s = tConst
    · rw [if_pos c2]; exact Ev.pos (seq_t c2) (Ev.now _)
    · refine Ev.neg (seq_f c2) ?_
      rw [if_neg c2]
      by_cases c3 : s = tNot
      · rw [if_pos (by unfold isOne; simp [c3])]; exact Ev.pos (seq_t c3) (Ev.now _)
      · refine Ev.neg (seq_f c3) ?_
        by_cases c4 : s = tNeg
        · rw [if_pos (by unfold isOne; simp [c4])]; exact Ev.pos (seq_t c4) (Ev.now _)
        · refine Ev.neg (seq_f c4) (Ev.here impl_binary.eq (Ev.bind (containsS_ev opsL s (by decide)) ?_))
          rw [if_neg (by unfold isOne; simp [c3, c4])]
          by_cases h : isTwo s = true
          · rw [if_pos h]; exact Ev.pos h (Ev.now _)
          · have h' : isTwo s = false := by simpa using h
            rw [if_neg h]; exact Ev.neg h' (Ev.now _)

theorem operands_v (s : ByteArray) : impl_operands.v s = some (arity s) := ev_lim (operands_ev s)
abbrev tSet : ByteArray := ⟨#[115, 101, 116]⟩
abbrev tMov : ByteArray := ⟨#[109, 111, 118]⟩
abbrev tMul : ByteArray := ⟨#[109, 117, 108]⟩
abbrev tShl : ByteArray := ⟨#[115, 104, 108]⟩
abbrev tShr : ByteArray := ⟨#[115, 104, 114]⟩
abbrev tAddi : ByteArray := ⟨#[97, 100, 100, 105]⟩
abbrev tAndi : ByteArray := ⟨#[97, 110, 100, 105]⟩
abbrev tXori : ByteArray := ⟨#[120, 111, 114, 105]⟩
abbrev tShli : ByteArray := ⟨#[115, 104, 108, 105]⟩
abbrev tShri : ByteArray := ⟨#[115, 104, 114, 105]⟩
abbrev tLea : ByteArray := ⟨#[108, 101, 97]⟩
/-- the cost of an op -/
def opCost (s : ByteArray) : Int := if s = tMul then 4 else if s = tShl then 2 else if s = tShr then 2 else 1
theorem cdCost_f (s : ByteArray) : spec_cdCost.f s = some (opCost s) := by
  rw [spec_cdCost.eq]
  unfold opCost
  simp only [seq_beq, br_if, decide_eq_true_eq]
  repeat' split
  all_goals first | rfl | simp_all
theorem opCost_pos (s : ByteArray) : 1 ≤ opCost s ∧ opCost s ≤ 4 := by
  unfold opCost
  repeat' split
  all_goals omega
abbrev Form := Bool × Bool × Int × Int × Int × ByteArray
/-- the form of an op -/
def formP (s : ByteArray) : Form × Bool :=
  if s = tSet then ((false, false, 0, 63, 1, s), true)
  else if s = tMov then ((true, false, 1, 0, 1, s), true)
  else if isOne s = true then ((true, false, 1, 0, 1, s), true)
  else if isTwo s = true then ((true, true, 1, 0, opCost s, s), true)
  else if s = tAddi then ((true, false, 0, 63, 1, s.extract 0 3), true)
  else if s = tAndi then ((true, false, 0, 63, 1, s.extract 0 3), true)
  else if s = tXori then ((true, false, 0, 63, 1, s.extract 0 3), true)
  else if s = tShli then ((true, false, 1, 5, 1, s.extract 0 3), true)
  else if s = tShri then ((true, false, 1, 5, 1, s.extract 0 3), true)
  else if s = tLea then ((true, true, 1, 3, 1, s), true)
  else ((false, false, 0, 0, 0, ⟨#[]⟩), false)
theorem containsS_v (l : List ByteArray) (s : ByteArray) (hl : l.length ≤ 9223372036854775000) : slices_Contains_string.v l s = some (isIn l s) := ev_lim (containsS_ev l s hl)
theorem formOf_v (s : ByteArray) : impl_formOf.v s = some (formP s) := by
  refine impl_formOf.vs _ ?_
  have hc := containsS_v opsL s (by decide)
  unfold opsL at hc
  simp only [impl_binary.eq, bd_s, hc, seq_beq, br_if, decide_eq_true_eq]
  have e2 : isIn [(⟨#[97, 100, 100]⟩ : ByteArray), (⟨#[115, 117, 98]⟩ : ByteArray), (⟨#[109, 117, 108]⟩ : ByteArray), (⟨#[97, 110, 100]⟩ : ByteArray), (⟨#[111, 114]⟩ : ByteArray), (⟨#[120, 111, 114]⟩ : ByteArray), (⟨#[115, 104, 108]⟩ : ByteArray), (⟨#[115, 104, 114]⟩ : ByteArray), (⟨#[108, 101, 115, 115]⟩ : ByteArray), (⟨#[101, 113]⟩ : ByteArray)] s = isTwo s := rfl
  rw [e2]
  by_cases c1 : s = tSet
  · subst c1; simp [formP]
  by_cases c2 : s = tMov
  · subst c2; simp [formP]
  by_cases c3 : s = tNot
  · subst c3; simp [formP, isOne]
  by_cases c4 : s = tNeg
  · subst c4; simp [formP, isOne]
  have h1 : isOne s = false := by unfold isOne; simp [c3, c4]
  by_cases h2 : isTwo s = true
  · simp only [formP, c1, c2, c3, c4, h1, h2, if_false, if_true, Bool.false_eq_true, opCost]
    by_cases d1 : s = tShl
    · subst d1; rfl
    by_cases d2 : s = tShr
    · subst d2; rfl
    by_cases d3 : s = tMul
    · subst d3; rfl
    simp only [d1, d2, d3, if_false]
  by_cases c5 : s = tAddi
  · subst c5; simp [formP, h2, isOne]; decide
  by_cases c6 : s = tAndi
  · subst c6; simp [formP, h2, isOne]; decide
  by_cases c7 : s = tXori
  · subst c7; simp [formP, h2, isOne]; decide
  by_cases c8 : s = tShli
  · subst c8; simp [formP, h2, isOne]; decide
  by_cases c9 : s = tShri
  · subst c9; simp [formP, h2, isOne]; decide
  by_cases c10 : s = tLea
  · subst c10; simp [formP, h2, isOne]
  simp only [formP, c1, c2, c3, c4, h1, h2, c5, c6, c7, c8, c9, c10, if_false, Bool.false_eq_true]
def word (x : Int) : Prop := 0 ≤ x ∧ x ≤ 63
theorem and63 (x : BitVec 64) : ((x &&& BitVec.ofInt 64 63).toNat) ≤ 63 := by
  rw [BitVec.toNat_and]
  exact Nat.and_le_right
theorem wand63 (x : BitVec 64) : word (IntKind.wrap .i64 (((x &&& BitVec.ofInt 64 63).toNat : Nat) : Int)) := by
  have := and63 x
  rw [wrap_ok (by omega) (by omega)]
  exact ⟨by omega, by omega⟩
def isW (x : Option Int) : Prop := ∃ r, x = some r ∧ word r
theorem isW_ite {c : Prop} [Decidable c] {x y : Option Int} (hx : isW x) (hy : isW y) : isW (if c then x else y) := by split <;> assumption
theorem isW_and (x : BitVec 64) : isW (some (IntKind.wrap .i64 (((x &&& BitVec.ofInt 64 63).toNat : Nat) : Int))) := ⟨_, rfl, wand63 x⟩
theorem apply_some (s : ByteArray) (a b : Int) (hb : 0 ≤ b) : isW (impl_apply.f s a b) := by
  rw [impl_apply.eq]
  simp only [impl_bit.eq, br_if, bd_ite, bd_s, hb, decide_true, if_true]
  repeat' first | exact isW_and _ | apply isW_ite
noncomputable def appP (s : ByteArray) (a b : Int) : Int := (impl_apply.f s a b).getD 0
theorem apply_f (s : ByteArray) (a b : Int) (hb : 0 ≤ b) : impl_apply.f s a b = some (appP s a b) := by
  obtain ⟨r, h, _⟩ := apply_some s a b hb
  unfold appP; rw [h]; rfl
theorem appP_word (s : ByteArray) (a b : Int) (hb : 0 ≤ b) : word (appP s a b) := by
  obtain ⟨r, h, hw⟩ := apply_some s a b hb
  unfold appP; rw [h]; exact hw
theorem exApply_eq (s : ByteArray) (a b : Int) : spec_exApply.f s a b = impl_apply.f s a b := by
  rw [spec_exApply.eq, impl_apply.eq]
  simp only [impl_bit.eq, br_if, bd_ite, bd_s]
  repeat' split
  all_goals first | rfl | simp_all
theorem exApply_f (s : ByteArray) (a b : Int) (hb : 0 ≤ b) : spec_exApply.f s a b = some (appP s a b) := by rw [exApply_eq, apply_f s a b hb]
theorem appP_one {s : ByteArray} (h : isOne s = true) (a b : Int) : appP s a b = appP s a 0 := by
  unfold appP
  rcases isOne_mem h with rfl | rfl <;> rw [impl_apply.eq, impl_apply.eq] <;> simp [br_if, seq_beq]

def words (l : List Int) : Prop := ∀ x ∈ l, word x
theorem words_get {l : List Int} (h : words l) (j : Nat) : word (l.getD j 0) := by
  rw [List.getD_eq_getElem?_getD]
  by_cases c : j < l.length
  · rw [List.getElem?_eq_getElem c]; exact h _ (List.getElem_mem c)
  · rw [List.getElem?_eq_none (Nat.le_of_not_lt c)]; exact ⟨by decide, by decide⟩
end Go.Proofs.Ytkjlmkalkanimaa.Am
end
section
/- Instructions: which ones are right, what they write; code and registers: the program's functions and the reference's answer alike. -/
namespace Go.Proofs.Ytkjlmkalkanimaa.Am
open Go
set_option linter.unusedVariables false
set_option linter.unusedSimpArgs false

abbrev Ins := ByteArray × Int × Int × Int × Int
abbrev tAdd : ByteArray := ⟨#[97, 100, 100]⟩
def allOps : List ByteArray := [tSet, tMov, tNot, tNeg, tAddi, tAndi, tXori, tShli, tShri, tLea] ++ opsL
/-- the shape of an op, out of its form -/
def shapeP (s : ByteArray) : Bool × Bool × Bool × Int × Int :=
  let f := formP s
  (f.2, f.1.1, f.1.2.1, if f.1.2.2.1 ≤ f.1.2.2.2.1 then f.1.2.2.1 else 0, if f.1.2.2.1 ≤ f.1.2.2.2.1 then f.1.2.2.2.1 else 0)
theorem form_none {s : ByteArray} (h : s ∉ allOps) : formP s = ((false, false, 0, 0, 0, ⟨#[]⟩), false) := by
  simp only [allOps, opsL, List.cons_append, List.nil_append, List.mem_cons, not_or] at h
  obtain ⟨h1, h2, h3, h4, h5, h6, h7, h8, h9, h10, g1, g2, g3, g4, g5, g6, g7, g8, g9, g10, _⟩ := h
  have e1 : isOne s = false := by simp [isOne, h3, h4]
  have e2 : isTwo s = false := by simp [isTwo, isIn, opsL, Ne.symm g1, Ne.symm g2, Ne.symm g3, Ne.symm g4, Ne.symm g5, Ne.symm g6, Ne.symm g7, Ne.symm g8, Ne.symm g9, Ne.symm g10]
  simp only [formP, h1, h2, e1, e2, h5, h6, h7, h8, h9, h10, if_false, Bool.false_eq_true]
theorem cdShape_f (s : ByteArray) : spec_cdShape.f s = some (shapeP s) := by
  by_cases h : s ∈ allOps
  · simp only [allOps, opsL, List.cons_append, List.nil_append, List.mem_cons, List.not_mem_nil, or_false] at h
    rw [spec_cdShape.eq]
    rcases h with rfl | rfl | rfl | rfl | rfl | rfl | rfl | rfl | rfl | rfl | rfl | rfl | rfl | rfl | rfl | rfl | rfl | rfl | rfl | rfl <;> kernel_rfl
  · have e := form_none h
    simp only [allOps, opsL, List.cons_append, List.nil_append, List.mem_cons, not_or] at h
    obtain ⟨h1, h2, h3, h4, h5, h6, h7, h8, h9, h10, g1, g2, g3, g4, g5, g6, g7, g8, g9, g10, _⟩ := h
    rw [spec_cdShape.eq]
    simp only [seq_beq, br_if, decide_eq_true_eq, h1, h2, h3, h4, h5, h6, h7, h8, h9, h10, g1, g2, g3, g4, g5, g6, g7, g8, g9, g10, if_false]
    unfold shapeP
    rw [e]; rfl
def usedP (u : Bool) (r : Int) : Bool := (u && inB r 0 5) || decide (r = 0)
def immP (f : Form) (n : Int) : Bool := if f.2.2.1 ≤ f.2.2.2.1 then inB n f.2.2.1 f.2.2.2.1 else decide (n = 0)
/-- is this an instruction -/
def insOk (x : Ins) : Bool := (formP x.1).2 && inB x.2.1 0 5 && usedP (formP x.1).1.1 x.2.2.1 && usedP (formP x.1).1.2.1 x.2.2.2.1 && immP (formP x.1).1 x.2.2.2.2
theorem beq_dec (x y : Int) : (x == y) = decide (x = y) := by
  by_cases h : x = y
  · simp [h]
  · simp [h]
theorem isRegister_f (r : Int) : impl_isRegister.f r = some (inB r 0 5) := by rw [impl_isRegister.eq, within_f]; rfl
theorem isUsed_f (u : Bool) (r : Int) : impl_isUsed.f u r = some (usedP u r) := by
  rw [impl_isUsed.eq, isRegister_f]
  unfold usedP
  simp only [bd_s, beq_dec]
  cases u <;> cases inB r 0 5 <;> simp [br]
theorem isInstr_v (x : Ins) : impl_IsInstr.v x = some (insOk x) := by
  refine impl_IsInstr.vs _ ?_
  simp only [formOf_v, bd_s, impl_form_imm.eq, within_f, isRegister_f, isUsed_f, beq_dec]
  unfold insOk immP
  generalize formP x.1 = f
  by_cases h : f.1.2.2.1 ≤ f.1.2.2.2.1
  · simp only [h, decide_true, if_true]
    generalize usedP f.1.1 x.2.2.1 = u1
    generalize usedP f.1.2.1 x.2.2.2.1 = u2
    generalize inB x.2.1 0 5 = u3
    generalize inB x.2.2.2.2 f.1.2.2.1 f.1.2.2.2.1 = u4
    generalize f.2 = u5
    cases u1 <;> cases u2 <;> cases u3 <;> cases u4 <;> cases u5 <;> rfl
  · simp only [h, decide_false, if_false]
    generalize usedP f.1.1 x.2.2.1 = u1
    generalize usedP f.1.2.1 x.2.2.2.1 = u2
    generalize inB x.2.1 0 5 = u3
    generalize decide (x.2.2.2.2 = 0) = u4
    generalize f.2 = u5
    cases u1 <;> cases u2 <;> cases u3 <;> cases u4 <;> cases u5 <;> rfl
theorem cdReg_f (r : Int) : spec_cdReg.f r = some (inB r 0 5) := by rw [spec_cdReg.eq, l1In_f]; rfl
theorem inB_zero (n : Int) : inB n 0 0 = decide (n = 0) := by
  rw [Bool.eq_iff_iff, inB_iff, decide_eq_true_iff]; omega
theorem used_reg (u : Bool) (r : Int) : usedP u r = (inB r 0 5 && (u || decide (r = 0))) := by
  unfold usedP
  by_cases h : r = 0
  · subst h; cases u <;> rfl
  · simp only [h, decide_false, Bool.or_false]
    cases u <;> simp
theorem cdGood_f (x : Ins) : spec_cdGood.f x = some (insOk x) := by
  rw [spec_cdGood.eq, cdShape_f]
  simp only [bd_s, cdReg_f, l1In_f, beq_dec]
  unfold insOk immP shapeP
  simp only [used_reg]
  generalize formP x.1 = f
  have e : inB x.2.2.2.2 (if f.1.2.2.1 ≤ f.1.2.2.2.1 then f.1.2.2.1 else 0) (if f.1.2.2.1 ≤ f.1.2.2.2.1 then f.1.2.2.2.1 else 0) = (if f.1.2.2.1 ≤ f.1.2.2.2.1 then inB x.2.2.2.2 f.1.2.2.1 f.1.2.2.2.1 else decide (x.2.2.2.2 = 0)) := by
    by_cases h : f.1.2.2.1 ≤ f.1.2.2.2.1
    · simp only [h, if_true]
    · simp only [h, if_false]; exact inB_zero _
  rw [e]
  generalize (if f.1.2.2.1 ≤ f.1.2.2.2.1 then inB x.2.2.2.2 f.1.2.2.1 f.1.2.2.2.1 else decide (x.2.2.2.2 = 0)) = u1
  generalize inB x.2.1 0 5 = u2
  generalize inB x.2.2.1 0 5 = u3
  generalize inB x.2.2.2.1 0 5 = u4
  generalize decide (x.2.2.1 = 0) = u5
  generalize decide (x.2.2.2.1 = 0) = u6
  generalize f.1.1 = u7
  generalize f.1.2.1 = u8
  generalize f.2 = u9
  cases u1 <;> cases u2 <;> cases u3 <;> cases u4 <;> cases u5 <;> cases u6 <;> cases u7 <;> cases u8 <;> cases u9 <;> rfl
theorem reg_of {u : Bool} {r : Int} (h : usedP u r = true) : 0 ≤ r ∧ r ≤ 5 := by
  rw [used_reg] at h
  simp only [Bool.and_eq_true, inB_iff] at h
  exact h.1
theorem form_low (s : ByteArray) : 0 ≤ (formP s).1.2.2.1 ∧ (formP s).1.2.2.2.1 ≤ 63 := by
  unfold formP
  repeat' split
  all_goals (dsimp only; omega)
structure InsOk (x : Ins) : Prop where
  known : (formP x.1).2 = true
  d0 : 0 ≤ x.2.1
  d1 : x.2.1 ≤ 5
  ua : usedP (formP x.1).1.1 x.2.2.1 = true
  ub : usedP (formP x.1).1.2.1 x.2.2.2.1 = true
  im : immP (formP x.1).1 x.2.2.2.2 = true
  a0 : 0 ≤ x.2.2.1
  a1 : x.2.2.1 ≤ 5
  b0 : 0 ≤ x.2.2.2.1
  b1 : x.2.2.2.1 ≤ 5
  i0 : 0 ≤ x.2.2.2.2
  i1 : x.2.2.2.2 ≤ 63
theorem insOk_of {x : Ins} (h : insOk x = true) : InsOk x := by
  unfold insOk at h
  simp only [Bool.and_eq_true, inB_iff] at h
  obtain ⟨⟨⟨⟨h1, h2⟩, h3⟩, h4⟩, h5⟩ := h
  have hl := form_low x.1
  have h6 : 0 ≤ x.2.2.2.2 ∧ x.2.2.2.2 ≤ 63 := by
    have h5 := h5
    unfold immP at h5
    split at h5
    · rw [inB_iff] at h5; omega
    · have := of_decide_eq_true h5; omega
  exact ⟨h1, h2.1, h2.2, h3, h4, h5, (reg_of h3).1, (reg_of h3).2, (reg_of h4).1, (reg_of h4).2, h6.1, h6.2⟩

/-! ### code -/
def codeOk (c : List Ins) : Bool := decide (c.length ≤ 40) && c.all insOk
theorem isCode1_v (x : Ins) : impl_IsCode_1.v x = some (!insOk x) := impl_IsCode_1.vs _ (by rw [isInstr_v, bd_s])
theorem contCode_v (c : List Ins) (hl : c.length ≤ 1000000) : slices_ContainsFunc_Instr.v c = some (!c.all insOk) := by
  have key : ∀ (d i : Nat), i + d = c.length → ∃ r : Int, slices_IndexFunc_Instr.v0 c (c.length : Int) (i : Int) = some r ∧ (0 ≤ r ↔ (c.drop i).all insOk = false) := by
    intro d
    induction d with
    | zero =>
      intro i hi
      refine ⟨-1, slices_IndexFunc_Instr.v0s _ _ _ (by rw [br_f (by simp; omega)]), ?_⟩
      rw [List.drop_eq_nil_of_le (by omega)]; simp
    | succ d ih =>
      intro i hi
      have hlt : i < c.length := by omega
      rw [drop_at _ _ hlt, List.all_cons]
      cases e : insOk c[i] with
      | false => exact ⟨i, slices_IndexFunc_Instr.v0s _ _ _ (by rw [br_t (by simpa using hlt), br_t (by simp), Int.toNat_natCast, gt_at _ hlt, isCode1_v, bd_s, e, brn_f]), by simp⟩
      | true =>
        obtain ⟨r, h, hr⟩ := ih (i + 1) (by omega)
        exact ⟨r, slices_IndexFunc_Instr.v0s _ _ _ (by rw [br_t (by simpa using hlt), br_t (by simp), Int.toNat_natCast, gt_at _ hlt, isCode1_v, bd_s, e, brn_t, next_ok i _ hlt (by omega), h]), by simpa using hr⟩
  obtain ⟨r, h, hr⟩ := key c.length 0 (by omega)
  refine slices_ContainsFunc_Instr.vs _ ?_
  rw [slices_IndexFunc_Instr.vs _ h, bd_s]
  congr 1
  rw [List.drop_zero] at hr
  rw [Bool.eq_iff_iff, decide_eq_true_iff]
  simpa using hr
theorem isCode_v (c : List Ins) (hl : c.length ≤ 1000000) : impl_IsCode.v c = some (codeOk c) := by
  refine impl_IsCode.vs _ ?_
  unfold codeOk
  by_cases h : c.length ≤ 40
  · rw [br_t (decide_eq_true (by omega)), contCode_v c hl, bd_s]; simp [h]
  · rw [br_f (decide_eq_false (by omega))]; simp [h]
theorem cdCode_v (c : List Ins) (hl : c.length ≤ 1000000) : spec_cdCode.v c = some (codeOk c) := by
  have key : ∀ (d i : Nat), i + d = c.length → spec_cdCode.v0 c (c.length : Int) (i : Int) = some ((c.drop i).all insOk) := by
    intro d
    induction d with
    | zero =>
      intro i hi
      refine spec_cdCode.v0s _ _ _ ?_
      rw [br_f (by simp; omega), List.drop_eq_nil_of_le (by omega)]; rfl
    | succ d ih =>
      intro i hi
      have hlt : i < c.length := by omega
      refine spec_cdCode.v0s _ _ _ ?_
      rw [br_t (by simpa using hlt), br_t (by simp), Int.toNat_natCast, gt_at _ hlt, cdGood_f, bd_s, drop_at _ _ hlt, List.all_cons]
      cases e : insOk c[i] with
      | false => rw [brn_f]; rfl
      | true => rw [brn_t, next_ok i _ hlt (by omega), ih (i + 1) (by omega)]; rfl
  refine spec_cdCode.vs _ ?_
  unfold codeOk
  by_cases h : c.length ≤ 40
  · rw [br_f (decide_eq_false (by omega))]
    have := key c.length 0 (by omega)
    rw [List.drop_zero] at this
    simp only [h, decide_true, Bool.true_and]
    exact this
  · rw [br_t (decide_eq_true (by omega))]; simp [h]

/-! ### registers -/
def regsOk (l : List Int) : Bool := decide (l.length = 6) && l.all fun x => inB x 0 63
theorem regsOk_iff {l : List Int} : regsOk l = true ↔ l.length = 6 ∧ words l := by
  unfold regsOk words word
  simp only [Bool.and_eq_true, decide_eq_true_iff, List.all_eq_true, inB_iff]
theorem contRegs_v (c : List Int) (hl : c.length ≤ 1000000) : slices_ContainsFunc_int_areRegs.v c = some (!c.all fun x => inB x 0 63) := by
  have key : ∀ (d i : Nat), i + d = c.length → ∃ r : Int, slices_IndexFunc_int_areRegs.v0 c (c.length : Int) (i : Int) = some r ∧ (0 ≤ r ↔ (c.drop i).all (fun x => inB x 0 63) = false) := by
    intro d
    induction d with
    | zero =>
      intro i hi
      refine ⟨-1, slices_IndexFunc_int_areRegs.v0s _ _ _ (by rw [br_f (by simp; omega)]), ?_⟩
      rw [List.drop_eq_nil_of_le (by omega)]; simp
    | succ d ih =>
      intro i hi
      have hlt : i < c.length := by omega
      rw [drop_at _ _ hlt, List.all_cons]
      cases e : inB c[i] 0 63 with
      | false => exact ⟨i, slices_IndexFunc_int_areRegs.v0s _ _ _ (by rw [br_t (by simpa using hlt), br_t (by simp), Int.toNat_natCast, gt_at _ hlt, impl_areRegs_1.eq, isWord_f, bd_s, e, bd_s, brn_f]), by simp⟩
      | true =>
        obtain ⟨r, h, hr⟩ := ih (i + 1) (by omega)
        exact ⟨r, slices_IndexFunc_int_areRegs.v0s _ _ _ (by rw [br_t (by simpa using hlt), br_t (by simp), Int.toNat_natCast, gt_at _ hlt, impl_areRegs_1.eq, isWord_f, bd_s, e, bd_s, brn_t, next_ok i _ hlt (by omega), h]), by simpa using hr⟩
  obtain ⟨r, h, hr⟩ := key c.length 0 (by omega)
  refine slices_ContainsFunc_int_areRegs.vs _ ?_
  rw [slices_IndexFunc_int_areRegs.vs _ h, bd_s]
  congr 1
  rw [List.drop_zero] at hr
  rw [Bool.eq_iff_iff, decide_eq_true_iff]
  simpa using hr
theorem areRegs_v (c : List Int) (hl : c.length ≤ 1000000) : impl_areRegs.v c = some (regsOk c) := by
  refine impl_areRegs.vs _ ?_
  unfold regsOk
  by_cases h : c.length = 6
  · rw [br_t (by rw [beq_dec]; exact decide_eq_true (by omega)), contRegs_v c hl, bd_s]; simp [h]
  · rw [br_f (by rw [beq_dec]; exact decide_eq_false (by omega))]; simp [h]
theorem l1All_v (c : List Int) (lo hi : Int) (hl : c.length ≤ 1000000) : spec_l1All.v c lo hi = some (c.all fun x => inB x lo hi) := by
  have key : ∀ (d i : Nat), i + d = c.length → spec_l1All.v0 lo hi c (c.length : Int) (i : Int) = some ((c.drop i).all fun x => inB x lo hi) := by
    intro d
    induction d with
    | zero =>
      intro i hi
      refine spec_l1All.v0s _ _ _ _ _ ?_
      rw [br_f (by simp; omega), List.drop_eq_nil_of_le (by omega)]; rfl
    | succ d ih =>
      intro i hi'
      have hlt : i < c.length := by omega
      refine spec_l1All.v0s _ _ _ _ _ ?_
      rw [br_t (by simpa using hlt), br_t (by simp), Int.toNat_natCast, gt_at _ hlt, l1In_f, bd_s, drop_at _ _ hlt, List.all_cons]
      cases e : inB c[i] lo hi with
      | false => rw [brn_f]; rfl
      | true => rw [brn_t, next_ok i _ hlt (by omega), ih (i + 1) (by omega)]; rfl
  exact spec_l1All.vs _ _ _ (by have := key c.length 0 (by omega); simpa using this)
theorem cdRegs_v (c : List Int) (hl : c.length ≤ 1000000) : spec_cdRegs.v c = some (regsOk c) := by
  refine spec_cdRegs.vs _ ?_
  unfold regsOk
  by_cases h : c.length = 6
  · rw [br_t (by rw [beq_dec]; exact decide_eq_true (by omega)), l1All_v c _ _ hl, bd_s]; simp [h]
  · rw [br_f (by rw [beq_dec]; exact decide_eq_false (by omega))]; simp [h]
end Go.Proofs.Ytkjlmkalkanimaa.Am
end
section
/- Code that runs: what instructions write, the registers behind them: the program's functions and the reference's answer alike. -/
namespace Go.Proofs.Ytkjlmkalkanimaa.Am
open Go
set_option linter.unusedVariables false
set_option linter.unusedSimpArgs false

def isImm (s : ByteArray) : Bool := decide (s = tAddi) || decide (s = tAndi) || decide (s = tXori) || decide (s = tShli) || decide (s = tShri)
/-- the word that an instruction writes -/
noncomputable def wrdP (x : Ins) (a b : Int) : Int :=
  if x.1 = tSet then x.2.2.2.2 else if x.1 = tMov then a else if x.1 = tLea then appP tAdd a (appP tShl b x.2.2.2.2)
  else if isImm x.1 = true then appP (x.1.extract 0 3) a x.2.2.2.2 else appP x.1 a b
theorem wrdP_word {x : Ins} (h : InsOk x) {a b : Int} (ha : word a) (hb : word b) : word (wrdP x a b) := by
  unfold wrdP
  split
  · exact ⟨h.i0, h.i1⟩
  split
  · exact ha
  split
  · exact appP_word _ _ _ (appP_word _ _ _ h.i0).1
  split
  · exact appP_word _ _ _ h.i0
  · exact appP_word _ _ _ hb.1
theorem word_f {x : Ins} (h : InsOk x) {a b : Int} (hb : word b) : impl_Instr_word.f x a b = some (wrdP x a b) := by
  have hi := h.i0
  obtain ⟨s, d, p, q, im⟩ := x
  dsimp only at hi
  rw [impl_Instr_word.eq]
  unfold wrdP isImm
  dsimp only
  simp only [seq_beq, br_if, decide_eq_true_eq]
  have e3 : Int.toNat (3 : Int) = 3 := rfl
  have e0 : Int.toNat (0 : Int) = 0 := rfl
  by_cases c1 : s = tSet
  · subst c1; rfl
  by_cases c2 : s = tMov
  · subst c2; rfl
  by_cases c3 : s = tLea
  · subst c3
    simp only [c1, c2, if_false, if_true]
    rw [apply_f _ _ _ hi, bd_s, apply_f _ _ _ (appP_word _ _ _ hi).1, bd_s]
  simp only [c1, c2, c3, if_false, e3, e0]
  by_cases c4 : s = tAddi
  · subst c4; simp only [if_true, if_false, decide_true, Bool.true_or]
    rw [apply_f _ _ _ hi]; rfl
  by_cases c5 : s = tAndi
  · subst c5; simp only [if_true, if_false, decide_true, Bool.true_or, Bool.or_true, c4]
    rw [apply_f _ _ _ hi]; rfl
  by_cases c6 : s = tXori
  · subst c6; simp only [if_true, if_false, decide_true, Bool.true_or, Bool.or_true, c4, c5]
    rw [apply_f _ _ _ hi]; rfl
  by_cases c7 : s = tShli
  · subst c7; simp only [if_true, if_false, decide_true, Bool.true_or, Bool.or_true, c4, c5, c6]
    rw [apply_f _ _ _ hi]; rfl
  by_cases c8 : s = tShri
  · subst c8; simp only [if_true, if_false, decide_true, Bool.true_or, Bool.or_true, c4, c5, c6, c7]
    rw [apply_f _ _ _ hi]; rfl
  simp only [c4, c5, c6, c7, c8, if_false, decide_false, Bool.or_self, Bool.false_eq_true]
  rw [apply_f _ _ _ hb.1, bd_s]
theorem cdValue_f {x : Ins} (h : InsOk x) {l : List Int} (hl : l.length = 6) (hw : words l) : spec_cdValue.f x l = some (wrdP x (l.getD x.2.2.1.toNat 0) (l.getD x.2.2.2.1.toNat 0)) := by
  have hi := h.i0
  have hb := words_get hw x.2.2.2.1.toNat
  rw [spec_cdValue.eq, br_t (decide_eq_true h.a0), gt_some (getD_at h.a0 (by have := h.a1; omega)), br_t (decide_eq_true h.b0), gt_some (getD_at h.b0 (by have := h.b1; omega))]
  generalize l.getD x.2.2.1.toNat 0 = a
  generalize l.getD x.2.2.2.1.toNat 0 = b at hb
  obtain ⟨s, d, p, q, im⟩ := x
  dsimp only at hi
  unfold wrdP isImm
  dsimp only
  simp only [seq_beq, br_if, decide_eq_true_eq]
  by_cases c1 : s = tSet
  · subst c1; rfl
  by_cases c2 : s = tMov
  · subst c2; rfl
  simp only [c1, c2, if_false]
  by_cases c4 : s = tAddi
  · subst c4; simp only [if_true, if_false, decide_true, Bool.true_or]
    rw [exApply_f _ _ _ hi]; rfl
  by_cases c5 : s = tAndi
  · subst c5; simp only [if_true, if_false, decide_true, Bool.true_or, Bool.or_true, c4]
    rw [exApply_f _ _ _ hi]; rfl
  by_cases c6 : s = tXori
  · subst c6; simp only [if_true, if_false, decide_true, Bool.true_or, Bool.or_true, c4, c5]
    rw [exApply_f _ _ _ hi]; rfl
  by_cases c7 : s = tShli
  · subst c7; simp only [if_true, if_false, decide_true, Bool.true_or, Bool.or_true, c4, c5, c6]
    rw [exApply_f _ _ _ hi]; rfl
  by_cases c8 : s = tShri
  · subst c8; simp only [if_true, if_false, decide_true, Bool.true_or, Bool.or_true, c4, c5, c6, c7]
    rw [exApply_f _ _ _ hi]; rfl
  by_cases c3 : s = tLea
  · subst c3
    simp only [c1, c2, c4, c5, c6, c7, c8, if_false, if_true]
    rw [exApply_f _ _ _ hi, bd_s, exApply_f _ _ _ (appP_word _ _ _ hi).1, bd_s]
  simp only [c3, c4, c5, c6, c7, c8, if_false, decide_false, Bool.or_self, Bool.false_eq_true]
  rw [exApply_f _ _ _ hb.1, bd_s]

/-! ### steps -/
noncomputable def stepP (x : Ins) (l : List Int) : List Int := l.set x.2.1.toNat (wrdP x (l.getD x.2.2.1.toNat 0) (l.getD x.2.2.2.1.toNat 0))
noncomputable def runP (c : List Ins) (l : List Int) : List Int := c.foldl (fun r x => stepP x r) l
structure Regs (l : List Int) : Prop where
  len : l.length = 6
  ws : words l
theorem Regs.get {l : List Int} (h : Regs l) (j : Nat) : word (l.getD j 0) := words_get h.ws j
theorem Regs.set {l : List Int} (h : Regs l) {x : Int} (hx : word x) (j : Nat) : Regs (l.set j x) := by
  refine ⟨by rw [List.length_set]; exact h.len, fun y hy => ?_⟩
  rcases List.mem_or_eq_of_mem_set hy with hy | rfl
  · exact h.ws y hy
  · exact hx
theorem regs_of {l : List Int} (h : regsOk l = true) : Regs l := ⟨(regsOk_iff.1 h).1, (regsOk_iff.1 h).2⟩
theorem Regs.ok {l : List Int} (h : Regs l) : regsOk l = true := regsOk_iff.2 ⟨h.len, h.ws⟩
theorem Regs.step {l : List Int} (h : Regs l) {x : Ins} (hx : InsOk x) : Regs (stepP x l) := h.set (wrdP_word hx (h.get _) (h.get _)) _
theorem stepP_len (x : Ins) (l : List Int) : (stepP x l).length = l.length := List.length_set
def Inss (c : List Ins) : Prop := ∀ x ∈ c, InsOk x
theorem Inss.cons {x : Ins} {c : List Ins} (h : Inss (x :: c)) : InsOk x ∧ Inss c := ⟨h x List.mem_cons_self, fun y hy => h y (List.mem_cons_of_mem x hy)⟩
structure CodeOk (c : List Ins) : Prop where
  len : c.length ≤ 40
  all : Inss c
theorem code_of {c : List Ins} (h : codeOk c = true) : CodeOk c := by
  unfold codeOk at h
  simp only [Bool.and_eq_true, decide_eq_true_iff, List.all_eq_true] at h
  exact ⟨h.1, fun x hx => insOk_of (h.2 x hx)⟩
theorem InsOk.ok {x : Ins} (h : InsOk x) : insOk x = true := by
  unfold insOk
  simp only [Bool.and_eq_true, inB_iff]
  exact ⟨⟨⟨⟨h.known, h.d0, h.d1⟩, h.ua⟩, h.ub⟩, h.im⟩
theorem CodeOk.ok {c : List Ins} (h : CodeOk c) : codeOk c = true := by
  unfold codeOk
  simp only [Bool.and_eq_true, decide_eq_true_iff, List.all_eq_true]
  exact ⟨h.len, fun x hx => (h.all x hx).ok⟩
theorem Regs.run {c : List Ins} (hc : Inss c) {l : List Int} (h : Regs l) : Regs (runP c l) := by
  induction c generalizing l with
  | nil => exact h
  | cons x c ih => exact ih hc.cons.2 (h.step hc.cons.1)
theorem run_v {c : List Ins} (hc : Inss c) (hl : c.length ≤ 1000000) {l : List Int} (h : Regs l) : impl_run.v c l = some ((), runP c l) := by
  have key : ∀ (d i : Nat) (l : List Int), i + d = c.length → Regs l → impl_run.v0 c (c.length : Int) (i : Int) l = some ((), runP (c.drop i) l) := by
    intro d
    induction d with
    | zero =>
      intro i l hi h
      refine impl_run.v0s _ _ _ _ ?_
      rw [br_f (by simp; omega), List.drop_eq_nil_of_le (by omega)]; rfl
    | succ d ih =>
      intro i l hi h
      have hlt : i < c.length := by omega
      have hx := hc _ (List.getElem_mem hlt)
      have hn := h.len
      refine impl_run.v0s _ _ _ _ ?_
      rw [br_t (by simpa using hlt), br_t (by simp), Int.toNat_natCast, gt_at _ hlt]
      rw [br_t (decide_eq_true hx.a0), br_t (decide_eq_true (by have := hx.a1; omega)), gt_some (getD_at hx.a0 (by have := hx.a1; omega))]
      rw [br_t (decide_eq_true hx.b0), br_t (decide_eq_true (by have := hx.b1; omega)), gt_some (getD_at hx.b0 (by have := hx.b1; omega))]
      rw [word_f hx (h.get _), bd_s]
      rw [br_t (decide_eq_true hx.d0), br_t (decide_eq_true (by have := hx.d1; omega)), gt_some (getD_at hx.d0 (by have := hx.d1; omega)), next_ok i _ hlt (by omega)]
      rw [drop_at _ _ hlt]
      exact ih (i + 1) _ (by omega) (h.step hx)
  exact impl_run.vs _ _ (by have := key c.length 0 l (by omega) h; simpa using this)
theorem clone_f (l : List Int) (h : l.length ≤ 1000000) : slices_Clone_int.f l = some (l, ()) := by
  rw [slices_Clone_int.eq]
  have e : decide (0 + l.length ≤ 35184372088832 / (8 + 1)) = true := decide_eq_true (by omega)
  rw [br_t e, List.nil_append]
  cases l with
  | nil => rw [br_f (by simp), both_same]
  | cons x r => rw [br_t (by simp)]
theorem own_f (l : List Int) (h : l.length ≤ 1000000) : spec_l1Own.f l = some (l, ()) := by
  rw [spec_l1Own.eq, br_t (decide_eq_true (by omega)), List.nil_append]
theorem runCode_v (c : List Ins) (hc : c.length ≤ 1000000) (l : List Int) (hl : l.length ≤ 1000000) :
    impl_RunCode.v c l = some (if codeOk c && regsOk l then (runP c l, true) else ([], false)) := by
  refine impl_RunCode.vs _ _ ?_
  rw [isCode_v c hc, bd_s]
  cases h1 : codeOk c with
  | false => rw [brn_f]; rfl
  | true =>
    rw [brn_t, areRegs_v l hl, bd_s]
    cases h2 : regsOk l with
    | false => rw [brn_f]; rfl
    | true => rw [brn_t, clone_f l hl, bd_s, run_v (code_of h1).all hc (regs_of h2), bd_s]; rfl
theorem cdStep_f {x : Ins} (hx : InsOk x) {l : List Int} (h : Regs l) : spec_cdStep.f x l = some (stepP x l, ()) := by
  have hn := h.len
  rw [spec_cdStep.eq, own_f l (by omega), bd_s, cdValue_f hx hn h.ws, bd_s]
  dsimp only
  rw [br_t (decide_eq_true hx.d0), br_t (decide_eq_true (by have := hx.d1; omega)), gt_some (getD_at hx.d0 (by have := hx.d1; omega))]
  rfl
theorem cdRun_v {c : List Ins} (hc : Inss c) (hl : c.length ≤ 1000000) {l : List Int} (h : Regs l) : spec_cdRun.v c l = some (runP c l) := by
  have key : ∀ (d i : Nat) (l : List Int), i + d = c.length → Regs l → spec_cdRun.v0 c (c.length : Int) (i : Int) l = some (runP (c.drop i) l) := by
    intro d
    induction d with
    | zero =>
      intro i l hi h
      refine spec_cdRun.v0s _ _ _ _ ?_
      rw [br_f (by simp; omega), List.drop_eq_nil_of_le (by omega)]; rfl
    | succ d ih =>
      intro i l hi h
      have hlt : i < c.length := by omega
      have hx := hc _ (List.getElem_mem hlt)
      refine spec_cdRun.v0s _ _ _ _ ?_
      rw [br_t (by simpa using hlt), br_t (by simp), Int.toNat_natCast, gt_at _ hlt, cdStep_f hx h, bd_s, next_ok i _ hlt (by omega), drop_at _ _ hlt]
      exact ih (i + 1) _ (by omega) (h.step hx)
  refine spec_cdRun.vs _ _ ?_
  rw [own_f l (by have := h.len; omega), bd_s]
  exact key c.length 0 l (by omega) h
theorem cdRunCode_v (c : List Ins) (hc : c.length ≤ 1000000) (l : List Int) (hl : l.length ≤ 1000000) :
    spec_RunCode.v c l = some (if codeOk c && regsOk l then (runP c l, true) else ([], false)) := by
  refine spec_RunCode.vs _ _ ?_
  rw [cdCode_v c hc, bd_s]
  cases h1 : codeOk c with
  | false => rw [brn_f]; rfl
  | true =>
    rw [brn_t, cdRegs_v l hl, bd_s]
    cases h2 : regsOk l with
    | false => rw [brn_f]; rfl
    | true => rw [brn_t, cdRun_v (code_of h1).all hc (regs_of h2), bd_s]; rfl
theorem stepInstr_v (x : Ins) (l : List Int) (hl : l.length ≤ 1000000) :
    impl_StepInstr.v x l = some (if insOk x && regsOk l then (stepP x l, true) else ([], false)) := by
  refine impl_StepInstr.vs _ _ ?_
  rw [runCode_v [x] (by simp) l hl, bd_s]
  have : codeOk [x] = insOk x := by unfold codeOk; simp
  rw [this]; rfl
theorem cdStepInstr_v (x : Ins) (l : List Int) (hl : l.length ≤ 1000000) :
    spec_StepInstr.v x l = some (if insOk x && regsOk l then (stepP x l, true) else ([], false)) := by
  refine spec_StepInstr.vs _ _ ?_
  rw [cdGood_f, bd_s]
  cases h1 : insOk x with
  | false => rw [brn_f]; rfl
  | true =>
    rw [brn_t, cdRegs_v l hl, bd_s]
    cases h2 : regsOk l with
    | false => rw [brn_f]; rfl
    | true => rw [brn_t, cdStep_f (insOk_of h1) (regs_of h2), bd_s]; rfl

/-! ### rows that are compared -/
def sameI (a b : List Int) : Bool := decide (a = b)
theorem sameI_cons (x y : Int) (a b : List Int) : sameI (x :: a) (y :: b) = (decide (x = y) && sameI a b) := by
  unfold sameI
  rw [Bool.eq_iff_iff]; simp
theorem pSame_v (a b : List Int) (ha : a.length ≤ 1000000) : laws_pSame.v a b = some (sameI a b) := by
  have key : ∀ (d i : Nat), i + d = a.length → a.length = b.length → laws_pSame.v0 a b (a.length : Int) (i : Int) = some (sameI (a.drop i) (b.drop i)) := by
    intro d
    induction d with
    | zero =>
      intro i hi hab
      refine laws_pSame.v0s _ _ _ _ ?_
      rw [br_f (by simp; omega), List.drop_eq_nil_of_le (by omega), List.drop_eq_nil_of_le (by omega)]; rfl
    | succ d ih =>
      intro i hi hab
      have hlt : i < a.length := by omega
      have hlb : i < b.length := by omega
      refine laws_pSame.v0s _ _ _ _ ?_
      rw [br_t (by simpa using hlt), br_t (by simp), Int.toNat_natCast, gt_at _ hlt, br_t (by simp), gt_at _ hlb, drop_at _ _ hlt, drop_at _ _ hlb]
      by_cases c : a[i] = b[i]
      · rw [br_f (by simpa using c), next_ok i _ hlt (by omega), ih (i + 1) (by omega) hab, sameI_cons, decide_eq_true c, Bool.true_and]
      · rw [br_t (by simpa using c), sameI_cons, decide_eq_false c, Bool.false_and]
  refine laws_pSame.vs _ _ ?_
  by_cases h : a.length = b.length
  · rw [br_f (by simp; omega)]
    have := key a.length 0 (by omega) h
    simpa using this
  · rw [br_t (by simp; omega)]
    unfold sameI; rw [Option.some_inj, eq_comm, decide_eq_false_iff_not]
    intro e; exact h (by rw [e])
theorem pSame_self (a : List Int) (ha : a.length ≤ 1000000) : laws_pSame.v a a = some true := by rw [pSame_v a a ha]; simp [sameI]
/-- draws of no size -/
theorem big_f (a b : List Int) : ∃ r, laws_big.f a b = some r ∧ (r = false → a.length ≤ 1048576 ∧ b.length ≤ 1048576) := by
  rw [laws_big.eq]
  by_cases h : (a.length : Int) > 1048576
  · exact ⟨true, br_t (decide_eq_true h), by simp⟩
  · refine ⟨_, br_f (decide_eq_false h), fun e => ?_⟩
    rw [wrap_ok (by omega) (by omega)] at e
    have := of_decide_eq_false e
    omega
end Go.Proofs.Ytkjlmkalkanimaa.Am
end
section
/- Rows of numbers that are sorted; what instructions read, what they cost: the program's functions and the reference's answer alike. -/
namespace Go.Proofs.Ytkjlmkalkanimaa.Am
open Go
set_option linter.unusedVariables false
set_option linter.unusedSimpArgs false

theorem less_f (a b : Int) : cmp_Less_int.f a b = some (decide (a < b)) := by rw [cmp_Less_int.eq, cmp_isNaN_int.eq]; simp
theorem w01 : IntKind.wrap .i64 ((0 : Int) + 1) = 1 := rfl
theorem w11 : IntKind.wrap .i64 ((1 : Int) + 1) = 2 := rfl
theorem w1 : IntKind.wrap .i64 (1 : Int) = 1 := rfl
theorem w0 : IntKind.wrap .i64 (0 : Int) = 0 := rfl
theorem w2 : IntKind.wrap .i64 (2 : Int) = 2 := rfl
theorem w10 : IntKind.wrap .i64 ((1 : Int) - 1) = 0 := rfl
theorem ins_zero (l : List Int) : slices_insertionSortOrdered_int.v 0 0 l = some ((), l) := slices_insertionSortOrdered_int.vs _ _ _ (slices_insertionSortOrdered_int.v0s _ _ _ _ (by rw [w01]; rfl))
theorem ins_one (l : List Int) : slices_insertionSortOrdered_int.v 0 1 l = some ((), l) := slices_insertionSortOrdered_int.vs _ _ _ (slices_insertionSortOrdered_int.v0s _ _ _ _ (by rw [w01]; rfl))
def sort2 (a b : Int) : List Int := if b < a then [b, a] else [a, b]
theorem ins_two (a b : Int) : slices_insertionSortOrdered_int.v 0 2 [a, b] = some ((), sort2 a b) := by
  have e2 : ∀ l, slices_insertionSortOrdered_int.v0 0 2 2 l = some ((), l) := fun l => slices_insertionSortOrdered_int.v0s _ _ _ _ rfl
  have e0 : ∀ l, slices_insertionSortOrdered_int.v1 0 2 1 0 l = some ((), l) := fun l => slices_insertionSortOrdered_int.v1s _ _ _ _ _ (by rw [w11, e2]; rfl)
  refine slices_insertionSortOrdered_int.vs _ _ _ (slices_insertionSortOrdered_int.v0s _ _ _ _ ?_)
  rw [w01, br_t (by decide)]
  refine slices_insertionSortOrdered_int.v1s _ _ _ _ _ ?_
  unfold sort2
  by_cases c : b < a
  · simp [w10, w11, w1, w0, less_f, c, e0]
  · simp [w10, w11, w1, w0, w2, less_f, c, e2]
theorem pdq (n : Int) (h0 : 0 ≤ n) (h : n ≤ 12) (k : Int) (l : List Int) {r : Unit × List Int} (hi : slices_insertionSortOrdered_int.v 0 n l = some r) : slices_pdqsortOrdered_int.v 0 n k l = some ((), r.2) := by
  refine slices_pdqsortOrdered_int.vs _ _ _ _ (slices_pdqsortOrdered_int.v0s _ _ _ _ _ _ ?_)
  rw [wrap_ok (by omega) (by omega), br_t (decide_eq_true (by omega)), hi, bd_s]
theorem len0 : bits_Len.f (IntKind.wrap .u64 0) = some 0 := by kernel_rfl
theorem len1 : bits_Len.f (IntKind.wrap .u64 1) = some 1 := by kernel_rfl
theorem len2 : bits_Len.f (IntKind.wrap .u64 2) = some 2 := by kernel_rfl
theorem sort_nil : slices_Sort_int.v [] = some ((), []) := by
  refine slices_Sort_int.vs _ ?_
  rw [show ((([] : List Int).length : Nat) : Int) = 0 from rfl, len0, bd_s, pdq 0 (by omega) (by omega) _ _ (ins_zero []), bd_s]
theorem sort_one (a : Int) : slices_Sort_int.v [a] = some ((), [a]) := by
  refine slices_Sort_int.vs _ ?_
  rw [show ((([a] : List Int).length : Nat) : Int) = 1 from rfl, len1, bd_s, pdq 1 (by omega) (by omega) _ _ (ins_one [a]), bd_s]
theorem sort_two (a b : Int) : slices_Sort_int.v [a, b] = some ((), sort2 a b) := by
  refine slices_Sort_int.vs _ ?_
  rw [show ((([a, b] : List Int).length : Nat) : Int) = 2 from rfl, len2, bd_s, pdq 2 (by omega) (by omega) _ _ (ins_two a b), bd_s]

/-! ### what is read -/
def put2 (a b : Int) : List Int := if a < b then [a, b] else if a = b then [a] else [b, a]
theorem compact_short (l : List Int) (h : l.length < 2) : slices_Compact_int.v l = some ((), l) := slices_Compact_int.vs _ (by rw [br_t (decide_eq_true (by omega))])
theorem compact_two (a b : Int) : slices_Compact_int.v (sort2 a b) = some ((), put2 a b) := by
  have e2 : ∀ x y : Int, slices_Compact_int.v0 2 [x, y] = some ((), [x, y]) := fun x y => slices_Compact_int.v0s _ _ rfl
  have ne : ∀ x y : Int, ¬ x = y → slices_Compact_int.v [x, y] = some ((), [x, y]) := fun x y h => by
    refine slices_Compact_int.vs _ ?_
    rw [br_f (by simp)]
    refine slices_Compact_int.v0s _ _ ?_
    have h' : ¬ y = x := fun e => h e.symm
    simp [w10, w11, w1, w0, w2, e2, h, h']
  have eq : ∀ x : Int, slices_Compact_int.v [x, x] = some ((), [x]) := fun x => by
    have e1 : slices_Compact_int.v1 1 1 1 1 [x, x] = some ((), [x]) := slices_Compact_int.v1s _ _ _ _ _ (by simp)
    refine slices_Compact_int.vs _ ?_
    rw [br_f (by simp)]
    refine slices_Compact_int.v0s _ _ ?_
    simp [w10, w11, w1, w0, w2, e1]
  unfold sort2 put2
  by_cases h1 : b < a
  · rw [if_pos h1, if_neg (by omega), if_neg (by omega)]; exact ne _ _ (by omega)
  · rw [if_neg h1]
    by_cases h2 : a = b
    · subst h2; rw [if_neg (by omega), if_pos rfl]; exact eq _
    · rw [if_pos (by omega)]; exact ne _ _ h2
/-- the registers that an instruction reads -/
def readsP (x : Ins) : List Int := if (formP x.1).1.1 = true then (if (formP x.1).1.2.1 = true then put2 x.2.2.1 x.2.2.2.1 else [x.2.2.1]) else if (formP x.1).1.2.1 = true then [x.2.2.2.1] else []
theorem put2_len (a b : Int) : (put2 a b).length ≤ 2 := by
  unfold put2
  repeat' split
  all_goals simp
theorem readsP_len (x : Ins) : (readsP x).length ≤ 2 := by
  unfold readsP
  repeat' split
  · exact put2_len _ _
  all_goals simp
theorem reads_v (x : Ins) : impl_Instr_reads.v x = some (readsP x) := by
  refine impl_Instr_reads.vs _ ?_
  rw [formOf_v, bd_s]
  unfold readsP
  cases ha : (formP x.1).1.1 <;> cases hb : (formP x.1).1.2.1
  · rw [br_f rfl, br_f rfl, sort_nil, bd_s, compact_short _ (by simp), bd_s]; rfl
  · rw [br_f rfl, br_t rfl, List.nil_append, sort_one, bd_s, compact_short _ (by simp), bd_s]; rfl
  · rw [br_t rfl, br_f rfl, List.nil_append, sort_one, bd_s, compact_short _ (by simp), bd_s]; rfl
  · rw [br_t rfl, br_t rfl, List.nil_append, List.singleton_append, sort_two, bd_s]
    dsimp only
    rw [compact_two, bd_s]; rfl
theorem put_nil (a : Int) : spec_l1Put.v [] a = some [a] := spec_l1Put.vs _ _ (spec_l1Put.v0s _ _ _ (by simp))
theorem put_one (a b : Int) : spec_l1Put.v [a] b = some (put2 a b) := by
  refine spec_l1Put.vs _ _ (spec_l1Put.v0s _ _ _ ?_)
  unfold put2
  by_cases h1 : a < b
  · have e : spec_l1Put.v0 [a] b 1 = some [a, b] := spec_l1Put.v0s _ _ _ (by simp)
    simp [h1, w01, w1, e]
  · by_cases h2 : a = b
    · simp [h1, h2]
    · simp [h1, h2]
theorem cdReads_v (x : Ins) (hk : (formP x.1).2 = true ∨ True) : spec_cdReads.v x = some (readsP x) := by
  refine spec_cdReads.vs _ ?_
  rw [cdShape_f, bd_s]
  unfold readsP shapeP
  dsimp only
  cases ha : (formP x.1).1.1 <;> cases hb : (formP x.1).1.2.1
  · rw [br_f rfl, br_f rfl]; rfl
  · rw [br_f rfl, br_t rfl, put_nil, bd_s]; rfl
  · rw [br_t rfl, put_nil, bd_s, br_f rfl]; rfl
  · rw [br_t rfl, put_nil, bd_s, br_t rfl, put_one, bd_s]; rfl
theorem readsOf_v (x : Ins) : impl_ReadsOf.v x = some (if insOk x then (readsP x, true) else ([], false)) := by
  refine impl_ReadsOf.vs _ ?_
  rw [isInstr_v, bd_s]
  cases insOk x with
  | false => rw [brn_f]; rfl
  | true => rw [brn_t, reads_v, bd_s]; rfl
theorem cdReadsOf_v (x : Ins) : spec_ReadsOf.v x = some (if insOk x then (readsP x, true) else ([], false)) := by
  refine spec_ReadsOf.vs _ ?_
  rw [cdGood_f, bd_s]
  cases insOk x with
  | false => rw [brn_f]; rfl
  | true => rw [brn_t, cdReads_v x (.inr trivial), bd_s]; rfl

/-! ### what instructions cost -/
theorem formCost {s : ByteArray} (h : (formP s).2 = true) : (formP s).1.2.2.2.2.1 = opCost s := by
  by_cases hs : s ∈ allOps
  · simp only [allOps, opsL, List.cons_append, List.nil_append, List.mem_cons, List.not_mem_nil, or_false] at hs
    rcases hs with rfl | rfl | rfl | rfl | rfl | rfl | rfl | rfl | rfl | rfl | rfl | rfl | rfl | rfl | rfl | rfl | rfl | rfl | rfl | rfl <;> decide
  · rw [form_none hs] at h; cases h
theorem cost_v {x : Ins} (h : InsOk x) : impl_Instr_cost.v x = some (opCost x.1) := by
  refine impl_Instr_cost.vs _ ?_
  rw [formOf_v, bd_s, formCost h.known]
theorem costOfInstr_v (x : Ins) : impl_CostOfInstr.v x = some (if insOk x then (opCost x.1, true) else (0, false)) := by
  refine impl_CostOfInstr.vs _ ?_
  rw [isInstr_v, bd_s]
  cases h : insOk x with
  | false => rw [brn_f]; rfl
  | true => rw [brn_t, cost_v (insOk_of h), bd_s]; rfl
theorem cdCostOfInstr_f (x : Ins) : spec_CostOfInstr.f x = some (if insOk x then (opCost x.1, true) else (0, false)) := by
  rw [spec_CostOfInstr.eq, cdGood_f, bd_s]
  cases h : insOk x with
  | false => rw [brn_f]; rfl
  | true => rw [brn_t, cdCost_f, bd_s]; rfl
end Go.Proofs.Ytkjlmkalkanimaa.Am
end
section
/- Rows of up to twelve numbers, sorted: what comes out rises and holds the same numbers. -/
namespace Go.Proofs.Ytkjlmkalkanimaa.Am
open Go
set_option linter.unusedVariables false
set_option linter.unusedSimpArgs false

theorem at0 {α : Type} (y x : α) (R : List α) : ∀ A : List α, (A ++ y :: x :: R)[A.length]? = some y
  | [] => rfl
  | a :: A => by simp
theorem at1 {α : Type} (y x : α) (R : List α) : ∀ A : List α, (A ++ y :: x :: R)[A.length + 1]? = some x
  | [] => rfl
  | a :: A => by simp
theorem set0 {α : Type} (y x z : α) (R : List α) : ∀ A : List α, (A ++ y :: x :: R).set A.length z = A ++ z :: x :: R
  | [] => rfl
  | a :: A => by simp
theorem set1 {α : Type} (y x z : α) (R : List α) : ∀ A : List α, (A ++ y :: x :: R).set (A.length + 1) z = A ++ y :: z :: R
  | [] => rfl
  | a :: A => by simp
def Up (l : List Int) : Prop := l.Pairwise (· ≤ ·)
theorem ins_inner (n i : Nat) (hn : n ≤ 1000000) : ∀ (j : Nat) (A : List Int) (x : Int) (B C : List Int), A.length = j → i = j + B.length → A.length + 1 + B.length + C.length = n → Up (A ++ B) → (∀ b ∈ B, x < b) →
    ∃ M, M.Perm (A ++ x :: B) ∧ Up M ∧ ∀ r, slices_insertionSortOrdered_int.v0 0 (n : Int) ((i + 1 : Nat) : Int) (M ++ C) = some r → slices_insertionSortOrdered_int.v1 0 (n : Int) (i : Int) (j : Int) (A ++ x :: (B ++ C)) = some r := by
  intro j
  induction j with
  | zero =>
    intro A x B C hA hi hl hu hx
    obtain rfl := List.length_eq_zero_iff.1 hA
    refine ⟨x :: B, List.Perm.refl _, ?_, fun r hr => ?_⟩
    · unfold Up at hu ⊢
      rw [List.pairwise_cons]
      exact ⟨fun b hb => by have := hx b hb; omega, by simpa using hu⟩
    · refine slices_insertionSortOrdered_int.v1s _ _ _ _ _ ?_
      rw [br_f (by simp), wrap_ok (by omega) (by omega)]
      exact hr
  | succ j ih =>
    intro A x B C hA hi hl hu hx
    obtain ⟨A', y, rfl⟩ : ∃ A' y, A = A' ++ [y] := by
      rcases List.eq_nil_or_concat A with h | ⟨A', y, h⟩
      · subst h; simp at hA
      · exact ⟨A', y, by simpa using h⟩
    have hA' : A'.length = j := by simpa using hA
    have e : A' ++ [y] ++ x :: (B ++ C) = A' ++ y :: x :: (B ++ C) := by simp
    have hl' : A'.length + 2 + B.length + C.length = n := by simp at hl; omega
    rw [e]
    have hlen : ((A' ++ y :: x :: (B ++ C)).length : Int) = n := by simp; omega
    have t1 : Int.toNat ((j + 1 : Nat) : Int) = A'.length + 1 := by omega
    have t0 : Int.toNat (j : Int) = A'.length := by omega
    have wj : IntKind.wrap .i64 (((j + 1 : Nat) : Int) - 1) = (j : Int) := by rw [wrap_ok (by omega) (by omega)]; omega
    have body : ∀ r, br (decide (x < y)) (slices_insertionSortOrdered_int.v1 0 (n : Int) (i : Int) (j : Int) (A' ++ x :: y :: (B ++ C))) (slices_insertionSortOrdered_int.v0 0 (n : Int) ((i + 1 : Nat) : Int) (A' ++ y :: x :: (B ++ C))) = some r →
        slices_insertionSortOrdered_int.v1 0 (n : Int) (i : Int) ((j + 1 : Nat) : Int) (A' ++ y :: x :: (B ++ C)) = some r := fun r hr => by
      refine slices_insertionSortOrdered_int.v1s _ _ _ _ _ ?_
      have wi : IntKind.wrap .i64 ((i : Int) + 1) = ((i + 1 : Nat) : Int) := by rw [wrap_ok (by omega) (by omega)]; rfl
      rw [wj, wi, br_t (decide_eq_true (by omega)), br_t (decide_eq_true (by omega)), br_t (decide_eq_true (by omega)), t1, gt_some (at1 _ _ _ _), br_t (decide_eq_true (by omega)), br_t (decide_eq_true (by omega)), t0, gt_some (at0 _ _ _ _), less_f, bd_s]
      by_cases c : x < y
      · rw [br_t (decide_eq_true c)] at hr ⊢
        rw [br_t (decide_eq_true (by omega)), br_t (decide_eq_true (by omega)), gt_some (at0 _ _ _ _)]
        rw [br_t (decide_eq_true (by omega)), br_t (decide_eq_true (by omega)), gt_some (at1 _ _ _ _)]
        rw [br_t (decide_eq_true (by omega)), br_t (decide_eq_true (by omega)), gt_some (at1 _ _ _ _)]
        rw [set1, br_t (decide_eq_true (by omega)), br_t (decide_eq_true (by simp; omega)), gt_some (at0 _ _ _ _), set0]
        exact hr
      · rw [br_f (decide_eq_false c)] at hr ⊢
        exact hr
    by_cases c : x < y
    · have hu' : Up (A' ++ (y :: B)) := by simpa [Up] using hu
      obtain ⟨M, hp, hM, hv⟩ := ih A' x (y :: B) C hA' (by simp; omega) (by simp; omega) hu' (fun b hb => by
        rcases List.mem_cons.1 hb with rfl | hb
        · exact c
        · exact hx b hb)
      refine ⟨M, hp.trans ?_, hM, fun r hr => body r ?_⟩
      · rw [List.append_assoc]
        exact (List.Perm.append_left A' (List.Perm.swap y x B))
      · rw [br_t (decide_eq_true c)]
        exact hv r hr
    · refine ⟨A' ++ [y] ++ x :: B, List.Perm.refl _, ?_, fun r hr => body r ?_⟩
      · unfold Up at hu ⊢
        simp only [List.append_assoc, List.singleton_append, List.pairwise_append, List.pairwise_cons, List.mem_cons] at hu ⊢
        obtain ⟨h1, ⟨h2, h3⟩, h4⟩ := hu
        refine ⟨h1, ⟨fun b hb => ?_, fun b hb => by have := hx b hb; omega, h3⟩, fun a ha b hb => ?_⟩
        · rcases hb with rfl | hb
          · omega
          · exact h2 b hb
        · rcases hb with rfl | rfl | hb
          · exact h4 a ha _ (.inl rfl)
          · have := h4 a ha y (.inl rfl); omega
          · exact h4 a ha b (.inr hb)
      · rw [br_f (decide_eq_false c)]
        have e2 : A' ++ [y] ++ x :: B ++ C = A' ++ y :: x :: (B ++ C) := by simp
        rw [e2] at hr
        exact hr
theorem ins_outer (n : Nat) (hn : n ≤ 1000000) : ∀ (d i : Nat) (S C : List Int), S.length = i → i + d = n → C.length = d → Up S → ∃ M, M.Perm (S ++ C) ∧ Up M ∧ slices_insertionSortOrdered_int.v0 0 (n : Int) (i : Int) (S ++ C) = some ((), M) := by
  intro d
  induction d with
  | zero =>
    intro i S C hS hi hC hu
    obtain rfl := List.length_eq_zero_iff.1 hC
    refine ⟨S, by simp, hu, slices_insertionSortOrdered_int.v0s _ _ _ _ ?_⟩
    rw [br_f (by simp; omega), List.append_nil]
  | succ d ih =>
    intro i S C hS hi hC hu
    obtain ⟨x, C, rfl⟩ : ∃ x C', C = x :: C' := by
      cases C with
      | nil => simp at hC
      | cons x C => exact ⟨x, C, rfl⟩
    have hC' : C.length = d := by simpa using hC
    obtain ⟨M, hp, hM, hv⟩ := ins_inner n i hn i S x [] C hS (by simp) (by simp; omega) (by simpa [Up] using hu) (by simp)
    have hML : M.length = i + 1 := by have := hp.length_eq; simpa [hS] using this
    obtain ⟨M2, hp2, hM2, hv2⟩ := ih (i + 1) M C hML (by omega) hC' hM
    refine ⟨M2, hp2.trans ?_, hM2, slices_insertionSortOrdered_int.v0s _ _ _ _ ?_⟩
    · have := hp.append_right C
      simpa using this
    · rw [br_t (decide_eq_true (by omega))]
      exact hv _ hv2
theorem ins_all (l : List Int) (hl : l.length ≤ 1000000) : ∃ M, M.Perm l ∧ Up M ∧ slices_insertionSortOrdered_int.v 0 (l.length : Int) l = some ((), M) := by
  cases l with
  | nil => exact ⟨[], List.Perm.refl _, List.Pairwise.nil, ins_zero []⟩
  | cons x l =>
    obtain ⟨M, hp, hM, hv⟩ := ins_outer (x :: l).length hl l.length 1 [x] l rfl (by simp; omega) rfl (List.pairwise_singleton _ _)
    exact ⟨M, hp, hM, slices_insertionSortOrdered_int.vs _ _ _ (by rw [w01]; exact hv)⟩
theorem lens (n : Nat) (hn : n ≤ 12) : ∃ r, bits_Len.f (IntKind.wrap .u64 (n : Int)) = some r := by
  have h : n = 0 ∨ n = 1 ∨ n = 2 ∨ n = 3 ∨ n = 4 ∨ n = 5 ∨ n = 6 ∨ n = 7 ∨ n = 8 ∨ n = 9 ∨ n = 10 ∨ n = 11 ∨ n = 12 := by omega
  rcases h with rfl | rfl | rfl | rfl | rfl | rfl | rfl | rfl | rfl | rfl | rfl | rfl | rfl
  · exact ⟨0, by kernel_rfl⟩
  · exact ⟨1, by kernel_rfl⟩
  · exact ⟨2, by kernel_rfl⟩
  · exact ⟨2, by kernel_rfl⟩
  · exact ⟨3, by kernel_rfl⟩
  · exact ⟨3, by kernel_rfl⟩
  · exact ⟨3, by kernel_rfl⟩
  · exact ⟨3, by kernel_rfl⟩
  · exact ⟨4, by kernel_rfl⟩
  · exact ⟨4, by kernel_rfl⟩
  · exact ⟨4, by kernel_rfl⟩
  · exact ⟨4, by kernel_rfl⟩
  · exact ⟨4, by kernel_rfl⟩
theorem sort_v (l : List Int) (hl : l.length ≤ 12) : ∃ M, M.Perm l ∧ Up M ∧ slices_Sort_int.v l = some ((), M) := by
  obtain ⟨M, hp, hM, hv⟩ := ins_all l (by omega)
  obtain ⟨r, hr⟩ := lens l.length hl
  refine ⟨M, hp, hM, slices_Sort_int.vs _ ?_⟩
  rw [hr, bd_s, pdq _ (by omega) (by omega) _ _ hv, bd_s]
/-- numbers that rise -/
def rising : List Int → Bool
  | [] => true
  | [_] => true
  | a :: b :: r => decide (a < b) && rising (b :: r)
theorem rising_nodup : ∀ {l : List Int}, Up l → rising l = decide l.Nodup
  | [], _ => by simp [rising]
  | [_], _ => by simp [rising]
  | a :: b :: r, h => by
    unfold Up at h
    rw [List.pairwise_cons] at h
    have ih := rising_nodup (l := b :: r) h.2
    rw [rising, ih, Bool.eq_iff_iff, Bool.and_eq_true, decide_eq_true_iff, decide_eq_true_iff, decide_eq_true_iff, List.nodup_cons (a := a)]
    have hab := h.1 b List.mem_cons_self
    constructor
    · rintro ⟨h1, h2⟩
      refine ⟨fun hm => ?_, h2⟩
      have h3 := h.2
      rw [List.pairwise_cons] at h3
      rcases List.mem_cons.1 hm with e | e
      · omega
      · have := h3.1 a e; omega
    · rintro ⟨h1, h2⟩
      refine ⟨?_, h2⟩
      have : a ≠ b := fun e => h1 (e ▸ List.mem_cons_self)
      omega
end Go.Proofs.Ytkjlmkalkanimaa.Am
end
section
/- Code with other registers: the program's functions and the reference's answer alike. -/
namespace Go.Proofs.Ytkjlmkalkanimaa.Am
open Go
set_option linter.unusedVariables false
set_option linter.unusedSimpArgs false

theorem l1Has_v (l : List Int) (s : Int) (hl : l.length ≤ 1000000) : spec_l1Has.v l s = some (decide (s ∈ l)) := ev_lim (l1Has_ev l s (by omega))
theorem containsI_v (l : List Int) (s : Int) (hl : l.length ≤ 1000000) : slices_Contains_int.v l s = some (decide (s ∈ l)) := ev_lim (containsI_ev l s (by omega))
theorem rising_drop : ∀ (l : List Int) (i : Nat) (h : i + 1 < l.length), rising (l.drop i) = (decide (l[i] < l[i + 1]) && rising (l.drop (i + 1)))
  | l, i, h => by
    rw [drop_at _ i (by omega), drop_at _ (i + 1) h]; rfl
theorem isRising_v (l : List Int) (hl : l.length ≤ 1000000) : impl_isRising.v l = some (rising l) := by
  have key : ∀ (d i : Nat), i + 1 + d = l.length → impl_isRising.v0 l ((i + 1 : Nat) : Int) = some (rising (l.drop i)) := by
    intro d
    induction d with
    | zero =>
      intro i hi
      refine impl_isRising.v0s _ _ ?_
      rw [br_f (by simp; omega), drop_at _ i (by omega), List.drop_eq_nil_of_le (by omega)]; rfl
    | succ d ih =>
      intro i hi
      have hlt : i + 1 < l.length := by omega
      refine impl_isRising.v0s _ _ ?_
      have w : IntKind.wrap .i64 (((i + 1 : Nat) : Int) - 1) = (i : Int) := by rw [wrap_ok (by omega) (by omega)]; omega
      rw [br_t (decide_eq_true (by omega)), br_t (by simp; omega), Int.toNat_natCast, gt_at _ hlt, w, br_t (by simp), Int.toNat_natCast, gt_at _ (show i < l.length by omega), next_ok (i + 1) _ hlt (by omega), rising_drop l i hlt]
      by_cases c : l[i] < l[i + 1]
      · rw [br_f (decide_eq_false (by omega)), ih (i + 1) (by omega), decide_eq_true c, Bool.true_and]
      · rw [br_t (decide_eq_true (by omega)), decide_eq_false c, Bool.false_and]
  refine impl_isRising.vs _ ?_
  cases l with
  | nil => exact impl_isRising.v0s _ _ (by rw [br_f (by simp)]; rfl)
  | cons x r => exact key r.length 0 (by simp; omega)
theorem contWanted_v (c : List Int) (hl : c.length ≤ 1000000) : slices_ContainsFunc_int_areWanted.v c = some (!c.all fun x => inB x 0 5) := by
  have key : ∀ (d i : Nat), i + d = c.length → ∃ r : Int, slices_IndexFunc_int_areWanted.v0 c (c.length : Int) (i : Int) = some r ∧ (0 ≤ r ↔ (c.drop i).all (fun x => inB x 0 5) = false) := by
    intro d
    induction d with
    | zero =>
      intro i hi
      refine ⟨-1, slices_IndexFunc_int_areWanted.v0s _ _ _ (by rw [br_f (by simp; omega)]), ?_⟩
      rw [List.drop_eq_nil_of_le (by omega)]; simp
    | succ d ih =>
      intro i hi
      have hlt : i < c.length := by omega
      rw [drop_at _ _ hlt, List.all_cons]
      cases e : inB c[i] 0 5 with
      | false => exact ⟨i, slices_IndexFunc_int_areWanted.v0s _ _ _ (by rw [br_t (by simpa using hlt), br_t (by simp), Int.toNat_natCast, gt_at _ hlt, impl_areWanted_1.eq, isRegister_f, bd_s, e, bd_s, brn_f]), by simp⟩
      | true =>
        obtain ⟨r, h, hr⟩ := ih (i + 1) (by omega)
        exact ⟨r, slices_IndexFunc_int_areWanted.v0s _ _ _ (by rw [br_t (by simpa using hlt), br_t (by simp), Int.toNat_natCast, gt_at _ hlt, impl_areWanted_1.eq, isRegister_f, bd_s, e, bd_s, brn_t, next_ok i _ hlt (by omega), h]), by simpa using hr⟩
  obtain ⟨r, h, hr⟩ := key c.length 0 (by omega)
  refine slices_ContainsFunc_int_areWanted.vs _ ?_
  rw [slices_IndexFunc_int_areWanted.vs _ h, bd_s]
  congr 1
  rw [List.drop_zero] at hr
  rw [Bool.eq_iff_iff, decide_eq_true_iff]
  simpa using hr
/-- registers that rise -/
def wanted (l : List Int) : Bool := rising l && l.all fun x => inB x 0 5
theorem areWanted_v (l : List Int) (hl : l.length ≤ 1000000) : impl_areWanted.v l = some (wanted l) := by
  refine impl_areWanted.vs _ ?_
  rw [isRising_v l hl, bd_s]
  unfold wanted
  cases rising l with
  | false => rfl
  | true => rw [br_t rfl, contWanted_v l hl, bd_s]; simp
/-- each register once -/
def namesOk (l : List Int) : Bool := decide (l.length = 6) && ((l.all fun x => inB x 0 5) && decide l.Nodup)
theorem wanted_sorted {l M : List Int} (hp : M.Perm l) (hM : Up M) : wanted M = ((l.all fun x => inB x 0 5) && decide l.Nodup) := by
  unfold wanted
  rw [rising_nodup hM, Bool.and_comm]
  congr 1
  · rw [Bool.eq_iff_iff, List.all_eq_true, List.all_eq_true]
    exact ⟨fun h x hx => h x (hp.mem_iff.2 hx), fun h x hx => h x (hp.mem_iff.1 hx)⟩
  · rw [decide_eq_decide]; exact hp.nodup_iff
theorem nodup_take (l : List Int) (i : Nat) (h : i < l.length) : (l.take (i + 1)).Nodup ↔ (l.take i).Nodup ∧ l[i] ∉ l.take i := by
  rw [List.take_succ_eq_append_getElem h, List.nodup_append]
  constructor
  · rintro ⟨h1, _, h3⟩
    exact ⟨h1, fun hm => h3 _ hm _ List.mem_cons_self rfl⟩
  · rintro ⟨h1, h2⟩
    refine ⟨h1, by simp, fun a ha b hb => ?_⟩
    simp only [List.mem_singleton] at hb
    subst hb
    exact fun e => h2 (e ▸ ha)
theorem cdNames_v (l : List Int) (hl : l.length ≤ 1000000) : spec_cdNames.v l = some (namesOk l) := by
  have key : ∀ (d i : Nat), i + d = l.length → (l.take i).Nodup → spec_cdNames.v0 l l (l.length : Int) (i : Int) = some (decide l.Nodup) := by
    intro d
    induction d with
    | zero =>
      intro i hi hn
      refine spec_cdNames.v0s _ _ _ _ ?_
      rw [List.take_of_length_le (by omega)] at hn
      rw [br_f (by simp; omega), decide_eq_true hn]
    | succ d ih =>
      intro i hi hn
      have hlt : i < l.length := by omega
      refine spec_cdNames.v0s _ _ _ _ ?_
      rw [br_t (by simpa using hlt), br_t (by simp), Int.toNat_natCast, gt_at _ hlt, br_t (by simp), br_t (by simp; omega)]
      rw [show Int.toNat (0 : Int) = 0 from rfl, List.drop_zero, l1Has_v _ _ (by rw [List.length_take]; omega), bd_s]
      by_cases c : l[i] ∈ l.take i
      · rw [br_t (decide_eq_true c), eq_comm, Option.some_inj, decide_eq_false_iff_not]
        intro hN
        have : (l.take (i + 1)).Nodup := hN.sublist (List.take_sublist _ _)
        exact ((nodup_take l i hlt).1 this).2 c
      · rw [br_f (decide_eq_false c), next_ok i _ hlt (by omega)]
        exact ih (i + 1) (by omega) ((nodup_take l i hlt).2 ⟨hn, c⟩)
  refine spec_cdNames.vs _ ?_
  unfold namesOk
  by_cases h : l.length = 6
  · rw [br_f (by simp; omega), l1All_v l _ _ hl, bd_s]
    simp only [h, decide_true, Bool.true_and]
    cases e : (l.all fun x => inB x 0 5) with
    | false => rw [brn_f]; rfl
    | true =>
      rw [brn_t, Bool.true_and]
      have := key l.length 0 (by omega) (by simp)
      rw [h] at this
      rw [show ((6 : Nat) : Int) = (l.length : Int) by omega] at this ⊢
      exact this
  · rw [br_t (by simp; omega)]; simp [h]
/-- an instruction with other registers -/
def nm (names : List Int) (j : Int) : Int := names.getD j.toNat 0
def renI (names : List Int) (x : Ins) : Ins := (x.1, nm names x.2.1, if (formP x.1).1.1 = true then nm names x.2.2.1 else 0, if (formP x.1).1.2.1 = true then nm names x.2.2.2.1 else 0, x.2.2.2.2)
structure Names (l : List Int) : Prop where
  len : l.length = 6
  reg : ∀ x ∈ l, 0 ≤ x ∧ x ≤ 5
  nd : l.Nodup
theorem names_of {l : List Int} (h : namesOk l = true) : Names l := by
  unfold namesOk at h
  simp only [Bool.and_eq_true, decide_eq_true_iff, List.all_eq_true, inB_iff] at h
  exact ⟨h.1, h.2.1, h.2.2⟩
theorem Names.nm {l : List Int} (h : Names l) {j : Int} (h0 : 0 ≤ j) (h1 : j ≤ 5) : l[j.toNat]? = some (nm l j) ∧ 0 ≤ nm l j ∧ nm l j ≤ 5 := by
  have hl := h.len
  have e := getD_at (l := l) h0 (by omega)
  exact ⟨e, h.reg _ (List.mem_of_getElem? e)⟩
theorem unused_zero {u : Bool} {r : Int} (h : usedP u r = true) (hu : u = false) : r = 0 := by
  unfold usedP at h
  subst hu
  simpa using h
theorem room48 {n : Nat} (h : n ≤ 1000000) (x : Ins) : decide (n + [x].length ≤ 35184372088832 / (48 + 1)) = true := decide_eq_true (by simp; omega)
theorem cdRename_v {c : List Ins} {names : List Int} (hc : Inss c) (hl : c.length ≤ 1000000) (hn : Names names) :
    spec_RenameCode.v0 names c (c.length : Int) 0 [] = some (c.map (renI names), true) := by
  have key : ∀ (d i : Nat), i + d = c.length → spec_RenameCode.v0 names c (c.length : Int) (i : Int) ((c.take i).map (renI names)) = some (c.map (renI names), true) := by
    intro d
    induction d with
    | zero =>
      intro i hi
      refine spec_RenameCode.v0s _ _ _ _ _ ?_
      rw [br_f (by simp; omega), List.take_of_length_le (by omega)]
    | succ d ih =>
      intro i hi
      have hlt : i < c.length := by omega
      have hx := hc _ (List.getElem_mem hlt)
      have go := ih (i + 1) (by omega)
      rw [List.take_succ_eq_append_getElem hlt, List.map_append] at go
      have hln : ((c.take i).map (renI names)).length ≤ 1000000 := by rw [List.length_map, List.length_take]; omega
      refine spec_RenameCode.v0s _ _ _ _ _ ?_
      rw [br_t (by simpa using hlt), br_t (by simp), Int.toNat_natCast, gt_at _ hlt, cdShape_f, bd_s, next_ok i _ hlt (by omega)]
      rw [br_t (decide_eq_true hx.d0), gt_some (hn.nm hx.d0 hx.d1).1]
      unfold shapeP
      dsimp only
      unfold renI at go
      cases ha : (formP c[i].1).1.1 <;> cases hb : (formP c[i].1).1.2.1 <;> simp only [List.map_cons, List.map_nil, ha, hb, if_true, if_false, Bool.false_eq_true] at go
      · rw [br_f rfl, br_f rfl, br_t (room48 hln _)]; exact go
      · rw [br_f rfl, br_t rfl, br_t (decide_eq_true hx.b0), gt_some (hn.nm hx.b0 hx.b1).1, br_t (room48 hln _)]; exact go
      · rw [br_t rfl, br_t (decide_eq_true hx.a0), gt_some (hn.nm hx.a0 hx.a1).1, br_f rfl, br_t (room48 hln _)]; exact go
      · rw [br_t rfl, br_t (decide_eq_true hx.a0), gt_some (hn.nm hx.a0 hx.a1).1, br_t rfl, br_t (decide_eq_true hx.b0), gt_some (hn.nm hx.b0 hx.b1).1, br_t (room48 hln _)]; exact go
  exact key c.length 0 (by omega)
theorem cloneI_f (l : List Ins) (h : l.length ≤ 1000000) : slices_Clone_Instr.f l = some (l, ()) := by
  rw [slices_Clone_Instr.eq]
  have e : decide (0 + l.length ≤ 35184372088832 / (48 + 1)) = true := decide_eq_true (by omega)
  rw [br_t e, List.nil_append]
  cases l with
  | nil => rw [br_f (by simp), both_same]
  | cons x r => rw [br_t (by simp)]
theorem mid_get {α : Type} (A : List α) (x : α) (R : List α) : (A ++ x :: R)[A.length]? = some x := by simp
theorem implRename_v {c : List Ins} {names : List Int} (hc : Inss c) (hl : c.length ≤ 1000000) (hn : Names names) :
    impl_RenameCode.v0 names c (c.length : Int) 0 c = some (c.map (renI names), true) := by
  have key : ∀ (d i : Nat), i + d = c.length → impl_RenameCode.v0 names c (c.length : Int) (i : Int) ((c.take i).map (renI names) ++ c.drop i) = some (c.map (renI names), true) := by
    intro d
    induction d with
    | zero =>
      intro i hi
      refine impl_RenameCode.v0s _ _ _ _ _ ?_
      rw [br_f (by simp; omega), List.take_of_length_le (by omega), List.drop_eq_nil_of_le (by omega), List.append_nil]
    | succ d ih =>
      intro i hi
      have hlt : i < c.length := by omega
      have hx := hc _ (List.getElem_mem hlt)
      have go := ih (i + 1) (by omega)
      rw [List.take_succ_eq_append_getElem hlt, List.map_append, List.append_assoc] at go
      have hA : ((c.take i).map (renI names)).length = i := by rw [List.length_map, List.length_take]; omega
      refine impl_RenameCode.v0s _ _ _ _ _ ?_
      rw [br_t (by simpa using hlt), br_t (by simp), Int.toNat_natCast, gt_at _ hlt, formOf_v, bd_s, next_ok i _ hlt (by omega), drop_at _ _ hlt]
      generalize (c.take i).map (renI names) = A at hA go
      have hget : ∀ (x : Ins) (R : List Ins), (A ++ x :: R)[i]? = some x := fun x R => by rw [← hA]; exact mid_get A x R
      have hset : ∀ (x y : Ins) (R : List Ins), (A ++ x :: R).set i y = A ++ y :: R := fun x y R => by rw [← hA]; exact set_mid A x y R
      have hlen : ∀ (x : Ins), decide ((i : Int) < ((A ++ x :: c.drop (i + 1)).length : Int)) = true := fun x => decide_eq_true (by simp; omega)
      have ua := hx.ua
      have ub := hx.ub
      have ea : (formP c[i].1).1.1 = false → c[i].2.2.1 = 0 := unused_zero ua
      have eb : (formP c[i].1).1.2.1 = false → c[i].2.2.2.1 = 0 := unused_zero ub
      rw [br_t (decide_eq_true hx.d0), gt_some (hn.nm hx.d0 hx.d1).1, br_t (by simp), br_t (hlen _), gt_some (hget _ _), hset]
      unfold renI at go
      cases ha : (formP c[i].1).1.1 <;> cases hb : (formP c[i].1).1.2.1 <;> simp only [List.map_cons, List.map_nil, ha, hb, if_true, if_false, Bool.false_eq_true, List.cons_append, List.nil_append] at go
      · rw [br_f rfl, br_f rfl, show c[i].2.2 = (c[i].2.2.1, c[i].2.2.2.1, c[i].2.2.2.2) from rfl, ea ha, eb hb]; exact go
      · rw [br_f rfl, br_t rfl, br_t (decide_eq_true hx.b0), gt_some (hn.nm hx.b0 hx.b1).1, br_t (by simp), br_t (hlen _), gt_some (hget _ _), hset]
        dsimp only
        rw [ea ha]; exact go
      · rw [br_t rfl, br_t (decide_eq_true hx.a0), gt_some (hn.nm hx.a0 hx.a1).1, br_t (by simp), br_t (hlen _), gt_some (hget _ _), hset, br_f rfl]
        dsimp only
        rw [show c[i].2.2.2 = (c[i].2.2.2.1, c[i].2.2.2.2) from rfl, eb hb]; exact go
      · rw [br_t rfl, br_t (decide_eq_true hx.a0), gt_some (hn.nm hx.a0 hx.a1).1, br_t (by simp), br_t (hlen _), gt_some (hget _ _), hset]
        rw [br_t rfl, br_t (decide_eq_true hx.b0), gt_some (hn.nm hx.b0 hx.b1).1, br_t (by simp), br_t (hlen _), gt_some (hget _ _), hset]
        exact go
  have := key c.length 0 (by omega)
  simpa using this
theorem renameCode_v (c : List Ins) (hc : c.length ≤ 1000000) (names : List Int) (hn : names.length ≤ 12) :
    impl_RenameCode.v c names = some (if codeOk c && namesOk names then (c.map (renI names), true) else ([], false)) := by
  obtain ⟨M, hp, hM, hv⟩ := sort_v names hn
  have hML := hp.length_eq
  refine impl_RenameCode.vs _ _ ?_
  rw [clone_f names (by omega), bd_s]
  dsimp only
  rw [hv, bd_s, isCode_v c hc, bd_s]
  cases h1 : codeOk c with
  | false => rw [brn_f]; rfl
  | true =>
    rw [brn_t, Bool.true_and]
    by_cases h6 : names.length = 6
    · rw [br_f (by simp; omega), areWanted_v M (by omega), bd_s, wanted_sorted hp hM]
      have e : namesOk names = ((names.all fun x => inB x 0 5) && decide names.Nodup) := by unfold namesOk; simp [h6]
      rw [← e]
      cases h2 : namesOk names with
      | false => rw [brn_f]; rfl
      | true => rw [brn_t, cloneI_f c hc, bd_s, implRename_v (code_of h1).all hc (names_of h2)]; rfl
    · rw [br_t (by simp; omega)]
      have e : namesOk names = false := by unfold namesOk; simp [h6]
      rw [e]; rfl
theorem cdRenameCode_v (c : List Ins) (hc : c.length ≤ 1000000) (names : List Int) (hn : names.length ≤ 1000000) :
    spec_RenameCode.v c names = some (if codeOk c && namesOk names then (c.map (renI names), true) else ([], false)) := by
  refine spec_RenameCode.vs _ _ ?_
  rw [cdCode_v c hc, bd_s]
  cases h1 : codeOk c with
  | false => rw [brn_f]; rfl
  | true =>
    rw [brn_t, cdNames_v names hn, bd_s]
    cases h2 : namesOk names with
    | false => rw [brn_f]; rfl
    | true => rw [brn_t, cdRename_v (code_of h1).all hc (names_of h2)]; rfl
end Go.Proofs.Ytkjlmkalkanimaa.Am
end
section
/- What is drawn off bytes: numbers, instructions, code, registers: there is always an answer, of a bounded size. -/
namespace Go.Proofs.Ytkjlmkalkanimaa.Am
open Go
set_option linter.unusedVariables false
set_option linter.unusedSimpArgs false

abbrev Cur := List Int × Int × Int
/-- a cursor over bytes that stands at n at most -/
def Cu (n : Int) (c : Cur) : Prop := (∀ x ∈ c.1, 0 ≤ x ∧ x ≤ 255) ∧ 0 ≤ c.2.1 ∧ c.2.1 ≤ n
/-- something is drawn -/
def Dr {α : Type} (x : Option (α × Cur)) (n : Int) (P : α → Prop) : Prop := ∃ r c, x = some (r, c) ∧ P r ∧ Cu n c
theorem Cu.mono {n m : Int} {c : Cur} (h : Cu n c) (hm : n ≤ m) : Cu m c := ⟨h.1, h.2.1, by have := h.2.2; omega⟩
section
variable {α β : Type}
theorem Dr.ret {r : α} {c : Cur} {n m : Int} {P : α → Prop} (hc : Cu n c) (hm : n ≤ m) (hr : P r) : Dr (some (r, c)) m P := ⟨r, c, rfl, hr, hc.mono hm⟩
theorem Dr.bd {x : Option (α × Cur)} {g : α × Cur → Option (β × Cur)} {n m : Int} {P : α → Prop} {Q : β → Prop} (h : Dr x n P) (k : ∀ r c, P r → Cu n c → Dr (g (r, c)) m Q) : Dr (Am.bd x g) m Q := by
  obtain ⟨r, c, e, hr, hc⟩ := h
  obtain ⟨s, d, e2, hs, hd⟩ := k r c hr hc
  exact ⟨s, d, by rw [e]; exact e2, hs, hd⟩
theorem Dr.here {γ : Type} {x : Option γ} {v : γ} {g : γ → Option (β × Cur)} {m : Int} {Q : β → Prop} (e : x = some v) (k : Dr (g v) m Q) : Dr (Am.bd x g) m Q := by rw [e]; exact k
theorem Dr.br {b : Bool} {x y : Option (β × Cur)} {m : Int} {Q : β → Prop} (h1 : b = true → Dr x m Q) (h2 : b = false → Dr y m Q) : Dr (Am.br b x y) m Q := by
  cases b with
  | true => exact h1 rfl
  | false => exact h2 rfl
theorem Dr.pos {b : Bool} {x y : Option (β × Cur)} {m : Int} {Q : β → Prop} (hb : b = true) (h : Dr x m Q) : Dr (Am.br b x y) m Q := by rw [br_t hb]; exact h
theorem Dr.neg {b : Bool} {x y : Option (β × Cur)} {m : Int} {Q : β → Prop} (hb : b = false) (h : Dr y m Q) : Dr (Am.br b x y) m Q := by rw [br_f hb]; exact h
theorem Dr.gt {xs : List α} {j : Nat} {f : α → Option (β × Cur)} {m : Int} {Q : β → Prop} (hj : j < xs.length) (h : Dr (f xs[j]) m Q) : Dr (Am.gt xs j f) m Q := by rw [gt_at _ hj]; exact h
theorem Dr.imp {x : Option (α × Cur)} {n m : Int} {P Q : α → Prop} (h : Dr x n P) (hm : n ≤ m) (hp : ∀ r, P r → Q r) : Dr x m Q := by
  obtain ⟨r, c, e, hr, hc⟩ := h
  exact ⟨r, c, e, hp r hr, hc.mono hm⟩
end
theorem byteAnd (x : Int) : 0 ≤ IntKind.wrap .i64 (IntKind.wrap .u64 (((BitVec.toNat ((BitVec.ofInt 64 x) &&& (BitVec.ofInt 64 (255 : Int)))) : Nat) : Int)) ∧ IntKind.wrap .i64 (IntKind.wrap .u64 (((BitVec.toNat ((BitVec.ofInt 64 x) &&& (BitVec.ofInt 64 (255 : Int)))) : Nat) : Int)) ≤ 255 := by
  have h : (BitVec.toNat ((BitVec.ofInt 64 x) &&& (BitVec.ofInt 64 (255 : Int)))) ≤ 255 := by
    rw [BitVec.toNat_and]
    exact Nat.and_le_right
  have hu : ∀ n : Nat, n ≤ 255 → IntKind.wrap .u64 (n : Int) = (n : Int) := by
    intro n hn
    exact IntWalk.u64_in _ ⟨by omega, by omega⟩
  rw [hu _ h, wrap_ok (by omega) (by omega)]
  omega
theorem next_d {n : Int} {c : Cur} (h : Cu n c) (hn : n ≤ 1000000000) : Dr (spec_l1Cur_next.f c.1 c.2.1 c.2.2) (n + 1) fun r => 0 ≤ r ∧ r ≤ 255 := by
  obtain ⟨h1, h2, h3⟩ := h
  rw [spec_l1Cur_next.eq, wrap_ok (x := c.2.1 + 1) (by omega) (by omega)]
  refine Dr.br (fun e => ?_) fun e => ?_
  · have e := of_decide_eq_true e
    have hj : c.2.1.toNat < c.1.length := by omega
    have hb := h1 _ (List.getElem_mem hj)
    refine Dr.pos (decide_eq_true h2) (Dr.gt hj (Dr.pos (decide_eq_true (by omega)) ⟨_, _, rfl, ?_, h1, ?_, ?_⟩))
    · rw [wrap_ok (by omega) (by omega)]; exact hb
    · show 0 ≤ c.2.1 + 1; omega
    · show c.2.1 + 1 ≤ n + 1; omega
  · have e := of_decide_eq_false e
    refine Dr.neg (decide_eq_false (by omega)) ⟨_, _, rfl, byteAnd _, h1, ?_, ?_⟩
    · show 0 ≤ c.2.1 + 1; omega
    · show c.2.1 + 1 ≤ n + 1; omega
theorem tmod_b {x a : Int} (hx : 0 ≤ x) (ha : 1 ≤ a) : 0 ≤ Int.tmod x a ∧ Int.tmod x a < a := ⟨Int.tmod_nonneg _ hx, Int.tmod_lt_of_pos _ (by omega)⟩
theorem pick_d (a : Int) {n : Int} {c : Cur} (h : Cu n c) (hn : n ≤ 999999990) : Dr (spec_l1Cur_pick.f a c.1 c.2.1 c.2.2) (n + 2) fun r => 0 ≤ r ∧ (1 ≤ a → r < a) := by
  rw [spec_l1Cur_pick.eq]
  refine Dr.br (fun e => ?_) fun e => ?_
  · have e := of_decide_eq_true e
    exact ⟨0, c, rfl, ⟨by omega, by omega⟩, h.mono (by omega)⟩
  · have e := of_decide_eq_false e
    have ne : ¬ a = 0 := by omega
    refine Dr.bd (next_d h (by omega)) fun r c1 hr hc => ?_
    refine Dr.br (fun e2 => ?_) fun e2 => ?_
    · refine Dr.bd (next_d hc (by omega)) fun s c2 hs hc2 => ?_
      refine Dr.pos (by simpa using ne) ?_
      dsimp only
      refine ⟨_, _, rfl, ?_, hc2.mono (by omega)⟩
      rw [wrap_ok (x := r * 256) (by omega) (by omega), wrap_ok (by omega) (by omega)]
      have := tmod_b (x := r * 256 + s) (a := a) (by omega) (by omega)
      exact ⟨this.1, fun _ => this.2⟩
    · refine Dr.pos (by simpa using ne) ⟨_, _, rfl, ?_, hc.mono (by omega)⟩
      have := tmod_b (x := r) (a := a) (by omega) (by omega)
      exact ⟨this.1, fun _ => this.2⟩
theorem one_d (a : Int) {n : Int} {c : Cur} (h : Cu n c) (hn : n ≤ 999999990) : Dr (spec_l1Cur_one.f a c.1 c.2.1 c.2.2) (n + 2) fun _ => True := by
  rw [spec_l1Cur_one.eq]
  exact Dr.bd (pick_d a h hn) fun r c1 hr hc => Dr.ret hc (by omega) trivial
theorem of_d (l : List ByteArray) (hl : 1 ≤ l.length) {n : Int} {c : Cur} (h : Cu n c) (hn : n ≤ 999999990) : Dr (spec_l1Cur_of.f l c.1 c.2.1 c.2.2) (n + 2) fun r => r ∈ l := by
  rw [spec_l1Cur_of.eq]
  refine Dr.bd (pick_d _ h hn) fun r c1 hr hc => ?_
  have := hr.2 (by omega)
  refine Dr.pos (decide_eq_true hr.1) (Dr.gt (show (r : Int).toNat < l.length by omega) (Dr.ret hc (by omega) (List.getElem_mem _)))
theorem among_d (l : List Int) (hl : 1 ≤ l.length) {n : Int} {c : Cur} (h : Cu n c) (hn : n ≤ 999999990) : Dr (spec_l1Cur_among.f l c.1 c.2.1 c.2.2) (n + 2) fun r => r ∈ l := by
  rw [spec_l1Cur_among.eq]
  refine Dr.bd (pick_d _ h hn) fun r c1 hr hc => ?_
  have := hr.2 (by omega)
  refine Dr.pos (decide_eq_true hr.1) (Dr.gt (show (r : Int).toNat < l.length by omega) (Dr.ret hc (by omega) (List.getElem_mem _)))
theorem word_d {n : Int} {c : Cur} (h : Cu n c) (hn : n ≤ 999999980) : Dr (spec_l1Cur_word.f c.1 c.2.1 c.2.2) (n + 4) fun r => 0 ≤ r ∧ r ≤ 63 := by
  rw [spec_l1Cur_word.eq]
  refine Dr.bd (one_d 2 h (by omega)) fun r c1 hr hc => Dr.br (fun _ => ?_) fun _ => ?_
  · refine Dr.bd (among_d _ (by simp) hc (by omega)) fun r c2 hr hc2 => Dr.ret hc2 (by omega) ?_
    simp only [List.mem_cons, List.not_mem_nil, or_false] at hr
    omega
  · refine Dr.bd (pick_d 64 hc (by omega)) fun r c2 hr hc2 => Dr.ret hc2 (by omega) ?_
    have := hr.2 (by omega)
    omega
theorem anyWord_d {n : Int} {c : Cur} (h : Cu n c) (hn : n ≤ 999999970) : Dr (spec_l1Cur_anyWord.f c.1 c.2.1 c.2.2) (n + 6) fun _ => True := by
  rw [spec_l1Cur_anyWord.eq]
  refine Dr.bd (one_d 14 h (by omega)) fun r c1 hr hc => Dr.br (fun _ => ?_) fun _ => ?_
  · exact Dr.bd (among_d _ (by simp) hc (by omega)) fun r c2 hr hc2 => Dr.ret hc2 (by omega) trivial
  · exact Dr.bd (word_d hc (by omega)) fun r c2 hr hc2 => Dr.ret hc2 (by omega) trivial
theorem l1HasS_v (l : List ByteArray) (s : ByteArray) (hl : l.length ≤ 9223372036854775000) : spec_l1HasS.v l s = some (isIn l s) := ev_lim (l1HasS_ev l s hl)
theorem cdImm_v (s : ByteArray) : ∃ b, spec_cdImm.v s = some b := ⟨_, spec_cdImm.vs _ (by rw [l1HasS_v _ _ (by simp)]; rfl)⟩
theorem dr_v {α : Type} {v : Option (α × Cur)} {n : Int} {P : α → Prop} {x : Option (α × Cur)} (h : Dr x n P) (vs : ∀ r, x = some r → v = some r) : Dr v n P := by
  obtain ⟨r, c, e, hr, hc⟩ := h
  exact ⟨r, c, vs _ e, hr, hc⟩
theorem instr_d (a : Int) {n : Int} {c : Cur} (h : Cu n c) (hn : n ≤ 999999900) : Dr (spec_l1Cur_instr.v a c.1 c.2.1 c.2.2) (n + 20) fun _ => True := by
  refine dr_v ?_ fun r => spec_l1Cur_instr.vs a c.1 c.2.1 c.2.2
  refine Dr.bd (of_d _ (by simp) h (by omega)) fun s c1 hs hc1 => ?_
  obtain ⟨im, him⟩ := cdImm_v s
  simp only [cdShape_f, bd_s, him]
  refine Dr.bd (pick_d a hc1 (by omega)) fun d c2 hd hc2 => ?_
  have tail : ∀ (f : Int → Ins) (lo : Int) (a' : Int) (b : Bool) (m : Int) (c' : Cur), Cu m c' → m ≤ n + 10 →
      Dr (br im (bd (spec_l1Cur_pick.f a' c'.1 c'.2.1 c'.2.2) fun r6 => (br b (bd (spec_l1Cur_word.f r6.2.1 r6.2.2.1 r6.2.2.2) fun r7 => some (f r7.1, r7.2)) (some (f (IntKind.wrap .i64 (lo + r6.1)), r6.2)))) (some (f 0, c'))) (n + 20) fun _ => True := by
    intro f lo a' b m c' hc' hm
    refine Dr.br (fun _ => ?_) fun _ => Dr.ret hc' (by omega) trivial
    refine Dr.bd (pick_d a' hc' (by omega)) fun r6 c6 h6 hc6 => Dr.br (fun _ => ?_) fun _ => Dr.ret hc6 (by omega) trivial
    exact Dr.bd (word_d hc6 (by omega)) fun r7 c7 h7 hc7 => Dr.ret hc7 (by omega) trivial
  refine Dr.br (fun _ => ?_) fun _ => ?_
  · refine Dr.bd (pick_d a hc2 (by omega)) fun p c3 hp hc3 => Dr.br (fun _ => ?_) fun _ => ?_
    · refine Dr.bd (pick_d a hc3 (by omega)) fun q c4 hq hc4 => ?_
      exact tail (fun i => (s, d, p, q, i)) _ _ _ _ c4 hc4 (by omega)
    · exact tail (fun i => (s, d, p, 0, i)) _ _ _ _ c3 hc3 (by omega)
  · refine Dr.br (fun _ => ?_) fun _ => ?_
    · refine Dr.bd (pick_d a hc2 (by omega)) fun q c4 hq hc4 => ?_
      exact tail (fun i => (s, d, 0, q, i)) _ _ _ _ c4 hc4 (by omega)
    · exact tail (fun i => (s, d, 0, 0, i)) _ _ _ _ c2 hc2 (by omega)
theorem anyInstr_d {n : Int} {c : Cur} (h : Cu n c) (hn : n ≤ 999999800) : Dr (spec_l1Cur_anyInstr.v c.1 c.2.1 c.2.2) (n + 30) fun _ => True := by
  refine dr_v ?_ fun r => spec_l1Cur_anyInstr.vs c.1 c.2.1 c.2.2
  refine Dr.bd (instr_d 6 h (by omega)) fun x c1 hx hc1 => Dr.bd (pick_d 14 hc1 (by omega)) fun k c2 hk hc2 => ?_
  refine Dr.br (fun _ => Dr.bd (among_d _ (by simp) hc2 (by omega)) fun r c3 hr hc3 => Dr.ret hc3 (by omega) trivial) fun _ => ?_
  refine Dr.br (fun _ => Dr.bd (among_d _ (by simp) hc2 (by omega)) fun r c3 hr hc3 => Dr.ret hc3 (by omega) trivial) fun _ => ?_
  refine Dr.br (fun _ => Dr.bd (among_d _ (by simp) hc2 (by omega)) fun r c3 hr hc3 => Dr.ret hc3 (by omega) trivial) fun _ => ?_
  refine Dr.br (fun _ => Dr.bd (among_d _ (by simp) hc2 (by omega)) fun r c3 hr hc3 => Dr.ret hc3 (by omega) trivial) fun _ => ?_
  refine Dr.br (fun _ => Dr.bd (of_d _ (by simp) hc2 (by omega)) fun r c3 hr hc3 => Dr.ret hc3 (by omega) trivial) fun _ => ?_
  exact Dr.ret hc2 (by omega) trivial
theorem regs_d {n : Int} {c : Cur} (h : Cu n c) (hn : n ≤ 999990000) : Dr (spec_l1Cur_regs.v c.1 c.2.1 c.2.2) (n + 60) fun r => r.length ≤ 6 := by
  have key : ∀ (d : Nat) (l : List Int) (m : Int) (c : Cur), l.length + d = 6 → Cu m c → m + 4 * d ≤ n + 40 → Dr (spec_l1Cur_regs.v0 c.1 c.2.1 c.2.2 l) (n + 60) fun r => r.length ≤ 6 := by
    intro d
    induction d with
    | zero =>
      intro l m c hl hc hm
      refine dr_v ?_ fun r => spec_l1Cur_regs.v0s c.1 c.2.1 c.2.2 l
      refine Dr.neg (decide_eq_false (by omega)) ?_
      refine Dr.bd (pick_d 16 hc (by omega)) fun r1 c1 hr1 hc1 => Dr.br (fun _ => ?_) fun _ => ?_
      · refine Dr.bd (pick_d _ hc1 (by omega)) fun r2 c2 hr2 hc2 => ?_
        have hlt := hr2.2 (by omega)
        refine Dr.bd (among_d _ (by simp) hc2 (by omega)) fun r3 c3 hr3 hc3 => ?_
        exact Dr.pos (decide_eq_true hr2.1) (Dr.pos (decide_eq_true hlt) (Dr.gt (show r2.toNat < l.length by omega) (Dr.ret hc3 (by omega) (by rw [List.length_set]; omega))))
      · refine Dr.br (fun _ => ?_) fun _ => Dr.ret hc1 (by omega) (by omega)
        refine Dr.pos (decide_eq_true (by omega)) (Dr.pos (decide_eq_true (by omega)) (Dr.ret hc1 (by omega) ?_))
        rw [List.length_take, List.length_drop]; omega
    | succ d ih =>
      intro l m c hl hc hm
      refine dr_v ?_ fun r => spec_l1Cur_regs.v0s c.1 c.2.1 c.2.2 l
      refine Dr.pos (decide_eq_true (by omega)) (Dr.bd (word_d hc (by omega)) fun r0 c0 hr0 hc0 => ?_)
      refine Dr.pos (decide_eq_true (by simp; omega)) ?_
      exact ih _ _ c0 (by simp; omega) hc0 (by omega)
  refine dr_v (key 6 [] n c rfl h (by omega)) fun r => spec_l1Cur_regs.vs c.1 c.2.1 c.2.2
theorem code2_d (a b : Int) (ha : 0 ≤ a) (ha1 : a ≤ 20) {n : Int} {c : Cur} (h : Cu n c) (hn : n ≤ 999990000) : Dr (spec_l1Cur_code2.v a b c.1 c.2.1 c.2.2) (n + 500) fun r => r.length ≤ 21 := by
  have key : ∀ (d : Nat) (l : List Ins) (m : Int) (c : Cur), l.length + d ≤ 21 → Cu m c → m + 20 * d ≤ n + 450 → Dr (spec_l1Cur_code2.v0 b (d : Int) c.1 c.2.1 c.2.2 l) (n + 500) fun r => r.length ≤ 21 := by
    intro d
    induction d with
    | zero =>
      intro l m c hl hc hm
      refine dr_v ?_ fun r => spec_l1Cur_code2.v0s b _ c.1 c.2.1 c.2.2 l
      exact Dr.neg (by decide) (Dr.ret hc (by omega) (by omega))
    | succ d ih =>
      intro l m c hl hc hm
      refine dr_v ?_ fun r => spec_l1Cur_code2.v0s b _ c.1 c.2.1 c.2.2 l
      refine Dr.pos (decide_eq_true (by omega)) (Dr.bd (instr_d b hc (by omega)) fun r0 c0 hr0 hc0 => ?_)
      refine Dr.pos (decide_eq_true (by simp; omega)) ?_
      rw [wrap_ok (by omega) (by omega), show (((d + 1 : Nat) : Int) - 1) = (d : Int) by omega]
      exact ih _ _ c0 (by simp; omega) hc0 (by omega)
  refine dr_v ?_ fun r => spec_l1Cur_code2.vs a b c.1 c.2.1 c.2.2
  rw [wrap_ok (by omega) (by omega)]
  refine Dr.bd (pick_d _ h (by omega)) fun r c1 hr hc1 => ?_
  have := hr.2 (by omega)
  obtain ⟨d, rfl⟩ : ∃ d : Nat, r = d := ⟨r.toNat, by omega⟩
  exact key d [] _ c1 (by simp; omega) hc1 (by omega)
theorem anyCode_d (a : Int) (ha : 0 ≤ a) (ha1 : a ≤ 20) {n : Int} {c : Cur} (h : Cu n c) (hn : n ≤ 999980000) : Dr (spec_l1Cur_anyCode.v a c.1 c.2.1 c.2.2) (n + 2000) fun r => r.length ≤ 60 := by
  have key : ∀ (d : Nat) (l : List Ins) (m : Int) (c : Cur), l.length + d = 42 → Cu m c → m + 22 * d ≤ n + 1900 → Dr (spec_l1Cur_anyCode.v0 c.1 c.2.1 c.2.2 l) (n + 2000) fun r => r.length ≤ 60 := by
    intro d
    induction d with
    | zero =>
      intro l m c hl hc hm
      refine dr_v ?_ fun r => spec_l1Cur_anyCode.v0s c.1 c.2.1 c.2.2 l
      refine Dr.bd (pick_d 2 hc (by omega)) fun r c1 hr hc1 => ?_
      have := hr.2 (by omega)
      refine Dr.neg (decide_eq_false (by rw [wrap_ok (by dsimp only; omega) (by dsimp only; omega)]; dsimp only; omega)) (Dr.ret hc1 (by omega) (by omega))
    | succ d ih =>
      intro l m c hl hc hm
      refine dr_v ?_ fun r => spec_l1Cur_anyCode.v0s c.1 c.2.1 c.2.2 l
      refine Dr.bd (pick_d 2 hc (by omega)) fun r c1 hr hc1 => Dr.br (fun _ => ?_) fun _ => Dr.ret hc1 (by omega) (by omega)
      refine Dr.bd (instr_d 3 hc1 (by omega)) fun r0 c0 hr0 hc0 => ?_
      refine Dr.pos (decide_eq_true (by simp; omega)) ?_
      exact ih _ _ c0 (by simp; omega) hc0 (by omega)
  refine dr_v ?_ fun r => spec_l1Cur_anyCode.vs a c.1 c.2.1 c.2.2
  refine Dr.bd (pick_d 5 h (by omega)) fun r0 c0 hr0 hc0 => Dr.bd (code2_d a _ ha ha1 hc0 (by omega)) fun l c1 hl hc1 => Dr.bd (pick_d 14 hc1 (by omega)) fun r2 c2 hr2 hc2 => ?_
  refine Dr.br (fun _ => ?_) fun _ => Dr.br (fun _ => ?_) fun _ => Dr.ret hc2 (by omega) (by dsimp only; omega)
  · refine Dr.bd (anyInstr_d hc2 (by omega)) fun x c3 hx hc3 => ?_
    exact Dr.pos (decide_eq_true (by simp; omega)) (Dr.ret hc3 (by omega) (by simp; omega))
  · obtain ⟨d, hd⟩ : ∃ d, l.length + d = 42 := ⟨42 - l.length, by omega⟩
    exact key d l _ c2 hd hc2 (by omega)

/-! ### the draws -/
def Bytes (l : List Int) : Prop := ∀ x ∈ l, 0 ≤ x ∧ x ≤ 255
theorem Bytes.cu {l : List Int} (h : Bytes l) : Cu 0 (l, 0, 0) := ⟨h, by dsimp only; omega, by dsimp only; omega⟩
theorem drawStep_v {l : List Int} (h : Bytes l) : ∃ (x : Ins) (r : List Int), spec_DrawStepInstr.v l = some (x, r) ∧ r.length ≤ 6 := by
  obtain ⟨x, c, e, _, hc⟩ := anyInstr_d h.cu (by omega)
  obtain ⟨r, c2, e2, hr, _⟩ := regs_d hc (by omega)
  exact ⟨x, r, spec_DrawStepInstr.vs _ (by rw [e]; exact (bd_some e2)), hr⟩
theorem drawCost_v {l : List Int} (h : Bytes l) : ∃ (x : Ins), spec_DrawCostOfInstr.v l = some x := by
  obtain ⟨x, c, e, _, hc⟩ := anyInstr_d h.cu (by omega)
  exact ⟨x, spec_DrawCostOfInstr.vs _ (by rw [spec_DrawIsInstr.vs _ (by rw [e]; rfl)]; rfl)⟩
end Go.Proofs.Ytkjlmkalkanimaa.Am
end
section
/- Independent instructions, neighbours that are exchanged; code under other names runs alike. -/
namespace Go.Proofs.Ytkjlmkalkanimaa.Am
open Go
set_option linter.unusedVariables false
set_option linter.unusedSimpArgs false

/-- neither writes what the other one reads or writes -/
def indep (x y : Ins) : Bool := decide (x.2.1 ≠ y.2.1) && (!decide (y.2.1 ∈ readsP x) && !decide (x.2.1 ∈ readsP y))
theorem indep_comm (x y : Ins) : indep x y = indep y x := by
  unfold indep
  rw [Bool.and_comm (!decide (y.2.1 ∈ readsP x))]
  congr 1
  rw [decide_eq_decide]; exact ne_comm
theorem bne_dec (x y : Int) : (x != y) = decide (x ≠ y) := by
  by_cases h : x = y <;> simp [h]
theorem independent_v (x y : Ins) : impl_independent.v x y = some (indep x y) := by
  refine impl_independent.vs _ _ ?_
  unfold indep
  rw [bne_dec]
  by_cases h : x.2.1 ≠ y.2.1
  · have l1 := readsP_len x
    have l2 := readsP_len y
    rw [br_t (decide_eq_true h), reads_v, bd_s, containsI_v _ _ (by omega), bd_s, decide_eq_true h, Bool.true_and]
    cases e : decide (y.2.1 ∈ readsP x) with
    | true => rw [brn_t]; rfl
    | false => rw [brn_f, reads_v, bd_s, containsI_v _ _ (by omega), bd_s]; rfl
  · rw [br_f (decide_eq_false h), decide_eq_false h]; rfl
theorem cdFree_v (x y : Ins) : spec_cdFree.v x y = some (indep x y) := by
  refine spec_cdFree.vs _ _ ?_
  unfold indep
  rw [bne_dec]
  by_cases h : x.2.1 ≠ y.2.1
  · have l1 := readsP_len x
    have l2 := readsP_len y
    rw [br_t (decide_eq_true h), cdReads_v x (.inr trivial), bd_s, l1Has_v _ _ (by omega), bd_s, decide_eq_true h, Bool.true_and]
    cases e : decide (y.2.1 ∈ readsP x) with
    | true => rw [brn_t]; rfl
    | false => rw [brn_f, cdReads_v y (.inr trivial), bd_s, l1Has_v _ _ (by omega), bd_s]; rfl
  · rw [br_f (decide_eq_false h), decide_eq_false h]; rfl
theorem areIndep_v (x y : Ins) : impl_AreIndependent.v x y = some (if insOk x && insOk y then (indep x y, true) else (false, false)) := by
  refine impl_AreIndependent.vs _ _ ?_
  rw [isInstr_v, bd_s]
  cases insOk x with
  | false => rw [brn_f]; rfl
  | true =>
    rw [brn_t, isInstr_v, bd_s]
    cases insOk y with
    | false => rw [brn_f]; rfl
    | true => rw [brn_t, independent_v, bd_s]; rfl
theorem cdAreIndep_v (x y : Ins) : spec_AreIndependent.v x y = some (if insOk x && insOk y then (indep x y, true) else (false, false)) := by
  refine spec_AreIndependent.vs _ _ ?_
  rw [cdGood_f, bd_s]
  cases insOk x with
  | false => rw [brn_f]; rfl
  | true =>
    rw [brn_t, cdGood_f, bd_s]
    cases insOk y with
    | false => rw [brn_f]; rfl
    | true => rw [brn_t, cdFree_v, bd_s]; rfl

/-! ### what a word depends on -/
theorem wrd_congr {x : Ins} (hk : (formP x.1).2 = true) {a a' b b' : Int} (ha : (formP x.1).1.1 = true → a = a') (hb : (formP x.1).1.2.1 = true → b = b') : wrdP x a b = wrdP x a' b' := by
  obtain ⟨s, d, p, q, im⟩ := x
  dsimp only at hk ha hb
  by_cases hs : s ∈ allOps
  · simp only [allOps, opsL, List.cons_append, List.nil_append, List.mem_cons, List.not_mem_nil, or_false] at hs
    have two : ∀ t, t = s → isTwo t = true → formP t = ((true, true, 1, 0, opCost t, t), true) → wrdP (s, d, p, q, im) a b = wrdP (s, d, p, q, im) a' b' := fun t e _ h => by
      subst e
      rw [h] at ha hb
      rw [ha rfl, hb rfl]
    have one : (formP s).1 = (true, false, 1, 0, 1, s) → isOne s = true → ¬ s = tSet → ¬ s = tMov → ¬ s = tLea → isImm s = false → wrdP (s, d, p, q, im) a b = wrdP (s, d, p, q, im) a' b' := fun h h1 n1 n2 n3 n4 => by
      rw [h] at ha
      rw [ha rfl]
      unfold wrdP
      dsimp only
      rw [if_neg n1, if_neg n2, if_neg n3, n4, if_neg (by simp), if_neg n1, if_neg n2, if_neg n3, if_neg (by simp), appP_one h1 a' b, appP_one h1 a' b']
    have imm : (formP s).1.1 = true → isImm s = true → ¬ s = tSet → ¬ s = tMov → ¬ s = tLea → wrdP (s, d, p, q, im) a b = wrdP (s, d, p, q, im) a' b' := fun h h1 n1 n2 n3 => by
      rw [ha h]
      unfold wrdP
      dsimp only
      rw [if_neg n1, if_neg n2, if_neg n3, if_pos h1, if_neg n1, if_neg n2, if_neg n3, if_pos h1]
    rcases hs with rfl | rfl | rfl | rfl | rfl | rfl | rfl | rfl | rfl | rfl | rfl | rfl | rfl | rfl | rfl | rfl | rfl | rfl | rfl | rfl
    · unfold wrdP
      dsimp only
      rw [if_pos rfl, if_pos rfl]
    · have h1 : a = a' := ha (by decide)
      unfold wrdP
      dsimp only
      rw [if_neg (by decide), if_pos rfl, if_neg (by decide), if_pos rfl]
      exact h1
    · exact one rfl rfl (by decide) (by decide) (by decide) rfl
    · exact one rfl rfl (by decide) (by decide) (by decide) rfl
    · exact imm rfl rfl (by decide) (by decide) (by decide)
    · exact imm rfl rfl (by decide) (by decide) (by decide)
    · exact imm rfl rfl (by decide) (by decide) (by decide)
    · exact imm rfl rfl (by decide) (by decide) (by decide)
    · exact imm rfl rfl (by decide) (by decide) (by decide)
    · have h1 : a = a' := ha (by decide)
      have h2 : b = b' := hb (by decide)
      rw [h1, h2]
    all_goals
      have h1 : a = a' := ha (by decide)
      have h2 : b = b' := hb (by decide)
      rw [h1, h2]
  · rw [form_none hs] at hk; cases hk
theorem mem_put2 (a b : Int) : a ∈ put2 a b ∧ b ∈ put2 a b := by
  unfold put2
  by_cases h : a < b
  · rw [if_pos h]; simp
  · rw [if_neg h]
    by_cases h2 : a = b
    · rw [if_pos h2]; simp [h2]
    · rw [if_neg h2]; simp
theorem reads_a {x : Ins} (h : (formP x.1).1.1 = true) : x.2.2.1 ∈ readsP x := by
  unfold readsP
  rw [if_pos h]
  split
  · exact (mem_put2 _ _).1
  · simp
theorem reads_b {x : Ins} (h : (formP x.1).1.2.1 = true) : x.2.2.2.1 ∈ readsP x := by
  unfold readsP
  rw [h]
  split
  · exact (mem_put2 _ _).2
  · simp
theorem getD_set_ne (l : List Int) {i j : Nat} (h : i ≠ j) (v : Int) : (l.set i v).getD j 0 = l.getD j 0 := by
  simp [List.getD_eq_getElem?_getD, List.getElem?_set, h]
theorem getD_set_eq (l : List Int) {i : Nat} (h : i < l.length) (v : Int) : (l.set i v).getD i 0 = v := by
  simp [List.getD_eq_getElem?_getD, h]
theorem step_comm {x y : Ins} (hx : InsOk x) (hy : InsOk y) (hi : indep x y = true) (l : List Int) : stepP y (stepP x l) = stepP x (stepP y l) := by
  unfold indep at hi
  simp only [Bool.and_eq_true, decide_eq_true_iff, Bool.not_eq_true', decide_eq_false_iff_not] at hi
  obtain ⟨h1, h2, h3⟩ := hi
  have hne : x.2.1.toNat ≠ y.2.1.toNat := fun e => h1 (by have := hx.d0; have := hy.d0; omega)
  have wy : ∀ v, wrdP y ((l.set x.2.1.toNat v).getD y.2.2.1.toNat 0) ((l.set x.2.1.toNat v).getD y.2.2.2.1.toNat 0) = wrdP y (l.getD y.2.2.1.toNat 0) (l.getD y.2.2.2.1.toNat 0) := fun v => by
    refine wrd_congr hy.known (fun h => getD_set_ne _ (fun e => h3 ?_) _) (fun h => getD_set_ne _ (fun e => h3 ?_) _)
    · rw [show x.2.1 = y.2.2.1 by have := hx.d0; have := hy.a0; omega]; exact reads_a h
    · rw [show x.2.1 = y.2.2.2.1 by have := hx.d0; have := hy.b0; omega]; exact reads_b h
  have wx : ∀ v, wrdP x ((l.set y.2.1.toNat v).getD x.2.2.1.toNat 0) ((l.set y.2.1.toNat v).getD x.2.2.2.1.toNat 0) = wrdP x (l.getD x.2.2.1.toNat 0) (l.getD x.2.2.2.1.toNat 0) := fun v => by
    refine wrd_congr hx.known (fun h => getD_set_ne _ (fun e => h2 ?_) _) (fun h => getD_set_ne _ (fun e => h2 ?_) _)
    · rw [show y.2.1 = x.2.2.1 by have := hy.d0; have := hx.a0; omega]; exact reads_a h
    · rw [show y.2.1 = x.2.2.2.1 by have := hy.d0; have := hx.b0; omega]; exact reads_b h
  unfold stepP
  rw [wy, wx]
  exact (List.set_comm _ _ hne).symm ▸ rfl

/-! ### neighbours -/
def swapP (c : List Ins) (i : Nat) : List Ins := match c[i]?, c[i + 1]? with
  | some x, some y => (c.set i y).set (i + 1) x
  | _, _ => c
structure Swap (c : List Ins) (i : Nat) (A : List Ins) (x y : Ins) (B : List Ins) : Prop where
  eq : c = A ++ x :: y :: B
  len : A.length = i
theorem swap_at {c : List Ins} {i : Nat} (h : i + 1 < c.length) : ∃ A x y B, Swap c i A x y B := by
  refine ⟨c.take i, c[i], c[i + 1], c.drop (i + 2), ?_, by rw [List.length_take]; omega⟩
  rw [← drop_at _ (i + 1) h, ← drop_at _ i (by omega), List.take_append_drop]
/-- may two neighbours be exchanged -/
def swapOk (c : List Ins) (i : Int) : Prop := ∃ A x y B, c = A ++ x :: y :: B ∧ (A.length : Int) = i ∧ indep x y = true
theorem swap_v (c : List Ins) (hl : c.length ≤ 1000000) (i : Int) :
    (impl_SwapNeighbours.v c i = some ([], false) ∧ spec_SwapNeighbours.v c i = some ([], false)) ∨
    ∃ A x y B, c = A ++ x :: y :: B ∧ (A.length : Int) = i ∧ indep x y = true ∧ codeOk c = true ∧ impl_SwapNeighbours.v c i = some (A ++ y :: x :: B, true) ∧ spec_SwapNeighbours.v c i = some (A ++ y :: x :: B, true) := by
  cases h1 : codeOk c with
  | false => exact .inl ⟨impl_SwapNeighbours.vs _ _ (by rw [isCode_v c hl, bd_s, h1, brn_f]), spec_SwapNeighbours.vs _ _ (by rw [cdCode_v c hl, bd_s, h1, brn_f])⟩
  | true =>
    have w2 : IntKind.wrap .i64 ((c.length : Int) - 2) = (c.length : Int) - 2 := wrap_ok (by omega) (by omega)
    cases h2 : inB i 0 ((c.length : Int) - 2) with
    | false => exact .inl ⟨impl_SwapNeighbours.vs _ _ (by rw [isCode_v c hl, bd_s, h1, brn_t, w2, within_f, bd_s, h2, brn_f]), spec_SwapNeighbours.vs _ _ (by rw [cdCode_v c hl, bd_s, h1, brn_t, w2, l1In_f, bd_s, h2, brn_f])⟩
    | true =>
      obtain ⟨i0, i1⟩ := inB_iff.1 h2
      obtain ⟨n, rfl⟩ : ∃ n : Nat, i = (n : Int) := ⟨i.toNat, by omega⟩
      obtain ⟨A, x, y, B, hc, hA⟩ := swap_at (c := c) (i := n) (by omega)
      have wn : IntKind.wrap .i64 ((n : Int) + 1) = ((n + 1 : Nat) : Int) := by rw [wrap_ok (by omega) (by omega)]; rfl
      have p0 : decide ((0 : Int) ≤ ((n + 1 : Nat) : Int)) = true := decide_eq_true (by omega)
      have q0 : decide ((0 : Int) ≤ (n : Int)) = true := decide_eq_true (by omega)
      have g0 : c[Int.toNat (n : Int)]? = some x := by rw [hc, Int.toNat_natCast, ← hA]; exact at0 _ _ _ _
      have g1 : c[Int.toNat ((n + 1 : Nat) : Int)]? = some y := by rw [hc, Int.toNat_natCast, ← hA]; exact at1 _ _ _ _
      cases h3 : indep x y with
      | false =>
        refine .inl ⟨impl_SwapNeighbours.vs _ _ ?_, spec_SwapNeighbours.vs _ _ ?_⟩
        · rw [isCode_v c hl, bd_s, h1, brn_t, w2, within_f, bd_s, h2, brn_t, br_t q0, gt_some g0, wn, br_t p0, gt_some g1, independent_v, bd_s, h3, brn_f]
        · rw [cdCode_v c hl, bd_s, h1, brn_t, w2, l1In_f, bd_s, h2, brn_t, br_t q0, gt_some g0, wn, br_t p0, gt_some g1, cdFree_v, bd_s, h3, brn_f]
      | true =>
        have l0 : decide ((n : Int) < (c.length : Int)) = true := decide_eq_true (by omega)
        have l1 : decide (((n + 1 : Nat) : Int) < (c.length : Int)) = true := decide_eq_true (by omega)
        have s0 : c.set n y = A ++ y :: y :: B := by rw [hc, ← hA]; exact set0 _ _ _ _ _
        have l2 : decide (((n + 1 : Nat) : Int) < ((A ++ y :: y :: B).length : Int)) = true := by
          rw [← s0, List.length_set]; exact l1
        have s1 : (A ++ y :: y :: B).set (n + 1) x = A ++ y :: x :: B := by rw [← hA]; exact set1 _ _ _ _ _
        have g2 : (A ++ y :: y :: B)[n + 1]? = some y := by rw [← hA]; exact at1 _ _ _ _
        refine .inr ⟨A, x, y, B, hc, by omega, h3, rfl, impl_SwapNeighbours.vs _ _ ?_, spec_SwapNeighbours.vs _ _ ?_⟩
        · rw [isCode_v c hl, bd_s, h1, brn_t, w2, within_f, bd_s, h2, brn_t, br_t q0, gt_some g0, wn, br_t p0, gt_some g1, independent_v, bd_s, h3, brn_t, cloneI_f c hl, bd_s]
          dsimp only
          rw [br_t p0, br_t l1, gt_some g1, br_t q0, br_t l0, gt_some g0, br_t q0, br_t l0, gt_some g0, Int.toNat_natCast, Int.toNat_natCast, s0, br_t p0, br_t l2, gt_some g2, s1]
        · rw [cdCode_v c hl, bd_s, h1, brn_t, w2, l1In_f, bd_s, h2, brn_t, br_t q0, gt_some g0, wn, br_t p0, gt_some g1, cdFree_v, bd_s, h3, brn_t, br_t (decide_eq_true (by omega)), List.nil_append]
          rw [br_t p0, gt_some g1, br_t q0, br_t l0, gt_some g0, br_t q0, gt_some g0, Int.toNat_natCast, Int.toNat_natCast, s0, br_t p0, br_t l2, gt_some g2, s1]
theorem swap_told {A B : List Ins} {x y : Ins} {i : Int} (hc : codeOk (A ++ x :: y :: B) = true) (h : indep x y = true) (hi : (A.length : Int) = i) : impl_SwapNeighbours.v (A ++ x :: y :: B) i ≠ some ([], false) := by
  have ho := (code_of hc).len
  have hl : (A ++ x :: y :: B).length = A.length + (B.length + 1 + 1) := by simp
  subst hi
  have w2 : IntKind.wrap .i64 (((A ++ x :: y :: B).length : Int) - 2) = ((A ++ x :: y :: B).length : Int) - 2 := wrap_ok (by omega) (by omega)
  have wn : IntKind.wrap .i64 ((A.length : Int) + 1) = ((A.length + 1 : Nat) : Int) := by rw [wrap_ok (by omega) (by omega)]; rfl
  have h2 : inB (A.length : Int) 0 (((A ++ x :: y :: B).length : Int) - 2) = true := inB_iff.2 ⟨by omega, by omega⟩
  have p0 : decide ((0 : Int) ≤ ((A.length + 1 : Nat) : Int)) = true := decide_eq_true (by omega)
  have q0 : decide ((0 : Int) ≤ (A.length : Int)) = true := decide_eq_true (by omega)
  have l0 : decide ((A.length : Int) < ((A ++ x :: y :: B).length : Int)) = true := decide_eq_true (by omega)
  have l1 : decide (((A.length + 1 : Nat) : Int) < ((A ++ x :: y :: B).length : Int)) = true := decide_eq_true (by omega)
  have e : impl_SwapNeighbours.v (A ++ x :: y :: B) (A.length : Int) = some (A ++ y :: x :: B, true) := by
    refine impl_SwapNeighbours.vs _ _ ?_
    rw [isCode_v _ (by omega), bd_s, hc, brn_t, w2, within_f, bd_s, h2, brn_t, br_t q0, Int.toNat_natCast, gt_some (at0 _ _ _ _), wn, br_t p0, Int.toNat_natCast, gt_some (at1 _ _ _ _), independent_v, bd_s, h, brn_t, cloneI_f _ (by omega), bd_s]
    dsimp only
    rw [br_t p0, br_t l1, gt_some (at1 _ _ _ _), br_t q0, br_t l0, gt_some (at0 _ _ _ _), br_t q0, br_t l0, gt_some (at0 _ _ _ _), set0, br_t p0]
    have l2 : decide (((A.length + 1 : Nat) : Int) < ((A ++ y :: y :: B).length : Int)) = true := decide_eq_true (by simp; omega)
    rw [br_t l2, gt_some (at1 _ _ _ _), set1]
  rw [e]; simp
theorem run_append (A B : List Ins) (l : List Int) : runP (A ++ B) l = runP B (runP A l) := by unfold runP; rw [List.foldl_append]
theorem run_swap {A B : List Ins} {x y : Ins} (hx : InsOk x) (hy : InsOk y) (hi : indep x y = true) (l : List Int) : runP (A ++ x :: y :: B) l = runP (A ++ y :: x :: B) l := by
  rw [run_append, run_append]
  show runP B (stepP y (stepP x (runP A l))) = runP B (stepP x (stepP y (runP A l)))
  rw [step_comm hx hy hi]
theorem swap_code {A B : List Ins} {x y : Ins} (h : codeOk (A ++ x :: y :: B) = true) : codeOk (A ++ y :: x :: B) = true := by
  unfold codeOk at h ⊢
  simp only [List.length_append, List.length_cons, List.all_append, List.all_cons, Bool.and_eq_true, decide_eq_true_iff] at h ⊢
  exact ⟨h.1, h.2.1, h.2.2.2.1, h.2.2.1, h.2.2.2.2⟩

/-! ### other names -/
/-- the registers under other names -/
def Moved (names l m : List Int) : Prop := ∀ r : Nat, r < 6 → m.getD (nm names (r : Int)).toNat 0 = l.getD r 0
theorem names_inj {names : List Int} (hn : Names names) {i j : Int} (i0 : 0 ≤ i) (i1 : i ≤ 5) (j0 : 0 ≤ j) (j1 : j ≤ 5) (h : nm names i = nm names j) : i = j := by
  have e1 := (hn.nm i0 i1).1
  have e2 := (hn.nm j0 j1).1
  rw [h] at e1
  have hl := hn.len
  have k1 : i.toNat < names.length := by omega
  have k2 : j.toNat < names.length := by omega
  rw [List.getElem?_eq_getElem k1] at e1
  rw [List.getElem?_eq_getElem k2] at e2
  have e := Option.some.inj (e1.trans e2.symm)
  have hp := List.pairwise_iff_getElem.1 hn.nd
  rcases Nat.lt_trichotomy i.toNat j.toNat with h1 | h1 | h1
  · exact absurd e (hp _ _ k1 k2 h1)
  · omega
  · exact absurd e.symm (hp _ _ k2 k1 h1)
theorem Moved.at {names l m : List Int} (h : Moved names l m) {j : Int} (j0 : 0 ≤ j) (j1 : j ≤ 5) : m.getD (nm names j).toNat 0 = l.getD j.toNat 0 := by
  have := h j.toNat (by omega)
  rwa [show ((j.toNat : Nat) : Int) = j by omega] at this
theorem wrd_ren (names : List Int) (x : Ins) (a b : Int) : wrdP (renI names x) a b = wrdP x a b := rfl
theorem Moved.step {names l m : List Int} (hn : Names names) (hl : l.length = 6) (hm : m.length = 6) {x : Ins} (hx : InsOk x) (h : Moved names l m) : Moved names (stepP x l) (stepP (renI names x) m) := by
  have hv : wrdP (renI names x) (m.getD (renI names x).2.2.1.toNat 0) (m.getD (renI names x).2.2.2.1.toNat 0) = wrdP x (l.getD x.2.2.1.toNat 0) (l.getD x.2.2.2.1.toNat 0) := by
    rw [wrd_ren]
    refine wrd_congr hx.known (fun hu => ?_) (fun hu => ?_)
    · show m.getD (if (formP x.1).1.1 = true then nm names x.2.2.1 else 0).toNat 0 = _
      rw [if_pos hu]; exact h.at hx.a0 hx.a1
    · show m.getD (if (formP x.1).1.2.1 = true then nm names x.2.2.2.1 else 0).toNat 0 = _
      rw [if_pos hu]; exact h.at hx.b0 hx.b1
  intro r hr
  unfold stepP
  rw [hv]
  show (m.set (nm names x.2.1).toNat _).getD _ 0 = _
  obtain ⟨_, n0, n1⟩ := hn.nm (j := (r : Int)) (by omega) (by omega)
  obtain ⟨_, k0, k1⟩ := hn.nm hx.d0 hx.d1
  by_cases c : x.2.1 = (r : Int)
  · rw [c, getD_set_eq _ (by omega), Int.toNat_natCast, getD_set_eq _ (by omega)]
  · have : nm names x.2.1 ≠ nm names (r : Int) := fun e => c (names_inj hn hx.d0 hx.d1 (by omega) (by omega) e)
    rw [getD_set_ne _ (by omega), getD_set_ne _ (by have := hx.d0; omega)]
    exact h r hr
theorem ren_ok {names : List Int} (hn : Names names) {x : Ins} (hx : InsOk x) : insOk (renI names x) = true := by
  have hd := hn.nm hx.d0 hx.d1
  have ha := hn.nm hx.a0 hx.a1
  have hb := hn.nm hx.b0 hx.b1
  unfold insOk
  simp only [Bool.and_eq_true, inB_iff]
  refine ⟨⟨⟨⟨hx.known, hd.2⟩, ?_⟩, ?_⟩, hx.im⟩
  · show usedP (formP x.1).1.1 (if (formP x.1).1.1 = true then nm names x.2.2.1 else 0) = true
    unfold usedP
    cases (formP x.1).1.1 with
    | false => rfl
    | true =>
      rw [if_pos rfl, Bool.true_and, Bool.or_eq_true]
      exact .inl (inB_iff.2 ha.2)
  · show usedP (formP x.1).1.2.1 (if (formP x.1).1.2.1 = true then nm names x.2.2.2.1 else 0) = true
    unfold usedP
    cases (formP x.1).1.2.1 with
    | false => rfl
    | true =>
      rw [if_pos rfl, Bool.true_and, Bool.or_eq_true]
      exact .inl (inB_iff.2 hb.2)
theorem ren_code {names : List Int} (hn : Names names) {c : List Ins} (hc : CodeOk c) : codeOk (c.map (renI names)) = true := by
  unfold codeOk
  simp only [Bool.and_eq_true, decide_eq_true_iff, List.all_eq_true, List.length_map, List.mem_map]
  refine ⟨hc.len, ?_⟩
  rintro _ ⟨x, hx, rfl⟩
  exact ren_ok hn (hc.all x hx)
theorem Moved.run {names : List Int} (hn : Names names) : ∀ {c : List Ins} (_ : Inss c) {l m : List Int} (_ : l.length = 6) (_ : m.length = 6) (_ : Moved names l m), Moved names (runP c l) (runP (c.map (renI names)) m)
  | [], _, _, _, _, _, h => h
  | x :: c, hc, l, m, hl, hm, h => Moved.run hn (c := c) hc.cons.2 (by rw [stepP_len]; exact hl) (by rw [stepP_len]; exact hm) (h.step hn hl hm hc.cons.1)

/-! ### what code costs -/
def costC : List Ins → Int
  | [] => 0
  | x :: c => opCost x.1 + costC c
theorem costC_b : ∀ c : List Ins, 0 ≤ costC c ∧ costC c ≤ 4 * c.length
  | [] => by simp [costC]
  | x :: c => by
    have := costC_b c
    have := opCost_pos x.1
    simp only [costC, List.length_cons]
    omega
theorem costC_ren (names : List Int) : ∀ c : List Ins, costC (c.map (renI names)) = costC c
  | [] => rfl
  | x :: c => by simp only [List.map_cons, costC, costC_ren names c]; rfl
theorem costC_append : ∀ a b : List Ins, costC (a ++ b) = costC a + costC b
  | [], b => by simp [costC]
  | x :: a, b => by simp only [List.cons_append, costC, costC_append a b]; omega
theorem codeCost_v {c : List Ins} (hc : Inss c) (hl : c.length ≤ 1000000) : impl_codeCost.v c = some (costC c) := by
  have key : ∀ (d i : Nat) (a : Int), i + d = c.length → 0 ≤ a → a ≤ 4 * i → impl_codeCost.v0 a c (c.length : Int) (i : Int) = some (a + costC (c.drop i)) := by
    intro d
    induction d with
    | zero =>
      intro i a hi h0 h1
      refine impl_codeCost.v0s _ _ _ _ ?_
      rw [br_f (by simp; omega), List.drop_eq_nil_of_le (by omega)]; simp [costC]
    | succ d ih =>
      intro i a hi h0 h1
      have hlt : i < c.length := by omega
      have hx := hc _ (List.getElem_mem hlt)
      have hb := opCost_pos c[i].1
      refine impl_codeCost.v0s _ _ _ _ ?_
      rw [br_t (by simpa using hlt), br_t (by simp), Int.toNat_natCast, gt_at _ hlt, cost_v hx, bd_s, next_ok i _ hlt (by omega), wrap_ok (by omega) (by omega), ih (i + 1) _ (by omega) (by omega) (by omega), drop_at _ _ hlt]
      simp only [costC]
      congr 1; omega
  exact impl_codeCost.vs _ (by have := key c.length 0 0 (by omega) (by omega) (by omega); simpa using this)
theorem codeCostOf_v (c : List Ins) (hl : c.length ≤ 1000000) (hc : codeOk c = true) : impl_CodeCost.v c = some (costC c, true) := by
  refine impl_CodeCost.vs _ ?_
  rw [isCode_v c hl, bd_s, hc, brn_t, codeCost_v (code_of hc).all hl, bd_s]

/-! ### code that is compared -/
theorem beqB (x : ByteArray) : (x == x) = true := by
  cases x with
  | mk d => exact (beq_self_eq_true d : (d == d) = true)
theorem pSameCode_self (a : List Ins) (ha : a.length ≤ 1000000) : laws_pSameCode.v a a = some true := by
  have key : ∀ (d i : Nat), i + d = a.length → laws_pSameCode.v0 a a (a.length : Int) (i : Int) = some true := by
    intro d
    induction d with
    | zero =>
      intro i hi
      refine laws_pSameCode.v0s _ _ _ _ ?_
      rw [br_f (by simp; omega)]
    | succ d ih =>
      intro i hi
      have hlt : i < a.length := by omega
      refine laws_pSameCode.v0s _ _ _ _ ?_
      rw [br_t (by simpa using hlt), br_t (by simp), Int.toNat_natCast, gt_at _ hlt, br_t (by simp), gt_at _ hlt, br_f (by simp [beqB]), next_ok i _ hlt (by omega)]
      exact ih (i + 1) (by omega)
  exact laws_pSameCode.vs _ _ (by rw [br_f (by simp)]; exact key a.length 0 (by omega))
end Go.Proofs.Ytkjlmkalkanimaa.Am
end
section
/- What is drawn for the laws on code: code, registers, names, neighbours. -/
namespace Go.Proofs.Ytkjlmkalkanimaa.Am
open Go
set_option linter.unusedVariables false
set_option linter.unusedSimpArgs false

theorem drawIndep_v {l : List Int} (h : Bytes l) : ∃ (x y : Ins), spec_DrawAreIndependent.v l = some (x, y) := by
  obtain ⟨x, c, e, _, hc⟩ := anyInstr_d h.cu (by omega)
  obtain ⟨y, c2, e2, _, _⟩ := anyInstr_d hc (by omega)
  exact ⟨x, y, spec_DrawAreIndependent.vs _ (by rw [e]; exact (bd_some e2))⟩
theorem drawSwap_v {l : List Int} (h : Bytes l) : ∃ (x : List Ins) (i : Int), spec_DrawSwapNeighbours.v l = some (x, i) ∧ x.length ≤ 60 := by
  obtain ⟨x, c, e, hl, hc⟩ := anyCode_d 9 (by omega) (by omega) h.cu (by omega)
  obtain ⟨y, c2, e2, _, hc2⟩ := pick_d (IntKind.wrap .i64 ((x.length : Int) + 1)) hc (by omega)
  obtain ⟨z, c3, e3, _, _⟩ := pick_d 9 hc2 (by omega)
  exact ⟨x, _, spec_DrawSwapNeighbours.vs _ (by rw [e, bd_s]; dsimp only; rw [e2, bd_s]; dsimp only; rw [e3, bd_s]), hl⟩
theorem drawRename_v {l : List Int} (h : Bytes l) : ∃ (x : List Ins) (names : List Int), spec_DrawRenameCode.v l = some (x, names) ∧ x.length ≤ 60 ∧ names.length = 6 := by
  obtain ⟨x, c, e, hl, hc⟩ := anyCode_d 9 (by omega) (by omega) h.cu (by omega)
  have key : ∀ (d r : Nat) (m : Int) (c : Cur) (names : List Int), r + d = 6 → names.length = r → Cu m c → m ≤ 5000 + 2 * r → ∃ out, spec_DrawRenameCode.v0 x (r : Int) c.1 c.2.1 c.2.2 names = some (x, out) ∧ out.length = 6 := by
    intro d
    induction d with
    | zero =>
      intro r m c names hr hn hc hm
      obtain ⟨b, c1, e1, _, hc1⟩ := one_d 10 hc (by omega)
      cases b with
      | false => exact ⟨names, spec_DrawRenameCode.v0s _ _ _ _ _ _ (by rw [br_f (decide_eq_false (by omega)), e1, bd_s, br_f rfl]), by omega⟩
      | true =>
        obtain ⟨z, c2, e2, _, _⟩ := pick_d 8 hc1 (by omega)
        refine ⟨_, spec_DrawRenameCode.v0s _ _ _ _ _ _ (by rw [br_f (decide_eq_false (by omega)), e1, bd_s, br_t rfl, e2, bd_s, br_t (decide_eq_true (by omega)), gt_at _ (show Int.toNat 0 < names.length by have : Int.toNat 0 = 0 := rfl; omega)]), by rw [List.length_set]; omega⟩
    | succ d ih =>
      intro r m c names hr hn hc hm
      have w : IntKind.wrap .i64 ((r : Int) + 1) = ((r + 1 : Nat) : Int) := by rw [wrap_ok (by omega) (by omega)]; rfl
      obtain ⟨a, c1, e1, ha, hc1⟩ := pick_d ((r + 1 : Nat) : Int) hc (by omega)
      obtain ⟨a0, a1⟩ := ha
      have a1 := a1 (by omega)
      obtain ⟨n, rfl⟩ : ∃ n : Nat, a = (n : Int) := ⟨a.toNat, by omega⟩
      have t0 : Int.toNat (0 : Int) = 0 := rfl
      have l1 : (names.take n).length = n := by rw [List.length_take]; omega
      have l2 : (List.take (names.length - n) (List.drop n names)).length = names.length - n := by rw [List.length_take, List.length_drop]; omega
      obtain ⟨out, ho, hol⟩ := ih (r + 1) (m + 2) c1 (names.take n ++ [(r : Int)] ++ List.take (names.length - n) (List.drop n names)) (by omega) (by rw [List.length_append, List.length_append, l1, l2]; simp; omega) hc1 (by omega)
      refine ⟨out, spec_DrawRenameCode.v0s _ _ _ _ _ _ ?_, hol⟩
      rw [br_t (decide_eq_true (by omega)), w, e1, bd_s]
      dsimp only
      rw [br_t (decide_eq_true (by omega)), br_t (decide_eq_true (by omega)), t0, List.drop_zero, Nat.sub_zero, Int.toNat_natCast, own_f _ (by omega), bd_s]
      dsimp only
      rw [br_t (decide_eq_true (by rw [l1]; simp; omega)), br_t (decide_eq_true (by omega)), br_t (decide_eq_true (by omega)), br_t (decide_eq_true (by omega)), Int.toNat_natCast, br_t (decide_eq_true (by rw [List.length_append, l1, l2]; simp; omega))]
      exact ho
  obtain ⟨out, ho, hol⟩ := key 6 0 _ c [] (by omega) rfl hc (by omega)
  exact ⟨x, out, spec_DrawRenameCode.vs _ (by rw [e, bd_s]; exact ho), hl, hol⟩
theorem drawJoin_v {l : List Int} (h : Bytes l) : ∃ (x y : List Ins), spec_DrawJoinCode.v l = some (x, y) ∧ x.length ≤ 60 ∧ y.length ≤ 60 := by
  obtain ⟨x, c, e, hl, hc⟩ := anyCode_d 9 (by omega) (by omega) h.cu (by omega)
  obtain ⟨y, c2, e2, hl2, _⟩ := anyCode_d 9 (by omega) (by omega) hc (by omega)
  exact ⟨x, y, spec_DrawJoinCode.vs _ (by rw [e]; exact (bd_some e2)), hl, hl2⟩
theorem drawTrace_v {l : List Int} (h : Bytes l) : ∃ (x : List Ins) (r : List Int), spec_DrawTraceOf.v l = some (x, r) ∧ x.length ≤ 60 ∧ r.length ≤ 6 := by
  obtain ⟨x, c, e, hl, hc⟩ := anyCode_d 9 (by omega) (by omega) h.cu (by omega)
  obtain ⟨r, c2, e2, hr, _⟩ := regs_d hc (by omega)
  exact ⟨x, r, spec_DrawTraceOf.vs _ (by rw [spec_DrawRunCode.vs _ (by rw [e]; exact (bd_some e2))]; rfl), hl, hr⟩
theorem drawResult_v {l : List Int} (h : Bytes l) : ∃ (x : List Ins) (a b r : Int), spec_DrawResultOf.v l = some (x, a, b, r) ∧ x.length ≤ 60 := by
  obtain ⟨x, c, e, hl, hc⟩ := anyCode_d 9 (by omega) (by omega) h.cu (by omega)
  obtain ⟨a, c2, e2, _, hc2⟩ := anyWord_d hc (by omega)
  obtain ⟨b, c3, e3, _, hc3⟩ := anyWord_d hc2 (by omega)
  obtain ⟨y, c4, e4, _, hc4⟩ := pick_d 8 hc3 (by omega)
  obtain ⟨z, c5, e5, _, _⟩ := pick_d 9 hc4 (by omega)
  exact ⟨x, a, b, _, spec_DrawResultOf.vs _ (by rw [e, bd_s]; dsimp only; rw [e2, bd_s]; dsimp only; rw [e3, bd_s]; dsimp only; rw [e4, bd_s]; dsimp only; rw [e5, bd_s]), hl⟩
end Go.Proofs.Ytkjlmkalkanimaa.Am
end
section
/- Traces, results, joined code: the program's functions and the reference's answer alike. -/
namespace Go.Proofs.Ytkjlmkalkanimaa.Am
open Go
set_option linter.unusedVariables false
set_option linter.unusedSimpArgs false

/-- the registers before the first instruction, and behind each one -/
noncomputable def traceP : List Ins → List Int → List (List Int)
  | [], l => [l]
  | x :: c, l => l :: traceP c (stepP x l)
theorem traceP_len : ∀ (c : List Ins) (l : List Int), (traceP c l).length = c.length + 1
  | [], _ => rfl
  | x :: c, l => by simp only [traceP, List.length_cons, traceP_len c]
theorem traceP_get : ∀ (c : List Ins) (l : List Int) (i : Nat), i ≤ c.length → (traceP c l)[i]? = some (runP (c.take i) l)
  | [], l, i, h => by
    obtain rfl : i = 0 := by simpa using h
    rfl
  | x :: c, l, 0, h => rfl
  | x :: c, l, i + 1, h => by
    have := traceP_get c (stepP x l) i (by simpa using h)
    simpa [traceP, runP] using this
theorem room24 {n : Nat} (h : n ≤ 1000000) (x : List Int) : decide (n + [x].length ≤ 35184372088832 / (24 + 1)) = true := decide_eq_true (by simp; omega)
theorem implTrace_l {c : List Ins} (hc : Inss c) (hl : c.length ≤ 100000) : ∀ (d i : Nat) (P : List (List Int)) (l : List Int), i + d = c.length → P.length = i → Regs l →
    impl_TraceOf.v0 c (c.length : Int) (i : Int) (P ++ [l]) = some (P ++ traceP (c.drop i) l, true) := by
  intro d
  induction d with
  | zero =>
    intro i P l hi hP h
    refine impl_TraceOf.v0s _ _ _ _ ?_
    rw [br_f (by simp; omega), List.drop_eq_nil_of_le (by omega)]; rfl
  | succ d ih =>
    intro i P l hi hP h
    have hlt : i < c.length := by omega
    have hx := hc _ (List.getElem_mem hlt)
    have w : IntKind.wrap .i64 (((P ++ [l]).length : Int) - 1) = (P.length : Int) := by rw [List.length_append, List.length_singleton, wrap_ok (by omega) (by omega)]; omega
    refine impl_TraceOf.v0s _ _ _ _ ?_
    rw [br_t (by simpa using hlt), br_t (by simp), Int.toNat_natCast, gt_at _ hlt, w, br_t (by simp), br_t (decide_eq_true (by rw [List.length_append, List.length_singleton]; omega)), Int.toNat_natCast, gt_mid, clone_f l (by have := h.len; omega), bd_s]
    dsimp only
    rw [run_v (c := [c[i]]) (fun x hx' => by rw [List.mem_singleton] at hx'; rw [hx']; exact hx) (by simp) h, bd_s, br_t (room24 (by simp; omega) _), next_ok i _ hlt (by omega), drop_at _ _ hlt]
    have := ih (i + 1) (P ++ [l]) (stepP c[i] l) (by omega) (by simp [hP]) (h.step hx)
    rw [List.append_assoc P [l] (traceP _ _)] at this
    exact this
theorem cdTrace_l {c : List Ins} (hc : Inss c) (hl : c.length ≤ 100000) : ∀ (d i : Nat) (P : List (List Int)) (l : List Int), i + d = c.length → P.length = i → Regs l →
    spec_TraceOf.v0 c (c.length : Int) (i : Int) (P ++ [l]) = some (P ++ traceP (c.drop i) l, true) := by
  intro d
  induction d with
  | zero =>
    intro i P l hi hP h
    refine spec_TraceOf.v0s _ _ _ _ ?_
    rw [br_f (by simp; omega), List.drop_eq_nil_of_le (by omega)]; rfl
  | succ d ih =>
    intro i P l hi hP h
    have hlt : i < c.length := by omega
    have hx := hc _ (List.getElem_mem hlt)
    have w : IntKind.wrap .i64 (((P ++ [l]).length : Int) - 1) = (P.length : Int) := by rw [List.length_append, List.length_singleton, wrap_ok (by omega) (by omega)]; omega
    refine spec_TraceOf.v0s _ _ _ _ ?_
    rw [br_t (by simpa using hlt), br_t (by simp), Int.toNat_natCast, gt_at _ hlt, w, br_t (by simp), br_t (decide_eq_true (by rw [List.length_append, List.length_singleton]; omega)), Int.toNat_natCast, gt_mid, cdStep_f hx h, bd_s, br_t (room24 (by simp; omega) _), next_ok i _ hlt (by omega), drop_at _ _ hlt]
    have := ih (i + 1) (P ++ [l]) (stepP c[i] l) (by omega) (by simp [hP]) (h.step hx)
    rw [List.append_assoc P [l] (traceP _ _)] at this
    exact this
theorem traceOf_v (c : List Ins) (hc : c.length ≤ 100000) (l : List Int) (hl : l.length ≤ 1000000) :
    impl_TraceOf.v c l = some (if codeOk c && regsOk l then (traceP c l, true) else ([], false)) := by
  refine impl_TraceOf.vs _ _ ?_
  rw [isCode_v c (by omega), bd_s]
  cases h1 : codeOk c with
  | false => rw [brn_f]; rfl
  | true =>
    rw [brn_t, areRegs_v l hl, bd_s]
    cases h2 : regsOk l with
    | false => rw [brn_f]; rfl
    | true =>
      rw [brn_t, clone_f l hl, bd_s]
      exact implTrace_l (code_of h1).all hc c.length 0 [] l (by omega) rfl (regs_of h2)
theorem cdTraceOf_v (c : List Ins) (hc : c.length ≤ 100000) (l : List Int) (hl : l.length ≤ 1000000) :
    spec_TraceOf.v c l = some (if codeOk c && regsOk l then (traceP c l, true) else ([], false)) := by
  refine spec_TraceOf.vs _ _ ?_
  rw [cdCode_v c (by omega), bd_s]
  cases h1 : codeOk c with
  | false => rw [brn_f]; rfl
  | true =>
    rw [brn_t, cdRegs_v l hl, bd_s]
    cases h2 : regsOk l with
    | false => rw [brn_f]; rfl
    | true =>
      rw [brn_t, own_f l hl, bd_s]
      exact cdTrace_l (code_of h1).all hc c.length 0 [] l (by omega) rfl (regs_of h2)
theorem sameRows_self (a : List (List Int)) (ha : a.length ≤ 1000000) (hb : ∀ x ∈ a, x.length ≤ 1000000) : laws_pSameRows.v a a = some true := by
  have key : ∀ (d i : Nat), i + d = a.length → laws_pSameRows.v0 a a (a.length : Int) (i : Int) = some true := by
    intro d
    induction d with
    | zero =>
      intro i hi
      refine laws_pSameRows.v0s _ _ _ _ ?_
      rw [br_f (by simp; omega)]
    | succ d ih =>
      intro i hi
      have hlt : i < a.length := by omega
      refine laws_pSameRows.v0s _ _ _ _ ?_
      rw [br_t (by simpa using hlt), br_t (by simp), Int.toNat_natCast, gt_at _ hlt, br_t (by simp), gt_at _ hlt, pSame_self _ (hb _ (List.getElem_mem hlt)), bd_s, brn_t, next_ok i _ hlt (by omega)]
      exact ih (i + 1) (by omega)
  exact laws_pSameRows.vs _ _ (by rw [br_f (by simp)]; exact key a.length 0 (by omega))
theorem trace_rows {c : List Ins} (hc : Inss c) {l : List Int} (h : Regs l) : ∀ x ∈ traceP c l, Regs x := by
  induction c generalizing l with
  | nil =>
    intro x hx
    obtain rfl : x = l := by simpa [traceP] using hx
    exact h
  | cons y c ih =>
    intro x hx
    rcases List.mem_cons.1 hx with rfl | hx
    · exact h
    · exact ih hc.cons.2 (h.step hc.cons.1) x hx

/-! ### results -/
def startP (x0 x1 : Int) : List Int := [x0, x1, 0, 0, 0, 0]
theorem start_regs {x0 x1 : Int} (h0 : word x0) (h1 : word x1) : Regs (startP x0 x1) := by
  refine ⟨rfl, fun x hx => ?_⟩
  unfold startP at hx
  simp only [List.mem_cons, List.not_mem_nil, or_false] at hx
  rcases hx with rfl | rfl | rfl | rfl | rfl | rfl
  · exact h0
  · exact h1
  all_goals exact ⟨by decide, by decide⟩
theorem result_v {c : List Ins} (hc : Inss c) (hl : c.length ≤ 1000000) {x0 x1 : Int} (h0 : word x0) (h1 : word x1) : impl_result.v c x0 x1 = some (runP c (startP x0 x1)) := by
  refine impl_result.vs _ _ _ ?_
  have := run_v hc hl (start_regs h0 h1)
  show bd (impl_run.v c (startP x0 x1)) _ = _
  rw [this, bd_s]
theorem cdStart_f (x0 x1 : Int) : spec_cdStart.f x0 x1 = some (startP x0 x1) := by rw [spec_cdStart.eq]; rfl
noncomputable def resP (c : List Ins) (x0 x1 r : Int) : Int × Bool := if codeOk c && (inB x0 0 63 && (inB x1 0 63 && inB r 0 5)) then ((runP c (startP x0 x1)).getD r.toNat 0, true) else (0, false)
theorem resultOf_v (c : List Ins) (hl : c.length ≤ 1000000) (x0 x1 r : Int) : impl_ResultOf.v c x0 x1 r = some (resP c x0 x1 r) := by
  refine impl_ResultOf.vs _ _ _ _ ?_
  unfold resP
  rw [isCode_v c hl, bd_s]
  cases h1 : codeOk c with
  | false => rw [brn_f]; rfl
  | true =>
    rw [brn_t, isWord_f, bd_s]
    cases h2 : inB x0 0 63 with
    | false => rw [brn_f]; rfl
    | true =>
      rw [brn_t, isWord_f, bd_s]
      cases h3 : inB x1 0 63 with
      | false => rw [brn_f]; rfl
      | true =>
        rw [brn_t, isRegister_f, bd_s]
        cases h4 : inB r 0 5 with
        | false => rw [brn_f]; rfl
        | true =>
          have hR := start_regs (inB_iff.1 h2) (inB_iff.1 h3)
          have hr := inB_iff.1 h4
          rw [brn_t, result_v (code_of h1).all hl (inB_iff.1 h2) (inB_iff.1 h3), bd_s, br_t (decide_eq_true hr.1), gt_some (getD_at hr.1 (by rw [(hR.run (code_of h1).all).len]; omega))]
          rfl
theorem cdResultOf_v (c : List Ins) (hl : c.length ≤ 1000000) (x0 x1 r : Int) : spec_ResultOf.v c x0 x1 r = some (resP c x0 x1 r) := by
  refine spec_ResultOf.vs _ _ _ _ ?_
  unfold resP
  rw [cdCode_v c hl, bd_s]
  cases h1 : codeOk c with
  | false => rw [brn_f]; rfl
  | true =>
    rw [brn_t, exWord_f, bd_s]
    cases h2 : inB x0 0 63 with
    | false => rw [brn_f]; rfl
    | true =>
      rw [brn_t, exWord_f, bd_s]
      cases h3 : inB x1 0 63 with
      | false => rw [brn_f]; rfl
      | true =>
        rw [brn_t, cdReg_f, bd_s]
        cases h4 : inB r 0 5 with
        | false => rw [brn_f]; rfl
        | true =>
          have hR := start_regs (inB_iff.1 h2) (inB_iff.1 h3)
          have hr := inB_iff.1 h4
          rw [brn_t, cdStart_f, bd_s, cdRun_v (code_of h1).all hl hR, bd_s, br_t (decide_eq_true hr.1), gt_some (getD_at hr.1 (by rw [(hR.run (code_of h1).all).len]; omega))]
          rfl

/-! ### joined code -/
theorem grow_f (n : Nat) (h : n ≤ 1000000) : slices_Grow_Instr.f (n : Int) = some ([], ()) := by
  rw [slices_Grow_Instr.eq, br_f (decide_eq_false (by omega))]
  have w : IntKind.wrap .i64 ((n : Int) - IntKind.wrap .i64 ((0 : Int) - 0)) = (n : Int) := by
    rw [show IntKind.wrap .i64 ((0 : Int) - 0) = 0 from rfl, Int.sub_zero, wrap_ok (by omega) (by omega)]
  rw [w]
  by_cases c : n = 0
  · subst c; rfl
  · rw [br_t (decide_eq_true (by omega)), br_t (decide_eq_true (by omega)), br_t (decide_eq_true (by omega))]; rfl
theorem concat_v (a b : List Ins) (ha : a.length ≤ 1000) (hb : b.length ≤ 1000) : slices_Concat_Instr.v [a, b] = some (a ++ b) := by
  have t0 : Int.toNat (0 : Int) = 0 := rfl
  have t1 : Int.toNat (1 : Int) = 1 := rfl
  have t2 : IntKind.wrap .i64 ((0 : Int) + 1) = 1 := rfl
  have t3 : IntKind.wrap .i64 ((1 : Int) + 1) = 2 := rfl
  have wa : IntKind.wrap .i64 ((0 : Int) + (a.length : Int)) = (a.length : Int) := by rw [wrap_ok (by omega) (by omega)]; omega
  have wb : IntKind.wrap .i64 ((a.length : Int) + (b.length : Int)) = ((a.length + b.length : Nat) : Int) := by rw [wrap_ok (by omega) (by omega)]; omega
  have r : ∀ (x y : List Ins), x.length ≤ 3000 → y.length ≤ 3000 → decide (x.length + y.length ≤ 35184372088832 / (48 + 1)) = true := fun x y h1 h2 => decide_eq_true (by omega)
  have len2 : (([a, b] : List (List Ins)).length : Int) = 2 := rfl
  have e3 : ∀ z, slices_Concat_Instr.v1 [a, b] 2 2 z = some z := fun z => slices_Concat_Instr.v1s _ _ _ _ (by rw [br_f (by decide)])
  have e2 : slices_Concat_Instr.v1 [a, b] 2 1 a = some (a ++ b) := slices_Concat_Instr.v1s _ _ _ _ (by rw [br_t (by decide), br_t (by decide), t1, gt_one, br_t (r _ _ (by omega) (by omega)), t3, e3])
  have e1 : slices_Concat_Instr.v1 [a, b] 2 0 [] = some (a ++ b) := slices_Concat_Instr.v1s _ _ _ _ (by rw [br_t (by decide), br_t (by decide), t0, gt_zero, br_t (r _ _ (by simp) (by omega)), t2, List.nil_append, e2])
  have f2 : slices_Concat_Instr.v0 [a, b] ((a.length + b.length : Nat) : Int) [a, b] 2 2 = some (a ++ b) := slices_Concat_Instr.v0s _ _ _ _ _ (by rw [br_f (by decide), grow_f _ (by omega), bd_s, len2]; exact e1)
  have f1 : slices_Concat_Instr.v0 [a, b] (a.length : Int) [a, b] 2 1 = some (a ++ b) := slices_Concat_Instr.v0s _ _ _ _ _ (by rw [br_t (by decide), br_t (by decide), t1, gt_one, wb, br_f (decide_eq_false (by omega)), t3, f2])
  have f0 : slices_Concat_Instr.v0 [a, b] 0 [a, b] 2 0 = some (a ++ b) := slices_Concat_Instr.v0s _ _ _ _ _ (by rw [br_t (by decide), br_t (by decide), t0, gt_zero, wa, br_f (decide_eq_false (by omega)), t2, f1])
  exact slices_Concat_Instr.vs _ (by rw [len2]; exact f0)
def joinOk (a b : List Ins) : Bool := codeOk a && (codeOk b && decide (a.length + b.length ≤ 40))
theorem joinCode_v (a b : List Ins) (ha : a.length ≤ 1000) (hb : b.length ≤ 1000) : impl_JoinCode.v a b = some (if joinOk a b then (a ++ b, true) else ([], false)) := by
  refine impl_JoinCode.vs _ _ ?_
  unfold joinOk
  rw [isCode_v a (by omega), bd_s]
  cases h1 : codeOk a with
  | false => rw [brn_f]; rfl
  | true =>
    rw [brn_t, isCode_v b (by omega), bd_s]
    cases h2 : codeOk b with
    | false => rw [brn_f]; rfl
    | true =>
      rw [brn_t, wrap_ok (by omega) (by omega)]
      by_cases h3 : a.length + b.length ≤ 40
      · rw [br_f (decide_eq_false (by omega)), concat_v a b ha hb, bd_s]; simp [h3]
      · rw [br_t (decide_eq_true (by omega))]; simp [h3]
theorem cdJoinCode_v (a b : List Ins) (ha : a.length ≤ 1000) (hb : b.length ≤ 1000) : spec_JoinCode.v a b = some (if joinOk a b then (a ++ b, true) else ([], false)) := by
  refine spec_JoinCode.vs _ _ ?_
  unfold joinOk
  rw [cdCode_v a (by omega), bd_s]
  cases h1 : codeOk a with
  | false => rw [brn_f]; rfl
  | true =>
    rw [brn_t, cdCode_v b (by omega), bd_s]
    cases h2 : codeOk b with
    | false => rw [brn_f]; rfl
    | true =>
      rw [brn_t, wrap_ok (by omega) (by omega)]
      by_cases h3 : a.length + b.length ≤ 40
      · rw [br_f (decide_eq_false (by omega)), br_t (decide_eq_true (by omega)), List.nil_append, br_t (decide_eq_true (by omega))]; simp [h3]
      · rw [br_t (decide_eq_true (by omega))]; simp [h3]
theorem join_code {a b : List Ins} (h : joinOk a b = true) : CodeOk a ∧ CodeOk b ∧ CodeOk (a ++ b) := by
  unfold joinOk at h
  simp only [Bool.and_eq_true, decide_eq_true_iff] at h
  obtain ⟨h1, h2, h3⟩ := h
  have ca := code_of h1
  have cb := code_of h2
  refine ⟨ca, cb, ⟨by rw [List.length_append]; exact h3, fun x hx => ?_⟩⟩
  rcases List.mem_append.1 hx with hx | hx
  · exact ca.all x hx
  · exact cb.all x hx
end Go.Proofs.Ytkjlmkalkanimaa.Am
end
section
/- The law laws_FnCodeRuns over the machine of values. -/
set_option linter.unusedVariables false
set_option maxRecDepth 100000
set_option maxHeartbeats 1000000
namespace Go.Proofs.Ytkjlmkalkanimaa.Am
open Go
noncomputable def laws_FnCodeRuns.E : En := ⟨P0, M0, [(19, ⟨[0, 5, 6, 7, 10, 12, 13, 14, 154, 155, 156], [], [], []⟩), (25, ⟨[0, 5, 6, 7, 10, 12, 13, 14, 21, 22, 23, 154, 155, 156, 183, 184], [], [], []⟩), (6, ⟨[0, 1, 5, 6, 7, 8, 9, 10], [], [], []⟩), (8, ⟨[0, 1, 5, 6, 7, 10], [], [], []⟩), (11, ⟨[0, 5, 6, 7, 10, 11, 12, 13, 14, 15, 16], [], [], []⟩), (13, ⟨[0, 5, 6, 7, 10, 11, 12, 13, 14, 15, 16, 17, 18, 19, 20], [], [], []⟩), (15, ⟨[0, 5, 6, 7, 10, 11, 12, 13, 14, 17], [], [], []⟩), (31, ⟨[0, 5, 6, 7, 10, 12, 14], [], [], []⟩)], ntOf P0 3, [6, 8, 11, 13, 15, 31]⟩
noncomputable def laws_FnCodeRuns.g : St → Option Bool := fun st => fin0 (cV false .b) (finA P0 (resOf P0 3) 0 [.id] [] st)
noncomputable def laws_FnCodeRuns.T (k : Nat) : Table := tabs [(6, (laws_big.tab)), (7, (spec_DrawJoinCode.tab k)), (8, (impl_JoinCode.tab k)), (9, (spec_JoinCode.tab k)), (10, (laws_pSameCode.tab k)), (11, (spec_DrawTraceOf.tab k)), (12, (impl_TraceOf.tab k)), (13, (spec_TraceOf.tab k)), (14, (impl_RunCode.tab k)), (15, (spec_RunCode.tab k)), (16, (laws_pSameRows.tab k)), (17, (laws_pSame.tab k)), (18, (impl_StepInstr.tab k)), (19, (spec_DrawResultOf.tab k)), (20, (impl_ResultOf.tab k)), (21, (spec_ResultOf.tab k)), (22, (impl_CodeCost.tab k)), (23, (impl_IsCode.tab k))]
noncomputable def laws_FnCodeRuns.f (k : Nat) (a0 : (List Int)) (a1 : (List Int)) : Option Bool := go laws_FnCodeRuns.E laws_FnCodeRuns.T laws_FnCodeRuns.g k [.code (bodyOf P0 3)] (initA [mkP false (.sl (.i .u8)) a0, mkP false (.sl (.i .u8)) a1] [])
noncomputable def laws_FnCodeRuns.tab (k : Nat) : List AV → List AO → Option Pack := tabI [.v false (.sl (.i .u8)), .v false (.sl (.i .u8))] [] (enc0 (cV false .b)) (laws_FnCodeRuns.f k)
noncomputable def laws_FnCodeRuns.l0 (k : Nat) (x0 : List Int) (x1 : List Int) (x2 : List (ByteArray × (Int × (Int × (Int × Int))))) (x3 : List (ByteArray × (Int × (Int × (Int × Int))))) (x4 : List (ByteArray × (Int × (Int × (Int × Int))))) (x5 : Bool) (x6 : List (ByteArray × (Int × (Int × (Int × Int))))) (x7 : Bool) := go laws_FnCodeRuns.E laws_FnCodeRuns.T laws_FnCodeRuns.g k (headOf P0 3 0 [6, 8, 11, 13, 15, 31]) ⟨[(0, (.lst (.i .u8) x0)), (1, (.lst (.i .u8) x1)), (5, (.lst (.pr .s (.pr (.i .i64) (.pr (.i .i64) (.pr (.i .i64) (.i .i64))))) x2)), (6, (.lst (.pr .s (.pr (.i .i64) (.pr (.i .i64) (.pr (.i .i64) (.i .i64))))) x3)), (7, (.lst (.pr .s (.pr (.i .i64) (.pr (.i .i64) (.pr (.i .i64) (.i .i64))))) x4)), (8, (.b x5)), (9, (.lst (.pr .s (.pr (.i .i64) (.pr (.i .i64) (.pr (.i .i64) (.i .i64))))) x6)), (10, (.b x7))], []⟩
noncomputable def laws_FnCodeRuns.l1 (k : Nat) (x0 : List Int) (x1 : List Int) (x2 : List (ByteArray × (Int × (Int × (Int × Int))))) (x3 : List (ByteArray × (Int × (Int × (Int × Int))))) (x4 : List (ByteArray × (Int × (Int × (Int × Int))))) (x5 : Bool) := go laws_FnCodeRuns.E laws_FnCodeRuns.T laws_FnCodeRuns.g k (headOf P0 3 1 [6, 8, 11, 13, 15, 31]) ⟨[(0, (.lst (.i .u8) x0)), (1, (.lst (.i .u8) x1)), (5, (.lst (.pr .s (.pr (.i .i64) (.pr (.i .i64) (.pr (.i .i64) (.i .i64))))) x2)), (6, (.lst (.pr .s (.pr (.i .i64) (.pr (.i .i64) (.pr (.i .i64) (.i .i64))))) x3)), (7, (.lst (.pr .s (.pr (.i .i64) (.pr (.i .i64) (.pr (.i .i64) (.i .i64))))) x4)), (10, (.b x5))], []⟩
noncomputable def laws_FnCodeRuns.l2 (k : Nat) (x0 : List Int) (x1 : List (ByteArray × (Int × (Int × (Int × Int))))) (x2 : List (ByteArray × (Int × (Int × (Int × Int))))) (x3 : List (ByteArray × (Int × (Int × (Int × Int))))) (x4 : Bool) (x5 : List (ByteArray × (Int × (Int × (Int × Int))))) (x6 : List Int) (x7 : List (List Int)) (x8 : Bool) (x9 : List (List Int)) (x10 : Bool) := go laws_FnCodeRuns.E laws_FnCodeRuns.T laws_FnCodeRuns.g k (headOf P0 3 2 [6, 8, 11, 13, 15, 31]) ⟨[(0, (.lst (.i .u8) x0)), (5, (.lst (.pr .s (.pr (.i .i64) (.pr (.i .i64) (.pr (.i .i64) (.i .i64))))) x1)), (6, (.lst (.pr .s (.pr (.i .i64) (.pr (.i .i64) (.pr (.i .i64) (.i .i64))))) x2)), (7, (.lst (.pr .s (.pr (.i .i64) (.pr (.i .i64) (.pr (.i .i64) (.i .i64))))) x3)), (10, (.b x4)), (11, (.lst (.pr .s (.pr (.i .i64) (.pr (.i .i64) (.pr (.i .i64) (.i .i64))))) x5)), (12, (.lst (.i .i64) x6)), (13, (.lst (.sl (.i .i64)) x7)), (14, (.b x8)), (15, (.lst (.sl (.i .i64)) x9)), (16, (.b x10))], []⟩
noncomputable def laws_FnCodeRuns.l3 (k : Nat) (x0 : List Int) (x1 : List (ByteArray × (Int × (Int × (Int × Int))))) (x2 : List (ByteArray × (Int × (Int × (Int × Int))))) (x3 : List (ByteArray × (Int × (Int × (Int × Int))))) (x4 : Bool) (x5 : List (ByteArray × (Int × (Int × (Int × Int))))) (x6 : List Int) (x7 : List (List Int)) (x8 : Bool) (x9 : List (List Int)) (x10 : Bool) (x11 : List Int) (x12 : Bool) (x13 : List Int) (x14 : Bool) := go laws_FnCodeRuns.E laws_FnCodeRuns.T laws_FnCodeRuns.g k (headOf P0 3 3 [6, 8, 11, 13, 15, 31]) ⟨[(0, (.lst (.i .u8) x0)), (5, (.lst (.pr .s (.pr (.i .i64) (.pr (.i .i64) (.pr (.i .i64) (.i .i64))))) x1)), (6, (.lst (.pr .s (.pr (.i .i64) (.pr (.i .i64) (.pr (.i .i64) (.i .i64))))) x2)), (7, (.lst (.pr .s (.pr (.i .i64) (.pr (.i .i64) (.pr (.i .i64) (.i .i64))))) x3)), (10, (.b x4)), (11, (.lst (.pr .s (.pr (.i .i64) (.pr (.i .i64) (.pr (.i .i64) (.i .i64))))) x5)), (12, (.lst (.i .i64) x6)), (13, (.lst (.sl (.i .i64)) x7)), (14, (.b x8)), (15, (.lst (.sl (.i .i64)) x9)), (16, (.b x10)), (17, (.lst (.i .i64) x11)), (18, (.b x12)), (19, (.lst (.i .i64) x13)), (20, (.b x14))], []⟩
noncomputable def laws_FnCodeRuns.l4 (k : Nat) (x0 : List Int) (x1 : List (ByteArray × (Int × (Int × (Int × Int))))) (x2 : List (ByteArray × (Int × (Int × (Int × Int))))) (x3 : List (ByteArray × (Int × (Int × (Int × Int))))) (x4 : Bool) (x5 : List (ByteArray × (Int × (Int × (Int × Int))))) (x6 : List Int) (x7 : List (List Int)) (x8 : Bool) (x9 : List Int) := go laws_FnCodeRuns.E laws_FnCodeRuns.T laws_FnCodeRuns.g k (headOf P0 3 4 [6, 8, 11, 13, 15, 31]) ⟨[(0, (.lst (.i .u8) x0)), (5, (.lst (.pr .s (.pr (.i .i64) (.pr (.i .i64) (.pr (.i .i64) (.i .i64))))) x1)), (6, (.lst (.pr .s (.pr (.i .i64) (.pr (.i .i64) (.pr (.i .i64) (.i .i64))))) x2)), (7, (.lst (.pr .s (.pr (.i .i64) (.pr (.i .i64) (.pr (.i .i64) (.i .i64))))) x3)), (10, (.b x4)), (11, (.lst (.pr .s (.pr (.i .i64) (.pr (.i .i64) (.pr (.i .i64) (.i .i64))))) x5)), (12, (.lst (.i .i64) x6)), (13, (.lst (.sl (.i .i64)) x7)), (14, (.b x8)), (17, (.lst (.i .i64) x9))], []⟩
noncomputable def laws_FnCodeRuns.l5 (k : Nat) (x0 : List Int) (x1 : List (ByteArray × (Int × (Int × (Int × Int))))) (x2 : List (ByteArray × (Int × (Int × (Int × Int))))) (x3 : List (ByteArray × (Int × (Int × (Int × Int))))) (x4 : Bool) (x5 : List Int) (x6 : List (List Int)) (x7 : Bool) (x8 : List (ByteArray × (Int × (Int × (Int × Int))))) (x9 : Int) (x10 : Int) := go laws_FnCodeRuns.E laws_FnCodeRuns.T laws_FnCodeRuns.g k (headOf P0 3 5 [6, 8, 11, 13, 15, 31]) ⟨[(0, (.lst (.i .u8) x0)), (5, (.lst (.pr .s (.pr (.i .i64) (.pr (.i .i64) (.pr (.i .i64) (.i .i64))))) x1)), (6, (.lst (.pr .s (.pr (.i .i64) (.pr (.i .i64) (.pr (.i .i64) (.i .i64))))) x2)), (7, (.lst (.pr .s (.pr (.i .i64) (.pr (.i .i64) (.pr (.i .i64) (.i .i64))))) x3)), (10, (.b x4)), (12, (.lst (.i .i64) x5)), (13, (.lst (.sl (.i .i64)) x6)), (14, (.b x7)), (154, (.lst (.pr .s (.pr (.i .i64) (.pr (.i .i64) (.pr (.i .i64) (.i .i64))))) x8)), (155, (.i .i64 x9)), (156, (.i .i64 x10))], []⟩
noncomputable def laws_FnCodeRuns.l7 (k : Nat) (x0 : List Int) (x1 : List (ByteArray × (Int × (Int × (Int × Int))))) (x2 : List (ByteArray × (Int × (Int × (Int × Int))))) (x3 : List (ByteArray × (Int × (Int × (Int × Int))))) (x4 : Bool) (x5 : List Int) (x6 : Bool) := go laws_FnCodeRuns.E laws_FnCodeRuns.T laws_FnCodeRuns.g k (headOf P0 3 7 [6, 8, 11, 13, 15, 31]) ⟨[(0, (.lst (.i .u8) x0)), (5, (.lst (.pr .s (.pr (.i .i64) (.pr (.i .i64) (.pr (.i .i64) (.i .i64))))) x1)), (6, (.lst (.pr .s (.pr (.i .i64) (.pr (.i .i64) (.pr (.i .i64) (.i .i64))))) x2)), (7, (.lst (.pr .s (.pr (.i .i64) (.pr (.i .i64) (.pr (.i .i64) (.i .i64))))) x3)), (10, (.b x4)), (12, (.lst (.i .i64) x5)), (14, (.b x6))], []⟩
noncomputable def laws_FnCodeRuns.l6 (k : Nat) (x0 : List Int) (x1 : List (ByteArray × (Int × (Int × (Int × Int))))) (x2 : List (ByteArray × (Int × (Int × (Int × Int))))) (x3 : List (ByteArray × (Int × (Int × (Int × Int))))) (x4 : Bool) (x5 : List Int) (x6 : List (List Int)) (x7 : Bool) (x8 : Int) (x9 : List Int) (x10 : List (ByteArray × (Int × (Int × (Int × Int))))) (x11 : Int) (x12 : Int) (x13 : Int) (x14 : Int) (x15 : ByteArray) (x16 : Int) (x17 : Int) (x18 : Int) (x19 : Int) := go laws_FnCodeRuns.E laws_FnCodeRuns.T laws_FnCodeRuns.g k (headOf P0 3 6 [6, 8, 11, 13, 15, 31]) ⟨[(0, (.lst (.i .u8) x0)), (5, (.lst (.pr .s (.pr (.i .i64) (.pr (.i .i64) (.pr (.i .i64) (.i .i64))))) x1)), (6, (.lst (.pr .s (.pr (.i .i64) (.pr (.i .i64) (.pr (.i .i64) (.i .i64))))) x2)), (7, (.lst (.pr .s (.pr (.i .i64) (.pr (.i .i64) (.pr (.i .i64) (.i .i64))))) x3)), (10, (.b x4)), (12, (.lst (.i .i64) x5)), (13, (.lst (.sl (.i .i64)) x6)), (14, (.b x7)), (21, (.i .i64 x8)), (22, (.ptr 5000 0)), (23, (.lst (.i .i64) x9)), (154, (.lst (.pr .s (.pr (.i .i64) (.pr (.i .i64) (.pr (.i .i64) (.i .i64))))) x10)), (155, (.i .i64 x11)), (156, (.i .i64 x12)), (183, (.i .i64 x13)), (184, (.i .i64 x14))], [(5000, (.box [(.s x15), (.i .i64 x16), (.i .i64 x17), (.i .i64 x18), (.i .i64 x19)]))]⟩
theorem laws_FnCodeRuns.eq (k : Nat) (a0 : (List Int)) (a1 : (List Int)) : laws_FnCodeRuns.f (k + 1) a0 a1 = (bd (laws_big.f a0 a1) fun r0 => (br r0 (some true) (bd (spec_DrawJoinCode.f k a0) fun r1 => (bd (impl_JoinCode.f k r1.1 r1.2) fun r2 => (bd (spec_JoinCode.f k r1.1 r1.2) fun r3 => (laws_FnCodeRuns.l0 k a0 a1 r1.1 r1.2 r2.1 r2.2 r3.1 r3.2)))))) := by kernel_rfl
theorem laws_FnCodeRuns.l0_eq (k : Nat) (x0 : List Int) (x1 : List Int) (x2 : List (ByteArray × (Int × (Int × (Int × Int))))) (x3 : List (ByteArray × (Int × (Int × (Int × Int))))) (x4 : List (ByteArray × (Int × (Int × (Int × Int))))) (x5 : Bool) (x6 : List (ByteArray × (Int × (Int × (Int × Int))))) (x7 : Bool) : laws_FnCodeRuns.l0 (k + 1) x0 x1 x2 x3 x4 x5 x6 x7 = (br (Bool.not (x5 == x7)) (some false) (bd (laws_pSameCode.f k x4 x6) fun r4 => (br (Bool.not r4) (some false) (laws_FnCodeRuns.l1 k x0 x1 x2 x3 x4 x7)))) := by kernel_rfl
theorem laws_FnCodeRuns.l1_eq (k : Nat) (x0 : List Int) (x1 : List Int) (x2 : List (ByteArray × (Int × (Int × (Int × Int))))) (x3 : List (ByteArray × (Int × (Int × (Int × Int))))) (x4 : List (ByteArray × (Int × (Int × (Int × Int))))) (x5 : Bool) : laws_FnCodeRuns.l1 (k + 1) x0 x1 x2 x3 x4 x5 = (bd (spec_DrawTraceOf.f k x1) fun r5 => (bd (impl_TraceOf.f k r5.1 r5.2) fun r6 => (bd (spec_TraceOf.f k r5.1 r5.2) fun r7 => (laws_FnCodeRuns.l2 k x0 x2 x3 x4 x5 r5.1 r5.2 r6.1 r6.2 r7.1 r7.2)))) := by kernel_rfl
theorem laws_FnCodeRuns.l2_eq (k : Nat) (x0 : List Int) (x1 : List (ByteArray × (Int × (Int × (Int × Int))))) (x2 : List (ByteArray × (Int × (Int × (Int × Int))))) (x3 : List (ByteArray × (Int × (Int × (Int × Int))))) (x4 : Bool) (x5 : List (ByteArray × (Int × (Int × (Int × Int))))) (x6 : List Int) (x7 : List (List Int)) (x8 : Bool) (x9 : List (List Int)) (x10 : Bool) : laws_FnCodeRuns.l2 (k + 1) x0 x1 x2 x3 x4 x5 x6 x7 x8 x9 x10 = (bd (impl_RunCode.f k x5 x6) fun r8 => (bd (spec_RunCode.f k x5 x6) fun r9 => (laws_FnCodeRuns.l3 k x0 x1 x2 x3 x4 x5 x6 x7 x8 x9 x10 r8.1 r8.2 r9.1 r9.2))) := by kernel_rfl
theorem laws_FnCodeRuns.l3_eq (k : Nat) (x0 : List Int) (x1 : List (ByteArray × (Int × (Int × (Int × Int))))) (x2 : List (ByteArray × (Int × (Int × (Int × Int))))) (x3 : List (ByteArray × (Int × (Int × (Int × Int))))) (x4 : Bool) (x5 : List (ByteArray × (Int × (Int × (Int × Int))))) (x6 : List Int) (x7 : List (List Int)) (x8 : Bool) (x9 : List (List Int)) (x10 : Bool) (x11 : List Int) (x12 : Bool) (x13 : List Int) (x14 : Bool) : laws_FnCodeRuns.l3 (k + 1) x0 x1 x2 x3 x4 x5 x6 x7 x8 x9 x10 x11 x12 x13 x14 = (br (Bool.not (x8 == x10)) (some false) (bd (laws_pSameRows.f k x7 x9) fun r10 => (br (Bool.not r10) (some false) (br (Bool.not (x12 == x14)) (some false) (bd (laws_pSame.f k x11 x13) fun r11 => (br (Bool.not r11) (some false) (br (Bool.not (x8 == x12)) (some false) (laws_FnCodeRuns.l4 k x0 x1 x2 x3 x4 x5 x6 x7 x8 x11)))))))) := by kernel_rfl
theorem laws_FnCodeRuns.l4_eq (k : Nat) (x0 : List Int) (x1 : List (ByteArray × (Int × (Int × (Int × Int))))) (x2 : List (ByteArray × (Int × (Int × (Int × Int))))) (x3 : List (ByteArray × (Int × (Int × (Int × Int))))) (x4 : Bool) (x5 : List (ByteArray × (Int × (Int × (Int × Int))))) (x6 : List Int) (x7 : List (List Int)) (x8 : Bool) (x9 : List Int) : laws_FnCodeRuns.l4 (k + 1) x0 x1 x2 x3 x4 x5 x6 x7 x8 x9 = (br x8 (br ((((List.length x7) : Nat) : Int) != (Go.IntKind.wrap .i64 ((((List.length x5) : Nat) : Int) + (1 : Int)))) (some false) (gt x7 (Int.toNat (0 : Int)) fun r12 => (bd (laws_pSame.f k r12 x6) fun r13 => (br (Bool.not r13) (some false) (gt x7 (Int.toNat (((List.length x5) : Nat) : Int)) fun r14 => (bd (laws_pSame.f k r14 x9) fun r15 => (br (Bool.not r15) (some false) (laws_FnCodeRuns.l5 k x0 x1 x2 x3 x4 x6 x7 x8 x5 (((List.length x5) : Nat) : Int) (0 : Int))))))))) (laws_FnCodeRuns.l7 k x0 x1 x2 x3 x4 x6 x8)) := by kernel_rfl
theorem laws_FnCodeRuns.l5_eq (k : Nat) (x0 : List Int) (x1 : List (ByteArray × (Int × (Int × (Int × Int))))) (x2 : List (ByteArray × (Int × (Int × (Int × Int))))) (x3 : List (ByteArray × (Int × (Int × (Int × Int))))) (x4 : Bool) (x5 : List Int) (x6 : List (List Int)) (x7 : Bool) (x8 : List (ByteArray × (Int × (Int × (Int × Int))))) (x9 : Int) (x10 : Int) : laws_FnCodeRuns.l5 (k + 1) x0 x1 x2 x3 x4 x5 x6 x7 x8 x9 x10 = (br (decide (x10 < x9)) (br (decide ((0 : Int) ≤ x10)) (gt x8 (Int.toNat x10) fun r16 => (br (decide ((0 : Int) ≤ x10)) (gt x6 (Int.toNat x10) fun r17 => (bd (impl_StepInstr.f k r16 r17) fun r18 => (br (Bool.not r18.2) (some false) (br (decide ((0 : Int) ≤ (Go.IntKind.wrap .i64 (x10 + (1 : Int))))) (gt x6 (Int.toNat (Go.IntKind.wrap .i64 (x10 + (1 : Int)))) fun r19 => (bd (laws_pSame.f k r18.1 r19) fun r20 => (br (Bool.not r20) (some false) (laws_FnCodeRuns.l6 k x0 x1 x2 x3 x4 x5 x6 x7 x10 r18.1 x8 x9 x10 (((List.length x5) : Nat) : Int) (0 : Int) r16.1 r16.2.1 r16.2.2.1 r16.2.2.2.1 r16.2.2.2.2)))) none)))) none)) none) (laws_FnCodeRuns.l7 k x0 x1 x2 x3 x4 x5 x7)) := by kernel_rfl
theorem laws_FnCodeRuns.l7_eq (k : Nat) (x0 : List Int) (x1 : List (ByteArray × (Int × (Int × (Int × Int))))) (x2 : List (ByteArray × (Int × (Int × (Int × Int))))) (x3 : List (ByteArray × (Int × (Int × (Int × Int))))) (x4 : Bool) (x5 : List Int) (x6 : Bool) : laws_FnCodeRuns.l7 (k + 1) x0 x1 x2 x3 x4 x5 x6 = (bd (spec_DrawResultOf.f k x0) fun r21 => (bd (impl_ResultOf.f k r21.1 r21.2.1 r21.2.2.1 r21.2.2.2) fun r22 => (bd (spec_ResultOf.f k r21.1 r21.2.1 r21.2.2.1 r21.2.2.2) fun r23 => (br (Bool.not (r22.2 == r23.2)) (some false) (br (r22.1 != r23.1) (some false) (br (Bool.not x4) (some true) (br (Bool.not x6) (some true) (bd (impl_RunCode.f k x1 x5) fun r24 => (bd (impl_RunCode.f k x2 r24.1) fun r25 => (bd (impl_RunCode.f k x3 x5) fun r26 => (bd (impl_CodeCost.f k x1) fun r27 => (bd (impl_CodeCost.f k x2) fun r28 => (bd (impl_CodeCost.f k x3) fun r29 => (br r24.2 (br r25.2 (br r26.2 (br r27.2 (br r28.2 (br r29.2 (bd (laws_pSame.f k r25.1 r26.1) fun r30 => (br r30 (br (r29.1 == (Go.IntKind.wrap .i64 (r27.1 + r28.1))) (bd (impl_IsCode.f k x3) fun r31 => (some r31)) (some false)) (some false))) (some false)) (some false)) (some false)) (some false)) (some false)) (some false))))))))))))))) := by kernel_rfl
theorem laws_FnCodeRuns.l6_eq (k : Nat) (x0 : List Int) (x1 : List (ByteArray × (Int × (Int × (Int × Int))))) (x2 : List (ByteArray × (Int × (Int × (Int × Int))))) (x3 : List (ByteArray × (Int × (Int × (Int × Int))))) (x4 : Bool) (x5 : List Int) (x6 : List (List Int)) (x7 : Bool) (x8 : Int) (x9 : List Int) (x10 : List (ByteArray × (Int × (Int × (Int × Int))))) (x11 : Int) (x12 : Int) (x13 : Int) (x14 : Int) (x15 : ByteArray) (x16 : Int) (x17 : Int) (x18 : Int) (x19 : Int) : laws_FnCodeRuns.l6 (k + 1) x0 x1 x2 x3 x4 x5 x6 x7 x8 x9 x10 x11 x12 x13 x14 x15 x16 x17 x18 x19 = (br (decide (x14 < x13)) (br (x14 != x16) (br (decide ((0 : Int) ≤ x14)) (gt x9 (Int.toNat x14) fun r32 => (br (decide ((0 : Int) ≤ x8)) (gt x6 (Int.toNat x8) fun r33 => (br (decide ((0 : Int) ≤ x14)) (gt r33 (Int.toNat x14) fun r34 => (br (r32 != r34) (some false) (laws_FnCodeRuns.l6 k x0 x1 x2 x3 x4 x5 x6 x7 x8 x9 x10 x11 x12 x13 (Go.IntKind.wrap .i64 (x14 + (1 : Int))) x15 x16 x17 x18 x19))) none)) none)) none) (laws_FnCodeRuns.l6 k x0 x1 x2 x3 x4 x5 x6 x7 x8 x9 x10 x11 x12 x13 (Go.IntKind.wrap .i64 (x14 + (1 : Int))) x15 x16 x17 x18 x19)) (laws_FnCodeRuns.l5 k x0 x1 x2 x3 x4 x5 x6 x7 x10 x11 (Go.IntKind.wrap .i64 (x12 + (1 : Int))))) := by kernel_rfl
theorem laws_FnCodeRuns.b : fnB P0 3 (ntOf P0 3) = true := by kernel_rfl
theorem laws_FnCodeRuns.Tok (k : Nat) : TS P0 (laws_FnCodeRuns.T k) := (tabs_cons (laws_big.tok) (tabs_cons (spec_DrawJoinCode.tok k) (tabs_cons (impl_JoinCode.tok k) (tabs_cons (spec_JoinCode.tok k) (tabs_cons (laws_pSameCode.tok k) (tabs_cons (spec_DrawTraceOf.tok k) (tabs_cons (impl_TraceOf.tok k) (tabs_cons (spec_TraceOf.tok k) (tabs_cons (impl_RunCode.tok k) (tabs_cons (spec_RunCode.tok k) (tabs_cons (laws_pSameRows.tok k) (tabs_cons (laws_pSame.tok k) (tabs_cons (impl_StepInstr.tok k) (tabs_cons (spec_DrawResultOf.tok k) (tabs_cons (impl_ResultOf.tok k) (tabs_cons (spec_ResultOf.tok k) (tabs_cons (impl_CodeCost.tok k) (tabs_cons (impl_IsCode.tok k) tabs_nil))))))))))))))))))
theorem laws_FnCodeRuns.calls (k : Nat) (a0 : (List Int)) (a1 : (List Int)) {r : Bool} (h : laws_FnCodeRuns.f k a0 a1 = some r) : ACalls P0 3 [mkP false (.sl (.i .u8)) a0, mkP false (.sl (.i .u8)) a1] [] (enc0 (cV false .b) r) := fn0 (E := laws_FnCodeRuns.E) mix (T := laws_FnCodeRuns.T) laws_FnCodeRuns.Tok (f := 3) laws_FnCodeRuns.b (cd := (cV false .b)) (cV_ok _ _) (cvs := [.id]) h
noncomputable def laws_FnCodeRuns.v (a0 : (List Int)) (a1 : (List Int)) := lim fun _ k => laws_FnCodeRuns.f k a0 a1
noncomputable def laws_FnCodeRuns.v0 (x0 : List Int) (x1 : List Int) (x2 : List (ByteArray × (Int × (Int × (Int × Int))))) (x3 : List (ByteArray × (Int × (Int × (Int × Int))))) (x4 : List (ByteArray × (Int × (Int × (Int × Int))))) (x5 : Bool) (x6 : List (ByteArray × (Int × (Int × (Int × Int))))) (x7 : Bool) := lim fun _ k => laws_FnCodeRuns.l0 k x0 x1 x2 x3 x4 x5 x6 x7
noncomputable def laws_FnCodeRuns.v1 (x0 : List Int) (x1 : List Int) (x2 : List (ByteArray × (Int × (Int × (Int × Int))))) (x3 : List (ByteArray × (Int × (Int × (Int × Int))))) (x4 : List (ByteArray × (Int × (Int × (Int × Int))))) (x5 : Bool) := lim fun _ k => laws_FnCodeRuns.l1 k x0 x1 x2 x3 x4 x5
noncomputable def laws_FnCodeRuns.v2 (x0 : List Int) (x1 : List (ByteArray × (Int × (Int × (Int × Int))))) (x2 : List (ByteArray × (Int × (Int × (Int × Int))))) (x3 : List (ByteArray × (Int × (Int × (Int × Int))))) (x4 : Bool) (x5 : List (ByteArray × (Int × (Int × (Int × Int))))) (x6 : List Int) (x7 : List (List Int)) (x8 : Bool) (x9 : List (List Int)) (x10 : Bool) := lim fun _ k => laws_FnCodeRuns.l2 k x0 x1 x2 x3 x4 x5 x6 x7 x8 x9 x10
noncomputable def laws_FnCodeRuns.v3 (x0 : List Int) (x1 : List (ByteArray × (Int × (Int × (Int × Int))))) (x2 : List (ByteArray × (Int × (Int × (Int × Int))))) (x3 : List (ByteArray × (Int × (Int × (Int × Int))))) (x4 : Bool) (x5 : List (ByteArray × (Int × (Int × (Int × Int))))) (x6 : List Int) (x7 : List (List Int)) (x8 : Bool) (x9 : List (List Int)) (x10 : Bool) (x11 : List Int) (x12 : Bool) (x13 : List Int) (x14 : Bool) := lim fun _ k => laws_FnCodeRuns.l3 k x0 x1 x2 x3 x4 x5 x6 x7 x8 x9 x10 x11 x12 x13 x14
noncomputable def laws_FnCodeRuns.v4 (x0 : List Int) (x1 : List (ByteArray × (Int × (Int × (Int × Int))))) (x2 : List (ByteArray × (Int × (Int × (Int × Int))))) (x3 : List (ByteArray × (Int × (Int × (Int × Int))))) (x4 : Bool) (x5 : List (ByteArray × (Int × (Int × (Int × Int))))) (x6 : List Int) (x7 : List (List Int)) (x8 : Bool) (x9 : List Int) := lim fun _ k => laws_FnCodeRuns.l4 k x0 x1 x2 x3 x4 x5 x6 x7 x8 x9
noncomputable def laws_FnCodeRuns.v5 (x0 : List Int) (x1 : List (ByteArray × (Int × (Int × (Int × Int))))) (x2 : List (ByteArray × (Int × (Int × (Int × Int))))) (x3 : List (ByteArray × (Int × (Int × (Int × Int))))) (x4 : Bool) (x5 : List Int) (x6 : List (List Int)) (x7 : Bool) (x8 : List (ByteArray × (Int × (Int × (Int × Int))))) (x9 : Int) (x10 : Int) := lim fun _ k => laws_FnCodeRuns.l5 k x0 x1 x2 x3 x4 x5 x6 x7 x8 x9 x10
noncomputable def laws_FnCodeRuns.v7 (x0 : List Int) (x1 : List (ByteArray × (Int × (Int × (Int × Int))))) (x2 : List (ByteArray × (Int × (Int × (Int × Int))))) (x3 : List (ByteArray × (Int × (Int × (Int × Int))))) (x4 : Bool) (x5 : List Int) (x6 : Bool) := lim fun _ k => laws_FnCodeRuns.l7 k x0 x1 x2 x3 x4 x5 x6
noncomputable def laws_FnCodeRuns.v6 (x0 : List Int) (x1 : List (ByteArray × (Int × (Int × (Int × Int))))) (x2 : List (ByteArray × (Int × (Int × (Int × Int))))) (x3 : List (ByteArray × (Int × (Int × (Int × Int))))) (x4 : Bool) (x5 : List Int) (x6 : List (List Int)) (x7 : Bool) (x8 : Int) (x9 : List Int) (x10 : List (ByteArray × (Int × (Int × (Int × Int))))) (x11 : Int) (x12 : Int) (x13 : Int) (x14 : Int) (x15 : ByteArray) (x16 : Int) (x17 : Int) (x18 : Int) (x19 : Int) := lim fun _ k => laws_FnCodeRuns.l6 k x0 x1 x2 x3 x4 x5 x6 x7 x8 x9 x10 x11 x12 x13 x14 x15 x16 x17 x18 x19
theorem laws_FnCodeRuns.vs (a0 : (List Int)) (a1 : (List Int)) {r} (h : (bd (laws_big.f a0 a1) fun r0 => (br r0 (some true) (bd (spec_DrawJoinCode.v a0) fun r1 => (bd (impl_JoinCode.v r1.1 r1.2) fun r2 => (bd (spec_JoinCode.v r1.1 r1.2) fun r3 => (laws_FnCodeRuns.v0 a0 a1 r1.1 r1.2 r2.1 r2.2 r3.1 r3.2)))))) = some r) : laws_FnCodeRuns.v a0 a1 = some r := vstep (fun d k => laws_FnCodeRuns.eq k a0 a1) h
theorem laws_FnCodeRuns.v0s (x0 : List Int) (x1 : List Int) (x2 : List (ByteArray × (Int × (Int × (Int × Int))))) (x3 : List (ByteArray × (Int × (Int × (Int × Int))))) (x4 : List (ByteArray × (Int × (Int × (Int × Int))))) (x5 : Bool) (x6 : List (ByteArray × (Int × (Int × (Int × Int))))) (x7 : Bool) {r} (h : (br (Bool.not (x5 == x7)) (some false) (bd (laws_pSameCode.v x4 x6) fun r4 => (br (Bool.not r4) (some false) (laws_FnCodeRuns.v1 x0 x1 x2 x3 x4 x7)))) = some r) : laws_FnCodeRuns.v0 x0 x1 x2 x3 x4 x5 x6 x7 = some r := vstep (fun d k => laws_FnCodeRuns.l0_eq k x0 x1 x2 x3 x4 x5 x6 x7) h
theorem laws_FnCodeRuns.v1s (x0 : List Int) (x1 : List Int) (x2 : List (ByteArray × (Int × (Int × (Int × Int))))) (x3 : List (ByteArray × (Int × (Int × (Int × Int))))) (x4 : List (ByteArray × (Int × (Int × (Int × Int))))) (x5 : Bool) {r} (h : (bd (spec_DrawTraceOf.v x1) fun r5 => (bd (impl_TraceOf.v r5.1 r5.2) fun r6 => (bd (spec_TraceOf.v r5.1 r5.2) fun r7 => (laws_FnCodeRuns.v2 x0 x2 x3 x4 x5 r5.1 r5.2 r6.1 r6.2 r7.1 r7.2)))) = some r) : laws_FnCodeRuns.v1 x0 x1 x2 x3 x4 x5 = some r := vstep (fun d k => laws_FnCodeRuns.l1_eq k x0 x1 x2 x3 x4 x5) h
theorem laws_FnCodeRuns.v2s (x0 : List Int) (x1 : List (ByteArray × (Int × (Int × (Int × Int))))) (x2 : List (ByteArray × (Int × (Int × (Int × Int))))) (x3 : List (ByteArray × (Int × (Int × (Int × Int))))) (x4 : Bool) (x5 : List (ByteArray × (Int × (Int × (Int × Int))))) (x6 : List Int) (x7 : List (List Int)) (x8 : Bool) (x9 : List (List Int)) (x10 : Bool) {r} (h : (bd (impl_RunCode.v x5 x6) fun r8 => (bd (spec_RunCode.v x5 x6) fun r9 => (laws_FnCodeRuns.v3 x0 x1 x2 x3 x4 x5 x6 x7 x8 x9 x10 r8.1 r8.2 r9.1 r9.2))) = some r) : laws_FnCodeRuns.v2 x0 x1 x2 x3 x4 x5 x6 x7 x8 x9 x10 = some r := vstep (fun d k => laws_FnCodeRuns.l2_eq k x0 x1 x2 x3 x4 x5 x6 x7 x8 x9 x10) h
theorem laws_FnCodeRuns.v3s (x0 : List Int) (x1 : List (ByteArray × (Int × (Int × (Int × Int))))) (x2 : List (ByteArray × (Int × (Int × (Int × Int))))) (x3 : List (ByteArray × (Int × (Int × (Int × Int))))) (x4 : Bool) (x5 : List (ByteArray × (Int × (Int × (Int × Int))))) (x6 : List Int) (x7 : List (List Int)) (x8 : Bool) (x9 : List (List Int)) (x10 : Bool) (x11 : List Int) (x12 : Bool) (x13 : List Int) (x14 : Bool) {r} (h : (br (Bool.not (x8 == x10)) (some false) (bd (laws_pSameRows.v x7 x9) fun r10 => (br (Bool.not r10) (some false) (br (Bool.not (x12 == x14)) (some false) (bd (laws_pSame.v x11 x13) fun r11 => (br (Bool.not r11) (some false) (br (Bool.not (x8 == x12)) (some false) (laws_FnCodeRuns.v4 x0 x1 x2 x3 x4 x5 x6 x7 x8 x11)))))))) = some r) : laws_FnCodeRuns.v3 x0 x1 x2 x3 x4 x5 x6 x7 x8 x9 x10 x11 x12 x13 x14 = some r := vstep (fun d k => laws_FnCodeRuns.l3_eq k x0 x1 x2 x3 x4 x5 x6 x7 x8 x9 x10 x11 x12 x13 x14) h
theorem laws_FnCodeRuns.v4s (x0 : List Int) (x1 : List (ByteArray × (Int × (Int × (Int × Int))))) (x2 : List (ByteArray × (Int × (Int × (Int × Int))))) (x3 : List (ByteArray × (Int × (Int × (Int × Int))))) (x4 : Bool) (x5 : List (ByteArray × (Int × (Int × (Int × Int))))) (x6 : List Int) (x7 : List (List Int)) (x8 : Bool) (x9 : List Int) {r} (h : (br x8 (br ((((List.length x7) : Nat) : Int) != (Go.IntKind.wrap .i64 ((((List.length x5) : Nat) : Int) + (1 : Int)))) (some false) (gt x7 (Int.toNat (0 : Int)) fun r12 => (bd (laws_pSame.v r12 x6) fun r13 => (br (Bool.not r13) (some false) (gt x7 (Int.toNat (((List.length x5) : Nat) : Int)) fun r14 => (bd (laws_pSame.v r14 x9) fun r15 => (br (Bool.not r15) (some false) (laws_FnCodeRuns.v5 x0 x1 x2 x3 x4 x6 x7 x8 x5 (((List.length x5) : Nat) : Int) (0 : Int))))))))) (laws_FnCodeRuns.v7 x0 x1 x2 x3 x4 x6 x8)) = some r) : laws_FnCodeRuns.v4 x0 x1 x2 x3 x4 x5 x6 x7 x8 x9 = some r := vstep (fun d k => laws_FnCodeRuns.l4_eq k x0 x1 x2 x3 x4 x5 x6 x7 x8 x9) h
theorem laws_FnCodeRuns.v5s (x0 : List Int) (x1 : List (ByteArray × (Int × (Int × (Int × Int))))) (x2 : List (ByteArray × (Int × (Int × (Int × Int))))) (x3 : List (ByteArray × (Int × (Int × (Int × Int))))) (x4 : Bool) (x5 : List Int) (x6 : List (List Int)) (x7 : Bool) (x8 : List (ByteArray × (Int × (Int × (Int × Int))))) (x9 : Int) (x10 : Int) {r} (h : (br (decide (x10 < x9)) (br (decide ((0 : Int) ≤ x10)) (gt x8 (Int.toNat x10) fun r16 => (br (decide ((0 : Int) ≤ x10)) (gt x6 (Int.toNat x10) fun r17 => (bd (impl_StepInstr.v r16 r17) fun r18 => (br (Bool.not r18.2) (some false) (br (decide ((0 : Int) ≤ (Go.IntKind.wrap .i64 (x10 + (1 : Int))))) (gt x6 (Int.toNat (Go.IntKind.wrap .i64 (x10 + (1 : Int)))) fun r19 => (bd (laws_pSame.v r18.1 r19) fun r20 => (br (Bool.not r20) (some false) (laws_FnCodeRuns.v6 x0 x1 x2 x3 x4 x5 x6 x7 x10 r18.1 x8 x9 x10 (((List.length x5) : Nat) : Int) (0 : Int) r16.1 r16.2.1 r16.2.2.1 r16.2.2.2.1 r16.2.2.2.2)))) none)))) none)) none) (laws_FnCodeRuns.v7 x0 x1 x2 x3 x4 x5 x7)) = some r) : laws_FnCodeRuns.v5 x0 x1 x2 x3 x4 x5 x6 x7 x8 x9 x10 = some r := vstep (fun d k => laws_FnCodeRuns.l5_eq k x0 x1 x2 x3 x4 x5 x6 x7 x8 x9 x10) h
theorem laws_FnCodeRuns.v7s (x0 : List Int) (x1 : List (ByteArray × (Int × (Int × (Int × Int))))) (x2 : List (ByteArray × (Int × (Int × (Int × Int))))) (x3 : List (ByteArray × (Int × (Int × (Int × Int))))) (x4 : Bool) (x5 : List Int) (x6 : Bool) {r} (h : (bd (spec_DrawResultOf.v x0) fun r21 => (bd (impl_ResultOf.v r21.1 r21.2.1 r21.2.2.1 r21.2.2.2) fun r22 => (bd (spec_ResultOf.v r21.1 r21.2.1 r21.2.2.1 r21.2.2.2) fun r23 => (br (Bool.not (r22.2 == r23.2)) (some false) (br (r22.1 != r23.1) (some false) (br (Bool.not x4) (some true) (br (Bool.not x6) (some true) (bd (impl_RunCode.v x1 x5) fun r24 => (bd (impl_RunCode.v x2 r24.1) fun r25 => (bd (impl_RunCode.v x3 x5) fun r26 => (bd (impl_CodeCost.v x1) fun r27 => (bd (impl_CodeCost.v x2) fun r28 => (bd (impl_CodeCost.v x3) fun r29 => (br r24.2 (br r25.2 (br r26.2 (br r27.2 (br r28.2 (br r29.2 (bd (laws_pSame.v r25.1 r26.1) fun r30 => (br r30 (br (r29.1 == (Go.IntKind.wrap .i64 (r27.1 + r28.1))) (bd (impl_IsCode.v x3) fun r31 => (some r31)) (some false)) (some false))) (some false)) (some false)) (some false)) (some false)) (some false)) (some false))))))))))))))) = some r) : laws_FnCodeRuns.v7 x0 x1 x2 x3 x4 x5 x6 = some r := vstep (fun d k => laws_FnCodeRuns.l7_eq k x0 x1 x2 x3 x4 x5 x6) h
theorem laws_FnCodeRuns.v6s (x0 : List Int) (x1 : List (ByteArray × (Int × (Int × (Int × Int))))) (x2 : List (ByteArray × (Int × (Int × (Int × Int))))) (x3 : List (ByteArray × (Int × (Int × (Int × Int))))) (x4 : Bool) (x5 : List Int) (x6 : List (List Int)) (x7 : Bool) (x8 : Int) (x9 : List Int) (x10 : List (ByteArray × (Int × (Int × (Int × Int))))) (x11 : Int) (x12 : Int) (x13 : Int) (x14 : Int) (x15 : ByteArray) (x16 : Int) (x17 : Int) (x18 : Int) (x19 : Int) {r} (h : (br (decide (x14 < x13)) (br (x14 != x16) (br (decide ((0 : Int) ≤ x14)) (gt x9 (Int.toNat x14) fun r32 => (br (decide ((0 : Int) ≤ x8)) (gt x6 (Int.toNat x8) fun r33 => (br (decide ((0 : Int) ≤ x14)) (gt r33 (Int.toNat x14) fun r34 => (br (r32 != r34) (some false) (laws_FnCodeRuns.v6 x0 x1 x2 x3 x4 x5 x6 x7 x8 x9 x10 x11 x12 x13 (Go.IntKind.wrap .i64 (x14 + (1 : Int))) x15 x16 x17 x18 x19))) none)) none)) none) (laws_FnCodeRuns.v6 x0 x1 x2 x3 x4 x5 x6 x7 x8 x9 x10 x11 x12 x13 (Go.IntKind.wrap .i64 (x14 + (1 : Int))) x15 x16 x17 x18 x19)) (laws_FnCodeRuns.v5 x0 x1 x2 x3 x4 x5 x6 x7 x10 x11 (Go.IntKind.wrap .i64 (x12 + (1 : Int))))) = some r) : laws_FnCodeRuns.v6 x0 x1 x2 x3 x4 x5 x6 x7 x8 x9 x10 x11 x12 x13 x14 x15 x16 x17 x18 x19 = some r := vstep (fun d k => laws_FnCodeRuns.l6_eq k x0 x1 x2 x3 x4 x5 x6 x7 x8 x9 x10 x11 x12 x13 x14 x15 x16 x17 x18 x19) h
end Go.Proofs.Ytkjlmkalkanimaa.Am
end
section
/- The law FnCodeRuns, in plain Lean. -/
namespace Go.Proofs.Ytkjlmkalkanimaa.Am
open Go
set_option linter.unusedVariables false
set_option linter.unusedSimpArgs false
theorem bytes_of {l : List Int} (q : Qd (.sl (.i .u8)) l) : Bytes l := fun x hx => by
  have h := q.2 x hx
  simp only [Qd, Lit.wf] at h
  simpa [IntKind.min, IntKind.max, IntKind.bits, IntKind.signed] using h
theorem if_tt {α : Type} (x y : α) : (if (true && true) = true then x else y) = x := rfl
section
variable {x0 regs : List Int} {a b both : List Ins} {fine told : Bool}
theorem runs7 (hx0 : Bytes x0) (hj : fine = true → joinOk a b = true ∧ both = a ++ b) (ht : told = true → Regs regs) : laws_FnCodeRuns.v7 x0 a b both fine regs told = some true := by
  obtain ⟨c, p, q, r, hd, hcl⟩ := drawResult_v hx0
  refine laws_FnCodeRuns.v7s _ _ _ _ _ _ _ ?_
  rw [hd, bd_s]
  dsimp only
  rw [resultOf_v c (by omega), bd_s, cdResultOf_v c (by omega), bd_s, br_f (by simp), br_f (by simp)]
  cases fine with
  | false => rw [brn_f]
  | true =>
    rw [brn_t]
    cases told with
    | false => rw [brn_f]
    | true =>
      obtain ⟨hk, rfl⟩ := hj rfl
      have hR := ht rfl
      have hL := hR.len
      obtain ⟨ca, cb, cab⟩ := join_code hk
      have la := ca.len
      have lb := cb.len
      have lab := cab.len
      have hR1 := hR.run ca.all
      rw [brn_t, runCode_v a (by omega) regs (by omega), bd_s, ca.ok, hR.ok, if_tt]
      dsimp only
      rw [runCode_v b (by omega) _ (by rw [hR1.len]; omega), bd_s, cb.ok, hR1.ok, if_tt, runCode_v (a ++ b) (by omega) regs (by omega), bd_s, cab.ok, hR.ok, if_tt]
      rw [codeCostOf_v a (by omega) ca.ok, bd_s, codeCostOf_v b (by omega) cb.ok, bd_s, codeCostOf_v (a ++ b) (by omega) cab.ok, bd_s]
      rw [br_t rfl, br_t rfl, br_t rfl, br_t rfl, br_t rfl, br_t rfl]
      dsimp only
      have ba := costC_b a
      have bb := costC_b b
      rw [run_append, pSame_self _ (by rw [(hR1.run cb.all).len]; omega), bd_s, br_t rfl, costC_append, wrap_ok (by omega) (by omega), br_t (by simp), isCode_v (a ++ b) (by omega), bd_s, cab.ok]
theorem runs6 {c : List Ins} (hc : Inss c) (hcl : c.length ≤ 1000) (hR : Regs regs) {i : Nat} (hi : i < c.length) {x : Ins} {now next : List Int} (hx : InsOk x) (hnow : (traceP c regs)[i]? = some now) (hN : Regs now) (hnext : next = stepP x now) {n : Int}
    (h5 : laws_FnCodeRuns.v5 x0 a b both fine regs (traceP c regs) told c n (IntKind.wrap .i64 ((i : Int) + 1)) = some true) :
    laws_FnCodeRuns.v6 x0 a b both fine regs (traceP c regs) told (i : Int) next c n (i : Int) 6 0 x.1 x.2.1 x.2.2.1 x.2.2.2.1 x.2.2.2.2 = some true := by
  have nl := hN.len
  have key : ∀ (d r : Nat), r + d = 6 → laws_FnCodeRuns.v6 x0 a b both fine regs (traceP c regs) told (i : Int) next c n (i : Int) 6 (r : Int) x.1 x.2.1 x.2.2.1 x.2.2.2.1 x.2.2.2.2 = some true := by
    intro d
    induction d with
    | zero =>
      intro r hr
      refine laws_FnCodeRuns.v6s _ _ _ _ _ _ _ _ _ _ _ _ _ _ _ _ _ _ _ _ ?_
      rw [br_f (decide_eq_false (by omega))]
      exact h5
    | succ d ih =>
      intro r hr
      refine laws_FnCodeRuns.v6s _ _ _ _ _ _ _ _ _ _ _ _ _ _ _ _ _ _ _ _ ?_
      rw [br_t (decide_eq_true (by omega)), next_ok r 6 (by omega) (by omega), bne_dec]
      by_cases c1 : (r : Int) ≠ x.2.1
      · have hd := hx.d0
        have e : next.getD r 0 = now.getD r 0 := by
          rw [hnext]
          unfold stepP
          exact getD_set_ne _ (by omega) _
        have g1 : next[Int.toNat (r : Int)]? = some (next.getD r 0) := by
          have := getD_at (l := next) (p := (r : Int)) (by omega) (by rw [hnext, stepP_len]; omega)
          simpa using this
        have g2 : now[Int.toNat (r : Int)]? = some (now.getD r 0) := by
          have := getD_at (l := now) (p := (r : Int)) (by omega) (by omega)
          simpa using this
        rw [br_t (decide_eq_true c1), br_t (decide_eq_true (by omega)), gt_some g1, br_t (decide_eq_true (by omega)), Int.toNat_natCast, gt_some hnow, br_t (decide_eq_true (by omega)), gt_some g2, e, br_f (by simp)]
        exact ih (r + 1) (by omega)
      · rw [br_f (decide_eq_false c1)]
        exact ih (r + 1) (by omega)
  exact key 6 0 (by omega)
theorem runs5 (hx0 : Bytes x0) (hj : fine = true → joinOk a b = true ∧ both = a ++ b) {c : List Ins} (hc : CodeOk c) (hR : Regs regs) (ht : told = true → Regs regs) :
    laws_FnCodeRuns.v5 x0 a b both fine regs (traceP c regs) told c (c.length : Int) 0 = some true := by
  have hl := hc.len
  have hL := hR.len
  have tl := traceP_len c regs
  have key : ∀ (d i : Nat), i + d = c.length → laws_FnCodeRuns.v5 x0 a b both fine regs (traceP c regs) told c (c.length : Int) (i : Int) = some true := by
    intro d
    induction d with
    | zero =>
      intro i hi
      refine laws_FnCodeRuns.v5s _ _ _ _ _ _ _ _ _ _ _ ?_
      rw [br_f (by simp; omega)]
      exact runs7 hx0 hj ht
    | succ d ih =>
      intro i hi
      have hlt : i < c.length := by omega
      have hx := hc.all _ (List.getElem_mem hlt)
      have g0 := traceP_get c regs i (by omega)
      have g1 := traceP_get c regs (i + 1) (by omega)
      have hN := hR.run (c := c.take i) (fun x hx => hc.all x (List.mem_of_mem_take hx))
      have hNl := hN.len
      have es : runP (c.take (i + 1)) regs = stepP c[i] (runP (c.take i) regs) := by
        rw [List.take_succ_eq_append_getElem hlt, run_append]; rfl
      refine laws_FnCodeRuns.v5s _ _ _ _ _ _ _ _ _ _ _ ?_
      rw [br_t (by simpa using hlt), br_t (by simp), Int.toNat_natCast, gt_at _ hlt, br_t (by simp), gt_some g0, stepInstr_v _ _ (by omega), bd_s, hx.ok, hN.ok, if_tt, brn_t]
      rw [next_ok i _ hlt (by omega), br_t (decide_eq_true (by omega)), Int.toNat_natCast, gt_some g1, es]
      dsimp only
      rw [pSame_self _ (by rw [stepP_len]; omega), bd_s, brn_t, show (regs.length : Int) = 6 by omega]
      exact runs6 hc.all (by omega) hR hlt hx g0 hN rfl (by rw [next_ok i _ hlt (by omega)]; exact ih (i + 1) (by omega))
  exact key c.length 0 (by omega)
theorem runs4 (hx0 : Bytes x0) (hj : fine = true → joinOk a b = true ∧ both = a ++ b) {c : List Ins} (hcl : c.length ≤ 1000) {trace : List (List Int)} {fin : List Int} (h : told = true → CodeOk c ∧ Regs regs ∧ trace = traceP c regs ∧ fin = runP c regs) :
    laws_FnCodeRuns.v4 x0 a b both fine c regs trace told fin = some true := by
  refine laws_FnCodeRuns.v4s _ _ _ _ _ _ _ _ _ _ ?_
  cases told with
  | false => rw [br_f rfl]; exact runs7 hx0 hj (fun h => nomatch h)
  | true =>
    obtain ⟨hc, hR, rfl, rfl⟩ := h rfl
    have tl := traceP_len c regs
    have hL := hR.len
    have g0 : (traceP c regs)[Int.toNat 0]? = some regs := traceP_get c regs 0 (by omega)
    have g1 : (traceP c regs)[Int.toNat (c.length : Int)]? = some (runP c regs) := by
      have := traceP_get c regs c.length (by omega)
      rw [Int.toNat_natCast, this, List.take_of_length_le (by omega)]
    rw [br_t rfl, wrap_ok (by omega) (by omega), br_f (by rw [tl]; simp), gt_some g0, pSame_self _ (by omega), bd_s, brn_t, gt_some g1, pSame_self _ (by rw [(hR.run hc.all).len]; omega), bd_s, brn_t]
    exact runs5 hx0 hj hc hR (fun _ => hR)
end
theorem codeRuns_pure (x0 x1 : List Int) (q0 : Qd (.sl (.i .u8)) x0) (q1 : Qd (.sl (.i .u8)) x1) : ∃ k, laws_FnCodeRuns.f k x0 x1 = some true := by
  refine Ev.some (lim_ev (laws_FnCodeRuns.vs x0 x1 ?_))
  obtain ⟨r, hr, _⟩ := big_f x0 x1
  rw [hr, bd_s]
  cases r with
  | true => rfl
  | false =>
    rw [br_f rfl]
    obtain ⟨a, b, hd, hal, hbl⟩ := drawJoin_v (bytes_of q0)
    obtain ⟨c, l, ht, hcl, hll⟩ := drawTrace_v (bytes_of q1)
    rw [hd, bd_s]
    dsimp only
    rw [joinCode_v a b (by omega) (by omega), bd_s, cdJoinCode_v a b (by omega) (by omega), bd_s]
    obtain ⟨j, ej⟩ : ∃ j, j = (if joinOk a b = true then (a ++ b, true) else ([], false)) := ⟨_, rfl⟩
    rw [← ej]
    have hj : j.2 = true → joinOk a b = true ∧ j.1 = a ++ b := by
      intro h
      cases e : joinOk a b with
      | false => rw [ej, e] at h; cases h
      | true => rw [ej, e]; exact ⟨rfl, rfl⟩
    have hjl : j.1.length ≤ 1000000 := by
      rw [ej]; split
      · rw [List.length_append]; omega
      · simp
    clear ej
    refine laws_FnCodeRuns.v0s _ _ _ _ _ _ _ _ ?_
    rw [br_f (by simp), pSameCode_self _ hjl, bd_s, brn_t]
    refine laws_FnCodeRuns.v1s _ _ _ _ _ _ ?_
    rw [ht, bd_s]
    dsimp only
    rw [traceOf_v c (by omega) l (by omega), bd_s, cdTraceOf_v c (by omega) l (by omega), bd_s]
    refine laws_FnCodeRuns.v2s _ _ _ _ _ _ _ _ _ _ _ ?_
    rw [runCode_v c (by omega) l (by omega), bd_s, cdRunCode_v c (by omega) l (by omega), bd_s]
    refine laws_FnCodeRuns.v3s _ _ _ _ _ _ _ _ _ _ _ _ _ _ _ ?_
    cases e : (codeOk c && regsOk l) with
    | false =>
      rw [if_neg (by simp), if_neg (by simp), br_f (by simp), sameRows_self _ (by simp) (by simp), bd_s, brn_t, br_f (by simp), pSame_self _ (by simp), bd_s, brn_t, br_f (by simp)]
      exact runs4 (bytes_of q0) hj (by omega) (fun h => nomatch h)
    | true =>
      rw [Bool.and_eq_true] at e
      have hc := code_of e.1
      have hR := regs_of e.2
      have tl := traceP_len c l
      rw [if_pos rfl, if_pos rfl, br_f (by simp), sameRows_self _ (by dsimp only; omega) (fun x hx => by rw [(trace_rows hc.all hR x hx).len]; omega), bd_s, brn_t, br_f (by simp), pSame_self _ (by dsimp only; rw [(hR.run hc.all).len]; omega), bd_s, brn_t, br_f (by simp)]
      exact runs4 (bytes_of q0) hj (by omega) (fun _ => ⟨hc, hR, rfl, rfl⟩)
end Go.Proofs.Ytkjlmkalkanimaa.Am
end
