/- Plain texts: what the functions answer (part 0). -/
import Derived.Test.YtkjlmkalkanimaaKF1
section
/- Words of plain Lean; texts that are compared; forms of ops; what ops make of words: the program's functions and the reference's answer alike. -/
namespace Go.Proofs.Ytkjlmkalkanimaa.Am
open Go
set_option linter.unusedVariables false
set_option linter.unusedSimpArgs false

theorem brn_t {α : Type} (x y : Option α) : br (!true) x y = y := rfl
theorem brn_f {α : Type} (x y : Option α) : br (!false) x y = x := rfl
theorem gt_mid {α β : Type} (l : List β) (x : β) (r : List β) (f : β → Option α) : gt (l ++ x :: r) l.length f = f x := gt_some (by simp)
theorem set_mid {β : Type} (l : List β) (x y : β) (r : List β) : (l ++ x :: r).set l.length y = l ++ y :: r := by simp
theorem take_fold {α β : Type} (f : β → α → β) (l : List α) (b : β) (i : Nat) (h : i < l.length) : (l.take (i + 1)).foldl f b = f ((l.take i).foldl f b) l[i] := by
  rw [List.take_succ_eq_append_getElem h, List.foldl_append]; rfl
theorem getD_at {l : List Int} {p : Int} (h0 : 0 ≤ p) (h : p < l.length) : l[p.toNat]? = some (l.getD p.toNat 0) := by
  have hp : p.toNat < l.length := by omega
  rw [List.getD_eq_getElem?_getD, List.getElem?_eq_getElem hp]; rfl

theorem seq_beq (x y : ByteArray) : seq x y = decide (x = y) := by
  by_cases h : x = y
  · rw [decide_eq_true h]; exact seq_iff.2 h
  · rw [decide_eq_false h]
    cases e : seq x y with
    | false => rfl
    | true => exact absurd (seq_iff.1 e) h
/-- is a text among these -/
def isIn (l : List ByteArray) (s : ByteArray) : Bool := l.any fun x => decide (x = s)
theorem drop_at {α : Type} (l : List α) (i : Nat) (h : i < l.length) : l.drop i = l[i] :: l.drop (i + 1) := List.drop_eq_getElem_cons h
theorem l1HasS_ev (l : List ByteArray) (s : ByteArray) (hl : l.length ≤ 9223372036854775000) : Ev (fun k => spec_l1HasS.f k l s) (isIn l s) := by
  refine Ev.step (fun k => spec_l1HasS.eq k l s) ?_
  have := Ev.loop l.length (fun k i => spec_l1HasS.l0 k s l (l.length : Int) (i : Int)) (fun i => isIn (l.drop i) s) ?_ ?_ 0 (by omega)
  · exact this
  · exact Ev.step (fun k => spec_l1HasS.l0_eq k s l _ _) (Ev.neg (by simp) (Ev.ret (by simp [isIn])))
  · intro i hi ih
    refine Ev.step (fun k => spec_l1HasS.l0_eq k s l _ _) (Ev.pos (by simpa using hi) (Ev.pos (by simp) (Ev.get hi ?_)))
    rw [next_ok i _ hi hl, seq_beq]
    by_cases c : l[i] = s
    · exact Ev.pos (by simp [c]) (Ev.ret (by unfold isIn; rw [drop_at _ _ hi, List.any_cons]; simp [c]))
    · exact Ev.neg (by simp [c]) (Ev.eq ih (by unfold isIn; rw [drop_at _ _ hi, List.any_cons]; simp [c]))
theorem containsS_ev (l : List ByteArray) (s : ByteArray) (hl : l.length ≤ 9223372036854775000) : Ev (fun k => slices_Contains_string.f k l s) (isIn l s) := by
  have key : ∀ (d : Nat) (i : Nat), i + d = l.length → ∃ r : Int, Ev (fun k => slices_Index_string.l0 k l s (l.length : Int) (i : Int)) r ∧ (0 ≤ r ↔ isIn (l.drop i) s = true) := by
    intro d
    induction d with
    | zero =>
      intro i h
      refine ⟨-1, Ev.step (fun k => slices_Index_string.l0_eq k l s _ _) (Ev.neg (by simp; omega) (Ev.now _)), ?_⟩
      rw [List.drop_eq_nil_of_le (by omega)]; simp [isIn]
    | succ d ih =>
      intro i h
      have hi : i < l.length := by omega
      by_cases c : l[i] = s
      · refine ⟨i, Ev.step (fun k => slices_Index_string.l0_eq k l s _ _) (Ev.pos (by simpa using hi) (Ev.pos (by simp) (Ev.get hi (Ev.pos (by rw [seq_beq]; simp [c]) (Ev.now _))))), ?_⟩
        unfold isIn; rw [drop_at _ _ hi, List.any_cons]; simp [c]
      · obtain ⟨r, hev, hiff⟩ := ih (i + 1) (by omega)
        refine ⟨r, Ev.step (fun k => slices_Index_string.l0_eq k l s _ _) (Ev.pos (by simpa using hi) (Ev.pos (by simp) (Ev.get hi (Ev.neg (by rw [seq_beq]; simp only [decide_eq_false_iff_not]; exact fun e => c e.symm) (by rw [next_ok i _ hi hl]; exact hev))))), ?_⟩
        rw [hiff]; unfold isIn; rw [drop_at _ _ hi, List.any_cons]; simp [c]
  obtain ⟨r, hev, hiff⟩ := key l.length 0 (by omega)
  refine Ev.step (fun k => slices_Contains_string.eq k l s) (Ev.bind (b := r) (Ev.step (fun k => slices_Index_string.eq k l s) hev) (Ev.ret ?_))
  rw [Bool.eq_iff_iff, decide_eq_true_iff]
  exact hiff
theorem containsI_ev (l : List Int) (s : Int) (hl : l.length ≤ 9223372036854775000) : Ev (fun k => slices_Contains_int.f k l s) (decide (s ∈ l)) := by
  have key : ∀ (d : Nat) (i : Nat), i + d = l.length → ∃ r : Int, Ev (fun k => slices_Index_int.l0 k l s (l.length : Int) (i : Int)) r ∧ (0 ≤ r ↔ s ∈ l.drop i) := by
    intro d
    induction d with
    | zero =>
      intro i h
      refine ⟨-1, Ev.step (fun k => slices_Index_int.l0_eq k l s _ _) (Ev.neg (by simp; omega) (Ev.now _)), ?_⟩
      rw [List.drop_eq_nil_of_le (by omega)]; simp
    | succ d ih =>
      intro i h
      have hi : i < l.length := by omega
      by_cases c : s = l[i]
      · refine ⟨i, Ev.step (fun k => slices_Index_int.l0_eq k l s _ _) (Ev.pos (by simpa using hi) (Ev.pos (by simp) (Ev.get hi (Ev.pos (by simp [c]) (Ev.now _))))), ?_⟩
        rw [drop_at _ _ hi, List.mem_cons]; simp [c]
      · obtain ⟨r, hev, hiff⟩ := ih (i + 1) (by omega)
        refine ⟨r, Ev.step (fun k => slices_Index_int.l0_eq k l s _ _) (Ev.pos (by simpa using hi) (Ev.pos (by simp) (Ev.get hi (Ev.neg (by simp [c]) (by rw [next_ok i _ hi hl]; exact hev))))), ?_⟩
        rw [hiff, drop_at _ _ hi, List.mem_cons]; simp [c]
  obtain ⟨r, hev, hiff⟩ := key l.length 0 (by omega)
  refine Ev.step (fun k => slices_Contains_int.eq k l s) (Ev.bind (b := r) (Ev.step (fun k => slices_Index_int.eq k l s) hev) (Ev.ret ?_))
  rw [Bool.eq_iff_iff, decide_eq_true_iff, decide_eq_true_iff]
  exact hiff
theorem l1Has_ev (l : List Int) (s : Int) (hl : l.length ≤ 9223372036854775000) : Ev (fun k => spec_l1Has.f k l s) (decide (s ∈ l)) := by
  refine Ev.step (fun k => spec_l1Has.eq k l s) ?_
  have := Ev.loop l.length (fun k i => spec_l1Has.l0 k s l (l.length : Int) (i : Int)) (fun i => decide (s ∈ l.drop i)) ?_ ?_ 0 (by omega)
  · exact this
  · exact Ev.step (fun k => spec_l1Has.l0_eq k s l _ _) (Ev.neg (by simp) (Ev.ret (by simp)))
  · intro i hi ih
    refine Ev.step (fun k => spec_l1Has.l0_eq k s l _ _) (Ev.pos (by simpa using hi) (Ev.pos (by simp) (Ev.get hi ?_)))
    rw [next_ok i _ hi hl]
    by_cases c : l[i] = s
    · exact Ev.pos (by simp [c]) (Ev.ret (by rw [drop_at _ _ hi]; simp only [List.mem_cons]; simp [c]))
    · exact Ev.neg (by simp [c]) (Ev.eq ih (by rw [drop_at _ _ hi]; simp only [List.mem_cons]; have e : ¬ s = l[i] := fun e => c e.symm; simp [e]))
/-- is a number within these bounds -/
def inB (n lo hi : Int) : Bool := decide (lo ≤ n) && decide (n ≤ hi)
theorem l1In_f (n lo hi : Int) : spec_l1In.f n lo hi = some (inB n lo hi) := by
  rw [spec_l1In.eq]; unfold inB
  by_cases h : lo ≤ n
  · rw [br_t (by simpa using h)]; simp [h]
  · rw [br_f (by simpa using h)]; simp [h]
theorem within_f (n lo hi : Int) : impl_within.f n lo hi = some (inB n lo hi) := by
  rw [impl_within.eq]; unfold inB
  by_cases h : lo ≤ n
  · rw [br_t (by simpa using h)]; simp [h]
  · rw [br_f (by simpa using h)]; simp [h]
theorem isWord_f (n : Int) : impl_isWord.f n = some (inB n 0 63) := by rw [impl_isWord.eq, within_f]; rfl
theorem inB_iff {n lo hi : Int} : inB n lo hi = true ↔ lo ≤ n ∧ n ≤ hi := by unfold inB; simp
abbrev tNot : ByteArray := ⟨#[110, 111, 116]⟩
abbrev tNeg : ByteArray := ⟨#[110, 101, 103]⟩
def opsL : List ByteArray := [(⟨#[97, 100, 100]⟩ : ByteArray), (⟨#[115, 117, 98]⟩ : ByteArray), (⟨#[109, 117, 108]⟩ : ByteArray), (⟨#[97, 110, 100]⟩ : ByteArray), (⟨#[111, 114]⟩ : ByteArray), (⟨#[120, 111, 114]⟩ : ByteArray), (⟨#[115, 104, 108]⟩ : ByteArray), (⟨#[115, 104, 114]⟩ : ByteArray), (⟨#[108, 101, 115, 115]⟩ : ByteArray), (⟨#[101, 113]⟩ : ByteArray)]
def isTwo (s : ByteArray) : Bool := isIn opsL s
def isOne (s : ByteArray) : Bool := decide (s = tNot) || decide (s = tNeg)
abbrev tIn : ByteArray := ⟨#[105, 110]⟩
abbrev tConst : ByteArray := ⟨#[99, 111, 110, 115, 116]⟩
/-- how many operands an op has; -1: it is none -/
def arity (s : ByteArray) : Int := if s = tIn then 0 else if s = tConst then 0 else if isOne s = true then 1 else if isTwo s = true then 2 else -1
theorem isOne_mem {s : ByteArray} (h : isOne s = true) : s = tNot ∨ s = tNeg := by
  unfold isOne at h
  simpa using h
theorem arity_one {s : ByteArray} (h : isOne s = true) : arity s = 1 := by
  unfold arity
  rw [if_neg (by rcases isOne_mem h with e | e <;> rw [e] <;> decide), if_neg (by rcases isOne_mem h with e | e <;> rw [e] <;> decide), if_pos h]
theorem isTwo_not {s : ByteArray} (h : isTwo s = true) : s ≠ tIn ∧ s ≠ tConst ∧ isOne s = false := by
  refine ⟨fun e => ?_, fun e => ?_, ?_⟩
  · rw [e] at h; revert h; decide
  · rw [e] at h; revert h; decide
  · cases h1 : isOne s with
    | false => rfl
    | true => rcases isOne_mem h1 with e | e <;> (rw [e] at h; revert h; decide)
theorem arity_two {s : ByteArray} (h : isTwo s = true) : arity s = 2 := by
  obtain ⟨h1, h2, h3⟩ := isTwo_not h
  unfold arity
  rw [if_neg h1, if_neg h2, if_neg (by simp [h3]), if_pos h]
theorem arity_cases (s : ByteArray) : (arity s = -1 ∧ isOne s = false ∧ isTwo s = false) ∨ (arity s = 0 ∧ isOne s = false ∧ isTwo s = false) ∨ (arity s = 1 ∧ isOne s = true ∧ isTwo s = false) ∨ (arity s = 2 ∧ isOne s = false ∧ isTwo s = true) := by
  by_cases h2 : isTwo s = true
  · exact .inr (.inr (.inr ⟨arity_two h2, (isTwo_not h2).2.2, h2⟩))
  · have h2' : isTwo s = false := by simpa using h2
    by_cases h1 : isOne s = true
    · exact .inr (.inr (.inl ⟨arity_one h1, h1, h2'⟩))
    · have h1' : isOne s = false := by simpa using h1
      by_cases c : s = tIn
      · exact .inr (.inl ⟨by unfold arity; rw [if_pos c], h1', h2'⟩)
      · by_cases c2 : s = tConst
        · exact .inr (.inl ⟨by unfold arity; rw [if_neg c, if_pos c2], h1', h2'⟩)
        · exact .inl ⟨by unfold arity; rw [if_neg c, if_neg c2, if_neg h1, if_neg h2], h1', h2'⟩
theorem arity_eq_one {s : ByteArray} : arity s = 1 ↔ isOne s = true := by
  rcases arity_cases s with ⟨h, h1, h2⟩ | ⟨h, h1, h2⟩ | ⟨h, h1, h2⟩ | ⟨h, h1, h2⟩ <;> rw [h, h1] <;> simp
theorem arity_eq_two {s : ByteArray} : arity s = 2 ↔ isTwo s = true := by
  rcases arity_cases s with ⟨h, h1, h2⟩ | ⟨h, h1, h2⟩ | ⟨h, h1, h2⟩ | ⟨h, h1, h2⟩ <;> rw [h, h2] <;> simp
theorem seq_t {x y : ByteArray} (h : x = y) : seq x y = true := seq_iff.2 h
theorem seq_f {x y : ByteArray} (h : ¬ x = y) : seq x y = false := by rw [seq_beq]; simp [h]
theorem operands_ev (s : ByteArray) : Ev (fun k => impl_operands.f k s) (arity s) := by
  refine Ev.step (fun k => impl_operands.eq k s) ?_
  unfold arity
  by_cases c : s = tIn
  · rw [if_pos c]; exact Ev.pos (seq_t c) (Ev.now _)
  · refine Ev.neg (seq_f c) ?_
    rw [if_neg c]
    by_cases c2 : s = tConst
    · rw [if_pos c2]; exact Ev.pos (seq_t c2) (Ev.now _)
    · refine Ev.neg (seq_f c2) ?_
      rw [if_neg c2]
      by_cases c3 : s = tNot
      · rw [if_pos (by unfold isOne; simp [c3])]; exact Ev.pos (seq_t c3) (Ev.now _)
      · refine Ev.neg (seq_f c3) ?_
        by_cases c4 : s = tNeg
        · rw [if_pos (by unfold isOne; simp [c4])]; exact Ev.pos (seq_t c4) (Ev.now _)
        · refine Ev.neg (seq_f c4) (Ev.here impl_binary.eq (Ev.bind (containsS_ev opsL s (by decide)) ?_))
          rw [if_neg (by unfold isOne; simp [c3, c4])]
          by_cases h : isTwo s = true
          · rw [if_pos h]; exact Ev.pos h (Ev.now _)
          · have h' : isTwo s = false := by simpa using h
            rw [if_neg h]; exact Ev.neg h' (Ev.now _)

theorem operands_v (s : ByteArray) : impl_operands.v s = some (arity s) := ev_lim (operands_ev s)
abbrev tSet : ByteArray := ⟨#[115, 101, 116]⟩
abbrev tMov : ByteArray := ⟨#[109, 111, 118]⟩
abbrev tMul : ByteArray := ⟨#[109, 117, 108]⟩
abbrev tShl : ByteArray := ⟨#[115, 104, 108]⟩
abbrev tShr : ByteArray := ⟨#[115, 104, 114]⟩
abbrev tAddi : ByteArray := ⟨#[97, 100, 100, 105]⟩
abbrev tAndi : ByteArray := ⟨#[97, 110, 100, 105]⟩
abbrev tXori : ByteArray := ⟨#[120, 111, 114, 105]⟩
abbrev tShli : ByteArray := ⟨#[115, 104, 108, 105]⟩
abbrev tShri : ByteArray := ⟨#[115, 104, 114, 105]⟩
abbrev tLea : ByteArray := ⟨#[108, 101, 97]⟩
/-- the cost of an op -/
def opCost (s : ByteArray) : Int := if s = tMul then 4 else if s = tShl then 2 else if s = tShr then 2 else 1
theorem cdCost_f (s : ByteArray) : spec_cdCost.f s = some (opCost s) := by
  rw [spec_cdCost.eq]
  unfold opCost
  simp only [seq_beq, br_if, decide_eq_true_eq]
  repeat' split
  all_goals first | rfl | simp_all
theorem opCost_pos (s : ByteArray) : 1 ≤ opCost s ∧ opCost s ≤ 4 := by
  unfold opCost
  repeat' split
  all_goals omega
abbrev Form := Bool × Bool × Int × Int × Int × ByteArray
/-- the form of an op -/
def formP (s : ByteArray) : Form × Bool :=
  if s = tSet then ((false, false, 0, 63, 1, s), true)
  else if s = tMov then ((true, false, 1, 0, 1, s), true)
  else if isOne s = true then ((true, false, 1, 0, 1, s), true)
  else if isTwo s = true then ((true, true, 1, 0, opCost s, s), true)
  else if s = tAddi then ((true, false, 0, 63, 1, s.extract 0 3), true)
  else if s = tAndi then ((true, false, 0, 63, 1, s.extract 0 3), true)
  else if s = tXori then ((true, false, 0, 63, 1, s.extract 0 3), true)
  else if s = tShli then ((true, false, 1, 5, 1, s.extract 0 3), true)
  else if s = tShri then ((true, false, 1, 5, 1, s.extract 0 3), true)
  else if s = tLea then ((true, true, 1, 3, 1, s), true)
  else ((false, false, 0, 0, 0, ⟨#[]⟩), false)
theorem containsS_v (l : List ByteArray) (s : ByteArray) (hl : l.length ≤ 9223372036854775000) : slices_Contains_string.v l s = some (isIn l s) := ev_lim (containsS_ev l s hl)
theorem formOf_v (s : ByteArray) : impl_formOf.v s = some (formP s) := by
  refine impl_formOf.vs _ ?_
  have hc := containsS_v opsL s (by decide)
  unfold opsL at hc
  simp only [impl_binary.eq, bd_s, hc, seq_beq, br_if, decide_eq_true_eq]
  have e2 : isIn [(⟨#[97, 100, 100]⟩ : ByteArray), (⟨#[115, 117, 98]⟩ : ByteArray), (⟨#[109, 117, 108]⟩ : ByteArray), (⟨#[97, 110, 100]⟩ : ByteArray), (⟨#[111, 114]⟩ : ByteArray), (⟨#[120, 111, 114]⟩ : ByteArray), (⟨#[115, 104, 108]⟩ : ByteArray), (⟨#[115, 104, 114]⟩ : ByteArray), (⟨#[108, 101, 115, 115]⟩ : ByteArray), (⟨#[101, 113]⟩ : ByteArray)] s = isTwo s := rfl
  rw [e2]
  by_cases c1 : s = tSet
  · subst c1; simp [formP]
  by_cases c2 : s = tMov
  · subst c2; simp [formP]
  by_cases c3 : s = tNot
  · subst c3; simp [formP, isOne]
  by_cases c4 : s = tNeg
  · subst c4; simp [formP, isOne]
  have h1 : isOne s = false := by unfold isOne; simp [c3, c4]
  by_cases h2 : isTwo s = true
  · simp only [formP, c1, c2, c3, c4, h1, h2, if_false, if_true, Bool.false_eq_true, opCost]
    by_cases d1 : s = tShl
    · subst d1; rfl
    by_cases d2 : s = tShr
    · subst d2; rfl
    by_cases d3 : s = tMul
    · subst d3; rfl
    simp only [d1, d2, d3, if_false]
  by_cases c5 : s = tAddi
  · subst c5; simp [formP, h2, isOne]; decide
  by_cases c6 : s = tAndi
  · subst c6; simp [formP, h2, isOne]; decide
  by_cases c7 : s = tXori
  · subst c7; simp [formP, h2, isOne]; decide
  by_cases c8 : s = tShli
  · subst c8; simp [formP, h2, isOne]; decide
  by_cases c9 : s = tShri
  · subst c9; simp [formP, h2, isOne]; decide
  by_cases c10 : s = tLea
  · subst c10; simp [formP, h2, isOne]
  simp only [formP, c1, c2, c3, c4, h1, h2, c5, c6, c7, c8, c9, c10, if_false, Bool.false_eq_true]
def word (x : Int) : Prop := 0 ≤ x ∧ x ≤ 63
theorem and63 (x : BitVec 64) : ((x &&& BitVec.ofInt 64 63).toNat) ≤ 63 := by
  rw [BitVec.toNat_and]
  exact Nat.and_le_right
theorem wand63 (x : BitVec 64) : word (IntKind.wrap .i64 (((x &&& BitVec.ofInt 64 63).toNat : Nat) : Int)) := by
  have := and63 x
  rw [wrap_ok (by omega) (by omega)]
  exact ⟨by omega, by omega⟩
def isW (x : Option Int) : Prop := ∃ r, x = some r ∧ word r
theorem isW_ite {c : Prop} [Decidable c] {x y : Option Int} (hx : isW x) (hy : isW y) : isW (if c then x else y) := by split <;> assumption
theorem isW_and (x : BitVec 64) : isW (some (IntKind.wrap .i64 (((x &&& BitVec.ofInt 64 63).toNat : Nat) : Int))) := ⟨_, rfl, wand63 x⟩
theorem apply_some (s : ByteArray) (a b : Int) (hb : 0 ≤ b) : isW (impl_apply.f s a b) := by
  rw [impl_apply.eq]
  simp only [impl_bit.eq, br_if, bd_ite, bd_s, hb, decide_true, if_true]
  repeat' first | exact isW_and _ | apply isW_ite
noncomputable def appP (s : ByteArray) (a b : Int) : Int := (impl_apply.f s a b).getD 0
theorem apply_f (s : ByteArray) (a b : Int) (hb : 0 ≤ b) : impl_apply.f s a b = some (appP s a b) := by
  obtain ⟨r, h, _⟩ := apply_some s a b hb
  unfold appP; rw [h]; rfl
theorem appP_word (s : ByteArray) (a b : Int) (hb : 0 ≤ b) : word (appP s a b) := by
  obtain ⟨r, h, hw⟩ := apply_some s a b hb
  unfold appP; rw [h]; exact hw
theorem exApply_eq (s : ByteArray) (a b : Int) : spec_exApply.f s a b = impl_apply.f s a b := by
  rw [spec_exApply.eq, impl_apply.eq]
  simp only [impl_bit.eq, br_if, bd_ite, bd_s]
  repeat' split
  all_goals first | rfl | simp_all
theorem exApply_f (s : ByteArray) (a b : Int) (hb : 0 ≤ b) : spec_exApply.f s a b = some (appP s a b) := by rw [exApply_eq, apply_f s a b hb]
theorem appP_one {s : ByteArray} (h : isOne s = true) (a b : Int) : appP s a b = appP s a 0 := by
  unfold appP
  rcases isOne_mem h with rfl | rfl <;> rw [impl_apply.eq, impl_apply.eq] <;> simp [br_if, seq_beq]

def words (l : List Int) : Prop := ∀ x ∈ l, word x
theorem words_get {l : List Int} (h : words l) (j : Nat) : word (l.getD j 0) := by
  rw [List.getD_eq_getElem?_getD]
  by_cases c : j < l.length
  · rw [List.getElem?_eq_getElem c]; exact h _ (List.getElem_mem c)
  · rw [List.getElem?_eq_none (Nat.le_of_not_lt c)]; exact ⟨by decide, by decide⟩
end Go.Proofs.Ytkjlmkalkanimaa.Am
end
section
/- Instructions: which ones are right, what they write; code and registers: the program's functions and the reference's answer alike. -/
namespace Go.Proofs.Ytkjlmkalkanimaa.Am
open Go
set_option linter.unusedVariables false
set_option linter.unusedSimpArgs false

abbrev Ins := ByteArray × Int × Int × Int × Int
abbrev tAdd : ByteArray := ⟨#[97, 100, 100]⟩
def allOps : List ByteArray := [tSet, tMov, tNot, tNeg, tAddi, tAndi, tXori, tShli, tShri, tLea] ++ opsL
/-- the shape of an op, out of its form -/
def shapeP (s : ByteArray) : Bool × Bool × Bool × Int × Int :=
  let f := formP s
  (f.2, f.1.1, f.1.2.1, if f.1.2.2.1 ≤ f.1.2.2.2.1 then f.1.2.2.1 else 0, if f.1.2.2.1 ≤ f.1.2.2.2.1 then f.1.2.2.2.1 else 0)
theorem form_none {s : ByteArray} (h : s ∉ allOps) : formP s = ((false, false, 0, 0, 0, ⟨#[]⟩), false) := by
  simp only [allOps, opsL, List.cons_append, List.nil_append, List.mem_cons, not_or] at h
  obtain ⟨h1, h2, h3, h4, h5, h6, h7, h8, h9, h10, g1, g2, g3, g4, g5, g6, g7, g8, g9, g10, _⟩ := h
  have e1 : isOne s = false := by simp [isOne, h3, h4]
  have e2 : isTwo s = false := by simp [isTwo, isIn, opsL, Ne.symm g1, Ne.symm g2, Ne.symm g3, Ne.symm g4, Ne.symm g5, Ne.symm g6, Ne.symm g7, Ne.symm g8, Ne.symm g9, Ne.symm g10]
  simp only [formP, h1, h2, e1, e2, h5, h6, h7, h8, h9, h10, if_false, Bool.false_eq_true]
theorem cdShape_f (s : ByteArray) : spec_cdShape.f s = some (shapeP s) := by
  by_cases h : s ∈ allOps
  · simp only [allOps, opsL, List.cons_append, List.nil_append, List.mem_cons, List.not_mem_nil, or_false] at h
    rw [spec_cdShape.eq]
    rcases h with rfl | rfl | rfl | rfl | rfl | rfl | rfl | rfl | rfl | rfl | rfl | rfl | rfl | rfl | rfl | rfl | rfl | rfl | rfl | rfl <;> kernel_rfl
  · have e := form_none h
    simp only [allOps, opsL, List.cons_append, List.nil_append, List.mem_cons, not_or] at h
    obtain ⟨h1, h2, h3, h4, h5, h6, h7, h8, h9, h10, g1, g2, g3, g4, g5, g6, g7, g8, g9, g10, _⟩ := h
    rw [spec_cdShape.eq]
    simp only [seq_beq, br_if, decide_eq_true_eq, h1, h2, h3, h4, h5, h6, h7, h8, h9, h10, g1, g2, g3, g4, g5, g6, g7, g8, g9, g10, if_false]
    unfold shapeP
    rw [e]; rfl
def usedP (u : Bool) (r : Int) : Bool := (u && inB r 0 5) || decide (r = 0)
def immP (f : Form) (n : Int) : Bool := if f.2.2.1 ≤ f.2.2.2.1 then inB n f.2.2.1 f.2.2.2.1 else decide (n = 0)
/-- is this an instruction -/
def insOk (x : Ins) : Bool := (formP x.1).2 && inB x.2.1 0 5 && usedP (formP x.1).1.1 x.2.2.1 && usedP (formP x.1).1.2.1 x.2.2.2.1 && immP (formP x.1).1 x.2.2.2.2
theorem beq_dec (x y : Int) : (x == y) = decide (x = y) := by
  by_cases h : x = y
  · simp [h]
  · simp [h]
theorem isRegister_f (r : Int) : impl_isRegister.f r = some (inB r 0 5) := by rw [impl_isRegister.eq, within_f]; rfl
theorem isUsed_f (u : Bool) (r : Int) : impl_isUsed.f u r = some (usedP u r) := by
  rw [impl_isUsed.eq, isRegister_f]
  unfold usedP
  simp only [bd_s, beq_dec]
  cases u <;> cases inB r 0 5 <;> simp [br]
theorem isInstr_v (x : Ins) : impl_IsInstr.v x = some (insOk x) := by
  refine impl_IsInstr.vs _ ?_
  simp only [formOf_v, bd_s, impl_form_imm.eq, within_f, isRegister_f, isUsed_f, beq_dec]
  unfold insOk immP
  generalize formP x.1 = f
  by_cases h : f.1.2.2.1 ≤ f.1.2.2.2.1
  · simp only [h, decide_true, if_true]
    generalize usedP f.1.1 x.2.2.1 = u1
    generalize usedP f.1.2.1 x.2.2.2.1 = u2
    generalize inB x.2.1 0 5 = u3
    generalize inB x.2.2.2.2 f.1.2.2.1 f.1.2.2.2.1 = u4
    generalize f.2 = u5
    cases u1 <;> cases u2 <;> cases u3 <;> cases u4 <;> cases u5 <;> rfl
  · simp only [h, decide_false, if_false]
    generalize usedP f.1.1 x.2.2.1 = u1
    generalize usedP f.1.2.1 x.2.2.2.1 = u2
    generalize inB x.2.1 0 5 = u3
    generalize decide (x.2.2.2.2 = 0) = u4
    generalize f.2 = u5
    cases u1 <;> cases u2 <;> cases u3 <;> cases u4 <;> cases u5 <;> rfl
theorem cdReg_f (r : Int) : spec_cdReg.f r = some (inB r 0 5) := by rw [spec_cdReg.eq, l1In_f]; rfl
theorem inB_zero (n : Int) : inB n 0 0 = decide (n = 0) := by
  rw [Bool.eq_iff_iff, inB_iff, decide_eq_true_iff]; omega
theorem used_reg (u : Bool) (r : Int) : usedP u r = (inB r 0 5 && (u || decide (r = 0))) := by
  unfold usedP
  by_cases h : r = 0
  · subst h; cases u <;> rfl
  · simp only [h, decide_false, Bool.or_false]
    cases u <;> simp
theorem cdGood_f (x : Ins) : spec_cdGood.f x = some (insOk x) := by
  rw [spec_cdGood.eq, cdShape_f]
  simp only [bd_s, cdReg_f, l1In_f, beq_dec]
  unfold insOk immP shapeP
  simp only [used_reg]
  generalize formP x.1 = f
  have e : inB x.2.2.2.2 (if f.1.2.2.1 ≤ f.1.2.2.2.1 then f.1.2.2.1 else 0) (if f.1.2.2.1 ≤ f.1.2.2.2.1 then f.1.2.2.2.1 else 0) = (if f.1.2.2.1 ≤ f.1.2.2.2.1 then inB x.2.2.2.2 f.1.2.2.1 f.1.2.2.2.1 else decide (x.2.2.2.2 = 0)) := by
    by_cases h : f.1.2.2.1 ≤ f.1.2.2.2.1
    · simp only [h, if_true]
    · simp only [h, if_false]; exact inB_zero _
  rw [e]
  generalize (if f.1.2.2.1 ≤ f.1.2.2.2.1 then inB x.2.2.2.2 f.1.2.2.1 f.1.2.2.2.1 else decide (x.2.2.2.2 = 0)) = u1
  generalize inB x.2.1 0 5 = u2
  generalize inB x.2.2.1 0 5 = u3
  generalize inB x.2.2.2.1 0 5 = u4
  generalize decide (x.2.2.1 = 0) = u5
  generalize decide (x.2.2.2.1 = 0) = u6
  generalize f.1.1 = u7
  generalize f.1.2.1 = u8
  generalize f.2 = u9
  cases u1 <;> cases u2 <;> cases u3 <;> cases u4 <;> cases u5 <;> cases u6 <;> cases u7 <;> cases u8 <;> cases u9 <;> rfl
theorem reg_of {u : Bool} {r : Int} (h : usedP u r = true) : 0 ≤ r ∧ r ≤ 5 := by
  rw [used_reg] at h
  simp only [Bool.and_eq_true, inB_iff] at h
  exact h.1
theorem form_low (s : ByteArray) : 0 ≤ (formP s).1.2.2.1 ∧ (formP s).1.2.2.2.1 ≤ 63 := by
  unfold formP
  repeat' split
  all_goals (dsimp only; omega)
structure InsOk (x : Ins) : Prop where
  known : (formP x.1).2 = true
  d0 : 0 ≤ x.2.1
  d1 : x.2.1 ≤ 5
  ua : usedP (formP x.1).1.1 x.2.2.1 = true
  ub : usedP (formP x.1).1.2.1 x.2.2.2.1 = true
  im : immP (formP x.1).1 x.2.2.2.2 = true
  a0 : 0 ≤ x.2.2.1
  a1 : x.2.2.1 ≤ 5
  b0 : 0 ≤ x.2.2.2.1
  b1 : x.2.2.2.1 ≤ 5
  i0 : 0 ≤ x.2.2.2.2
  i1 : x.2.2.2.2 ≤ 63
theorem insOk_of {x : Ins} (h : insOk x = true) : InsOk x := by
  unfold insOk at h
  simp only [Bool.and_eq_true, inB_iff] at h
  obtain ⟨⟨⟨⟨h1, h2⟩, h3⟩, h4⟩, h5⟩ := h
  have hl := form_low x.1
  have h6 : 0 ≤ x.2.2.2.2 ∧ x.2.2.2.2 ≤ 63 := by
    have h5 := h5
    unfold immP at h5
    split at h5
    · rw [inB_iff] at h5; omega
    · have := of_decide_eq_true h5; omega
  exact ⟨h1, h2.1, h2.2, h3, h4, h5, (reg_of h3).1, (reg_of h3).2, (reg_of h4).1, (reg_of h4).2, h6.1, h6.2⟩

/-! ### code -/
def codeOk (c : List Ins) : Bool := decide (c.length ≤ 40) && c.all insOk
theorem isCode1_v (x : Ins) : impl_IsCode_1.v x = some (!insOk x) := impl_IsCode_1.vs _ (by rw [isInstr_v, bd_s])
theorem contCode_v (c : List Ins) (hl : c.length ≤ 1000000) : slices_ContainsFunc_Instr.v c = some (!c.all insOk) := by
  have key : ∀ (d i : Nat), i + d = c.length → ∃ r : Int, slices_IndexFunc_Instr.v0 c (c.length : Int) (i : Int) = some r ∧ (0 ≤ r ↔ (c.drop i).all insOk = false) := by
    intro d
    induction d with
    | zero =>
      intro i hi
      refine ⟨-1, slices_IndexFunc_Instr.v0s _ _ _ (by rw [br_f (by simp; omega)]), ?_⟩
      rw [List.drop_eq_nil_of_le (by omega)]; simp
    | succ d ih =>
      intro i hi
      have hlt : i < c.length := by omega
      rw [drop_at _ _ hlt, List.all_cons]
      cases e : insOk c[i] with
      | false => exact ⟨i, slices_IndexFunc_Instr.v0s _ _ _ (by rw [br_t (by simpa using hlt), br_t (by simp), Int.toNat_natCast, gt_at _ hlt, isCode1_v, bd_s, e, brn_f]), by simp⟩
      | true =>
        obtain ⟨r, h, hr⟩ := ih (i + 1) (by omega)
        exact ⟨r, slices_IndexFunc_Instr.v0s _ _ _ (by rw [br_t (by simpa using hlt), br_t (by simp), Int.toNat_natCast, gt_at _ hlt, isCode1_v, bd_s, e, brn_t, next_ok i _ hlt (by omega), h]), by simpa using hr⟩
  obtain ⟨r, h, hr⟩ := key c.length 0 (by omega)
  refine slices_ContainsFunc_Instr.vs _ ?_
  rw [slices_IndexFunc_Instr.vs _ h, bd_s]
  congr 1
  rw [List.drop_zero] at hr
  rw [Bool.eq_iff_iff, decide_eq_true_iff]
  simpa using hr
theorem isCode_v (c : List Ins) (hl : c.length ≤ 1000000) : impl_IsCode.v c = some (codeOk c) := by
  refine impl_IsCode.vs _ ?_
  unfold codeOk
  by_cases h : c.length ≤ 40
  · rw [br_t (decide_eq_true (by omega)), contCode_v c hl, bd_s]; simp [h]
  · rw [br_f (decide_eq_false (by omega))]; simp [h]
theorem cdCode_v (c : List Ins) (hl : c.length ≤ 1000000) : spec_cdCode.v c = some (codeOk c) := by
  have key : ∀ (d i : Nat), i + d = c.length → spec_cdCode.v0 c (c.length : Int) (i : Int) = some ((c.drop i).all insOk) := by
    intro d
    induction d with
    | zero =>
      intro i hi
      refine spec_cdCode.v0s _ _ _ ?_
      rw [br_f (by simp; omega), List.drop_eq_nil_of_le (by omega)]; rfl
    | succ d ih =>
      intro i hi
      have hlt : i < c.length := by omega
      refine spec_cdCode.v0s _ _ _ ?_
      rw [br_t (by simpa using hlt), br_t (by simp), Int.toNat_natCast, gt_at _ hlt, cdGood_f, bd_s, drop_at _ _ hlt, List.all_cons]
      cases e : insOk c[i] with
      | false => rw [brn_f]; rfl
      | true => rw [brn_t, next_ok i _ hlt (by omega), ih (i + 1) (by omega)]; rfl
  refine spec_cdCode.vs _ ?_
  unfold codeOk
  by_cases h : c.length ≤ 40
  · rw [br_f (decide_eq_false (by omega))]
    have := key c.length 0 (by omega)
    rw [List.drop_zero] at this
    simp only [h, decide_true, Bool.true_and]
    exact this
  · rw [br_t (decide_eq_true (by omega))]; simp [h]

/-! ### registers -/
def regsOk (l : List Int) : Bool := decide (l.length = 6) && l.all fun x => inB x 0 63
theorem regsOk_iff {l : List Int} : regsOk l = true ↔ l.length = 6 ∧ words l := by
  unfold regsOk words word
  simp only [Bool.and_eq_true, decide_eq_true_iff, List.all_eq_true, inB_iff]
theorem contRegs_v (c : List Int) (hl : c.length ≤ 1000000) : slices_ContainsFunc_int_areRegs.v c = some (!c.all fun x => inB x 0 63) := by
  have key : ∀ (d i : Nat), i + d = c.length → ∃ r : Int, slices_IndexFunc_int_areRegs.v0 c (c.length : Int) (i : Int) = some r ∧ (0 ≤ r ↔ (c.drop i).all (fun x => inB x 0 63) = false) := by
    intro d
    induction d with
    | zero =>
      intro i hi
      refine ⟨-1, slices_IndexFunc_int_areRegs.v0s _ _ _ (by rw [br_f (by simp; omega)]), ?_⟩
      rw [List.drop_eq_nil_of_le (by omega)]; simp
    | succ d ih =>
      intro i hi
      have hlt : i < c.length := by omega
      rw [drop_at _ _ hlt, List.all_cons]
      cases e : inB c[i] 0 63 with
      | false => exact ⟨i, slices_IndexFunc_int_areRegs.v0s _ _ _ (by rw [br_t (by simpa using hlt), br_t (by simp), Int.toNat_natCast, gt_at _ hlt, impl_areRegs_1.eq, isWord_f, bd_s, e, bd_s, brn_f]), by simp⟩
      | true =>
        obtain ⟨r, h, hr⟩ := ih (i + 1) (by omega)
        exact ⟨r, slices_IndexFunc_int_areRegs.v0s _ _ _ (by rw [br_t (by simpa using hlt), br_t (by simp), Int.toNat_natCast, gt_at _ hlt, impl_areRegs_1.eq, isWord_f, bd_s, e, bd_s, brn_t, next_ok i _ hlt (by omega), h]), by simpa using hr⟩
  obtain ⟨r, h, hr⟩ := key c.length 0 (by omega)
  refine slices_ContainsFunc_int_areRegs.vs _ ?_
  rw [slices_IndexFunc_int_areRegs.vs _ h, bd_s]
  congr 1
  rw [List.drop_zero] at hr
  rw [Bool.eq_iff_iff, decide_eq_true_iff]
  simpa using hr
theorem areRegs_v (c : List Int) (hl : c.length ≤ 1000000) : impl_areRegs.v c = some (regsOk c) := by
  refine impl_areRegs.vs _ ?_
  unfold regsOk
  by_cases h : c.length = 6
  · rw [br_t (by rw [beq_dec]; exact decide_eq_true (by omega)), contRegs_v c hl, bd_s]; simp [h]
  · rw [br_f (by rw [beq_dec]; exact decide_eq_false (by omega))]; simp [h]
theorem l1All_v (c : List Int) (lo hi : Int) (hl : c.length ≤ 1000000) : spec_l1All.v c lo hi = some (c.all fun x => inB x lo hi) := by
  have key : ∀ (d i : Nat), i + d = c.length → spec_l1All.v0 lo hi c (c.length : Int) (i : Int) = some ((c.drop i).all fun x => inB x lo hi) := by
    intro d
    induction d with
    | zero =>
      intro i hi
      refine spec_l1All.v0s _ _ _ _ _ ?_
      rw [br_f (by simp; omega), List.drop_eq_nil_of_le (by omega)]; rfl
    | succ d ih =>
      intro i hi'
      have hlt : i < c.length := by omega
      refine spec_l1All.v0s _ _ _ _ _ ?_
      rw [br_t (by simpa using hlt), br_t (by simp), Int.toNat_natCast, gt_at _ hlt, l1In_f, bd_s, drop_at _ _ hlt, List.all_cons]
      cases e : inB c[i] lo hi with
      | false => rw [brn_f]; rfl
      | true => rw [brn_t, next_ok i _ hlt (by omega), ih (i + 1) (by omega)]; rfl
  exact spec_l1All.vs _ _ _ (by have := key c.length 0 (by omega); simpa using this)
theorem cdRegs_v (c : List Int) (hl : c.length ≤ 1000000) : spec_cdRegs.v c = some (regsOk c) := by
  refine spec_cdRegs.vs _ ?_
  unfold regsOk
  by_cases h : c.length = 6
  · rw [br_t (by rw [beq_dec]; exact decide_eq_true (by omega)), l1All_v c _ _ hl, bd_s]; simp [h]
  · rw [br_f (by rw [beq_dec]; exact decide_eq_false (by omega))]; simp [h]
end Go.Proofs.Ytkjlmkalkanimaa.Am
end
section
/- Code that runs: what instructions write, the registers behind them: the program's functions and the reference's answer alike. -/
namespace Go.Proofs.Ytkjlmkalkanimaa.Am
open Go
set_option linter.unusedVariables false
set_option linter.unusedSimpArgs false

def isImm (s : ByteArray) : Bool := decide (s = tAddi) || decide (s = tAndi) || decide (s = tXori) || decide (s = tShli) || decide (s = tShri)
/-- the word that an instruction writes -/
noncomputable def wrdP (x : Ins) (a b : Int) : Int :=
  if x.1 = tSet then x.2.2.2.2 else if x.1 = tMov then a else if x.1 = tLea then appP tAdd a (appP tShl b x.2.2.2.2)
  else if isImm x.1 = true then appP (x.1.extract 0 3) a x.2.2.2.2 else appP x.1 a b
theorem wrdP_word {x : Ins} (h : InsOk x) {a b : Int} (ha : word a) (hb : word b) : word (wrdP x a b) := by
  unfold wrdP
  split
  · exact ⟨h.i0, h.i1⟩
  split
  · exact ha
  split
  · exact appP_word _ _ _ (appP_word _ _ _ h.i0).1
  split
  · exact appP_word _ _ _ h.i0
  · exact appP_word _ _ _ hb.1
theorem word_f {x : Ins} (h : InsOk x) {a b : Int} (hb : word b) : impl_Instr_word.f x a b = some (wrdP x a b) := by
  have hi := h.i0
  obtain ⟨s, d, p, q, im⟩ := x
  dsimp only at hi
  rw [impl_Instr_word.eq]
  unfold wrdP isImm
  dsimp only
  simp only [seq_beq, br_if, decide_eq_true_eq]
  have e3 : Int.toNat (3 : Int) = 3 := rfl
  have e0 : Int.toNat (0 : Int) = 0 := rfl
  by_cases c1 : s = tSet
  · subst c1; rfl
  by_cases c2 : s = tMov
  · subst c2; rfl
  by_cases c3 : s = tLea
  · subst c3
    simp only [c1, c2, if_false, if_true]
    rw [apply_f _ _ _ hi, bd_s, apply_f _ _ _ (appP_word _ _ _ hi).1, bd_s]
  simp only [c1, c2, c3, if_false, e3, e0]
  by_cases c4 : s = tAddi
  · subst c4; simp only [if_true, if_false, decide_true, Bool.true_or]
    rw [apply_f _ _ _ hi]; rfl
  by_cases c5 : s = tAndi
  · subst c5; simp only [if_true, if_false, decide_true, Bool.true_or, Bool.or_true, c4]
    rw [apply_f _ _ _ hi]; rfl
  by_cases c6 : s = tXori
  · subst c6; simp only [if_true, if_false, decide_true, Bool.true_or, Bool.or_true, c4, c5]
    rw [apply_f _ _ _ hi]; rfl
  by_cases c7 : s = tShli
  · subst c7; simp only [if_true, if_false, decide_true, Bool.true_or, Bool.or_true, c4, c5, c6]
    rw [apply_f _ _ _ hi]; rfl
  by_cases c8 : s = tShri
  · subst c8; simp only [if_true, if_false, decide_true, Bool.true_or, Bool.or_true, c4, c5, c6, c7]
    rw [apply_f _ _ _ hi]; rfl
  simp only [c4, c5, c6, c7, c8, if_false, decide_false, Bool.or_self, Bool.false_eq_true]
  rw [apply_f _ _ _ hb.1, bd_s]
theorem cdValue_f {x : Ins} (h : InsOk x) {l : List Int} (hl : l.length = 6) (hw : words l) : spec_cdValue.f x l = some (wrdP x (l.getD x.2.2.1.toNat 0) (l.getD x.2.2.2.1.toNat 0)) := by
  have hi := h.i0
  have hb := words_get hw x.2.2.2.1.toNat
  rw [spec_cdValue.eq, br_t (decide_eq_true h.a0), gt_some (getD_at h.a0 (by have := h.a1; omega)), br_t (decide_eq_true h.b0), gt_some (getD_at h.b0 (by have := h.b1; omega))]
  generalize l.getD x.2.2.1.toNat 0 = a
  generalize l.getD x.2.2.2.1.toNat 0 = b at hb
  obtain ⟨s, d, p, q, im⟩ := x
  dsimp only at hi
  unfold wrdP isImm
  dsimp only
  simp only [seq_beq, br_if, decide_eq_true_eq]
  by_cases c1 : s = tSet
  · subst c1; rfl
  by_cases c2 : s = tMov
  · subst c2; rfl
  simp only [c1, c2, if_false]
  by_cases c4 : s = tAddi
  · subst c4; simp only [if_true, if_false, decide_true, Bool.true_or]
    rw [exApply_f _ _ _ hi]; rfl
  by_cases c5 : s = tAndi
  · subst c5; simp only [if_true, if_false, decide_true, Bool.true_or, Bool.or_true, c4]
    rw [exApply_f _ _ _ hi]; rfl
  by_cases c6 : s = tXori
  · subst c6; simp only [if_true, if_false, decide_true, Bool.true_or, Bool.or_true, c4, c5]
    rw [exApply_f _ _ _ hi]; rfl
  by_cases c7 : s = tShli
  · subst c7; simp only [if_true, if_false, decide_true, Bool.true_or, Bool.or_true, c4, c5, c6]
    rw [exApply_f _ _ _ hi]; rfl
  by_cases c8 : s = tShri
  · subst c8; simp only [if_true, if_false, decide_true, Bool.true_or, Bool.or_true, c4, c5, c6, c7]
    rw [exApply_f _ _ _ hi]; rfl
  by_cases c3 : s = tLea
  · subst c3
    simp only [c1, c2, c4, c5, c6, c7, c8, if_false, if_true]
    rw [exApply_f _ _ _ hi, bd_s, exApply_f _ _ _ (appP_word _ _ _ hi).1, bd_s]
  simp only [c3, c4, c5, c6, c7, c8, if_false, decide_false, Bool.or_self, Bool.false_eq_true]
  rw [exApply_f _ _ _ hb.1, bd_s]

/-! ### steps -/
noncomputable def stepP (x : Ins) (l : List Int) : List Int := l.set x.2.1.toNat (wrdP x (l.getD x.2.2.1.toNat 0) (l.getD x.2.2.2.1.toNat 0))
noncomputable def runP (c : List Ins) (l : List Int) : List Int := c.foldl (fun r x => stepP x r) l
structure Regs (l : List Int) : Prop where
  len : l.length = 6
  ws : words l
theorem Regs.get {l : List Int} (h : Regs l) (j : Nat) : word (l.getD j 0) := words_get h.ws j
theorem Regs.set {l : List Int} (h : Regs l) {x : Int} (hx : word x) (j : Nat) : Regs (l.set j x) := by
  refine ⟨by rw [List.length_set]; exact h.len, fun y hy => ?_⟩
  rcases List.mem_or_eq_of_mem_set hy with hy | rfl
  · exact h.ws y hy
  · exact hx
theorem regs_of {l : List Int} (h : regsOk l = true) : Regs l := ⟨(regsOk_iff.1 h).1, (regsOk_iff.1 h).2⟩
theorem Regs.ok {l : List Int} (h : Regs l) : regsOk l = true := regsOk_iff.2 ⟨h.len, h.ws⟩
theorem Regs.step {l : List Int} (h : Regs l) {x : Ins} (hx : InsOk x) : Regs (stepP x l) := h.set (wrdP_word hx (h.get _) (h.get _)) _
theorem stepP_len (x : Ins) (l : List Int) : (stepP x l).length = l.length := List.length_set
def Inss (c : List Ins) : Prop := ∀ x ∈ c, InsOk x
theorem Inss.cons {x : Ins} {c : List Ins} (h : Inss (x :: c)) : InsOk x ∧ Inss c := ⟨h x List.mem_cons_self, fun y hy => h y (List.mem_cons_of_mem x hy)⟩
structure CodeOk (c : List Ins) : Prop where
  len : c.length ≤ 40
  all : Inss c
theorem code_of {c : List Ins} (h : codeOk c = true) : CodeOk c := by
  unfold codeOk at h
  simp only [Bool.and_eq_true, decide_eq_true_iff, List.all_eq_true] at h
  exact ⟨h.1, fun x hx => insOk_of (h.2 x hx)⟩
theorem InsOk.ok {x : Ins} (h : InsOk x) : insOk x = true := by
  unfold insOk
  simp only [Bool.and_eq_true, inB_iff]
  exact ⟨⟨⟨⟨h.known, h.d0, h.d1⟩, h.ua⟩, h.ub⟩, h.im⟩
theorem CodeOk.ok {c : List Ins} (h : CodeOk c) : codeOk c = true := by
  unfold codeOk
  simp only [Bool.and_eq_true, decide_eq_true_iff, List.all_eq_true]
  exact ⟨h.len, fun x hx => (h.all x hx).ok⟩
theorem Regs.run {c : List Ins} (hc : Inss c) {l : List Int} (h : Regs l) : Regs (runP c l) := by
  induction c generalizing l with
  | nil => exact h
  | cons x c ih => exact ih hc.cons.2 (h.step hc.cons.1)
theorem run_v {c : List Ins} (hc : Inss c) (hl : c.length ≤ 1000000) {l : List Int} (h : Regs l) : impl_run.v c l = some ((), runP c l) := by
  have key : ∀ (d i : Nat) (l : List Int), i + d = c.length → Regs l → impl_run.v0 c (c.length : Int) (i : Int) l = some ((), runP (c.drop i) l) := by
    intro d
    induction d with
    | zero =>
      intro i l hi h
      refine impl_run.v0s _ _ _ _ ?_
      rw [br_f (by simp; omega), List.drop_eq_nil_of_le (by omega)]; rfl
    | succ d ih =>
      intro i l hi h
      have hlt : i < c.length := by omega
      have hx := hc _ (List.getElem_mem hlt)
      have hn := h.len
      refine impl_run.v0s _ _ _ _ ?_
      rw [br_t (by simpa using hlt), br_t (by simp), Int.toNat_natCast, gt_at _ hlt]
      rw [br_t (decide_eq_true hx.a0), br_t (decide_eq_true (by have := hx.a1; omega)), gt_some (getD_at hx.a0 (by have := hx.a1; omega))]
      rw [br_t (decide_eq_true hx.b0), br_t (decide_eq_true (by have := hx.b1; omega)), gt_some (getD_at hx.b0 (by have := hx.b1; omega))]
      rw [word_f hx (h.get _), bd_s]
      rw [br_t (decide_eq_true hx.d0), br_t (decide_eq_true (by have := hx.d1; omega)), gt_some (getD_at hx.d0 (by have := hx.d1; omega)), next_ok i _ hlt (by omega)]
      rw [drop_at _ _ hlt]
      exact ih (i + 1) _ (by omega) (h.step hx)
  exact impl_run.vs _ _ (by have := key c.length 0 l (by omega) h; simpa using this)
theorem clone_f (l : List Int) (h : l.length ≤ 1000000) : slices_Clone_int.f l = some (l, ()) := by
  rw [slices_Clone_int.eq]
  have e : decide (0 + l.length ≤ 35184372088832 / (8 + 1)) = true := decide_eq_true (by omega)
  rw [br_t e, List.nil_append]
  cases l with
  | nil => rw [br_f (by simp), both_same]
  | cons x r => rw [br_t (by simp)]
theorem own_f (l : List Int) (h : l.length ≤ 1000000) : spec_l1Own.f l = some (l, ()) := by
  rw [spec_l1Own.eq, br_t (decide_eq_true (by omega)), List.nil_append]
theorem runCode_v (c : List Ins) (hc : c.length ≤ 1000000) (l : List Int) (hl : l.length ≤ 1000000) :
    impl_RunCode.v c l = some (if codeOk c && regsOk l then (runP c l, true) else ([], false)) := by
  refine impl_RunCode.vs _ _ ?_
  rw [isCode_v c hc, bd_s]
  cases h1 : codeOk c with
  | false => rw [brn_f]; rfl
  | true =>
    rw [brn_t, areRegs_v l hl, bd_s]
    cases h2 : regsOk l with
    | false => rw [brn_f]; rfl
    | true => rw [brn_t, clone_f l hl, bd_s, run_v (code_of h1).all hc (regs_of h2), bd_s]; rfl
theorem cdStep_f {x : Ins} (hx : InsOk x) {l : List Int} (h : Regs l) : spec_cdStep.f x l = some (stepP x l, ()) := by
  have hn := h.len
  rw [spec_cdStep.eq, own_f l (by omega), bd_s, cdValue_f hx hn h.ws, bd_s]
  dsimp only
  rw [br_t (decide_eq_true hx.d0), br_t (decide_eq_true (by have := hx.d1; omega)), gt_some (getD_at hx.d0 (by have := hx.d1; omega))]
  rfl
theorem stepInstr_v (x : Ins) (l : List Int) (hl : l.length ≤ 1000000) :
    impl_StepInstr.v x l = some (if insOk x && regsOk l then (stepP x l, true) else ([], false)) := by
  refine impl_StepInstr.vs _ _ ?_
  rw [runCode_v [x] (by simp) l hl, bd_s]
  have : codeOk [x] = insOk x := by unfold codeOk; simp
  rw [this]; rfl
theorem cdStepInstr_v (x : Ins) (l : List Int) (hl : l.length ≤ 1000000) :
    spec_StepInstr.v x l = some (if insOk x && regsOk l then (stepP x l, true) else ([], false)) := by
  refine spec_StepInstr.vs _ _ ?_
  rw [cdGood_f, bd_s]
  cases h1 : insOk x with
  | false => rw [brn_f]; rfl
  | true =>
    rw [brn_t, cdRegs_v l hl, bd_s]
    cases h2 : regsOk l with
    | false => rw [brn_f]; rfl
    | true => rw [brn_t, cdStep_f (insOk_of h1) (regs_of h2), bd_s]; rfl

/-! ### rows that are compared -/
def sameI (a b : List Int) : Bool := decide (a = b)
theorem sameI_cons (x y : Int) (a b : List Int) : sameI (x :: a) (y :: b) = (decide (x = y) && sameI a b) := by
  unfold sameI
  rw [Bool.eq_iff_iff]; simp
theorem pSame_v (a b : List Int) (ha : a.length ≤ 1000000) : laws_pSame.v a b = some (sameI a b) := by
  have key : ∀ (d i : Nat), i + d = a.length → a.length = b.length → laws_pSame.v0 a b (a.length : Int) (i : Int) = some (sameI (a.drop i) (b.drop i)) := by
    intro d
    induction d with
    | zero =>
      intro i hi hab
      refine laws_pSame.v0s _ _ _ _ ?_
      rw [br_f (by simp; omega), List.drop_eq_nil_of_le (by omega), List.drop_eq_nil_of_le (by omega)]; rfl
    | succ d ih =>
      intro i hi hab
      have hlt : i < a.length := by omega
      have hlb : i < b.length := by omega
      refine laws_pSame.v0s _ _ _ _ ?_
      rw [br_t (by simpa using hlt), br_t (by simp), Int.toNat_natCast, gt_at _ hlt, br_t (by simp), gt_at _ hlb, drop_at _ _ hlt, drop_at _ _ hlb]
      by_cases c : a[i] = b[i]
      · rw [br_f (by simpa using c), next_ok i _ hlt (by omega), ih (i + 1) (by omega) hab, sameI_cons, decide_eq_true c, Bool.true_and]
      · rw [br_t (by simpa using c), sameI_cons, decide_eq_false c, Bool.false_and]
  refine laws_pSame.vs _ _ ?_
  by_cases h : a.length = b.length
  · rw [br_f (by simp; omega)]
    have := key a.length 0 (by omega) h
    simpa using this
  · rw [br_t (by simp; omega)]
    unfold sameI; rw [Option.some_inj, eq_comm, decide_eq_false_iff_not]
    intro e; exact h (by rw [e])
theorem pSame_self (a : List Int) (ha : a.length ≤ 1000000) : laws_pSame.v a a = some true := by rw [pSame_v a a ha]; simp [sameI]
/-- draws of no size -/
theorem big_f (a b : List Int) : ∃ r, laws_big.f a b = some r ∧ (r = false → a.length ≤ 1048576 ∧ b.length ≤ 1048576) := by
  rw [laws_big.eq]
  by_cases h : (a.length : Int) > 1048576
  · exact ⟨true, br_t (decide_eq_true h), by simp⟩
  · refine ⟨_, br_f (decide_eq_false h), fun e => ?_⟩
    rw [wrap_ok (by omega) (by omega)] at e
    have := of_decide_eq_false e
    omega
end Go.Proofs.Ytkjlmkalkanimaa.Am
end
section
/- Rows of numbers that are sorted; what instructions read, what they cost: the program's functions and the reference's answer alike. -/
namespace Go.Proofs.Ytkjlmkalkanimaa.Am
open Go
set_option linter.unusedVariables false
set_option linter.unusedSimpArgs false

theorem less_f (a b : Int) : cmp_Less_int.f a b = some (decide (a < b)) := by rw [cmp_Less_int.eq, cmp_isNaN_int.eq]; simp
theorem w01 : IntKind.wrap .i64 ((0 : Int) + 1) = 1 := rfl
theorem w11 : IntKind.wrap .i64 ((1 : Int) + 1) = 2 := rfl
theorem w1 : IntKind.wrap .i64 (1 : Int) = 1 := rfl
theorem w0 : IntKind.wrap .i64 (0 : Int) = 0 := rfl
theorem w2 : IntKind.wrap .i64 (2 : Int) = 2 := rfl
theorem w10 : IntKind.wrap .i64 ((1 : Int) - 1) = 0 := rfl
theorem ins_zero (l : List Int) : slices_insertionSortOrdered_int.v 0 0 l = some ((), l) := slices_insertionSortOrdered_int.vs _ _ _ (slices_insertionSortOrdered_int.v0s _ _ _ _ (by rw [w01]; rfl))
theorem ins_one (l : List Int) : slices_insertionSortOrdered_int.v 0 1 l = some ((), l) := slices_insertionSortOrdered_int.vs _ _ _ (slices_insertionSortOrdered_int.v0s _ _ _ _ (by rw [w01]; rfl))
def sort2 (a b : Int) : List Int := if b < a then [b, a] else [a, b]
theorem ins_two (a b : Int) : slices_insertionSortOrdered_int.v 0 2 [a, b] = some ((), sort2 a b) := by
  have e2 : ∀ l, slices_insertionSortOrdered_int.v0 0 2 2 l = some ((), l) := fun l => slices_insertionSortOrdered_int.v0s _ _ _ _ rfl
  have e0 : ∀ l, slices_insertionSortOrdered_int.v1 0 2 1 0 l = some ((), l) := fun l => slices_insertionSortOrdered_int.v1s _ _ _ _ _ (by rw [w11, e2]; rfl)
  refine slices_insertionSortOrdered_int.vs _ _ _ (slices_insertionSortOrdered_int.v0s _ _ _ _ ?_)
  rw [w01, br_t (by decide)]
  refine slices_insertionSortOrdered_int.v1s _ _ _ _ _ ?_
  unfold sort2
  by_cases c : b < a
  · simp [w10, w11, w1, w0, less_f, c, e0]
  · simp [w10, w11, w1, w0, w2, less_f, c, e2]
theorem pdq (n : Int) (h0 : 0 ≤ n) (h : n ≤ 12) (k : Int) (l : List Int) {r : Unit × List Int} (hi : slices_insertionSortOrdered_int.v 0 n l = some r) : slices_pdqsortOrdered_int.v 0 n k l = some ((), r.2) := by
  refine slices_pdqsortOrdered_int.vs _ _ _ _ (slices_pdqsortOrdered_int.v0s _ _ _ _ _ _ ?_)
  rw [wrap_ok (by omega) (by omega), br_t (decide_eq_true (by omega)), hi, bd_s]
theorem len0 : bits_Len.f (IntKind.wrap .u64 0) = some 0 := by kernel_rfl
theorem len1 : bits_Len.f (IntKind.wrap .u64 1) = some 1 := by kernel_rfl
theorem len2 : bits_Len.f (IntKind.wrap .u64 2) = some 2 := by kernel_rfl
theorem sort_nil : slices_Sort_int.v [] = some ((), []) := by
  refine slices_Sort_int.vs _ ?_
  rw [show ((([] : List Int).length : Nat) : Int) = 0 from rfl, len0, bd_s, pdq 0 (by omega) (by omega) _ _ (ins_zero []), bd_s]
theorem sort_one (a : Int) : slices_Sort_int.v [a] = some ((), [a]) := by
  refine slices_Sort_int.vs _ ?_
  rw [show ((([a] : List Int).length : Nat) : Int) = 1 from rfl, len1, bd_s, pdq 1 (by omega) (by omega) _ _ (ins_one [a]), bd_s]
theorem sort_two (a b : Int) : slices_Sort_int.v [a, b] = some ((), sort2 a b) := by
  refine slices_Sort_int.vs _ ?_
  rw [show ((([a, b] : List Int).length : Nat) : Int) = 2 from rfl, len2, bd_s, pdq 2 (by omega) (by omega) _ _ (ins_two a b), bd_s]

/-! ### what is read -/
def put2 (a b : Int) : List Int := if a < b then [a, b] else if a = b then [a] else [b, a]
theorem compact_short (l : List Int) (h : l.length < 2) : slices_Compact_int.v l = some ((), l) := slices_Compact_int.vs _ (by rw [br_t (decide_eq_true (by omega))])
theorem compact_two (a b : Int) : slices_Compact_int.v (sort2 a b) = some ((), put2 a b) := by
  have e2 : ∀ x y : Int, slices_Compact_int.v0 2 [x, y] = some ((), [x, y]) := fun x y => slices_Compact_int.v0s _ _ rfl
  have ne : ∀ x y : Int, ¬ x = y → slices_Compact_int.v [x, y] = some ((), [x, y]) := fun x y h => by
    refine slices_Compact_int.vs _ ?_
    rw [br_f (by simp)]
    refine slices_Compact_int.v0s _ _ ?_
    have h' : ¬ y = x := fun e => h e.symm
    simp [w10, w11, w1, w0, w2, e2, h, h']
  have eq : ∀ x : Int, slices_Compact_int.v [x, x] = some ((), [x]) := fun x => by
    have e1 : slices_Compact_int.v1 1 1 1 1 [x, x] = some ((), [x]) := slices_Compact_int.v1s _ _ _ _ _ (by simp)
    refine slices_Compact_int.vs _ ?_
    rw [br_f (by simp)]
    refine slices_Compact_int.v0s _ _ ?_
    simp [w10, w11, w1, w0, w2, e1]
  unfold sort2 put2
  by_cases h1 : b < a
  · rw [if_pos h1, if_neg (by omega), if_neg (by omega)]; exact ne _ _ (by omega)
  · rw [if_neg h1]
    by_cases h2 : a = b
    · subst h2; rw [if_neg (by omega), if_pos rfl]; exact eq _
    · rw [if_pos (by omega)]; exact ne _ _ h2
/-- the registers that an instruction reads -/
def readsP (x : Ins) : List Int := if (formP x.1).1.1 = true then (if (formP x.1).1.2.1 = true then put2 x.2.2.1 x.2.2.2.1 else [x.2.2.1]) else if (formP x.1).1.2.1 = true then [x.2.2.2.1] else []
theorem put2_len (a b : Int) : (put2 a b).length ≤ 2 := by
  unfold put2
  repeat' split
  all_goals simp
theorem readsP_len (x : Ins) : (readsP x).length ≤ 2 := by
  unfold readsP
  repeat' split
  · exact put2_len _ _
  all_goals simp
theorem reads_v (x : Ins) : impl_Instr_reads.v x = some (readsP x) := by
  refine impl_Instr_reads.vs _ ?_
  rw [formOf_v, bd_s]
  unfold readsP
  cases ha : (formP x.1).1.1 <;> cases hb : (formP x.1).1.2.1
  · rw [br_f rfl, br_f rfl, sort_nil, bd_s, compact_short _ (by simp), bd_s]; rfl
  · rw [br_f rfl, br_t rfl, List.nil_append, sort_one, bd_s, compact_short _ (by simp), bd_s]; rfl
  · rw [br_t rfl, br_f rfl, List.nil_append, sort_one, bd_s, compact_short _ (by simp), bd_s]; rfl
  · rw [br_t rfl, br_t rfl, List.nil_append, List.singleton_append, sort_two, bd_s]
    dsimp only
    rw [compact_two, bd_s]; rfl
theorem put_nil (a : Int) : spec_l1Put.v [] a = some [a] := spec_l1Put.vs _ _ (spec_l1Put.v0s _ _ _ (by simp))
theorem put_one (a b : Int) : spec_l1Put.v [a] b = some (put2 a b) := by
  refine spec_l1Put.vs _ _ (spec_l1Put.v0s _ _ _ ?_)
  unfold put2
  by_cases h1 : a < b
  · have e : spec_l1Put.v0 [a] b 1 = some [a, b] := spec_l1Put.v0s _ _ _ (by simp)
    simp [h1, w01, w1, e]
  · by_cases h2 : a = b
    · simp [h1, h2]
    · simp [h1, h2]
theorem cdReads_v (x : Ins) (hk : (formP x.1).2 = true ∨ True) : spec_cdReads.v x = some (readsP x) := by
  refine spec_cdReads.vs _ ?_
  rw [cdShape_f, bd_s]
  unfold readsP shapeP
  dsimp only
  cases ha : (formP x.1).1.1 <;> cases hb : (formP x.1).1.2.1
  · rw [br_f rfl, br_f rfl]; rfl
  · rw [br_f rfl, br_t rfl, put_nil, bd_s]; rfl
  · rw [br_t rfl, put_nil, bd_s, br_f rfl]; rfl
  · rw [br_t rfl, put_nil, bd_s, br_t rfl, put_one, bd_s]; rfl
theorem readsOf_v (x : Ins) : impl_ReadsOf.v x = some (if insOk x then (readsP x, true) else ([], false)) := by
  refine impl_ReadsOf.vs _ ?_
  rw [isInstr_v, bd_s]
  cases insOk x with
  | false => rw [brn_f]; rfl
  | true => rw [brn_t, reads_v, bd_s]; rfl
theorem cdReadsOf_v (x : Ins) : spec_ReadsOf.v x = some (if insOk x then (readsP x, true) else ([], false)) := by
  refine spec_ReadsOf.vs _ ?_
  rw [cdGood_f, bd_s]
  cases insOk x with
  | false => rw [brn_f]; rfl
  | true => rw [brn_t, cdReads_v x (.inr trivial), bd_s]; rfl

/-! ### what instructions cost -/
theorem formCost {s : ByteArray} (h : (formP s).2 = true) : (formP s).1.2.2.2.2.1 = opCost s := by
  by_cases hs : s ∈ allOps
  · simp only [allOps, opsL, List.cons_append, List.nil_append, List.mem_cons, List.not_mem_nil, or_false] at hs
    rcases hs with rfl | rfl | rfl | rfl | rfl | rfl | rfl | rfl | rfl | rfl | rfl | rfl | rfl | rfl | rfl | rfl | rfl | rfl | rfl | rfl <;> decide
  · rw [form_none hs] at h; cases h
theorem cost_v {x : Ins} (h : InsOk x) : impl_Instr_cost.v x = some (opCost x.1) := by
  refine impl_Instr_cost.vs _ ?_
  rw [formOf_v, bd_s, formCost h.known]
theorem costOfInstr_v (x : Ins) : impl_CostOfInstr.v x = some (if insOk x then (opCost x.1, true) else (0, false)) := by
  refine impl_CostOfInstr.vs _ ?_
  rw [isInstr_v, bd_s]
  cases h : insOk x with
  | false => rw [brn_f]; rfl
  | true => rw [brn_t, cost_v (insOk_of h), bd_s]; rfl
theorem cdCostOfInstr_f (x : Ins) : spec_CostOfInstr.f x = some (if insOk x then (opCost x.1, true) else (0, false)) := by
  rw [spec_CostOfInstr.eq, cdGood_f, bd_s]
  cases h : insOk x with
  | false => rw [brn_f]; rfl
  | true => rw [brn_t, cdCost_f, bd_s]; rfl
end Go.Proofs.Ytkjlmkalkanimaa.Am
end
section
/- What is drawn off bytes: numbers, instructions, code, registers: there is always an answer, of a bounded size. -/
namespace Go.Proofs.Ytkjlmkalkanimaa.Am
open Go
set_option linter.unusedVariables false
set_option linter.unusedSimpArgs false

abbrev Cur := List Int × Int × Int
/-- a cursor over bytes that stands at n at most -/
def Cu (n : Int) (c : Cur) : Prop := (∀ x ∈ c.1, 0 ≤ x ∧ x ≤ 255) ∧ 0 ≤ c.2.1 ∧ c.2.1 ≤ n
/-- something is drawn -/
def Dr {α : Type} (x : Option (α × Cur)) (n : Int) (P : α → Prop) : Prop := ∃ r c, x = some (r, c) ∧ P r ∧ Cu n c
theorem Cu.mono {n m : Int} {c : Cur} (h : Cu n c) (hm : n ≤ m) : Cu m c := ⟨h.1, h.2.1, by have := h.2.2; omega⟩
section
variable {α β : Type}
theorem Dr.ret {r : α} {c : Cur} {n m : Int} {P : α → Prop} (hc : Cu n c) (hm : n ≤ m) (hr : P r) : Dr (some (r, c)) m P := ⟨r, c, rfl, hr, hc.mono hm⟩
theorem Dr.bd {x : Option (α × Cur)} {g : α × Cur → Option (β × Cur)} {n m : Int} {P : α → Prop} {Q : β → Prop} (h : Dr x n P) (k : ∀ r c, P r → Cu n c → Dr (g (r, c)) m Q) : Dr (Am.bd x g) m Q := by
  obtain ⟨r, c, e, hr, hc⟩ := h
  obtain ⟨s, d, e2, hs, hd⟩ := k r c hr hc
  exact ⟨s, d, by rw [e]; exact e2, hs, hd⟩
theorem Dr.here {γ : Type} {x : Option γ} {v : γ} {g : γ → Option (β × Cur)} {m : Int} {Q : β → Prop} (e : x = some v) (k : Dr (g v) m Q) : Dr (Am.bd x g) m Q := by rw [e]; exact k
theorem Dr.br {b : Bool} {x y : Option (β × Cur)} {m : Int} {Q : β → Prop} (h1 : b = true → Dr x m Q) (h2 : b = false → Dr y m Q) : Dr (Am.br b x y) m Q := by
  cases b with
  | true => exact h1 rfl
  | false => exact h2 rfl
theorem Dr.pos {b : Bool} {x y : Option (β × Cur)} {m : Int} {Q : β → Prop} (hb : b = true) (h : Dr x m Q) : Dr (Am.br b x y) m Q := by rw [br_t hb]; exact h
theorem Dr.neg {b : Bool} {x y : Option (β × Cur)} {m : Int} {Q : β → Prop} (hb : b = false) (h : Dr y m Q) : Dr (Am.br b x y) m Q := by rw [br_f hb]; exact h
theorem Dr.gt {xs : List α} {j : Nat} {f : α → Option (β × Cur)} {m : Int} {Q : β → Prop} (hj : j < xs.length) (h : Dr (f xs[j]) m Q) : Dr (Am.gt xs j f) m Q := by rw [gt_at _ hj]; exact h
theorem Dr.imp {x : Option (α × Cur)} {n m : Int} {P Q : α → Prop} (h : Dr x n P) (hm : n ≤ m) (hp : ∀ r, P r → Q r) : Dr x m Q := by
  obtain ⟨r, c, e, hr, hc⟩ := h
  exact ⟨r, c, e, hp r hr, hc.mono hm⟩
end
theorem byteAnd (x : Int) : 0 ≤ IntKind.wrap .i64 (IntKind.wrap .u64 (((BitVec.toNat ((BitVec.ofInt 64 x) &&& (BitVec.ofInt 64 (255 : Int)))) : Nat) : Int)) ∧ IntKind.wrap .i64 (IntKind.wrap .u64 (((BitVec.toNat ((BitVec.ofInt 64 x) &&& (BitVec.ofInt 64 (255 : Int)))) : Nat) : Int)) ≤ 255 := by
  have h : (BitVec.toNat ((BitVec.ofInt 64 x) &&& (BitVec.ofInt 64 (255 : Int)))) ≤ 255 := by
    rw [BitVec.toNat_and]
    exact Nat.and_le_right
  have hu : ∀ n : Nat, n ≤ 255 → IntKind.wrap .u64 (n : Int) = (n : Int) := by
    intro n hn
    exact IntWalk.u64_in _ ⟨by omega, by omega⟩
  rw [hu _ h, wrap_ok (by omega) (by omega)]
  omega
theorem next_d {n : Int} {c : Cur} (h : Cu n c) (hn : n ≤ 1000000000) : Dr (spec_l1Cur_next.f c.1 c.2.1 c.2.2) (n + 1) fun r => 0 ≤ r ∧ r ≤ 255 := by
  obtain ⟨h1, h2, h3⟩ := h
  rw [spec_l1Cur_next.eq, wrap_ok (x := c.2.1 + 1) (by omega) (by omega)]
  refine Dr.br (fun e => ?_) fun e => ?_
  · have e := of_decide_eq_true e
    have hj : c.2.1.toNat < c.1.length := by omega
    have hb := h1 _ (List.getElem_mem hj)
    refine Dr.pos (decide_eq_true h2) (Dr.gt hj (Dr.pos (decide_eq_true (by omega)) ⟨_, _, rfl, ?_, h1, ?_, ?_⟩))
    · rw [wrap_ok (by omega) (by omega)]; exact hb
    · show 0 ≤ c.2.1 + 1; omega
    · show c.2.1 + 1 ≤ n + 1; omega
  · have e := of_decide_eq_false e
    refine Dr.neg (decide_eq_false (by omega)) ⟨_, _, rfl, byteAnd _, h1, ?_, ?_⟩
    · show 0 ≤ c.2.1 + 1; omega
    · show c.2.1 + 1 ≤ n + 1; omega
theorem tmod_b {x a : Int} (hx : 0 ≤ x) (ha : 1 ≤ a) : 0 ≤ Int.tmod x a ∧ Int.tmod x a < a := ⟨Int.tmod_nonneg _ hx, Int.tmod_lt_of_pos _ (by omega)⟩
theorem pick_d (a : Int) {n : Int} {c : Cur} (h : Cu n c) (hn : n ≤ 999999990) : Dr (spec_l1Cur_pick.f a c.1 c.2.1 c.2.2) (n + 2) fun r => 0 ≤ r ∧ (1 ≤ a → r < a) := by
  rw [spec_l1Cur_pick.eq]
  refine Dr.br (fun e => ?_) fun e => ?_
  · have e := of_decide_eq_true e
    exact ⟨0, c, rfl, ⟨by omega, by omega⟩, h.mono (by omega)⟩
  · have e := of_decide_eq_false e
    have ne : ¬ a = 0 := by omega
    refine Dr.bd (next_d h (by omega)) fun r c1 hr hc => ?_
    refine Dr.br (fun e2 => ?_) fun e2 => ?_
    · refine Dr.bd (next_d hc (by omega)) fun s c2 hs hc2 => ?_
      refine Dr.pos (by simpa using ne) ?_
      dsimp only
      refine ⟨_, _, rfl, ?_, hc2.mono (by omega)⟩
      rw [wrap_ok (x := r * 256) (by omega) (by omega), wrap_ok (by omega) (by omega)]
      have := tmod_b (x := r * 256 + s) (a := a) (by omega) (by omega)
      exact ⟨this.1, fun _ => this.2⟩
    · refine Dr.pos (by simpa using ne) ⟨_, _, rfl, ?_, hc.mono (by omega)⟩
      have := tmod_b (x := r) (a := a) (by omega) (by omega)
      exact ⟨this.1, fun _ => this.2⟩
theorem one_d (a : Int) {n : Int} {c : Cur} (h : Cu n c) (hn : n ≤ 999999990) : Dr (spec_l1Cur_one.f a c.1 c.2.1 c.2.2) (n + 2) fun _ => True := by
  rw [spec_l1Cur_one.eq]
  exact Dr.bd (pick_d a h hn) fun r c1 hr hc => Dr.ret hc (by omega) trivial
theorem of_d (l : List ByteArray) (hl : 1 ≤ l.length) {n : Int} {c : Cur} (h : Cu n c) (hn : n ≤ 999999990) : Dr (spec_l1Cur_of.f l c.1 c.2.1 c.2.2) (n + 2) fun r => r ∈ l := by
  rw [spec_l1Cur_of.eq]
  refine Dr.bd (pick_d _ h hn) fun r c1 hr hc => ?_
  have := hr.2 (by omega)
  refine Dr.pos (decide_eq_true hr.1) (Dr.gt (show (r : Int).toNat < l.length by omega) (Dr.ret hc (by omega) (List.getElem_mem _)))
theorem among_d (l : List Int) (hl : 1 ≤ l.length) {n : Int} {c : Cur} (h : Cu n c) (hn : n ≤ 999999990) : Dr (spec_l1Cur_among.f l c.1 c.2.1 c.2.2) (n + 2) fun r => r ∈ l := by
  rw [spec_l1Cur_among.eq]
  refine Dr.bd (pick_d _ h hn) fun r c1 hr hc => ?_
  have := hr.2 (by omega)
  refine Dr.pos (decide_eq_true hr.1) (Dr.gt (show (r : Int).toNat < l.length by omega) (Dr.ret hc (by omega) (List.getElem_mem _)))
theorem word_d {n : Int} {c : Cur} (h : Cu n c) (hn : n ≤ 999999980) : Dr (spec_l1Cur_word.f c.1 c.2.1 c.2.2) (n + 4) fun r => 0 ≤ r ∧ r ≤ 63 := by
  rw [spec_l1Cur_word.eq]
  refine Dr.bd (one_d 2 h (by omega)) fun r c1 hr hc => Dr.br (fun _ => ?_) fun _ => ?_
  · refine Dr.bd (among_d _ (by simp) hc (by omega)) fun r c2 hr hc2 => Dr.ret hc2 (by omega) ?_
    simp only [List.mem_cons, List.not_mem_nil, or_false] at hr
    omega
  · refine Dr.bd (pick_d 64 hc (by omega)) fun r c2 hr hc2 => Dr.ret hc2 (by omega) ?_
    have := hr.2 (by omega)
    omega
theorem l1HasS_v (l : List ByteArray) (s : ByteArray) (hl : l.length ≤ 9223372036854775000) : spec_l1HasS.v l s = some (isIn l s) := ev_lim (l1HasS_ev l s hl)
theorem cdImm_v (s : ByteArray) : ∃ b, spec_cdImm.v s = some b := ⟨_, spec_cdImm.vs _ (by rw [l1HasS_v _ _ (by simp)]; rfl)⟩
theorem dr_v {α : Type} {v : Option (α × Cur)} {n : Int} {P : α → Prop} {x : Option (α × Cur)} (h : Dr x n P) (vs : ∀ r, x = some r → v = some r) : Dr v n P := by
  obtain ⟨r, c, e, hr, hc⟩ := h
  exact ⟨r, c, vs _ e, hr, hc⟩
theorem instr_d (a : Int) {n : Int} {c : Cur} (h : Cu n c) (hn : n ≤ 999999900) : Dr (spec_l1Cur_instr.v a c.1 c.2.1 c.2.2) (n + 20) fun _ => True := by
  refine dr_v ?_ fun r => spec_l1Cur_instr.vs a c.1 c.2.1 c.2.2
  refine Dr.bd (of_d _ (by simp) h (by omega)) fun s c1 hs hc1 => ?_
  obtain ⟨im, him⟩ := cdImm_v s
  simp only [cdShape_f, bd_s, him]
  refine Dr.bd (pick_d a hc1 (by omega)) fun d c2 hd hc2 => ?_
  have tail : ∀ (f : Int → Ins) (lo : Int) (a' : Int) (b : Bool) (m : Int) (c' : Cur), Cu m c' → m ≤ n + 10 →
      Dr (br im (bd (spec_l1Cur_pick.f a' c'.1 c'.2.1 c'.2.2) fun r6 => (br b (bd (spec_l1Cur_word.f r6.2.1 r6.2.2.1 r6.2.2.2) fun r7 => some (f r7.1, r7.2)) (some (f (IntKind.wrap .i64 (lo + r6.1)), r6.2)))) (some (f 0, c'))) (n + 20) fun _ => True := by
    intro f lo a' b m c' hc' hm
    refine Dr.br (fun _ => ?_) fun _ => Dr.ret hc' (by omega) trivial
    refine Dr.bd (pick_d a' hc' (by omega)) fun r6 c6 h6 hc6 => Dr.br (fun _ => ?_) fun _ => Dr.ret hc6 (by omega) trivial
    exact Dr.bd (word_d hc6 (by omega)) fun r7 c7 h7 hc7 => Dr.ret hc7 (by omega) trivial
  refine Dr.br (fun _ => ?_) fun _ => ?_
  · refine Dr.bd (pick_d a hc2 (by omega)) fun p c3 hp hc3 => Dr.br (fun _ => ?_) fun _ => ?_
    · refine Dr.bd (pick_d a hc3 (by omega)) fun q c4 hq hc4 => ?_
      exact tail (fun i => (s, d, p, q, i)) _ _ _ _ c4 hc4 (by omega)
    · exact tail (fun i => (s, d, p, 0, i)) _ _ _ _ c3 hc3 (by omega)
  · refine Dr.br (fun _ => ?_) fun _ => ?_
    · refine Dr.bd (pick_d a hc2 (by omega)) fun q c4 hq hc4 => ?_
      exact tail (fun i => (s, d, 0, q, i)) _ _ _ _ c4 hc4 (by omega)
    · exact tail (fun i => (s, d, 0, 0, i)) _ _ _ _ c2 hc2 (by omega)
theorem anyInstr_d {n : Int} {c : Cur} (h : Cu n c) (hn : n ≤ 999999800) : Dr (spec_l1Cur_anyInstr.v c.1 c.2.1 c.2.2) (n + 30) fun _ => True := by
  refine dr_v ?_ fun r => spec_l1Cur_anyInstr.vs c.1 c.2.1 c.2.2
  refine Dr.bd (instr_d 6 h (by omega)) fun x c1 hx hc1 => Dr.bd (pick_d 14 hc1 (by omega)) fun k c2 hk hc2 => ?_
  refine Dr.br (fun _ => Dr.bd (among_d _ (by simp) hc2 (by omega)) fun r c3 hr hc3 => Dr.ret hc3 (by omega) trivial) fun _ => ?_
  refine Dr.br (fun _ => Dr.bd (among_d _ (by simp) hc2 (by omega)) fun r c3 hr hc3 => Dr.ret hc3 (by omega) trivial) fun _ => ?_
  refine Dr.br (fun _ => Dr.bd (among_d _ (by simp) hc2 (by omega)) fun r c3 hr hc3 => Dr.ret hc3 (by omega) trivial) fun _ => ?_
  refine Dr.br (fun _ => Dr.bd (among_d _ (by simp) hc2 (by omega)) fun r c3 hr hc3 => Dr.ret hc3 (by omega) trivial) fun _ => ?_
  refine Dr.br (fun _ => Dr.bd (of_d _ (by simp) hc2 (by omega)) fun r c3 hr hc3 => Dr.ret hc3 (by omega) trivial) fun _ => ?_
  exact Dr.ret hc2 (by omega) trivial
theorem regs_d {n : Int} {c : Cur} (h : Cu n c) (hn : n ≤ 999990000) : Dr (spec_l1Cur_regs.v c.1 c.2.1 c.2.2) (n + 60) fun r => r.length ≤ 6 := by
  have key : ∀ (d : Nat) (l : List Int) (m : Int) (c : Cur), l.length + d = 6 → Cu m c → m + 4 * d ≤ n + 40 → Dr (spec_l1Cur_regs.v0 c.1 c.2.1 c.2.2 l) (n + 60) fun r => r.length ≤ 6 := by
    intro d
    induction d with
    | zero =>
      intro l m c hl hc hm
      refine dr_v ?_ fun r => spec_l1Cur_regs.v0s c.1 c.2.1 c.2.2 l
      refine Dr.neg (decide_eq_false (by omega)) ?_
      refine Dr.bd (pick_d 16 hc (by omega)) fun r1 c1 hr1 hc1 => Dr.br (fun _ => ?_) fun _ => ?_
      · refine Dr.bd (pick_d _ hc1 (by omega)) fun r2 c2 hr2 hc2 => ?_
        have hlt := hr2.2 (by omega)
        refine Dr.bd (among_d _ (by simp) hc2 (by omega)) fun r3 c3 hr3 hc3 => ?_
        exact Dr.pos (decide_eq_true hr2.1) (Dr.pos (decide_eq_true hlt) (Dr.gt (show r2.toNat < l.length by omega) (Dr.ret hc3 (by omega) (by rw [List.length_set]; omega))))
      · refine Dr.br (fun _ => ?_) fun _ => Dr.ret hc1 (by omega) (by omega)
        refine Dr.pos (decide_eq_true (by omega)) (Dr.pos (decide_eq_true (by omega)) (Dr.ret hc1 (by omega) ?_))
        rw [List.length_take, List.length_drop]; omega
    | succ d ih =>
      intro l m c hl hc hm
      refine dr_v ?_ fun r => spec_l1Cur_regs.v0s c.1 c.2.1 c.2.2 l
      refine Dr.pos (decide_eq_true (by omega)) (Dr.bd (word_d hc (by omega)) fun r0 c0 hr0 hc0 => ?_)
      refine Dr.pos (decide_eq_true (by simp; omega)) ?_
      exact ih _ _ c0 (by simp; omega) hc0 (by omega)
  refine dr_v (key 6 [] n c rfl h (by omega)) fun r => spec_l1Cur_regs.vs c.1 c.2.1 c.2.2
theorem code2_d (a b : Int) (ha : 0 ≤ a) (ha1 : a ≤ 20) {n : Int} {c : Cur} (h : Cu n c) (hn : n ≤ 999990000) : Dr (spec_l1Cur_code2.v a b c.1 c.2.1 c.2.2) (n + 500) fun r => r.length ≤ 21 := by
  have key : ∀ (d : Nat) (l : List Ins) (m : Int) (c : Cur), l.length + d ≤ 21 → Cu m c → m + 20 * d ≤ n + 450 → Dr (spec_l1Cur_code2.v0 b (d : Int) c.1 c.2.1 c.2.2 l) (n + 500) fun r => r.length ≤ 21 := by
    intro d
    induction d with
    | zero =>
      intro l m c hl hc hm
      refine dr_v ?_ fun r => spec_l1Cur_code2.v0s b _ c.1 c.2.1 c.2.2 l
      exact Dr.neg (by decide) (Dr.ret hc (by omega) (by omega))
    | succ d ih =>
      intro l m c hl hc hm
      refine dr_v ?_ fun r => spec_l1Cur_code2.v0s b _ c.1 c.2.1 c.2.2 l
      refine Dr.pos (decide_eq_true (by omega)) (Dr.bd (instr_d b hc (by omega)) fun r0 c0 hr0 hc0 => ?_)
      refine Dr.pos (decide_eq_true (by simp; omega)) ?_
      rw [wrap_ok (by omega) (by omega), show (((d + 1 : Nat) : Int) - 1) = (d : Int) by omega]
      exact ih _ _ c0 (by simp; omega) hc0 (by omega)
  refine dr_v ?_ fun r => spec_l1Cur_code2.vs a b c.1 c.2.1 c.2.2
  rw [wrap_ok (by omega) (by omega)]
  refine Dr.bd (pick_d _ h (by omega)) fun r c1 hr hc1 => ?_
  have := hr.2 (by omega)
  obtain ⟨d, rfl⟩ : ∃ d : Nat, r = d := ⟨r.toNat, by omega⟩
  exact key d [] _ c1 (by simp; omega) hc1 (by omega)
theorem anyCode_d (a : Int) (ha : 0 ≤ a) (ha1 : a ≤ 20) {n : Int} {c : Cur} (h : Cu n c) (hn : n ≤ 999980000) : Dr (spec_l1Cur_anyCode.v a c.1 c.2.1 c.2.2) (n + 2000) fun r => r.length ≤ 60 := by
  have key : ∀ (d : Nat) (l : List Ins) (m : Int) (c : Cur), l.length + d = 42 → Cu m c → m + 22 * d ≤ n + 1900 → Dr (spec_l1Cur_anyCode.v0 c.1 c.2.1 c.2.2 l) (n + 2000) fun r => r.length ≤ 60 := by
    intro d
    induction d with
    | zero =>
      intro l m c hl hc hm
      refine dr_v ?_ fun r => spec_l1Cur_anyCode.v0s c.1 c.2.1 c.2.2 l
      refine Dr.bd (pick_d 2 hc (by omega)) fun r c1 hr hc1 => ?_
      have := hr.2 (by omega)
      refine Dr.neg (decide_eq_false (by rw [wrap_ok (by dsimp only; omega) (by dsimp only; omega)]; dsimp only; omega)) (Dr.ret hc1 (by omega) (by omega))
    | succ d ih =>
      intro l m c hl hc hm
      refine dr_v ?_ fun r => spec_l1Cur_anyCode.v0s c.1 c.2.1 c.2.2 l
      refine Dr.bd (pick_d 2 hc (by omega)) fun r c1 hr hc1 => Dr.br (fun _ => ?_) fun _ => Dr.ret hc1 (by omega) (by omega)
      refine Dr.bd (instr_d 3 hc1 (by omega)) fun r0 c0 hr0 hc0 => ?_
      refine Dr.pos (decide_eq_true (by simp; omega)) ?_
      exact ih _ _ c0 (by simp; omega) hc0 (by omega)
  refine dr_v ?_ fun r => spec_l1Cur_anyCode.vs a c.1 c.2.1 c.2.2
  refine Dr.bd (pick_d 5 h (by omega)) fun r0 c0 hr0 hc0 => Dr.bd (code2_d a _ ha ha1 hc0 (by omega)) fun l c1 hl hc1 => Dr.bd (pick_d 14 hc1 (by omega)) fun r2 c2 hr2 hc2 => ?_
  refine Dr.br (fun _ => ?_) fun _ => Dr.br (fun _ => ?_) fun _ => Dr.ret hc2 (by omega) (by dsimp only; omega)
  · refine Dr.bd (anyInstr_d hc2 (by omega)) fun x c3 hx hc3 => ?_
    exact Dr.pos (decide_eq_true (by simp; omega)) (Dr.ret hc3 (by omega) (by simp; omega))
  · obtain ⟨d, hd⟩ : ∃ d, l.length + d = 42 := ⟨42 - l.length, by omega⟩
    exact key d l _ c2 hd hc2 (by omega)

/-! ### the draws -/
def Bytes (l : List Int) : Prop := ∀ x ∈ l, 0 ≤ x ∧ x ≤ 255
theorem Bytes.cu {l : List Int} (h : Bytes l) : Cu 0 (l, 0, 0) := ⟨h, by dsimp only; omega, by dsimp only; omega⟩
theorem drawStep_v {l : List Int} (h : Bytes l) : ∃ (x : Ins) (r : List Int), spec_DrawStepInstr.v l = some (x, r) ∧ r.length ≤ 6 := by
  obtain ⟨x, c, e, _, hc⟩ := anyInstr_d h.cu (by omega)
  obtain ⟨r, c2, e2, hr, _⟩ := regs_d hc (by omega)
  exact ⟨x, r, spec_DrawStepInstr.vs _ (by rw [e]; exact (bd_some e2)), hr⟩
theorem drawCost_v {l : List Int} (h : Bytes l) : ∃ (x : Ins), spec_DrawCostOfInstr.v l = some x := by
  obtain ⟨x, c, e, _, hc⟩ := anyInstr_d h.cu (by omega)
  exact ⟨x, spec_DrawCostOfInstr.vs _ (by rw [spec_DrawIsInstr.vs _ (by rw [e]; rfl)]; rfl)⟩
end Go.Proofs.Ytkjlmkalkanimaa.Am
end
section
/- The law laws_FnInstructionsStep over the machine of values. -/
set_option linter.unusedVariables false
set_option maxRecDepth 100000
set_option maxHeartbeats 1000000
namespace Go.Proofs.Ytkjlmkalkanimaa.Am
open Go
noncomputable def laws_FnInstructionsStep.E : En := ⟨P0, M0, [(6, ⟨[1, 5, 6, 7, 8, 9, 10], [], [], []⟩), (8, ⟨[1, 5, 6, 7, 10], [], [], []⟩), (11, ⟨[5, 6, 7, 10, 11, 12, 13, 14, 15], [], [], []⟩), (13, ⟨[5, 6, 7, 10, 11, 12, 13, 14, 15, 16, 17, 18, 19], [], [], []⟩), (15, ⟨[5, 6, 7, 10], [], [], []⟩), (17, ⟨[5, 6, 7], [], [], []⟩), (18, ⟨[5, 7, 20, 21], [], [], []⟩)], ntOf P0 4, [6, 8, 11, 13, 15, 17, 18]⟩
noncomputable def laws_FnInstructionsStep.g : St → Option Bool := fun st => fin0 (cV false .b) (finA P0 (resOf P0 4) 0 [.id] [] st)
noncomputable def laws_FnInstructionsStep.T (k : Nat) : Table := tabs [(6, (laws_big.tab)), (17, (laws_pSame.tab k)), (18, (impl_StepInstr.tab k)), (24, (spec_DrawStepInstr.tab k)), (25, (spec_StepInstr.tab k)), (26, (spec_DrawCostOfInstr.tab k)), (27, (impl_CostOfInstr.tab k)), (28, (spec_CostOfInstr.tab)), (29, (impl_ReadsOf.tab k)), (30, (spec_ReadsOf.tab k)), (31, (impl_IsInstr.tab k)), (32, (impl_ApplyOp.tab k))]
noncomputable def laws_FnInstructionsStep.f (k : Nat) (a0 : (List Int)) (a1 : (List Int)) : Option Bool := go laws_FnInstructionsStep.E laws_FnInstructionsStep.T laws_FnInstructionsStep.g k [.code (bodyOf P0 4)] (initA [mkP false (.sl (.i .u8)) a0, mkP false (.sl (.i .u8)) a1] [])
noncomputable def laws_FnInstructionsStep.tab (k : Nat) : List AV → List AO → Option Pack := tabI [.v false (.sl (.i .u8)), .v false (.sl (.i .u8))] [] (enc0 (cV false .b)) (laws_FnInstructionsStep.f k)
noncomputable def laws_FnInstructionsStep.l0 (k : Nat) (x0 : List Int) (x1 : List Int) (x2 : List Int) (x3 : Bool) (x4 : List Int) (x5 : Bool) (x6 : ByteArray) (x7 : Int) (x8 : Int) (x9 : Int) (x10 : Int) := go laws_FnInstructionsStep.E laws_FnInstructionsStep.T laws_FnInstructionsStep.g k (headOf P0 4 0 [6, 8, 11, 13, 15, 17, 18]) ⟨[(1, (.lst (.i .u8) x0)), (5, (.ptr 5000 0)), (6, (.lst (.i .i64) x1)), (7, (.lst (.i .i64) x2)), (8, (.b x3)), (9, (.lst (.i .i64) x4)), (10, (.b x5))], [(5000, (.box [(.s x6), (.i .i64 x7), (.i .i64 x8), (.i .i64 x9), (.i .i64 x10)]))]⟩
noncomputable def laws_FnInstructionsStep.l1 (k : Nat) (x0 : List Int) (x1 : List Int) (x2 : List Int) (x3 : Bool) (x4 : ByteArray) (x5 : Int) (x6 : Int) (x7 : Int) (x8 : Int) := go laws_FnInstructionsStep.E laws_FnInstructionsStep.T laws_FnInstructionsStep.g k (headOf P0 4 1 [6, 8, 11, 13, 15, 17, 18]) ⟨[(1, (.lst (.i .u8) x0)), (5, (.ptr 5000 0)), (6, (.lst (.i .i64) x1)), (7, (.lst (.i .i64) x2)), (10, (.b x3))], [(5000, (.box [(.s x4), (.i .i64 x5), (.i .i64 x6), (.i .i64 x7), (.i .i64 x8)]))]⟩
noncomputable def laws_FnInstructionsStep.l2 (k : Nat) (x0 : List Int) (x1 : List Int) (x2 : Bool) (x3 : Int) (x4 : Bool) (x5 : Int) (x6 : Bool) (x7 : ByteArray) (x8 : Int) (x9 : Int) (x10 : Int) (x11 : Int) (x12 : ByteArray) (x13 : Int) (x14 : Int) (x15 : Int) (x16 : Int) := go laws_FnInstructionsStep.E laws_FnInstructionsStep.T laws_FnInstructionsStep.g k (headOf P0 4 2 [6, 8, 11, 13, 15, 17, 18]) ⟨[(5, (.ptr 5000 0)), (6, (.lst (.i .i64) x0)), (7, (.lst (.i .i64) x1)), (10, (.b x2)), (11, (.ptr 5001 0)), (12, (.i .i64 x3)), (13, (.b x4)), (14, (.i .i64 x5)), (15, (.b x6))], [(5000, (.box [(.s x7), (.i .i64 x8), (.i .i64 x9), (.i .i64 x10), (.i .i64 x11)])), (5001, (.box [(.s x12), (.i .i64 x13), (.i .i64 x14), (.i .i64 x15), (.i .i64 x16)]))]⟩
noncomputable def laws_FnInstructionsStep.l3 (k : Nat) (x0 : List Int) (x1 : List Int) (x2 : Bool) (x3 : Int) (x4 : Bool) (x5 : Int) (x6 : Bool) (x7 : List Int) (x8 : Bool) (x9 : List Int) (x10 : Bool) (x11 : ByteArray) (x12 : Int) (x13 : Int) (x14 : Int) (x15 : Int) (x16 : ByteArray) (x17 : Int) (x18 : Int) (x19 : Int) (x20 : Int) := go laws_FnInstructionsStep.E laws_FnInstructionsStep.T laws_FnInstructionsStep.g k (headOf P0 4 3 [6, 8, 11, 13, 15, 17, 18]) ⟨[(5, (.ptr 5000 0)), (6, (.lst (.i .i64) x0)), (7, (.lst (.i .i64) x1)), (10, (.b x2)), (11, (.ptr 5001 0)), (12, (.i .i64 x3)), (13, (.b x4)), (14, (.i .i64 x5)), (15, (.b x6)), (16, (.lst (.i .i64) x7)), (17, (.b x8)), (18, (.lst (.i .i64) x9)), (19, (.b x10))], [(5000, (.box [(.s x11), (.i .i64 x12), (.i .i64 x13), (.i .i64 x14), (.i .i64 x15)])), (5001, (.box [(.s x16), (.i .i64 x17), (.i .i64 x18), (.i .i64 x19), (.i .i64 x20)]))]⟩
noncomputable def laws_FnInstructionsStep.l4 (k : Nat) (x0 : List Int) (x1 : List Int) (x2 : Bool) (x3 : ByteArray) (x4 : Int) (x5 : Int) (x6 : Int) (x7 : Int) := go laws_FnInstructionsStep.E laws_FnInstructionsStep.T laws_FnInstructionsStep.g k (headOf P0 4 4 [6, 8, 11, 13, 15, 17, 18]) ⟨[(5, (.ptr 5000 0)), (6, (.lst (.i .i64) x0)), (7, (.lst (.i .i64) x1)), (10, (.b x2))], [(5000, (.box [(.s x3), (.i .i64 x4), (.i .i64 x5), (.i .i64 x6), (.i .i64 x7)]))]⟩
noncomputable def laws_FnInstructionsStep.l5 (k : Nat) (x0 : List Int) (x1 : List Int) (x2 : ByteArray) (x3 : Int) (x4 : Int) (x5 : Int) (x6 : Int) := go laws_FnInstructionsStep.E laws_FnInstructionsStep.T laws_FnInstructionsStep.g k (headOf P0 4 5 [6, 8, 11, 13, 15, 17, 18]) ⟨[(5, (.ptr 5000 0)), (6, (.lst (.i .i64) x0)), (7, (.lst (.i .i64) x1))], [(5000, (.box [(.s x2), (.i .i64 x3), (.i .i64 x4), (.i .i64 x5), (.i .i64 x6)]))]⟩
noncomputable def laws_FnInstructionsStep.l6 (k : Nat) (x0 : List Int) (x1 : Int) (x2 : Int) (x3 : ByteArray) (x4 : Int) (x5 : Int) (x6 : Int) (x7 : Int) := go laws_FnInstructionsStep.E laws_FnInstructionsStep.T laws_FnInstructionsStep.g k (headOf P0 4 6 [6, 8, 11, 13, 15, 17, 18]) ⟨[(5, (.ptr 5000 0)), (7, (.lst (.i .i64) x0)), (20, (.i .i64 x1)), (21, (.i .i64 x2))], [(5000, (.box [(.s x3), (.i .i64 x4), (.i .i64 x5), (.i .i64 x6), (.i .i64 x7)]))]⟩
theorem laws_FnInstructionsStep.eq (k : Nat) (a0 : (List Int)) (a1 : (List Int)) : laws_FnInstructionsStep.f (k + 1) a0 a1 = (bd (laws_big.f a0 a1) fun r0 => (br r0 (some true) (bd (spec_DrawStepInstr.f k a0) fun r1 => (bd (impl_StepInstr.f k r1.1 r1.2) fun r2 => (bd (spec_StepInstr.f k r1.1 r1.2) fun r3 => (laws_FnInstructionsStep.l0 k a1 r1.2 r2.1 r2.2 r3.1 r3.2 r1.1.1 r1.1.2.1 r1.1.2.2.1 r1.1.2.2.2.1 r1.1.2.2.2.2)))))) := by kernel_rfl
theorem laws_FnInstructionsStep.l0_eq (k : Nat) (x0 : List Int) (x1 : List Int) (x2 : List Int) (x3 : Bool) (x4 : List Int) (x5 : Bool) (x6 : ByteArray) (x7 : Int) (x8 : Int) (x9 : Int) (x10 : Int) : laws_FnInstructionsStep.l0 (k + 1) x0 x1 x2 x3 x4 x5 x6 x7 x8 x9 x10 = (br (Bool.not (x3 == x5)) (some false) (bd (laws_pSame.f k x2 x4) fun r4 => (br (Bool.not r4) (some false) (laws_FnInstructionsStep.l1 k x0 x1 x2 x5 x6 x7 x8 x9 x10)))) := by kernel_rfl
theorem laws_FnInstructionsStep.l1_eq (k : Nat) (x0 : List Int) (x1 : List Int) (x2 : List Int) (x3 : Bool) (x4 : ByteArray) (x5 : Int) (x6 : Int) (x7 : Int) (x8 : Int) : laws_FnInstructionsStep.l1 (k + 1) x0 x1 x2 x3 x4 x5 x6 x7 x8 = (bd (spec_DrawCostOfInstr.f k x0) fun r5 => (bd (impl_CostOfInstr.f k r5) fun r6 => (bd (spec_CostOfInstr.f r5) fun r7 => (laws_FnInstructionsStep.l2 k x1 x2 x3 r6.1 r6.2 r7.1 r7.2 x4 x5 x6 x7 x8 r5.1 r5.2.1 r5.2.2.1 r5.2.2.2.1 r5.2.2.2.2)))) := by kernel_rfl
theorem laws_FnInstructionsStep.l2_eq (k : Nat) (x0 : List Int) (x1 : List Int) (x2 : Bool) (x3 : Int) (x4 : Bool) (x5 : Int) (x6 : Bool) (x7 : ByteArray) (x8 : Int) (x9 : Int) (x10 : Int) (x11 : Int) (x12 : ByteArray) (x13 : Int) (x14 : Int) (x15 : Int) (x16 : Int) : laws_FnInstructionsStep.l2 (k + 1) x0 x1 x2 x3 x4 x5 x6 x7 x8 x9 x10 x11 x12 x13 x14 x15 x16 = (bd (impl_ReadsOf.f k (x12, (x13, (x14, (x15, x16))))) fun r8 => (bd (spec_ReadsOf.f k (x12, (x13, (x14, (x15, x16))))) fun r9 => (laws_FnInstructionsStep.l3 k x0 x1 x2 x3 x4 x5 x6 r8.1 r8.2 r9.1 r9.2 x7 x8 x9 x10 x11 x12 x13 x14 x15 x16))) := by kernel_rfl
theorem laws_FnInstructionsStep.l3_eq (k : Nat) (x0 : List Int) (x1 : List Int) (x2 : Bool) (x3 : Int) (x4 : Bool) (x5 : Int) (x6 : Bool) (x7 : List Int) (x8 : Bool) (x9 : List Int) (x10 : Bool) (x11 : ByteArray) (x12 : Int) (x13 : Int) (x14 : Int) (x15 : Int) (x16 : ByteArray) (x17 : Int) (x18 : Int) (x19 : Int) (x20 : Int) : laws_FnInstructionsStep.l3 (k + 1) x0 x1 x2 x3 x4 x5 x6 x7 x8 x9 x10 x11 x12 x13 x14 x15 x16 x17 x18 x19 x20 = (br (Bool.not (x4 == x6)) (some false) (br (x3 != x5) (some false) (br (Bool.not (x8 == x10)) (some false) (bd (laws_pSame.f k x7 x9) fun r10 => (br (Bool.not r10) (some false) (bd (impl_IsInstr.f k (x16, (x17, (x18, (x19, x20))))) fun r11 => (br (Bool.not (x4 == r11)) (some false) (br (Bool.not (x8 == x4)) (some false) (laws_FnInstructionsStep.l4 k x0 x1 x2 x11 x12 x13 x14 x15))))))))) := by kernel_rfl
theorem laws_FnInstructionsStep.l4_eq (k : Nat) (x0 : List Int) (x1 : List Int) (x2 : Bool) (x3 : ByteArray) (x4 : Int) (x5 : Int) (x6 : Int) (x7 : Int) : laws_FnInstructionsStep.l4 (k + 1) x0 x1 x2 x3 x4 x5 x6 x7 = (br (Bool.not x2) (some true) (laws_FnInstructionsStep.l5 k x0 x1 x3 x4 x5 x6 x7)) := by kernel_rfl
theorem laws_FnInstructionsStep.l5_eq (k : Nat) (x0 : List Int) (x1 : List Int) (x2 : ByteArray) (x3 : Int) (x4 : Int) (x5 : Int) (x6 : Int) : laws_FnInstructionsStep.l5 (k + 1) x0 x1 x2 x3 x4 x5 x6 = (br (decide ((0 : Int) ≤ x4)) (gt x0 (Int.toNat x4) fun r12 => (br (decide ((0 : Int) ≤ x5)) (gt x0 (Int.toNat x5) fun r13 => (laws_FnInstructionsStep.l6 k x1 r12 r13 x2 x3 x4 x5 x6)) none)) none) := by kernel_rfl
theorem laws_FnInstructionsStep.l6_eq (k : Nat) (x0 : List Int) (x1 : Int) (x2 : Int) (x3 : ByteArray) (x4 : Int) (x5 : Int) (x6 : Int) (x7 : Int) : laws_FnInstructionsStep.l6 (k + 1) x0 x1 x2 x3 x4 x5 x6 x7 = (br (decide ((0 : Int) ≤ x4)) (gt x0 (Int.toNat x4) fun r14 => (br (seq x3 (⟨#[115, 101, 116]⟩ : ByteArray)) (some (r14 == x7)) (br (seq x3 (⟨#[109, 111, 118]⟩ : ByteArray)) (some (r14 == x1)) (br (seq x3 (⟨#[110, 111, 116]⟩ : ByteArray)) (br (seq x3 (⟨#[110, 111, 116]⟩ : ByteArray)) (bd (impl_ApplyOp.f k x3 x1 (0 : Int)) fun r15 => (br r15.2 (some (r15.1 == r14)) (some false))) (br (seq x3 (⟨#[108, 101, 97]⟩ : ByteArray)) (bd (impl_ApplyOp.f k (⟨#[115, 104, 108]⟩ : ByteArray) x2 x7) fun r16 => (bd (impl_ApplyOp.f k (⟨#[97, 100, 100]⟩ : ByteArray) x1 r16.1) fun r17 => (br r16.2 (br r17.2 (some (r17.1 == r14)) (some false)) (some false)))) (br (seq x3 (⟨#[97, 100, 100, 105]⟩ : ByteArray)) (br (seq x3 (⟨#[97, 100, 100, 105]⟩ : ByteArray)) (br (decide ((3 : Int) ≤ (((ByteArray.size x3) : Nat) : Int))) (bd (impl_ApplyOp.f k (ByteArray.extract x3 (Int.toNat (0 : Int)) (Int.toNat (3 : Int))) x1 x7) fun r18 => (br r18.2 (some (r18.1 == r14)) (some false))) none) (bd (impl_ApplyOp.f k x3 x1 x2) fun r19 => (br r19.2 (some (r19.1 == r14)) (some false)))) (br (seq x3 (⟨#[97, 110, 100, 105]⟩ : ByteArray)) (br (seq x3 (⟨#[97, 110, 100, 105]⟩ : ByteArray)) (br (decide ((3 : Int) ≤ (((ByteArray.size x3) : Nat) : Int))) (bd (impl_ApplyOp.f k (ByteArray.extract x3 (Int.toNat (0 : Int)) (Int.toNat (3 : Int))) x1 x7) fun r20 => (br r20.2 (some (r20.1 == r14)) (some false))) none) (bd (impl_ApplyOp.f k x3 x1 x2) fun r21 => (br r21.2 (some (r21.1 == r14)) (some false)))) (br (seq x3 (⟨#[120, 111, 114, 105]⟩ : ByteArray)) (br (seq x3 (⟨#[120, 111, 114, 105]⟩ : ByteArray)) (br (decide ((3 : Int) ≤ (((ByteArray.size x3) : Nat) : Int))) (bd (impl_ApplyOp.f k (ByteArray.extract x3 (Int.toNat (0 : Int)) (Int.toNat (3 : Int))) x1 x7) fun r22 => (br r22.2 (some (r22.1 == r14)) (some false))) none) (bd (impl_ApplyOp.f k x3 x1 x2) fun r23 => (br r23.2 (some (r23.1 == r14)) (some false)))) (br (seq x3 (⟨#[115, 104, 108, 105]⟩ : ByteArray)) (br (seq x3 (⟨#[115, 104, 108, 105]⟩ : ByteArray)) (br (decide ((3 : Int) ≤ (((ByteArray.size x3) : Nat) : Int))) (bd (impl_ApplyOp.f k (ByteArray.extract x3 (Int.toNat (0 : Int)) (Int.toNat (3 : Int))) x1 x7) fun r24 => (br r24.2 (some (r24.1 == r14)) (some false))) none) (bd (impl_ApplyOp.f k x3 x1 x2) fun r25 => (br r25.2 (some (r25.1 == r14)) (some false)))) (br (seq x3 (⟨#[115, 104, 114, 105]⟩ : ByteArray)) (br (decide ((3 : Int) ≤ (((ByteArray.size x3) : Nat) : Int))) (bd (impl_ApplyOp.f k (ByteArray.extract x3 (Int.toNat (0 : Int)) (Int.toNat (3 : Int))) x1 x7) fun r26 => (br r26.2 (some (r26.1 == r14)) (some false))) none) (bd (impl_ApplyOp.f k x3 x1 x2) fun r27 => (br r27.2 (some (r27.1 == r14)) (some false)))))))))) (br (seq x3 (⟨#[110, 101, 103]⟩ : ByteArray)) (bd (impl_ApplyOp.f k x3 x1 (0 : Int)) fun r28 => (br r28.2 (some (r28.1 == r14)) (some false))) (br (seq x3 (⟨#[108, 101, 97]⟩ : ByteArray)) (bd (impl_ApplyOp.f k (⟨#[115, 104, 108]⟩ : ByteArray) x2 x7) fun r29 => (bd (impl_ApplyOp.f k (⟨#[97, 100, 100]⟩ : ByteArray) x1 r29.1) fun r30 => (br r29.2 (br r30.2 (some (r30.1 == r14)) (some false)) (some false)))) (br (seq x3 (⟨#[97, 100, 100, 105]⟩ : ByteArray)) (br (seq x3 (⟨#[97, 100, 100, 105]⟩ : ByteArray)) (br (decide ((3 : Int) ≤ (((ByteArray.size x3) : Nat) : Int))) (bd (impl_ApplyOp.f k (ByteArray.extract x3 (Int.toNat (0 : Int)) (Int.toNat (3 : Int))) x1 x7) fun r31 => (br r31.2 (some (r31.1 == r14)) (some false))) none) (bd (impl_ApplyOp.f k x3 x1 x2) fun r32 => (br r32.2 (some (r32.1 == r14)) (some false)))) (br (seq x3 (⟨#[97, 110, 100, 105]⟩ : ByteArray)) (br (seq x3 (⟨#[97, 110, 100, 105]⟩ : ByteArray)) (br (decide ((3 : Int) ≤ (((ByteArray.size x3) : Nat) : Int))) (bd (impl_ApplyOp.f k (ByteArray.extract x3 (Int.toNat (0 : Int)) (Int.toNat (3 : Int))) x1 x7) fun r33 => (br r33.2 (some (r33.1 == r14)) (some false))) none) (bd (impl_ApplyOp.f k x3 x1 x2) fun r34 => (br r34.2 (some (r34.1 == r14)) (some false)))) (br (seq x3 (⟨#[120, 111, 114, 105]⟩ : ByteArray)) (br (seq x3 (⟨#[120, 111, 114, 105]⟩ : ByteArray)) (br (decide ((3 : Int) ≤ (((ByteArray.size x3) : Nat) : Int))) (bd (impl_ApplyOp.f k (ByteArray.extract x3 (Int.toNat (0 : Int)) (Int.toNat (3 : Int))) x1 x7) fun r35 => (br r35.2 (some (r35.1 == r14)) (some false))) none) (bd (impl_ApplyOp.f k x3 x1 x2) fun r36 => (br r36.2 (some (r36.1 == r14)) (some false)))) (br (seq x3 (⟨#[115, 104, 108, 105]⟩ : ByteArray)) (br (seq x3 (⟨#[115, 104, 108, 105]⟩ : ByteArray)) (br (decide ((3 : Int) ≤ (((ByteArray.size x3) : Nat) : Int))) (bd (impl_ApplyOp.f k (ByteArray.extract x3 (Int.toNat (0 : Int)) (Int.toNat (3 : Int))) x1 x7) fun r37 => (br r37.2 (some (r37.1 == r14)) (some false))) none) (bd (impl_ApplyOp.f k x3 x1 x2) fun r38 => (br r38.2 (some (r38.1 == r14)) (some false)))) (br (seq x3 (⟨#[115, 104, 114, 105]⟩ : ByteArray)) (br (decide ((3 : Int) ≤ (((ByteArray.size x3) : Nat) : Int))) (bd (impl_ApplyOp.f k (ByteArray.extract x3 (Int.toNat (0 : Int)) (Int.toNat (3 : Int))) x1 x7) fun r39 => (br r39.2 (some (r39.1 == r14)) (some false))) none) (bd (impl_ApplyOp.f k x3 x1 x2) fun r40 => (br r40.2 (some (r40.1 == r14)) (some false)))))))))))))) none) := by kernel_rfl
theorem laws_FnInstructionsStep.b : fnB P0 4 (ntOf P0 4) = true := by kernel_rfl
theorem laws_FnInstructionsStep.Tok (k : Nat) : TS P0 (laws_FnInstructionsStep.T k) := (tabs_cons (laws_big.tok) (tabs_cons (laws_pSame.tok k) (tabs_cons (impl_StepInstr.tok k) (tabs_cons (spec_DrawStepInstr.tok k) (tabs_cons (spec_StepInstr.tok k) (tabs_cons (spec_DrawCostOfInstr.tok k) (tabs_cons (impl_CostOfInstr.tok k) (tabs_cons (spec_CostOfInstr.tok) (tabs_cons (impl_ReadsOf.tok k) (tabs_cons (spec_ReadsOf.tok k) (tabs_cons (impl_IsInstr.tok k) (tabs_cons (impl_ApplyOp.tok k) tabs_nil))))))))))))
theorem laws_FnInstructionsStep.calls (k : Nat) (a0 : (List Int)) (a1 : (List Int)) {r : Bool} (h : laws_FnInstructionsStep.f k a0 a1 = some r) : ACalls P0 4 [mkP false (.sl (.i .u8)) a0, mkP false (.sl (.i .u8)) a1] [] (enc0 (cV false .b) r) := fn0 (E := laws_FnInstructionsStep.E) mix (T := laws_FnInstructionsStep.T) laws_FnInstructionsStep.Tok (f := 4) laws_FnInstructionsStep.b (cd := (cV false .b)) (cV_ok _ _) (cvs := [.id]) h
noncomputable def laws_FnInstructionsStep.v (a0 : (List Int)) (a1 : (List Int)) := lim fun _ k => laws_FnInstructionsStep.f k a0 a1
noncomputable def laws_FnInstructionsStep.v0 (x0 : List Int) (x1 : List Int) (x2 : List Int) (x3 : Bool) (x4 : List Int) (x5 : Bool) (x6 : ByteArray) (x7 : Int) (x8 : Int) (x9 : Int) (x10 : Int) := lim fun _ k => laws_FnInstructionsStep.l0 k x0 x1 x2 x3 x4 x5 x6 x7 x8 x9 x10
noncomputable def laws_FnInstructionsStep.v1 (x0 : List Int) (x1 : List Int) (x2 : List Int) (x3 : Bool) (x4 : ByteArray) (x5 : Int) (x6 : Int) (x7 : Int) (x8 : Int) := lim fun _ k => laws_FnInstructionsStep.l1 k x0 x1 x2 x3 x4 x5 x6 x7 x8
noncomputable def laws_FnInstructionsStep.v2 (x0 : List Int) (x1 : List Int) (x2 : Bool) (x3 : Int) (x4 : Bool) (x5 : Int) (x6 : Bool) (x7 : ByteArray) (x8 : Int) (x9 : Int) (x10 : Int) (x11 : Int) (x12 : ByteArray) (x13 : Int) (x14 : Int) (x15 : Int) (x16 : Int) := lim fun _ k => laws_FnInstructionsStep.l2 k x0 x1 x2 x3 x4 x5 x6 x7 x8 x9 x10 x11 x12 x13 x14 x15 x16
noncomputable def laws_FnInstructionsStep.v3 (x0 : List Int) (x1 : List Int) (x2 : Bool) (x3 : Int) (x4 : Bool) (x5 : Int) (x6 : Bool) (x7 : List Int) (x8 : Bool) (x9 : List Int) (x10 : Bool) (x11 : ByteArray) (x12 : Int) (x13 : Int) (x14 : Int) (x15 : Int) (x16 : ByteArray) (x17 : Int) (x18 : Int) (x19 : Int) (x20 : Int) := lim fun _ k => laws_FnInstructionsStep.l3 k x0 x1 x2 x3 x4 x5 x6 x7 x8 x9 x10 x11 x12 x13 x14 x15 x16 x17 x18 x19 x20
noncomputable def laws_FnInstructionsStep.v4 (x0 : List Int) (x1 : List Int) (x2 : Bool) (x3 : ByteArray) (x4 : Int) (x5 : Int) (x6 : Int) (x7 : Int) := lim fun _ k => laws_FnInstructionsStep.l4 k x0 x1 x2 x3 x4 x5 x6 x7
noncomputable def laws_FnInstructionsStep.v5 (x0 : List Int) (x1 : List Int) (x2 : ByteArray) (x3 : Int) (x4 : Int) (x5 : Int) (x6 : Int) := lim fun _ k => laws_FnInstructionsStep.l5 k x0 x1 x2 x3 x4 x5 x6
noncomputable def laws_FnInstructionsStep.v6 (x0 : List Int) (x1 : Int) (x2 : Int) (x3 : ByteArray) (x4 : Int) (x5 : Int) (x6 : Int) (x7 : Int) := lim fun _ k => laws_FnInstructionsStep.l6 k x0 x1 x2 x3 x4 x5 x6 x7
theorem laws_FnInstructionsStep.vs (a0 : (List Int)) (a1 : (List Int)) {r} (h : (bd (laws_big.f a0 a1) fun r0 => (br r0 (some true) (bd (spec_DrawStepInstr.v a0) fun r1 => (bd (impl_StepInstr.v r1.1 r1.2) fun r2 => (bd (spec_StepInstr.v r1.1 r1.2) fun r3 => (laws_FnInstructionsStep.v0 a1 r1.2 r2.1 r2.2 r3.1 r3.2 r1.1.1 r1.1.2.1 r1.1.2.2.1 r1.1.2.2.2.1 r1.1.2.2.2.2)))))) = some r) : laws_FnInstructionsStep.v a0 a1 = some r := vstep (fun d k => laws_FnInstructionsStep.eq k a0 a1) h
theorem laws_FnInstructionsStep.v0s (x0 : List Int) (x1 : List Int) (x2 : List Int) (x3 : Bool) (x4 : List Int) (x5 : Bool) (x6 : ByteArray) (x7 : Int) (x8 : Int) (x9 : Int) (x10 : Int) {r} (h : (br (Bool.not (x3 == x5)) (some false) (bd (laws_pSame.v x2 x4) fun r4 => (br (Bool.not r4) (some false) (laws_FnInstructionsStep.v1 x0 x1 x2 x5 x6 x7 x8 x9 x10)))) = some r) : laws_FnInstructionsStep.v0 x0 x1 x2 x3 x4 x5 x6 x7 x8 x9 x10 = some r := vstep (fun d k => laws_FnInstructionsStep.l0_eq k x0 x1 x2 x3 x4 x5 x6 x7 x8 x9 x10) h
theorem laws_FnInstructionsStep.v1s (x0 : List Int) (x1 : List Int) (x2 : List Int) (x3 : Bool) (x4 : ByteArray) (x5 : Int) (x6 : Int) (x7 : Int) (x8 : Int) {r} (h : (bd (spec_DrawCostOfInstr.v x0) fun r5 => (bd (impl_CostOfInstr.v r5) fun r6 => (bd (spec_CostOfInstr.f r5) fun r7 => (laws_FnInstructionsStep.v2 x1 x2 x3 r6.1 r6.2 r7.1 r7.2 x4 x5 x6 x7 x8 r5.1 r5.2.1 r5.2.2.1 r5.2.2.2.1 r5.2.2.2.2)))) = some r) : laws_FnInstructionsStep.v1 x0 x1 x2 x3 x4 x5 x6 x7 x8 = some r := vstep (fun d k => laws_FnInstructionsStep.l1_eq k x0 x1 x2 x3 x4 x5 x6 x7 x8) h
theorem laws_FnInstructionsStep.v2s (x0 : List Int) (x1 : List Int) (x2 : Bool) (x3 : Int) (x4 : Bool) (x5 : Int) (x6 : Bool) (x7 : ByteArray) (x8 : Int) (x9 : Int) (x10 : Int) (x11 : Int) (x12 : ByteArray) (x13 : Int) (x14 : Int) (x15 : Int) (x16 : Int) {r} (h : (bd (impl_ReadsOf.v (x12, (x13, (x14, (x15, x16))))) fun r8 => (bd (spec_ReadsOf.v (x12, (x13, (x14, (x15, x16))))) fun r9 => (laws_FnInstructionsStep.v3 x0 x1 x2 x3 x4 x5 x6 r8.1 r8.2 r9.1 r9.2 x7 x8 x9 x10 x11 x12 x13 x14 x15 x16))) = some r) : laws_FnInstructionsStep.v2 x0 x1 x2 x3 x4 x5 x6 x7 x8 x9 x10 x11 x12 x13 x14 x15 x16 = some r := vstep (fun d k => laws_FnInstructionsStep.l2_eq k x0 x1 x2 x3 x4 x5 x6 x7 x8 x9 x10 x11 x12 x13 x14 x15 x16) h
theorem laws_FnInstructionsStep.v3s (x0 : List Int) (x1 : List Int) (x2 : Bool) (x3 : Int) (x4 : Bool) (x5 : Int) (x6 : Bool) (x7 : List Int) (x8 : Bool) (x9 : List Int) (x10 : Bool) (x11 : ByteArray) (x12 : Int) (x13 : Int) (x14 : Int) (x15 : Int) (x16 : ByteArray) (x17 : Int) (x18 : Int) (x19 : Int) (x20 : Int) {r} (h : (br (Bool.not (x4 == x6)) (some false) (br (x3 != x5) (some false) (br (Bool.not (x8 == x10)) (some false) (bd (laws_pSame.v x7 x9) fun r10 => (br (Bool.not r10) (some false) (bd (impl_IsInstr.v (x16, (x17, (x18, (x19, x20))))) fun r11 => (br (Bool.not (x4 == r11)) (some false) (br (Bool.not (x8 == x4)) (some false) (laws_FnInstructionsStep.v4 x0 x1 x2 x11 x12 x13 x14 x15))))))))) = some r) : laws_FnInstructionsStep.v3 x0 x1 x2 x3 x4 x5 x6 x7 x8 x9 x10 x11 x12 x13 x14 x15 x16 x17 x18 x19 x20 = some r := vstep (fun d k => laws_FnInstructionsStep.l3_eq k x0 x1 x2 x3 x4 x5 x6 x7 x8 x9 x10 x11 x12 x13 x14 x15 x16 x17 x18 x19 x20) h
theorem laws_FnInstructionsStep.v4s (x0 : List Int) (x1 : List Int) (x2 : Bool) (x3 : ByteArray) (x4 : Int) (x5 : Int) (x6 : Int) (x7 : Int) {r} (h : (br (Bool.not x2) (some true) (laws_FnInstructionsStep.v5 x0 x1 x3 x4 x5 x6 x7)) = some r) : laws_FnInstructionsStep.v4 x0 x1 x2 x3 x4 x5 x6 x7 = some r := vstep (fun d k => laws_FnInstructionsStep.l4_eq k x0 x1 x2 x3 x4 x5 x6 x7) h
theorem laws_FnInstructionsStep.v5s (x0 : List Int) (x1 : List Int) (x2 : ByteArray) (x3 : Int) (x4 : Int) (x5 : Int) (x6 : Int) {r} (h : (br (decide ((0 : Int) ≤ x4)) (gt x0 (Int.toNat x4) fun r12 => (br (decide ((0 : Int) ≤ x5)) (gt x0 (Int.toNat x5) fun r13 => (laws_FnInstructionsStep.v6 x1 r12 r13 x2 x3 x4 x5 x6)) none)) none) = some r) : laws_FnInstructionsStep.v5 x0 x1 x2 x3 x4 x5 x6 = some r := vstep (fun d k => laws_FnInstructionsStep.l5_eq k x0 x1 x2 x3 x4 x5 x6) h
theorem laws_FnInstructionsStep.v6s (x0 : List Int) (x1 : Int) (x2 : Int) (x3 : ByteArray) (x4 : Int) (x5 : Int) (x6 : Int) (x7 : Int) {r} (h : (br (decide ((0 : Int) ≤ x4)) (gt x0 (Int.toNat x4) fun r14 => (br (seq x3 (⟨#[115, 101, 116]⟩ : ByteArray)) (some (r14 == x7)) (br (seq x3 (⟨#[109, 111, 118]⟩ : ByteArray)) (some (r14 == x1)) (br (seq x3 (⟨#[110, 111, 116]⟩ : ByteArray)) (br (seq x3 (⟨#[110, 111, 116]⟩ : ByteArray)) (bd (impl_ApplyOp.v x3 x1 (0 : Int)) fun r15 => (br r15.2 (some (r15.1 == r14)) (some false))) (br (seq x3 (⟨#[108, 101, 97]⟩ : ByteArray)) (bd (impl_ApplyOp.v (⟨#[115, 104, 108]⟩ : ByteArray) x2 x7) fun r16 => (bd (impl_ApplyOp.v (⟨#[97, 100, 100]⟩ : ByteArray) x1 r16.1) fun r17 => (br r16.2 (br r17.2 (some (r17.1 == r14)) (some false)) (some false)))) (br (seq x3 (⟨#[97, 100, 100, 105]⟩ : ByteArray)) (br (seq x3 (⟨#[97, 100, 100, 105]⟩ : ByteArray)) (br (decide ((3 : Int) ≤ (((ByteArray.size x3) : Nat) : Int))) (bd (impl_ApplyOp.v (ByteArray.extract x3 (Int.toNat (0 : Int)) (Int.toNat (3 : Int))) x1 x7) fun r18 => (br r18.2 (some (r18.1 == r14)) (some false))) none) (bd (impl_ApplyOp.v x3 x1 x2) fun r19 => (br r19.2 (some (r19.1 == r14)) (some false)))) (br (seq x3 (⟨#[97, 110, 100, 105]⟩ : ByteArray)) (br (seq x3 (⟨#[97, 110, 100, 105]⟩ : ByteArray)) (br (decide ((3 : Int) ≤ (((ByteArray.size x3) : Nat) : Int))) (bd (impl_ApplyOp.v (ByteArray.extract x3 (Int.toNat (0 : Int)) (Int.toNat (3 : Int))) x1 x7) fun r20 => (br r20.2 (some (r20.1 == r14)) (some false))) none) (bd (impl_ApplyOp.v x3 x1 x2) fun r21 => (br r21.2 (some (r21.1 == r14)) (some false)))) (br (seq x3 (⟨#[120, 111, 114, 105]⟩ : ByteArray)) (br (seq x3 (⟨#[120, 111, 114, 105]⟩ : ByteArray)) (br (decide ((3 : Int) ≤ (((ByteArray.size x3) : Nat) : Int))) (bd (impl_ApplyOp.v (ByteArray.extract x3 (Int.toNat (0 : Int)) (Int.toNat (3 : Int))) x1 x7) fun r22 => (br r22.2 (some (r22.1 == r14)) (some false))) none) (bd (impl_ApplyOp.v x3 x1 x2) fun r23 => (br r23.2 (some (r23.1 == r14)) (some false)))) (br (seq x3 (⟨#[115, 104, 108, 105]⟩ : ByteArray)) (br (seq x3 (⟨#[115, 104, 108, 105]⟩ : ByteArray)) (br (decide ((3 : Int) ≤ (((ByteArray.size x3) : Nat) : Int))) (bd (impl_ApplyOp.v (ByteArray.extract x3 (Int.toNat (0 : Int)) (Int.toNat (3 : Int))) x1 x7) fun r24 => (br r24.2 (some (r24.1 == r14)) (some false))) none) (bd (impl_ApplyOp.v x3 x1 x2) fun r25 => (br r25.2 (some (r25.1 == r14)) (some false)))) (br (seq x3 (⟨#[115, 104, 114, 105]⟩ : ByteArray)) (br (decide ((3 : Int) ≤ (((ByteArray.size x3) : Nat) : Int))) (bd (impl_ApplyOp.v (ByteArray.extract x3 (Int.toNat (0 : Int)) (Int.toNat (3 : Int))) x1 x7) fun r26 => (br r26.2 (some (r26.1 == r14)) (some false))) none) (bd (impl_ApplyOp.v x3 x1 x2) fun r27 => (br r27.2 (some (r27.1 == r14)) (some false)))))))))) (br (seq x3 (⟨#[110, 101, 103]⟩ : ByteArray)) (bd (impl_ApplyOp.v x3 x1 (0 : Int)) fun r28 => (br r28.2 (some (r28.1 == r14)) (some false))) (br (seq x3 (⟨#[108, 101, 97]⟩ : ByteArray)) (bd (impl_ApplyOp.v (⟨#[115, 104, 108]⟩ : ByteArray) x2 x7) fun r29 => (bd (impl_ApplyOp.v (⟨#[97, 100, 100]⟩ : ByteArray) x1 r29.1) fun r30 => (br r29.2 (br r30.2 (some (r30.1 == r14)) (some false)) (some false)))) (br (seq x3 (⟨#[97, 100, 100, 105]⟩ : ByteArray)) (br (seq x3 (⟨#[97, 100, 100, 105]⟩ : ByteArray)) (br (decide ((3 : Int) ≤ (((ByteArray.size x3) : Nat) : Int))) (bd (impl_ApplyOp.v (ByteArray.extract x3 (Int.toNat (0 : Int)) (Int.toNat (3 : Int))) x1 x7) fun r31 => (br r31.2 (some (r31.1 == r14)) (some false))) none) (bd (impl_ApplyOp.v x3 x1 x2) fun r32 => (br r32.2 (some (r32.1 == r14)) (some false)))) (br (seq x3 (⟨#[97, 110, 100, 105]⟩ : ByteArray)) (br (seq x3 (⟨#[97, 110, 100, 105]⟩ : ByteArray)) (br (decide ((3 : Int) ≤ (((ByteArray.size x3) : Nat) : Int))) (bd (impl_ApplyOp.v (ByteArray.extract x3 (Int.toNat (0 : Int)) (Int.toNat (3 : Int))) x1 x7) fun r33 => (br r33.2 (some (r33.1 == r14)) (some false))) none) (bd (impl_ApplyOp.v x3 x1 x2) fun r34 => (br r34.2 (some (r34.1 == r14)) (some false)))) (br (seq x3 (⟨#[120, 111, 114, 105]⟩ : ByteArray)) (br (seq x3 (⟨#[120, 111, 114, 105]⟩ : ByteArray)) (br (decide ((3 : Int) ≤ (((ByteArray.size x3) : Nat) : Int))) (bd (impl_ApplyOp.v (ByteArray.extract x3 (Int.toNat (0 : Int)) (Int.toNat (3 : Int))) x1 x7) fun r35 => (br r35.2 (some (r35.1 == r14)) (some false))) none) (bd (impl_ApplyOp.v x3 x1 x2) fun r36 => (br r36.2 (some (r36.1 == r14)) (some false)))) (br (seq x3 (⟨#[115, 104, 108, 105]⟩ : ByteArray)) (br (seq x3 (⟨#[115, 104, 108, 105]⟩ : ByteArray)) (br (decide ((3 : Int) ≤ (((ByteArray.size x3) : Nat) : Int))) (bd (impl_ApplyOp.v (ByteArray.extract x3 (Int.toNat (0 : Int)) (Int.toNat (3 : Int))) x1 x7) fun r37 => (br r37.2 (some (r37.1 == r14)) (some false))) none) (bd (impl_ApplyOp.v x3 x1 x2) fun r38 => (br r38.2 (some (r38.1 == r14)) (some false)))) (br (seq x3 (⟨#[115, 104, 114, 105]⟩ : ByteArray)) (br (decide ((3 : Int) ≤ (((ByteArray.size x3) : Nat) : Int))) (bd (impl_ApplyOp.v (ByteArray.extract x3 (Int.toNat (0 : Int)) (Int.toNat (3 : Int))) x1 x7) fun r39 => (br r39.2 (some (r39.1 == r14)) (some false))) none) (bd (impl_ApplyOp.v x3 x1 x2) fun r40 => (br r40.2 (some (r40.1 == r14)) (some false)))))))))))))) none) = some r) : laws_FnInstructionsStep.v6 x0 x1 x2 x3 x4 x5 x6 x7 = some r := vstep (fun d k => laws_FnInstructionsStep.l6_eq k x0 x1 x2 x3 x4 x5 x6 x7) h
end Go.Proofs.Ytkjlmkalkanimaa.Am
end
section
/- The law FnInstructionsStep, in plain Lean. -/
namespace Go.Proofs.Ytkjlmkalkanimaa.Am
open Go
set_option linter.unusedVariables false
set_option linter.unusedSimpArgs false
theorem bytes_of {l : List Int} (q : Qd (.sl (.i .u8)) l) : Bytes l := fun x hx => by
  have h := q.2 x hx
  simp only [Qd, Lit.wf] at h
  simpa [IntKind.min, IntKind.max, IntKind.bits, IntKind.signed] using h
theorem applyOp_v {s : ByteArray} {a b : Int} (hs : isOne s = true ∧ b = 0 ∨ isTwo s = true) (ha : word a) (hb : word b) : impl_ApplyOp.v s a b = some (appP s a b, true) := by
  refine impl_ApplyOp.vs _ _ _ ?_
  have wa : inB a 0 63 = true := inB_iff.2 ha
  have wb : inB b 0 63 = true := inB_iff.2 hb
  rw [operands_v, bd_s, isWord_f, bd_s, isWord_f, bd_s, wa, wb, apply_f _ _ _ hb.1]
  rcases hs with ⟨h, rfl⟩ | h
  · rw [arity_one h]; rfl
  · rw [arity_two h]; rfl
theorem set_get {l : List Int} {j : Nat} (h : j < l.length) (x : Int) : (l.set j x)[j]? = some x := by simp [h]
theorem instrStep_pure (x0 x1 : List Int) (q0 : Qd (.sl (.i .u8)) x0) (q1 : Qd (.sl (.i .u8)) x1) : ∃ k, laws_FnInstructionsStep.f k x0 x1 = some true := by
  refine Ev.some (lim_ev (laws_FnInstructionsStep.vs x0 x1 ?_))
  obtain ⟨r, hr, _⟩ := big_f x0 x1
  rw [hr, bd_s]
  cases r with
  | true => rfl
  | false =>
    rw [br_f rfl]
    obtain ⟨x, l, hd, hl⟩ := drawStep_v (bytes_of q0)
    obtain ⟨y, hy⟩ := drawCost_v (bytes_of q1)
    rw [hd, bd_s]
    dsimp only
    rw [stepInstr_v x l (by omega), bd_s, cdStepInstr_v x l (by omega), bd_s]
    refine laws_FnInstructionsStep.v0s _ _ _ _ _ _ _ _ _ _ _ ?_
    have len : (if (insOk x && regsOk l) = true then (stepP x l, true) else ([], false)).1.length ≤ 1000000 := by
      split
      · dsimp only; rw [stepP_len]; omega
      · simp
    rw [br_f (by simp), pSame_self _ len, bd_s, brn_t]
    refine laws_FnInstructionsStep.v1s _ _ _ _ _ _ _ _ _ ?_
    rw [hy, bd_s, costOfInstr_v, bd_s, cdCostOfInstr_f, bd_s]
    refine laws_FnInstructionsStep.v2s _ _ _ _ _ _ _ _ _ _ _ _ _ _ _ _ _ ?_
    have ey : (y.1, (y.2.1, (y.2.2.1, (y.2.2.2.1, y.2.2.2.2)))) = y := rfl
    rw [ey, readsOf_v, bd_s, cdReadsOf_v, bd_s]
    refine laws_FnInstructionsStep.v3s _ _ _ _ _ _ _ _ _ _ _ _ _ _ _ _ _ _ _ _ _ ?_
    rw [ey, br_f (by simp), br_f (by simp), br_f (by simp)]
    have len2 : (if insOk y = true then (readsP y, true) else ([], false)).1.length ≤ 1000000 := by
      split
      · dsimp only; have := readsP_len y; omega
      · simp
    rw [pSame_self _ len2, bd_s, brn_t, isInstr_v, bd_s]
    rw [br_f (by cases insOk y <;> rfl), br_f (by cases insOk y <;> rfl)]
    refine laws_FnInstructionsStep.v4s _ _ _ _ _ _ _ _ ?_
    cases hok : (insOk x && regsOk l) with
    | false => rw [if_neg (by simp)]; rfl
    | true =>
      rw [if_pos rfl, brn_t]
      dsimp only
      rw [Bool.and_eq_true] at hok
      have hx := insOk_of hok.1
      have hw := regs_of hok.2
      have h6 := hw.len
      refine laws_FnInstructionsStep.v5s _ _ _ _ _ _ _ ?_
      rw [br_t (decide_eq_true hx.a0), gt_some (getD_at hx.a0 (by have := hx.a1; omega)), br_t (decide_eq_true hx.b0), gt_some (getD_at hx.b0 (by have := hx.b1; omega))]
      refine laws_FnInstructionsStep.v6s _ _ _ _ _ _ _ _ ?_
      have hd : x.2.1.toNat < l.length := by have := hx.d0; have := hx.d1; omega
      rw [br_t (decide_eq_true hx.d0), gt_some (show (stepP x l)[x.2.1.toNat]? = some (wrdP x (l.getD x.2.2.1.toNat 0) (l.getD x.2.2.2.1.toNat 0)) from set_get hd _)]
      have ha := hw.get x.2.2.1.toNat
      have hb := hw.get x.2.2.2.1.toNat
      generalize l.getD x.2.2.1.toNat 0 = a at ha
      generalize l.getD x.2.2.2.1.toNat 0 = b at hb
      have him : word x.2.2.2.2 := ⟨hx.i0, hx.i1⟩
      have hk := hx.known
      clear hd hok hx hw h6 hl len
      obtain ⟨s, d, p, q, im⟩ := x
      dsimp only at him hk ⊢
      unfold wrdP isImm
      dsimp only
      simp only [seq_beq, br_if, decide_eq_true_eq]
      have e3 : Int.toNat (3 : Int) = 3 := rfl
      have e0 : Int.toNat (0 : Int) = 0 := rfl
      by_cases c1 : s = tSet
      · subst c1; simp
      by_cases c2 : s = tMov
      · subst c2; simp
      simp only [c1, c2, if_false]
      by_cases c3 : s = tNot
      · subst c3
        simp only [applyOp_v (s := tNot) (.inl ⟨rfl, rfl⟩) ha ⟨Int.le_refl 0, by decide⟩, bd_s, appP_one (s := tNot) rfl a b]
        simp
        try decide
      by_cases c4 : s = tNeg
      · subst c4
        simp only [applyOp_v (s := tNeg) (.inl ⟨rfl, rfl⟩) ha ⟨Int.le_refl 0, by decide⟩, bd_s, appP_one (s := tNeg) rfl a b]
        simp
        try decide
      simp only [c3, c4, if_false]
      by_cases c5 : s = tLea
      · subst c5
        have hv := appP_word tShl b im him.1
        simp only [applyOp_v (s := tShl) (.inr rfl) hb him, applyOp_v (s := tAdd) (.inr rfl) ha hv, bd_s]
        simp
      simp only [c5, if_false, e3, e0]
      by_cases c6 : s = tAddi
      · subst c6
        simp only [show ByteArray.extract tAddi 0 3 = tAdd from rfl, applyOp_v (s := tAdd) (.inr rfl) ha him, bd_s]
        simp
        all_goals decide
      by_cases c7 : s = tAndi
      · subst c7
        simp only [show ByteArray.extract tAndi 0 3 = (⟨#[97, 110, 100]⟩ : ByteArray) from rfl, applyOp_v (s := (⟨#[97, 110, 100]⟩ : ByteArray)) (.inr rfl) ha him, bd_s]
        simp
        all_goals decide
      by_cases c8 : s = tXori
      · subst c8
        simp only [show ByteArray.extract tXori 0 3 = (⟨#[120, 111, 114]⟩ : ByteArray) from rfl, applyOp_v (s := (⟨#[120, 111, 114]⟩ : ByteArray)) (.inr rfl) ha him, bd_s]
        simp
        all_goals decide
      by_cases c9 : s = tShli
      · subst c9
        simp only [show ByteArray.extract tShli 0 3 = tShl from rfl, applyOp_v (s := tShl) (.inr rfl) ha him, bd_s]
        simp
        all_goals decide
      by_cases c10 : s = tShri
      · subst c10
        simp only [show ByteArray.extract tShri 0 3 = tShr from rfl, applyOp_v (s := tShr) (.inr rfl) ha him, bd_s]
        simp
        all_goals decide
      simp only [c6, c7, c8, c9, c10, if_false, decide_false, Bool.or_self, Bool.false_eq_true]
      have h2 : isTwo s = true := by
        have h1 : isOne s = false := by simp [isOne, c3, c4]
        unfold formP at hk
        rw [if_neg c1, if_neg c2, h1, if_neg (by simp)] at hk
        cases h : isTwo s with
        | true => rfl
        | false =>
          rw [h, if_neg (by simp), if_neg c6, if_neg c7, if_neg c8, if_neg c9, if_neg c10, if_neg c5] at hk
          cases hk
      rw [applyOp_v (.inr h2) ha hb, bd_s]
      simp
end Go.Proofs.Ytkjlmkalkanimaa.Am
end
