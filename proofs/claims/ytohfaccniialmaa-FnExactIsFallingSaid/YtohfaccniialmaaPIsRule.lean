/- IsRule: the program's function and the reference's answer alike; the law. -/
import Derived.Test.YtohfaccniialmaaPHoles
import Derived.Test.YtohfaccniialmaaWRule
namespace Go.Proofs.Ytohfaccniialmaa.Am
open Go
set_option linter.unusedVariables false
set_option linter.unusedSimpArgs false

theorem hasH_cnt {e : List Nd} (hn : nodesOk e 0 = true) (v : Int) : hasH e v = decide (0 < cntH e v) := by
  rw [Bool.eq_iff_iff, decide_eq_true_iff]
  unfold hasH cntH
  rw [List.countP_pos_iff, List.any_eq_true]
  constructor
  · rintro ⟨n, h1, h2⟩
    have := nodeEq_iff.1 h2
    exact ⟨n, h1, by rw [← this]; simp [isH]⟩
  · rintro ⟨n, h1, h2⟩
    refine ⟨n, h1, ?_⟩
    obtain ⟨j, hj, e1⟩ := List.getElem_of_mem h1
    have ho := nodesOk_get e 0 hn j hj
    rw [e1] at ho
    unfold isH at h2
    simp only [Bool.and_eq_true, decide_eq_true_eq] at h2
    unfold nodeOk at ho
    rw [if_pos h2.1] at ho
    simp only [Bool.and_eq_true, decide_eq_true_eq] at ho
    rw [nodeEq_iff]
    obtain ⟨a, b, c, d⟩ := n
    simp only at h2 ho ⊢
    rw [h2.1, ho.1.1, ho.1.2, h2.2]
def sidesL : List ByteArray := [(⟨#[97, 110, 121]⟩ : ByteArray), (⟨#[99, 111, 110, 115, 116]⟩ : ByteArray), (⟨#[111, 100, 100]⟩ : ByteArray), (⟨#[112, 111, 119, 101, 114]⟩ : ByteArray), (⟨#[115, 109, 97, 108, 108]⟩ : ByteArray)]
abbrev tAny : ByteArray := ⟨#[97, 110, 121]⟩
theorem ruSide_ev (s : ByteArray) : Ev (fun k => spec_ruSide.f k s) (isIn sidesL s) := Ev.step (fun k => spec_ruSide.eq k s) (Ev.bind (l1HasS_ev sidesL s (by decide)) (Ev.now _))
theorem isSide_ev (s : ByteArray) : Ev (fun k => impl_isSide.f k s) (isIn sidesL s) := Ev.step (fun k => impl_isSide.eq k s) (Ev.bind (containsS_ev sidesL s (by decide)) (Ev.now _))
/-- an input of r that is not one of l -/
theorem missing_ev (r l : List Int) (hr : r.length ≤ 1048576) (hl : l.length ≤ 1048576) : Ev (fun k => slices_ContainsFunc_int_IsRule.f k r l) (r.any fun x => !decide (x ∈ l), l) := by
  have key : ∀ (d : Nat) (i : Nat), i + d = r.length → ∃ q : Int, Ev (fun k => slices_IndexFunc_int_IsRule.l0 k r (r.length : Int) (i : Int) l) (q, l) ∧ (0 ≤ q ↔ ((r.drop i).any fun x => !decide (x ∈ l)) = true) := by
    intro d
    induction d with
    | zero =>
      intro i h
      refine ⟨-1, Ev.step (fun k => slices_IndexFunc_int_IsRule.l0_eq k _ _ _ _) (Ev.neg (by simp; omega) (Ev.now _)), ?_⟩
      rw [List.drop_eq_nil_of_le (by omega)]; simp
    | succ d ih =>
      intro i h
      have hi : i < r.length := by omega
      have one : Ev (fun k => impl_IsRule_1.f k r[i] l) (!decide (r[i] ∈ l), l) := Ev.step (fun k => impl_IsRule_1.eq k _ _) (Ev.bind (containsI_ev l r[i] (by omega)) (Ev.now _))
      by_cases c : r[i] ∈ l
      · obtain ⟨q, hev, hiff⟩ := ih (i + 1) (by omega)
        refine ⟨q, Ev.step (fun k => slices_IndexFunc_int_IsRule.l0_eq k _ _ _ _) (Ev.pos (by simpa using hi) (Ev.pos (by simp) (Ev.get hi (Ev.bind one (Ev.neg (by simp [c]) (by rw [next_ok i _ hi (by omega)]; exact hev)))))), ?_⟩
        rw [hiff, drop_at _ _ hi, List.any_cons]; simp [c]
      · refine ⟨i, Ev.step (fun k => slices_IndexFunc_int_IsRule.l0_eq k _ _ _ _) (Ev.pos (by simpa using hi) (Ev.pos (by simp) (Ev.get hi (Ev.bind one (Ev.pos (by simp [c]) (Ev.now _)))))), ?_⟩
        rw [drop_at _ _ hi, List.any_cons]; simp [c]
  obtain ⟨q, hev, hiff⟩ := key r.length 0 (by omega)
  refine Ev.step (fun k => slices_ContainsFunc_int_IsRule.eq k r l) (Ev.bind (b := (q, l)) (Ev.step (fun k => slices_IndexFunc_int_IsRule.eq k r l) hev) (Ev.ret ?_))
  rw [List.drop_zero] at hiff
  refine Prod.ext ?_ rfl
  simp only
  rw [Bool.eq_iff_iff, decide_eq_true_iff]
  exact hiff
theorem root_parts {e : List Nd} (hw : walked e = true) : ∃ h : e.length - 1 < e.length, (partsOf (e[e.length - 1]'h) = [] ↔ e.length = 1) := by
  unfold walked at hw
  simp only [Bool.and_eq_true, decide_eq_true_eq] at hw
  obtain ⟨hg, _, hk⟩ := hw
  obtain ⟨hn, h1, h24⟩ := exprOk_parts hg
  have hi : e.length - 1 < e.length := by omega
  refine ⟨hi, fun h => ?_, fun h => ?_⟩
  · rw [wk_at' hi (g := 25) (f := 24) rfl, h] at hk
    rw [← hk]
    rfl
  · have hp := exParts_in hn hi
    cases hq : partsOf e[e.length - 1] with
    | nil => rfl
    | cons p r =>
      have := hp p (by rw [hq]; exact List.mem_cons_self)
      omega
/-- the last word on a rule: its inputs and its side -/
def tailOk (l r : List Nd) (any : Bool) : Bool := (hasH l 0 || !hasH r 0) && (hasH l 1 || (!hasH r 1 && any))
def ruleOk (r : Rl) : Bool := isIn sidesL r.2.2 && (walked r.1 && (walked r.2.1 && (!decide (r.1.length = 1) && tailOk r.1 r.2.1 (decide (r.2.2 = tAny)))))
theorem walked_expr {e : List Nd} (h : walked e = true) : nodesOk e 0 = true ∧ 1 ≤ e.length ∧ e.length ≤ 24 := by
  unfold walked at h
  rw [Bool.and_eq_true] at h
  exact exprOk_parts h.1
theorem pos_cnt {e : List Nd} (hn : nodesOk e 0 = true) (v : Int) : decide (((cntH e v : Nat) : Int) > 0) = hasH e v := by
  rw [hasH_cnt hn]
  simp
theorem zero_cnt {e : List Nd} (hn : nodesOk e 0 = true) (v : Int) : (((cntH e v : Nat) : Int) == 0) = !hasH e v := by
  rw [hasH_cnt hn]
  cases h : cntH e v with
  | zero => simp
  | succ n => simp; omega
theorem ruGood_ev (r : Rl) (h1 : r.1.length ≤ 1048576) (h2 : r.2.1.length ≤ 1048576) : Ev (fun k => spec_ruGood.f k r) (ruleOk r) := by
  refine Ev.step (fun k => spec_ruGood.eq k r) (Ev.bind (ruSide_ev _) ?_)
  unfold ruleOk
  cases hs : isIn sidesL r.2.2 with
  | false => exact Ev.pos rfl (Ev.ret (by simp))
  | true =>
    refine Ev.neg rfl (Ev.bind (ruWalked_ev _ h1) ?_)
    cases hw1 : walked r.1 with
    | false => exact Ev.pos rfl (Ev.ret (by simp))
    | true =>
      refine Ev.neg rfl (Ev.bind (ruWalked_ev _ h2) ?_)
      cases hw2 : walked r.2.1 with
      | false => exact Ev.pos rfl (Ev.ret (by simp))
      | true =>
        refine Ev.neg rfl ?_
        obtain ⟨hn1, l1, l24⟩ := walked_expr hw1
        obtain ⟨hn2, _, _⟩ := walked_expr hw2
        obtain ⟨hi, hroot⟩ := root_parts hw1
        have hw : IntKind.wrap .i64 ((r.1.length : Int) - 1) = ((r.1.length - 1 : Nat) : Int) := by rw [wrap_ok (by omega) (by omega)]; omega
        rw [hw]
        refine Ev.pos (by simp) (Ev.get hi (Ev.bind (exParts_ev _) ?_))
        by_cases hl : r.1.length = 1
        · refine Ev.pos (by rw [hroot.2 hl]; rfl) (Ev.ret (by simp [hl]))
        · have hne : partsOf r.1[r.1.length - 1] ≠ [] := fun h => hl (hroot.1 h)
          refine Ev.neg (by
            cases hq : partsOf r.1[r.1.length - 1] with
            | nil => exact absurd hq hne
            | cons a q => simp; omega) (Ev.bind (ruHoles_ev _ h1) (Ev.bind (ruHoles_ev _ h2) ?_))
          simp only [pos_cnt hn1, zero_cnt hn2]
          unfold tailOk
          rw [seq_beq]
          cases hasH r.1 0 <;> cases hasH r.1 1 <;> cases hasH r.2.1 0 <;> cases hasH r.2.1 1 <;> exact Ev.ret (by simp [hl])
theorem isRule_ev (r : Rl) (h1 : r.1.length ≤ 1048576) (h2 : r.2.1.length ≤ 1048576) : Ev (fun k => impl_IsRule.f k r) (ruleOk r) := by
  refine Ev.step (fun k => impl_IsRule.eq k r) (Ev.bind (isWalked_ev _ h1) ?_)
  unfold ruleOk
  cases hw1 : walked r.1 with
  | false => exact Ev.pos rfl (Ev.ret (by simp))
  | true =>
    refine Ev.neg rfl (Ev.bind (isWalked_ev _ h2) ?_)
    cases hw2 : walked r.2.1 with
    | false => exact Ev.pos rfl (Ev.ret (by simp))
    | true =>
      refine Ev.neg rfl ?_
      by_cases hl : r.1.length = 1
      · exact Ev.pos (by simp [hl]) (Ev.ret (by simp [hl]))
      · refine Ev.neg (by simp; omega) (Ev.bind (isSide_ev _) ?_)
        cases hs : isIn sidesL r.2.2 with
        | false => exact Ev.pos rfl (Ev.ret (by simp))
        | true =>
          have il : ∀ e, (inputsOf e).length ≤ 2 := fun e => by unfold inputsOf; cases hasH e 0 <;> cases hasH e 1 <;> decide
          have i1 := il r.1
          have i2 := il r.2.1
          refine Ev.neg rfl (Ev.bind (inputs_ev _ h1) (Ev.bind (inputs_ev _ h2) (Ev.bind (missing_ev _ _ (by omega) (by omega)) ?_)))
          unfold tailOk
          have hc : Ev (fun k => slices_Contains_int.f k (inputsOf r.1) 1) (hasH r.1 1) := Ev.eq (containsI_ev _ _ (by omega)) (by unfold inputsOf; cases hasH r.1 0 <;> cases hasH r.1 1 <;> decide)
          by_cases ha : r.2.2 = tAny
          · cases a0 : hasH r.1 0 <;> cases a1 : hasH r.1 1 <;> cases b0 : hasH r.2.1 0 <;> cases b1 : hasH r.2.1 1 <;> simp only [inputsOf, a0, a1, b0, b1] <;>
              first
                | exact Ev.pos (by decide) (Ev.pos (seq_t ha) (Ev.ret (by simp [hl, ha])))
                | exact Ev.neg (by decide) (Ev.ret (by simp [hl, ha]))
          · rw [show decide (r.2.2 = tAny) = false from decide_eq_false ha]
            cases a0 : hasH r.1 0 <;> cases a1 : hasH r.1 1 <;> cases b0 : hasH r.2.1 0 <;> cases b1 : hasH r.2.1 1 <;> simp only [inputsOf, a0, a1, b0, b1] at hc ⊢ <;>
              first
                | exact Ev.pos (by decide) (Ev.neg (seq_f ha) (Ev.bind hc (Ev.ret (by simp [hl]))))
                | exact Ev.neg (by decide) (Ev.ret (by simp [hl]))
end Go.Proofs.Ytohfaccniialmaa.Am
