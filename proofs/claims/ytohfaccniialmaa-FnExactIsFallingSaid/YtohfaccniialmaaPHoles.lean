/- Which inputs an expression reads: the reference's holes, the program's inputs. -/
import Derived.Test.YtohfaccniialmaaPWalked
namespace Go.Proofs.Ytohfaccniialmaa.Am
open Go
set_option linter.unusedVariables false
set_option linter.unusedSimpArgs false

def isH (v : Int) (n : Nd) : Bool := decide (n.1 = tIn) && decide (n.2.2.2 = v)
def cntH (l : List Nd) (v : Int) : Nat := l.countP (isH v)
theorem ruHoles_ev (e : List Nd) (hl : e.length ≤ 1048576) : Ev (fun k => spec_ruHoles.f k e) ((cntH e 0 : Int), (cntH e 1 : Int)) := by
  refine Ev.step (fun k => spec_ruHoles.eq k e) ?_
  have key : ∀ (d i a b : Nat), i + d = e.length → a ≤ i → b ≤ i → Ev (fun k => spec_ruHoles.l0 k (a : Int) (b : Int) e (e.length : Int) (i : Int)) (((a + cntH (e.drop i) 0 : Nat) : Int), ((b + cntH (e.drop i) 1 : Nat) : Int)) := by
    intro d
    induction d with
    | zero =>
      intro i a b hi ha hb
      refine Ev.step (fun k => spec_ruHoles.l0_eq k _ _ _ _ _) (Ev.neg (by simp; omega) (Ev.ret ?_))
      rw [List.drop_eq_nil_of_le (by omega)]
      simp [cntH]
    | succ d ih =>
      intro i a b hi ha hb
      have hlt : i < e.length := by omega
      have na : IntKind.wrap .i64 ((a : Int) + 1) = ((a + 1 : Nat) : Int) := by rw [wrap_ok (by omega) (by omega)]; rfl
      have nb : IntKind.wrap .i64 ((b : Int) + 1) = ((b + 1 : Nat) : Int) := by rw [wrap_ok (by omega) (by omega)]; rfl
      refine Ev.step (fun k => spec_ruHoles.l0_eq k _ _ _ _ _) (Ev.pos (by simpa using hlt) (Ev.pos (by simp) (Ev.get hlt ?_)))
      rw [next_ok i _ hlt (by omega), na, nb, drop_at e i hlt]
      have c0 : ∀ v, cntH (e[i] :: e.drop (i + 1)) v = cntH (e.drop (i + 1)) v + (if isH v e[i] = true then 1 else 0) := fun v => by unfold cntH; rw [List.countP_cons]
      rw [c0 0, c0 1]
      by_cases c : e[i].1 = tIn
      · refine Ev.pos (seq_t c) ?_
        by_cases v0 : e[i].2.2.2 = 0
        · refine Ev.pos (by simpa using v0) (Ev.pos (seq_t c) (Ev.neg (by simp [v0]) ?_))
          refine Ev.eq (ih (i + 1) (a + 1) b (by omega) (by omega) (by omega)) ?_
          simp [isH, c, v0, Nat.add_assoc, Nat.add_comm, Nat.add_left_comm]
        · refine Ev.neg (by simpa using v0) (Ev.pos (seq_t c) ?_)
          by_cases v1 : e[i].2.2.2 = 1
          · refine Ev.pos (by simpa using v1) ?_
            refine Ev.eq (ih (i + 1) a (b + 1) (by omega) (by omega) (by omega)) ?_
            simp [isH, c, v1, Nat.add_assoc, Nat.add_comm, Nat.add_left_comm]
          · refine Ev.neg (by simpa using v1) ?_
            refine Ev.eq (ih (i + 1) a b (by omega) (by omega) (by omega)) ?_
            simp [isH, c, v0, v1]
      · refine Ev.neg (seq_f c) (Ev.neg (seq_f c) ?_)
        refine Ev.eq (ih (i + 1) a b (by omega) (by omega) (by omega)) ?_
        simp [isH, c]
  have := key e.length 0 0 0 (by omega) (by omega) (by omega)
  simpa using this
theorem containsN_ev (l : List Nd) (s : Nd) (hl : l.length ≤ 9223372036854775000) : Ev (fun k => slices_Contains_Node.f k l s) (l.any (nodeEq s)) := by
  have key : ∀ (d : Nat) (i : Nat), i + d = l.length → ∃ r : Int, Ev (fun k => slices_Index_Node.l0 k l (l.length : Int) (i : Int) s.1 s.2.1 s.2.2.1 s.2.2.2) r ∧ (0 ≤ r ↔ (l.drop i).any (nodeEq s) = true) := by
    intro d
    induction d with
    | zero =>
      intro i h
      refine ⟨-1, Ev.step (fun k => slices_Index_Node.l0_eq k _ _ _ _ _ _ _) (Ev.neg (by simp; omega) (Ev.now _)), ?_⟩
      rw [List.drop_eq_nil_of_le (by omega)]; simp
    | succ d ih =>
      intro i h
      have hi : i < l.length := by omega
      by_cases c : nodeEq s l[i] = true
      · refine ⟨i, Ev.step (fun k => slices_Index_Node.l0_eq k _ _ _ _ _ _ _) (Ev.pos (by simpa using hi) (Ev.pos (by simp) (Ev.get hi (Ev.pos c (Ev.now _))))), ?_⟩
        rw [drop_at _ _ hi, List.any_cons]; simp [c]
      · obtain ⟨r, hev, hiff⟩ := ih (i + 1) (by omega)
        have hf : nodeEq s l[i] = false := by simpa using c
        refine ⟨r, Ev.step (fun k => slices_Index_Node.l0_eq k _ _ _ _ _ _ _) (Ev.pos (by simpa using hi) (Ev.pos (by simp) (Ev.get hi (Ev.neg hf (by rw [next_ok i _ hi hl]; exact hev))))), ?_⟩
        rw [hiff, drop_at _ _ hi, List.any_cons]; simp [hf]
  obtain ⟨r, hev, hiff⟩ := key l.length 0 (by omega)
  refine Ev.step (fun k => slices_Contains_Node.eq k l s) (Ev.bind (b := r) (Ev.step (fun k => slices_Index_Node.eq k l s) hev) (Ev.ret ?_))
  rw [Bool.eq_iff_iff, decide_eq_true_iff]
  exact hiff
/-- an input that is read -/
def hasH (e : List Nd) (v : Int) : Bool := e.any (nodeEq (tIn, (0 : Int), (0 : Int), v))
def inputsOf (e : List Nd) : List Int := (if hasH e 0 = true then [0] else []) ++ (if hasH e 1 = true then [1] else [])
theorem inputs_ev (e : List Nd) (hl : e.length ≤ 1048576) : Ev (fun k => impl_inputs.f k e) (inputsOf e) := by
  refine Ev.step (fun k => impl_inputs.eq k e) (Ev.step (fun k => impl_inputs.l0_eq k _ _ _) (Ev.pos (by decide) (Ev.bind (containsN_ev e _ (by omega)) ?_)))
  have two : ∀ (x : List Int), x.length ≤ 1 → Ev (fun k => impl_inputs.l0 k e (IntKind.wrap .i64 ((0 : Int) + 1)) x) (x ++ (if hasH e 1 = true then [1] else [])) := by
    intro x hx
    rw [show IntKind.wrap .i64 ((0 : Int) + 1) = 1 from wrap_ok (by omega) (by omega)]
    have fin : ∀ y : List Int, Ev (fun k => impl_inputs.l0 k e (IntKind.wrap .i64 ((1 : Int) + 1)) y) y := fun y => by
      rw [show IntKind.wrap .i64 ((1 : Int) + 1) = 2 from wrap_ok (by omega) (by omega)]
      exact Ev.step (fun k => impl_inputs.l0_eq k _ _ _) (Ev.neg (by decide) (Ev.now _))
    refine Ev.step (fun k => impl_inputs.l0_eq k _ _ _) (Ev.pos (by decide) (Ev.bind (containsN_ev e _ (by omega)) ?_))
    by_cases h : hasH e 1 = true
    · rw [if_pos h]; exact Ev.pos h (Ev.pos (by simp; omega) (fin _))
    · rw [if_neg h]; have h' : hasH e 1 = false := by simpa using h
      exact Ev.neg h' (Ev.eq (fin _) (by simp))
  unfold inputsOf
  by_cases h : hasH e 0 = true
  · rw [if_pos h]; exact Ev.pos h (Ev.pos (by simp) (two _ (by simp)))
  · rw [if_neg h]; have h' : hasH e 0 = false := by simpa using h
    exact Ev.neg h' (two _ (by simp))
end Go.Proofs.Ytohfaccniialmaa.Am
