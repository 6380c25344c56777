/- When an expression is a tree: the program's function and the reference's. -/
import Derived.Test.YtohfaccniialmaaPGood
namespace Go.Proofs.Ytohfaccniialmaa.Am
open Go
set_option linter.unusedVariables false
set_option linter.unusedSimpArgs false

def Bnd (u : List Int) (m : Nat) : Prop := ∀ x ∈ u, 0 ≤ x ∧ x ≤ m
theorem bump_bnd {u : List Int} {m : Nat} (h : Bnd u m) (hm : m ≤ 1000000000) (p : Int) : Bnd (bumpU u p) (m + 1) := by
  intro x hx
  unfold bumpU at hx
  rcases List.mem_or_eq_of_mem_set hx with hx | hx
  · have := h x hx; omega
  · have hd : 0 ≤ u.getD p.toNat 0 ∧ u.getD p.toNat 0 ≤ m := by
      rw [List.getD_eq_getElem?_getD]
      cases hq : u[p.toNat]? with
      | none => simp
      | some y => exact h y (List.mem_of_getElem? hq)
    rw [hx, wrap_ok (by omega) (by omega)]
    omega
theorem fold_bnd : ∀ (l : List Int) (u : List Int) (m : Nat), Bnd u m → m + l.length ≤ 1000000000 → Bnd (l.foldl bumpU u) (m + l.length)
  | [], u, m, h, _ => h
  | p :: l, u, m, h, hm => by
    simp only [List.length_cons] at hm
    rw [List.foldl_cons, List.length_cons, show m + (l.length + 1) = (m + 1) + l.length by omega]
    exact fold_bnd l _ (m + 1) (bump_bnd h (by omega) p) (by omega)
theorem Bnd.mono {u : List Int} {m k : Nat} (h : Bnd u m) (hk : m ≤ k) : Bnd u k := fun x hx => by have := h x hx; omega
theorem folds_bnd : ∀ (l : List Nd) (u : List Int) (m : Nat), Bnd u m → m + 2 * l.length ≤ 1000000000 → Bnd (l.foldl bumps u) (m + 2 * l.length)
  | [], u, m, h, _ => h
  | n :: l, u, m, h, hm => by
    simp only [List.length_cons] at hm
    have hp := parts_le n
    rw [List.foldl_cons, List.length_cons, show m + 2 * (l.length + 1) = (m + 2) + 2 * l.length by omega]
    exact folds_bnd l _ (m + 2) ((fold_bnd (partsOf n) u m h (by omega)).mono (by omega)) (by omega)
theorem uses_bnd (e : List Nd) (hl : e.length ≤ 1048576) : Bnd (usesOf e) (2 * e.length) := by
  have := folds_bnd e (List.replicate e.length 0) 0 (fun x hx => by have := List.eq_of_mem_replicate hx; omega) (by omega)
  simpa [usesOf] using this
/-- is each node at most once an operand -/
def once (e : List Nd) : Bool := (usesOf e).all fun x => decide (x ≤ 1)
theorem l1All_ev (l : List Int) (hl : l.length ≤ 9223372036854775000) (hb : ∀ x ∈ l, 0 ≤ x) : Ev (fun k => spec_l1All.f k l 0 1) (l.all fun x => decide (x ≤ 1)) := by
  refine Ev.step (fun k => spec_l1All.eq k l 0 1) ?_
  have key := Ev.loop l.length (fun k i => spec_l1All.l0 k 0 1 l (l.length : Int) (i : Int)) (fun i => (l.drop i).all fun x => decide (x ≤ 1)) ?_ ?_ 0 (by omega)
  · exact key
  · exact Ev.step (fun k => spec_l1All.l0_eq k _ _ _ _ _) (Ev.neg (by simp) (Ev.ret (by simp)))
  · intro i hi ih
    refine Ev.step (fun k => spec_l1All.l0_eq k _ _ _ _ _) (Ev.pos (by simpa using hi) (Ev.pos (by simp) (Ev.get hi (Ev.here (l1In_f _ _ _) ?_))))
    have h0 := hb _ (List.getElem_mem hi)
    rw [next_ok i _ hi hl]
    rw [drop_at _ _ hi, List.all_cons]
    by_cases c : l[i] ≤ 1
    · exact Ev.neg (by rw [inB_iff.2 ⟨h0, c⟩]; rfl) (Ev.eq ih (by simp [c]))
    · have : inB l[i] 0 1 = false := by
        cases hq : inB l[i] 0 1 with
        | false => rfl
        | true => exact absurd (inB_iff.1 hq).2 c
      exact Ev.pos (by rw [this]; rfl) (Ev.ret (by simp [c]))
theorem many_ev (l : List Int) (hl : l.length ≤ 9223372036854775000) : Ev (fun k => slices_ContainsFunc_int_isTree.f k l) (!(l.all fun x => decide (x ≤ 1))) := by
  have key : ∀ (d : Nat) (i : Nat), i + d = l.length → ∃ r : Int, Ev (fun k => slices_IndexFunc_int_isTree.l0 k l (l.length : Int) (i : Int)) r ∧ (0 ≤ r ↔ ((l.drop i).all fun x => decide (x ≤ 1)) = false) := by
    intro d
    induction d with
    | zero =>
      intro i h
      refine ⟨-1, Ev.step (fun k => slices_IndexFunc_int_isTree.l0_eq k _ _ _) (Ev.neg (by simp; omega) (Ev.now _)), ?_⟩
      rw [List.drop_eq_nil_of_le (by omega)]; simp
    | succ d ih =>
      intro i h
      have hi : i < l.length := by omega
      by_cases c : l[i] > 1
      · refine ⟨i, Ev.step (fun k => slices_IndexFunc_int_isTree.l0_eq k _ _ _) (Ev.pos (by simpa using hi) (Ev.pos (by simp) (Ev.get hi (Ev.here (impl_isTree_1.eq _) (Ev.pos (by simpa using c) (Ev.now _)))))), ?_⟩
        have c' : ¬ l[i] ≤ 1 := by omega
        rw [drop_at _ _ hi, List.all_cons]; simp [c']
      · obtain ⟨r, hev, hiff⟩ := ih (i + 1) (by omega)
        refine ⟨r, Ev.step (fun k => slices_IndexFunc_int_isTree.l0_eq k _ _ _) (Ev.pos (by simpa using hi) (Ev.pos (by simp) (Ev.get hi (Ev.here (impl_isTree_1.eq _) (Ev.neg (by simpa using c) (by rw [next_ok i _ hi hl]; exact hev)))))), ?_⟩
        have c' : l[i] ≤ 1 := by omega
        rw [hiff, drop_at _ _ hi, List.all_cons]; simp [c']
  obtain ⟨r, hev, hiff⟩ := key l.length 0 (by omega)
  refine Ev.step (fun k => slices_ContainsFunc_int_isTree.eq k l) (Ev.bind (b := r) (Ev.step (fun k => slices_IndexFunc_int_isTree.eq k l) hev) (Ev.ret ?_))
  rw [List.drop_zero] at hiff
  cases hq : l.all fun x => decide (x ≤ 1) with
  | true => rw [hq] at hiff; have : ¬ 0 ≤ r := fun h => by have := hiff.1 h; cases this
            simp [this]
  | false => rw [hq] at hiff; have : 0 ≤ r := hiff.2 rfl
             simp [this]
theorem exTree_ev (e : List Nd) (hl : e.length ≤ 1048576) (hg : exprOk e = true) : Ev (fun k => spec_exTree.f k e) (once e) := by
  unfold exprOk at hg
  simp only [Bool.and_eq_true] at hg
  exact Ev.step (fun k => spec_exTree.eq k e) (Ev.bind (exUses_ev e hl (nodesOk_parts hg.2.1)) (Ev.bind (l1All_ev _ (by rw [usesOf_len]; omega) fun x hx => (uses_bnd e hl x hx).1) (Ev.now _)))
theorem isTree_ev (e : List Nd) (hl : e.length ≤ 1048576) : Ev (fun k => impl_isTree.f k e) (exprOk e && once e) := by
  refine Ev.step (fun k => impl_isTree.eq k e) (Ev.bind (isExpr_ev e hl) ?_)
  cases hg : exprOk e with
  | false => exact Ev.neg rfl (Ev.ret (by simp))
  | true =>
    have hg' := hg
    unfold exprOk at hg'
    simp only [Bool.and_eq_true] at hg'
    exact Ev.pos rfl (Ev.bind (uses_ev e hl (nodesOk_parts hg'.2.1)) (Ev.bind (many_ev _ (by rw [usesOf_len]; omega)) (Ev.ret (by simp [once]))))
end Go.Proofs.Ytohfaccniialmaa.Am
