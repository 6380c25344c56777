/- Trees: each node is an operand at most once; the program's test and the reference's answer alike. -/
import Derived.Test.YtlmegefdnkjcbaaQExpr
import Derived.Test.YtlmegefdnkjcbaaPa4
import Derived.Test.YtlmegefdnkjcbaaPa5
namespace Go.Proofs.Ytlmegefdnkjcbaa.Pa
open Go.RowKit Go.Proofs.YtlmegefdnkjcbaaW.PrintWords Go.Proofs.YtlmegefdnkjcbaaW.PrintLast Go.Proofs.YtlmegefdnkjcbaaW.PrintMore
set_option linter.unusedVariables false
set_option linter.unusedSimpArgs false
theorem l1All_ev (l : List Int) (lo hi : Int) (hl : l.length ≤ 9223372036854775000) : Ev (fun k => spec_l1All.f k l lo hi) (l.all fun x => inB x lo hi) := by
  unfold spec_l1All.f
  have key := Ev.loop l.length (fun k i => spec_l1All.l0 k lo hi l (l.length : Int) (i : Int)) (fun i => (l.drop i).all fun x => inB x lo hi) ?_ ?_ 0 (by omega)
  · simpa using key
  · exact Ev.step (fun k => by rw [spec_l1All.l0]) (Ev.neg (by omega) (Ev.ret (by rw [List.drop_eq_nil_of_le (by omega)]; rfl)))
  · intro i hi2 ih
    refine Ev.step (fun k => by rw [spec_l1All.l0]) (Ev.pos (by omega) (Ev.pos (by omega) (Ev.pos (by omega) ?_)))
    rw [rd_at _ _ hi2, next_ok i _ hi2 hl, l1In_f]
    simp only [Option.bind_some]
    cases c : inB l[i] lo hi with
    | true => exact Ev.pos rfl (Ev.eq ih (by rw [drop_at _ _ hi2, List.all_cons, c]; simp))
    | false => exact Ev.neg (by simp) (Ev.ret (by rw [drop_at _ _ hi2, List.all_cons, c]; simp))
theorem idxTree_loop (l : List Int) (hl : l.length ≤ 9223372036854775000) : ∀ (d : Nat) (i : Nat), i + d = l.length →
    ∃ r : Int, Ev (fun k => slices_IndexFunc_int_int__impl_isTree_1.l0 k l (l.length : Int) (i : Int)) r ∧ (0 ≤ r ↔ ((l.drop i).any fun x => decide (x > 1)) = true) := by
  intro d
  induction d with
  | zero =>
    intro i h
    refine ⟨-1, Ev.step (fun k => by rw [slices_IndexFunc_int_int__impl_isTree_1.l0]) (Ev.neg (by omega) (Ev.now _)), ?_⟩
    rw [List.drop_eq_nil_of_le (by omega)]; simp
  | succ d ih =>
    intro i h
    have hi : i < l.length := by omega
    by_cases c : l[i] > 1
    · refine ⟨i, Ev.step (fun k => by rw [slices_IndexFunc_int_int__impl_isTree_1.l0]) (Ev.pos (by omega) (Ev.pos (by omega) (Ev.pos (by omega) ?_))), ?_⟩
      · rw [rd_at _ _ hi]; exact Ev.here (decide (l[i] > 1)) rfl (Ev.pos (decide_eq_true c) (Ev.now _))
      rw [drop_at _ _ hi, List.any_cons]; simp [c]
    · obtain ⟨r, hev, hiff⟩ := ih (i + 1) (by omega)
      refine ⟨r, Ev.step (fun k => by rw [slices_IndexFunc_int_int__impl_isTree_1.l0]) (Ev.pos (by omega) (Ev.pos (by omega) (Ev.pos (by omega) ?_))), ?_⟩
      · rw [rd_at _ _ hi, next_ok i _ hi hl]; exact Ev.here (decide (l[i] > 1)) rfl (Ev.neg (by simpa using c) hev)
      rw [hiff, drop_at _ _ hi, List.any_cons]; simp [c]
theorem containsTree_ev (l : List Int) (hl : l.length ≤ 9223372036854775000) : Ev (fun k => slices_ContainsFunc_int_int__impl_isTree_1.f k l) (l.any fun x => decide (x > 1)) := by
  obtain ⟨r, hev, hiff⟩ := idxTree_loop l hl l.length 0 (by omega)
  refine Ev.map (f := fun r : Int => decide (r ≥ 0)) (a := r) hev ?_
  rw [Bool.eq_iff_iff, decide_eq_true_iff]
  exact hiff
/-! ### counts are small -/
def Small (u : List Int) (m : Int) : Prop := ∀ x ∈ u, 0 ≤ x ∧ x ≤ m
theorem bump_small {u : List Int} {m : Int} (h : Small u m) (p : Int) (hm0 : 0 ≤ m) (hm : m ≤ 1000) : Small (bump u p) (m + 1) := by
  intro x hx
  unfold bump at hx
  rcases List.mem_or_eq_of_mem_set hx with hx | hx
  · have := h x hx; omega
  · have hr : 0 ≤ rd u p ∧ rd u p ≤ m := by
      unfold rd
      by_cases hp : p.toNat < u.length
      · rw [List.getD_eq_getElem?_getD, List.getElem?_eq_getElem hp]; exact h _ (List.getElem_mem hp)
      · rw [List.getD_eq_getElem?_getD, List.getElem?_eq_none (by omega)]; exact ⟨by simp, by simpa using hm0⟩
    rw [wrap_ok (by omega) (by omega)] at hx
    omega
theorem fold_small (l : List Int) : ∀ (u : List Int) (m : Int), Small u m → 0 ≤ m → m + l.length ≤ 1000 → Small (l.foldl bump u) (m + l.length) := by
  induction l with
  | nil => intro u m h _ _; simpa using h
  | cons p l ih =>
    intro u m h h0 hm
    rw [List.foldl_cons]
    have := ih (bump u p) (m + 1) (bump_small h p h0 (by simp at hm; omega)) (by omega) (by simp at hm ⊢; omega)
    simpa [Int.add_assoc, Int.add_comm, Int.add_left_comm] using this
theorem folds_small (l : List S54) : ∀ (u : List Int) (m : Int), Small u m → 0 ≤ m → m + 2 * l.length ≤ 1000 → Small (l.foldl bumps u) (m + 2 * l.length) := by
  induction l with
  | nil => intro u m h _ _; simpa using h
  | cons n l ih =>
    intro u m h h0 hm
    have h2 := parts_le n
    simp only [List.length_cons] at hm
    rw [List.foldl_cons]
    have h1 : Small (bumps u n) (m + 2) := fun x hx => by
      have := fold_small (partsOf n) u m h h0 (by omega) x hx
      omega
    intro x hx
    have := ih (bumps u n) (m + 2) h1 (by omega) (by omega) x hx
    simp only [List.length_cons]
    omega
theorem uses_small {e : List S54} (hl : e.length ≤ 24) : Small (usesOf e) 1000 := by
  intro x hx
  have := folds_small e (List.replicate e.length 0) 0 (fun x hx => by have := (List.mem_replicate.1 hx).2; omega) (by omega) (by omega) x hx
  omega
/-! ### trees -/
def isTreeB (e : List S54) : Bool := (usesOf e).all fun x => inB x 0 1
/-- is this an expression that is a tree -/
def tree (e : List S54) : Bool := good e && isTreeB e
theorem treeB_any {e : List S54} (hl : e.length ≤ 24) : (!((usesOf e).any fun x => decide (x > 1))) = isTreeB e := by
  unfold isTreeB
  rw [List.not_any_eq_all_not]
  have key : ∀ u : List Int, Small u 1000 → (u.all fun x => !decide (x > 1)) = (u.all fun x => inB x 0 1) := by
    intro u hu
    induction u with
    | nil => rfl
    | cons x u ih =>
      have hx := hu x (List.mem_cons_self)
      rw [List.all_cons, List.all_cons, ih (fun y hy => hu y (List.mem_cons_of_mem _ hy))]
      congr 1
      unfold inB
      by_cases h : x > 1
      · (simp [h] <;> omega)
      · (simp [h] <;> omega)
  exact key _ (uses_small hl)
theorem good_len {e : List S54} (h : good e = true) : 1 ≤ e.length ∧ e.length ≤ 24 := by
  simp [good, inB] at h
  omega
theorem good_nodes {e : List S54} (h : good e = true) : nodesOk e 0 = true := by
  simp [good] at h
  exact h.2.1
theorem tree_good {e : List S54} (h : tree e = true) : good e = true := by simp [tree] at h; exact h.1
theorem exTree_ev {e : List S54} (h : good e = true) : Ev (fun k => spec_exTree.f k e) (isTreeB e) := by
  have hl := good_len h
  unfold spec_exTree.f
  exact Ev.bindB _ (exUses_ev e (by omega) (nodesOk_parts (good_nodes h))) (Ev.map (f := id) (l1All_ev _ 0 1 (by rw [usesOf_len]; omega)) rfl)
theorem cvTree_ev (e : List S54) (hl : e.length ≤ 9223372036854775807) : Ev (fun k => spec_cvTree.f k e) (tree e) := by
  unfold spec_cvTree.f tree
  refine Ev.bindB _ (exGood_ev e hl) ?_
  cases h : good e with
  | false => exact Ev.neg (by simp) (Ev.ret (by simp))
  | true => exact Ev.pos rfl (Ev.map (f := id) (exTree_ev h) (by simp))
theorem isTree_ev (e : List S54) (hl : e.length ≤ 9223372036854775807) : Ev (fun k => impl_isTree.f k e) (tree e) := by
  unfold impl_isTree.f tree
  refine Ev.bindB _ (isExpr_ev e hl) ?_
  cases h : good e with
  | false => exact Ev.neg (by simp) (Ev.ret (by simp))
  | true =>
    have hl2 := good_len h
    refine Ev.pos rfl (Ev.bindB _ (uses_ev e (by omega) (nodesOk_parts (good_nodes h))) (Ev.map (f := fun b => !b) (containsTree_ev _ (by rw [usesOf_len]; omega)) ?_))
    simp [treeB_any hl2.2]
end Go.Proofs.Ytlmegefdnkjcbaa.Pa
