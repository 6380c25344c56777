/- Expressions: which operands a node has, when a list of nodes is an expression; the program's functions and the reference's answer alike. -/
import Derived.Test.YtlmegefdnkjcbaaQStr
import Derived.Test.YtlmegefdnkjcbaaPa1
import Derived.Test.YtlmegefdnkjcbaaPa3
import Derived.Test.YtlmegefdnkjcbaaPa4
namespace Go.Proofs.Ytlmegefdnkjcbaa.Pa
open Go.RowKit Go.Proofs.YtlmegefdnkjcbaaW.PrintWords Go.Proofs.YtlmegefdnkjcbaaW.PrintLast Go.Proofs.YtlmegefdnkjcbaaW.PrintMore
set_option linter.unusedVariables false
set_option linter.unusedSimpArgs false

/-! ### ops -/
def opsL : List ByteArray := [(⟨#[97, 100, 100]⟩ : ByteArray), (⟨#[115, 117, 98]⟩ : ByteArray), (⟨#[109, 117, 108]⟩ : ByteArray), (⟨#[97, 110, 100]⟩ : ByteArray), (⟨#[111, 114]⟩ : ByteArray), (⟨#[120, 111, 114]⟩ : ByteArray), (⟨#[115, 104, 108]⟩ : ByteArray), (⟨#[115, 104, 114]⟩ : ByteArray), (⟨#[108, 101, 115, 115]⟩ : ByteArray), (⟨#[101, 113]⟩ : ByteArray)]
def isTwo (s : ByteArray) : Bool := isIn opsL s
def isOne (s : ByteArray) : Bool := s.toList == ([110, 111, 116] : List UInt8) || s.toList == ([110, 101, 103] : List UInt8)
/-- how many operands an op has; -1: it is none -/
def arity (s : ByteArray) : Int :=
  if s.toList = ([105, 110] : List UInt8) then 0 else if s.toList = ([99, 111, 110, 115, 116] : List UInt8) then 0 else if isOne s = true then 1 else if isTwo s = true then 2 else -1
theorem isTwo_mem {s : ByteArray} (h : isTwo s = true) : s.toList ∈ ([[97, 100, 100], [115, 117, 98], [109, 117, 108], [97, 110, 100], [111, 114], [120, 111, 114], [115, 104, 108], [115, 104, 114], [108, 101, 115, 115], [101, 113]] : List (List UInt8)) := by
  unfold isTwo isIn opsL at h
  simp only [List.any_cons, List.any_nil, Bool.or_false, Bool.or_eq_true, beq_iff_eq, ByteArray.toList_eq] at h
  simp only [List.mem_cons, List.not_mem_nil, or_false, ByteArray.toList_eq]
  rcases h with h | h | h | h | h | h | h | h | h | h <;> simp [← h]
theorem isTwo_of_mem {s : ByteArray} (h : s.toList ∈ ([[97, 100, 100], [115, 117, 98], [109, 117, 108], [97, 110, 100], [111, 114], [120, 111, 114], [115, 104, 108], [115, 104, 114], [108, 101, 115, 115], [101, 113]] : List (List UInt8))) : isTwo s = true := by
  unfold isTwo isIn opsL
  simp only [List.any_cons, List.any_nil, Bool.or_false, Bool.or_eq_true, beq_iff_eq, ByteArray.toList_eq]
  simp only [List.mem_cons, List.not_mem_nil, or_false, ByteArray.toList_eq] at h
  rcases h with h | h | h | h | h | h | h | h | h | h <;> simp [h]
theorem isOne_mem {s : ByteArray} (h : isOne s = true) : s.toList = ([110, 111, 116] : List UInt8) ∨ s.toList = ([110, 101, 103] : List UInt8) := by
  unfold isOne at h
  simpa using h
theorem arity_one {s : ByteArray} (h : isOne s = true) : arity s = 1 := by
  unfold arity
  rw [if_neg (by rcases isOne_mem h with e | e <;> rw [e] <;> decide), if_neg (by rcases isOne_mem h with e | e <;> rw [e] <;> decide), if_pos h]
theorem isTwo_not {s : ByteArray} (h : isTwo s = true) : s.toList ≠ ([105, 110] : List UInt8) ∧ s.toList ≠ ([99, 111, 110, 115, 116] : List UInt8) ∧ isOne s = false := by
  have hm := isTwo_mem h
  refine ⟨fun e => ?_, fun e => ?_, ?_⟩
  · rw [e] at hm; revert hm; decide
  · rw [e] at hm; revert hm; decide
  · cases h1 : isOne s with
    | false => rfl
    | true => rcases isOne_mem h1 with e | e <;> (rw [e] at hm; revert hm; decide)
theorem arity_two {s : ByteArray} (h : isTwo s = true) : arity s = 2 := by
  obtain ⟨h1, h2, h3⟩ := isTwo_not h
  unfold arity
  rw [if_neg h1, if_neg h2, if_neg (by simp [h3]), if_pos h]
theorem arity_eq_one {s : ByteArray} : arity s = 1 ↔ isOne s = true := by
  refine ⟨fun h => ?_, arity_one⟩
  unfold arity at h
  split at h
  · simp at h
  · split at h
    · simp at h
    · split at h
      · assumption
      · split at h <;> simp at h
theorem arity_eq_two {s : ByteArray} : arity s = 2 ↔ isTwo s = true := by
  refine ⟨fun h => ?_, arity_two⟩
  unfold arity at h
  split at h
  · simp at h
  · split at h
    · simp at h
    · split at h
      · simp at h
      · split at h
        · assumption
        · simp at h
theorem arity_cases (s : ByteArray) : (arity s = -1 ∧ isOne s = false ∧ isTwo s = false) ∨ (arity s = 0 ∧ isOne s = false ∧ isTwo s = false) ∨ (arity s = 1 ∧ isOne s = true ∧ isTwo s = false) ∨ (arity s = 2 ∧ isOne s = false ∧ isTwo s = true) := by
  by_cases h2 : isTwo s = true
  · exact .inr (.inr (.inr ⟨arity_two h2, (isTwo_not h2).2.2, h2⟩))
  · have h2' : isTwo s = false := by simpa using h2
    by_cases h1 : isOne s = true
    · exact .inr (.inr (.inl ⟨arity_one h1, h1, h2'⟩))
    · have h1' : isOne s = false := by simpa using h1
      by_cases c : s.toList = ([105, 110] : List UInt8)
      · exact .inr (.inl ⟨by unfold arity; rw [if_pos c], h1', h2'⟩)
      · by_cases c2 : s.toList = ([99, 111, 110, 115, 116] : List UInt8)
        · exact .inr (.inl ⟨by unfold arity; rw [if_neg c, if_pos c2], h1', h2'⟩)
        · exact .inl ⟨by unfold arity; rw [if_neg c, if_neg c2, if_neg h1, if_neg h2], h1', h2'⟩
theorem exOne_f (s : ByteArray) : spec_exOne.f s = some (isOne s) := by
  unfold spec_exOne.f isOne
  split
  · rename_i h; simp [h]
  · rename_i h; simp [h]
theorem exTwo_ev (s : ByteArray) : Ev (fun k => spec_exTwo.f k s) (isTwo s) := Ev.here opsL rfl (Ev.map (f := id) (l1HasS_ev opsL s (by decide)) rfl)
theorem operands_ev (s : ByteArray) : Ev (fun k => impl_operands.f k s) (arity s) := by
  have hj1t : Ev (fun k => impl_operands.j1 k s true) 1 := Ev.step (fun k => by rw [impl_operands.j1]) (Ev.pos rfl (Ev.now _))
  have hj1 : Ev (fun k => impl_operands.j1 k s false) (if isTwo s = true then 2 else -1) := by
    refine Ev.step (fun k => by rw [impl_operands.j1]) (Ev.neg (by simp) (Ev.here (x := impl_binary.f) opsL rfl (Ev.bindB _ (contains_ev opsL s (by decide)) ?_)))
    by_cases h : isIn opsL s = true
    · exact Ev.pos h (Ev.ret (by unfold isTwo; rw [if_pos h]))
    · exact Ev.neg h (Ev.ret (by unfold isTwo; rw [if_neg h]))
  have hj0t : Ev (fun k => impl_operands.j0 k s true) 0 := Ev.step (fun k => by rw [impl_operands.j0]) (Ev.pos rfl (Ev.now _))
  unfold impl_operands.f arity
  by_cases c : s.toList = ([105, 110] : List UInt8)
  · exact Ev.pos c (Ev.eq hj0t (by rw [if_pos c]))
  · refine Ev.neg c ?_
    rw [if_neg c]
    by_cases c2 : s.toList = ([99, 111, 110, 115, 116] : List UInt8)
    · rw [if_pos c2, show (s.toList == ([99, 111, 110, 115, 116] : List UInt8)) = true from beq_iff_eq.mpr c2]
      exact hj0t
    · rw [if_neg c2, show (s.toList == ([99, 111, 110, 115, 116] : List UInt8)) = false from beq_eq_false_iff_ne.mpr c2]
      refine Ev.step (fun k => by rw [impl_operands.j0]) (Ev.neg (by simp) ?_)
      by_cases c3 : s.toList = ([110, 111, 116] : List UInt8)
      · exact Ev.pos c3 (Ev.eq hj1t (by rw [if_pos (by unfold isOne; simp [c3])]))
      · refine Ev.neg c3 ?_
        by_cases c4 : s.toList = ([110, 101, 103] : List UInt8)
        · rw [show (s.toList == ([110, 101, 103] : List UInt8)) = true from beq_iff_eq.mpr c4, if_pos (by unfold isOne; simp [c4])]
          exact hj1t
        · rw [show (s.toList == ([110, 101, 103] : List UInt8)) = false from beq_eq_false_iff_ne.mpr c4, if_neg (by unfold isOne; simp [c3, c4])]
          exact hj1

/-! ### nodes -/
/-- the operands of a node -/
def partsOf (n : S54) : List Int := if arity n.f0 = 1 then [n.f1] else if arity n.f0 = 2 then [n.f1, n.f2] else []
theorem parts_le (n : S54) : (partsOf n).length ≤ 2 := by unfold partsOf; split <;> (try split) <;> simp
theorem exParts_ev (n : S54) : Ev (fun k => spec_exParts.f k n.f0 n.f1 n.f2 n.f3) (partsOf n) := by
  unfold spec_exParts.f partsOf
  rw [exOne_f]
  simp only [Option.bind_some]
  by_cases h : isOne n.f0 = true
  · exact Ev.pos h (Ev.ret (by rw [if_pos (arity_one h)]))
  · refine Ev.neg h (Ev.bindB _ (exTwo_ev n.f0) ?_)
    rw [if_neg (fun e => h (arity_eq_one.1 e))]
    by_cases h2 : isTwo n.f0 = true
    · exact Ev.pos h2 (Ev.ret (by rw [if_pos (arity_two h2)]))
    · exact Ev.neg h2 (Ev.ret (by rw [if_neg (fun e => h2 (arity_eq_two.1 e))]))
theorem of_ev (n : S54) : Ev (fun k => impl_Node_of.f k n.f0 n.f1 n.f2 n.f3) (partsOf n) := by
  unfold impl_Node_of.f partsOf
  simp only [Option.bind_some]
  refine Ev.bindB _ (operands_ev n.f0) ?_
  rcases arity_cases n.f0 with ⟨h, _⟩ | ⟨h, _⟩ | ⟨h, _⟩ | ⟨h, _⟩ <;> rw [h] <;> exact Ev.one (by simp [mx])
/-- may this node stand at place i -/
def nodeOk (n : S54) (i : Int) : Bool :=
  if n.f0.toList = ([105, 110] : List UInt8) then decide (n.f1 = 0) && decide (n.f2 = 0) && inB n.f3 0 1
  else if n.f0.toList = ([99, 111, 110, 115, 116] : List UInt8) then decide (n.f1 = 0) && decide (n.f2 = 0) && inB n.f3 0 63
  else if isOne n.f0 = true then inB n.f1 0 (i - 1) && decide (n.f2 = 0) && decide (n.f3 = 0)
  else isTwo n.f0 && inB n.f1 0 (i - 1) && inB n.f2 0 (i - 1) && decide (n.f3 = 0)
theorem exNode_ev (n : S54) (i : Int) (h0 : 0 ≤ i) (h1 : i ≤ 9223372036854775807) : Ev (fun k => spec_exNode.f k n.f0 n.f1 n.f2 n.f3 i) (nodeOk n i) := by
  unfold spec_exNode.f nodeOk
  rw [wrap_ok (by omega) (by omega)]
  simp only [l1In_f, exWord_f, exOne_f, Option.bind_some]
  by_cases c : n.f0.toList = ([105, 110] : List UInt8)
  · refine Ev.pos c ?_
    rw [if_pos c]
    by_cases a : n.f1 = 0 <;> by_cases b : n.f2 = 0 <;> exact Ev.one (by simp [a, b])
  · refine Ev.neg c ?_
    rw [if_neg c]
    by_cases c2 : n.f0.toList = ([99, 111, 110, 115, 116] : List UInt8)
    · refine Ev.pos c2 ?_
      rw [if_pos c2]
      by_cases a : n.f1 = 0 <;> by_cases b : n.f2 = 0 <;> exact Ev.one (by simp [a, b])
    · refine Ev.neg c2 ?_
      rw [if_neg c2]
      by_cases h : isOne n.f0 = true
      · refine Ev.pos h ?_
        rw [if_pos h]
        cases hb : inB n.f1 0 (i - 1) <;> by_cases b : n.f2 = 0 <;> exact Ev.one (by simp [b, beq_dec])
      · refine Ev.neg h (Ev.bindB _ (exTwo_ev n.f0) ?_)
        rw [if_neg h]
        cases h2 : isTwo n.f0 <;> cases hb : inB n.f1 0 (i - 1) <;> cases hb2 : inB n.f2 0 (i - 1) <;> exact Ev.one (by simp [beq_dec])
theorem isNode_ev (n : S54) (i : Int) (h0 : 0 ≤ i) (h1 : i ≤ 9223372036854775807) : Ev (fun k => impl_Node_isNode.f k n.f0 n.f1 n.f2 n.f3 i) (nodeOk n i) := by
  unfold impl_Node_isNode.f
  refine Ev.bindB _ (operands_ev n.f0) ?_
  simp only [Option.bind_some]
  -- behind both places
  have hend : ∀ m : Int, m = arity n.f0 → Ev (fun k => impl_Node_isNode.l0 k i m [n.f1, n.f2] 2 2 n.f0 n.f1 n.f2 n.f3) (if n.f0.toList = ([105, 110] : List UInt8) then inB n.f3 0 1 else if n.f0.toList = ([99, 111, 110, 115, 116] : List UInt8) then inB n.f3 0 63 else decide (m > 0) && decide (n.f3 = 0)) := by
    intro m hm
    refine Ev.step (fun k => by rw [impl_Node_isNode.l0]) (Ev.neg (by omega) ?_)
    rw [within_f, isWord_f]
    simp only [Option.bind_some]
    by_cases c : n.f0.toList = ([105, 110] : List UInt8)
    · exact Ev.pos c (Ev.ret (by rw [if_pos c]))
    · refine Ev.neg c ?_
      rw [if_neg c]
      by_cases c2 : n.f0.toList = ([99, 111, 110, 115, 116] : List UInt8)
      · exact Ev.pos c2 (Ev.ret (by rw [if_pos c2]))
      · refine Ev.neg c2 ?_
        rw [if_neg c2]
        by_cases p : m > 0
        · exact Ev.pos p (Ev.ret (by simp [p, beq_dec]))
        · exact Ev.neg p (Ev.ret (by simp [p]))
  -- one place
  have hone : ∀ (m : Int) (j : Nat) (x : Int) (R : Bool), j < 2 → [n.f1, n.f2].getD j 0 = x → Ev (fun k => impl_Node_isNode.l0 k i m [n.f1, n.f2] 2 ((j : Int) + 1) n.f0 n.f1 n.f2 n.f3) R →
      Ev (fun k => impl_Node_isNode.l0 k i m [n.f1, n.f2] 2 (j : Int) n.f0 n.f1 n.f2 n.f3) ((if (j : Int) < m then inB x 0 (i - 1) else decide (x = 0)) && R) := by
    intro m j x R hj hx hR
    have hrd : rd [n.f1, n.f2] (j : Int) = x := by unfold rd; simpa using hx
    have hlen : ((j : Int) < (([n.f1, n.f2] : List Int).length : Int)) := by simp; omega
    refine Ev.step (fun k => by rw [impl_Node_isNode.l0]) (Ev.pos (by omega) (Ev.pos (by omega) (Ev.pos hlen ?_)))
    rw [hrd, within_f, wrap_ok (x := i - 1) (by omega) (by omega), wrap_ok (x := (j : Int) + 1) (by omega) (by omega)]
    simp only [Option.bind_some]
    by_cases hm : (j : Int) < m
    · refine Ev.pos hm ?_
      rw [if_pos hm]
      cases hb : inB x 0 (i - 1) with
      | true => exact Ev.pos rfl (Ev.neg (by omega) (by simpa using hR))
      | false => exact Ev.neg (by simp) (Ev.ret (by simp))
    · refine Ev.neg hm (Ev.pos (by omega) ?_)
      rw [if_neg hm]
      by_cases h0 : x = 0
      · exact Ev.pos h0 (by simpa [h0] using hR)
      · exact Ev.neg h0 (Ev.ret (by simp [h0]))
  have h1' := hone (arity n.f0) 1 n.f2 _ (by omega) rfl (hend (arity n.f0) rfl)
  have h0' := hone (arity n.f0) 0 n.f1 _ (by omega) rfl h1'
  refine Ev.eq h0' ?_
  unfold nodeOk
  by_cases c : n.f0.toList = ([105, 110] : List UInt8)
  · have ha : arity n.f0 = 0 := by unfold arity; rw [if_pos c]
    rw [ha, if_pos c, if_pos c]
    simp [Bool.and_assoc]
  · rw [if_neg c, if_neg c]
    by_cases c2 : n.f0.toList = ([99, 111, 110, 115, 116] : List UInt8)
    · have ha : arity n.f0 = 0 := by unfold arity; rw [if_neg c, if_pos c2]
      rw [ha, if_pos c2, if_pos c2]
      simp [Bool.and_assoc]
    · rw [if_neg c2, if_neg c2]
      rcases arity_cases n.f0 with ⟨ha, h1, h2⟩ | ⟨ha, h1, h2⟩ | ⟨ha, h1, h2⟩ | ⟨ha, h1, h2⟩ <;> rw [ha, h1, h2] <;> simp [Bool.and_assoc]

/-! ### how often each node is an operand -/
def bump (u : List Int) (p : Int) : List Int := u.set p.toNat (wrap64 (rd u p + 1))
def bumps (u : List Int) (n : S54) : List Int := (partsOf n).foldl bump u
def usesOf (e : List S54) : List Int := e.foldl bumps (List.replicate e.length 0)
theorem bump_len (u : List Int) (p : Int) : (bump u p).length = u.length := by simp [bump]
theorem fold_bump_len (l : List Int) (u : List Int) : (l.foldl bump u).length = u.length := by
  induction l generalizing u with
  | nil => rfl
  | cons p l ih => rw [List.foldl_cons, ih, bump_len]
theorem bumps_len (u : List Int) (n : S54) : (bumps u n).length = u.length := fold_bump_len _ _
theorem fold_bumps_len (l : List S54) (u : List Int) : (l.foldl bumps u).length = u.length := by
  induction l generalizing u with
  | nil => rfl
  | cons p l ih => rw [List.foldl_cons, ih, bumps_len]
theorem usesOf_len (e : List S54) : (usesOf e).length = e.length := by unfold usesOf; rw [fold_bumps_len, List.length_replicate]
theorem rdT_at (l : List S54) (i : Nat) (h : i < l.length) : rd_T54 l (i : Int) = l[i] := by
  unfold rd_T54
  simp [List.getD_eq_getElem?_getD, List.getElem?_eq_getElem h]
/-- all operands lie below this bound -/
def PartsIn (e : List S54) (m : Nat) : Prop := ∀ n ∈ e, ∀ p ∈ partsOf n, 0 ≤ p ∧ p < m
theorem take_fold {α β : Type} (f : β → α → β) (l : List α) (b : β) (i : Nat) (h : i < l.length) : (l.take (i + 1)).foldl f b = f ((l.take i).foldl f b) l[i] := by
  rw [List.take_succ_eq_append_getElem h, List.foldl_append]; rfl
theorem exUses_ev (e : List S54) (hl : e.length ≤ 35184372088832) (hp : PartsIn e e.length) : Ev (fun k => spec_exUses.f k e) (usesOf e) := by
  unfold spec_exUses.f
  refine Ev.pos (by omega) (Ev.pos (by omega) ?_)
  have key := Ev.loop e.length (fun k i => spec_exUses.l0 k ((e.take i).foldl bumps (List.replicate e.length 0)) e (e.length : Int) (i : Int)) (fun _ => usesOf e) ?_ ?_ 0 (by omega)
  · simpa using key
  · exact Ev.step (fun k => by rw [spec_exUses.l0]) (Ev.neg (by omega) (Ev.ret (by rw [List.take_of_length_le (Nat.le_refl _)]; rfl)))
  · intro i hi ih
    refine Ev.step (fun k => by rw [spec_exUses.l0]) (Ev.pos (by omega) (Ev.pos (by omega) (Ev.pos (by omega) ?_)))
    rw [rdT_at _ _ hi]
    refine Ev.bindB _ (exParts_ev e[i]) ?_
    have hps : ∀ p ∈ partsOf e[i], 0 ≤ p ∧ p < e.length := hp _ (List.getElem_mem hi)
    have inner := Ev.loop (partsOf e[i]).length (fun k j => spec_exUses.l1 k (((partsOf e[i]).take j).foldl bump ((e.take i).foldl bumps (List.replicate e.length 0))) e (e.length : Int) (i : Int) (partsOf e[i]) ((partsOf e[i]).length : Int) (j : Int)) (fun _ => usesOf e) ?_ ?_ 0 (by omega)
    · simpa using inner
    · refine Ev.step (fun k => by rw [spec_exUses.l1]) (Ev.neg (by omega) ?_)
      rw [List.take_of_length_le (Nat.le_refl _), next_ok i _ hi (by omega)]
      rw [take_fold bumps e _ i hi] at ih
      exact ih
    · intro j hj ihj
      have hpj := hps _ (List.getElem_mem hj)
      have h2 := parts_le e[i]
      refine Ev.step (fun k => by rw [spec_exUses.l1]) (Ev.pos (by omega) (Ev.pos (by omega) (Ev.pos (by omega) ?_)))
      rw [rd_at _ _ hj]
      refine Ev.pos hpj.1 (Ev.pos (by rw [fold_bump_len, fold_bumps_len, List.length_replicate]; exact hpj.2) ?_)
      rw [take_fold bump (partsOf e[i]) _ j hj] at ihj
      rw [next_ok j _ hj (by omega)]
      exact ihj
theorem uses_ev (e : List S54) (hl : e.length ≤ 35184372088832) (hp : PartsIn e e.length) : Ev (fun k => impl_uses.f k e) (usesOf e) := by
  unfold impl_uses.f
  refine Ev.pos (by omega) (Ev.pos (by omega) ?_)
  have key := Ev.loop e.length (fun k i => impl_uses.l0 k ((e.take i).foldl bumps (List.replicate e.length 0)) e (e.length : Int) (i : Int)) (fun _ => usesOf e) ?_ ?_ 0 (by omega)
  · simpa using key
  · exact Ev.step (fun k => by rw [impl_uses.l0]) (Ev.neg (by omega) (Ev.ret (by rw [List.take_of_length_le (Nat.le_refl _)]; rfl)))
  · intro i hi ih
    refine Ev.step (fun k => by rw [impl_uses.l0]) (Ev.pos (by omega) (Ev.pos (by omega) (Ev.pos (by omega) ?_)))
    rw [rdT_at _ _ hi]
    refine Ev.bindB _ (of_ev e[i]) ?_
    have hps : ∀ p ∈ partsOf e[i], 0 ≤ p ∧ p < e.length := hp _ (List.getElem_mem hi)
    have inner := Ev.loop (partsOf e[i]).length (fun k j => impl_uses.l1 k (((partsOf e[i]).take j).foldl bump ((e.take i).foldl bumps (List.replicate e.length 0))) e (e.length : Int) (i : Int) (partsOf e[i]) ((partsOf e[i]).length : Int) (j : Int)) (fun _ => usesOf e) ?_ ?_ 0 (by omega)
    · simpa using inner
    · refine Ev.step (fun k => by rw [impl_uses.l1]) (Ev.neg (by omega) ?_)
      rw [List.take_of_length_le (Nat.le_refl _), next_ok i _ hi (by omega)]
      rw [take_fold bumps e _ i hi] at ih
      exact ih
    · intro j hj ihj
      have hpj := hps _ (List.getElem_mem hj)
      have h2 := parts_le e[i]
      refine Ev.step (fun k => by rw [impl_uses.l1]) (Ev.pos (by omega) (Ev.pos (by omega) (Ev.pos (by omega) ?_)))
      rw [rd_at _ _ hj]
      refine Ev.pos hpj.1 (Ev.pos (by rw [fold_bump_len, fold_bumps_len, List.length_replicate]; exact hpj.2) ?_)
      rw [take_fold bump (partsOf e[i]) _ j hj] at ihj
      rw [next_ok j _ hj (by omega)]
      exact ihj

/-! ### numbers in a list -/
theorem l1Has_ev (l : List Int) (x : Int) (hl : l.length ≤ 9223372036854775000) : Ev (fun k => spec_l1Has.f k l x) (l.contains x) := by
  unfold spec_l1Has.f
  have key := Ev.loop l.length (fun k i => spec_l1Has.l0 k x l (l.length : Int) (i : Int)) (fun i => (l.drop i).contains x) ?_ ?_ 0 (by omega)
  · simpa using key
  · exact Ev.step (fun k => by rw [spec_l1Has.l0]) (Ev.neg (by omega) (Ev.ret (by rw [List.drop_eq_nil_of_le (by omega)]; rfl)))
  · intro i hi ih
    refine Ev.step (fun k => by rw [spec_l1Has.l0]) (Ev.pos (by omega) (Ev.pos (by omega) (Ev.pos (by omega) ?_)))
    rw [rd_at _ _ hi, next_ok i _ hi hl]
    by_cases c : l[i] = x
    · exact Ev.pos c (Ev.ret (by rw [drop_at _ _ hi, List.contains_cons]; simp [c]))
    · exact Ev.neg c (Ev.eq ih (by rw [drop_at _ _ hi, List.contains_cons]; simp [Ne.symm c]))
theorem indexI_loop (l : List Int) (x : Int) (hl : l.length ≤ 9223372036854775000) : ∀ (d : Nat) (i : Nat), i + d = l.length →
    ∃ r : Int, Ev (fun k => slices_Index_int_int.l0 k l x (l.length : Int) (i : Int)) r ∧ (0 ≤ r ↔ (l.drop i).contains x = true) := by
  intro d
  induction d with
  | zero =>
    intro i h
    refine ⟨-1, Ev.step (fun k => by rw [slices_Index_int_int.l0]) (Ev.neg (by omega) (Ev.now _)), ?_⟩
    rw [List.drop_eq_nil_of_le (by omega)]; simp
  | succ d ih =>
    intro i h
    have hi : i < l.length := by omega
    by_cases c : x = l[i]
    · refine ⟨i, Ev.step (fun k => by rw [slices_Index_int_int.l0]) (Ev.pos (by omega) (Ev.pos (by omega) (Ev.pos (by omega) (Ev.pos (by rw [rd_at _ _ hi]; exact c) (Ev.now _))))), ?_⟩
      rw [drop_at _ _ hi, List.contains_cons]; simp [c]
    · obtain ⟨r, hev, hiff⟩ := ih (i + 1) (by omega)
      refine ⟨r, Ev.step (fun k => by rw [slices_Index_int_int.l0]) (Ev.pos (by omega) (Ev.pos (by omega) (Ev.pos (by omega) (Ev.neg (by rw [rd_at _ _ hi]; exact c) (by rw [next_ok i _ hi hl]; exact hev))))), ?_⟩
      rw [hiff, drop_at _ _ hi, List.contains_cons]; simp [c]
theorem containsI_ev (l : List Int) (x : Int) (hl : l.length ≤ 9223372036854775000) : Ev (fun k => slices_Contains_int_int.f k l x) (l.contains x) := by
  obtain ⟨r, hev, hiff⟩ := indexI_loop l x hl l.length 0 (by omega)
  refine Ev.map (f := fun r : Int => decide (r ≥ 0)) (a := r) hev ?_
  rw [Bool.eq_iff_iff, decide_eq_true_iff]
  exact hiff

/-! ### expressions -/
/-- all nodes from place i on may stand where they stand -/
def nodesOk : List S54 → Nat → Bool
  | [], _ => true
  | n :: l, i => nodeOk n (i : Int) && nodesOk l (i + 1)
/-- is this an expression -/
def good (e : List S54) : Bool := inB e.length 1 24 && (nodesOk e 0 && !((usesOf e).take (e.length - 1)).contains 0)
theorem nodeOk_parts {n : S54} {i : Int} (h : nodeOk n i = true) : ∀ p ∈ partsOf n, 0 ≤ p ∧ p < i := by
  intro p hp
  unfold partsOf at hp
  unfold nodeOk at h
  rcases arity_cases n.f0 with ⟨ha, h1, h2⟩ | ⟨ha, h1, h2⟩ | ⟨ha, h1, h2⟩ | ⟨ha, h1, h2⟩
  · rw [ha] at hp; simp at hp
  · rw [ha] at hp; simp at hp
  · rw [ha] at hp
    have c : n.f0.toList ≠ ([105, 110] : List UInt8) := by intro e; unfold arity at ha; rw [if_pos e] at ha; simp at ha
    have c2 : n.f0.toList ≠ ([99, 111, 110, 115, 116] : List UInt8) := by intro e; unfold arity at ha; rw [if_neg c, if_pos e] at ha; simp at ha
    rw [if_neg c, if_neg c2, if_pos h1] at h
    simp [inB] at h hp
    subst hp
    omega
  · rw [ha] at hp
    obtain ⟨c, c2, _⟩ := isTwo_not h2
    rw [if_neg c, if_neg c2, if_neg (by simp [h1])] at h
    simp [inB] at h hp
    rcases hp with rfl | rfl <;> omega
theorem nodesOk_at : ∀ (e : List S54) (i : Nat), nodesOk e i = true → ∀ (j : Nat) (h : j < e.length), nodeOk e[j] ((i + j : Nat) : Int) = true
  | [], _, _, j, h => by simp at h
  | n :: l, i, hk, j, h => by
    simp only [nodesOk, Bool.and_eq_true] at hk
    cases j with
    | zero => simpa using hk.1
    | succ j =>
      have := nodesOk_at l (i + 1) hk.2 j (by simpa using h)
      simpa [Nat.add_assoc, Nat.add_comm 1 j] using this
theorem nodesOk_parts {e : List S54} (h : nodesOk e 0 = true) : PartsIn e e.length := by
  intro n hn p hp
  obtain ⟨j, hj, rfl⟩ := List.getElem_of_mem hn
  have h1 := nodeOk_parts (nodesOk_at e 0 h j hj) p hp
  omega
theorem exGood_ev (e : List S54) (hl : e.length ≤ 9223372036854775807) : Ev (fun k => spec_exGood.f k e) (good e) := by
  unfold spec_exGood.f good
  rw [l1In_f]
  simp only [Option.bind_some]
  cases hb : inB e.length 1 24 with
  | false => exact Ev.neg (by simp) (Ev.ret (by simp))
  | true =>
    refine Ev.pos rfl ?_
    have hb' : 1 ≤ e.length ∧ e.length ≤ 24 := by simp [inB] at hb; omega
    by_cases hk : nodesOk e 0 = true
    · have key := Ev.loop e.length (fun k i => spec_exGood.l0 k e e (e.length : Int) (i : Int)) (fun _ => !((usesOf e).take (e.length - 1)).contains 0) ?_ ?_ 0 (by omega)
      · rw [hk]; simpa using key
      · refine Ev.step (fun k => by rw [spec_exGood.l0]) (Ev.neg (by omega) (Ev.bindB _ (exUses_ev e (by omega) (nodesOk_parts hk)) ?_))
        rw [wrap_ok (x := (e.length : Int) - 1) (by omega) (by omega), show ((e.length : Int) - 1).toNat = e.length - 1 from by omega]
        exact Ev.pos (by omega) (Ev.pos (by rw [usesOf_len]; omega) (Ev.map (f := fun b => !b) (l1Has_ev _ 0 (by rw [List.length_take, usesOf_len]; omega)) rfl))
      · intro i hi ih
        refine Ev.step (fun k => by rw [spec_exGood.l0]) (Ev.pos (by omega) (Ev.pos (by omega) (Ev.pos (by omega) ?_)))
        rw [rdT_at _ _ hi]
        refine Ev.bindB _ (exNode_ev e[i] i (by omega) (by omega)) ?_
        have := nodesOk_at e 0 hk i hi
        rw [Nat.zero_add] at this
        rw [this, next_ok i _ hi (by omega)]
        exact Ev.pos rfl ih
    · rw [show nodesOk e 0 = false from by simpa using hk]
      -- the first node that may not stand there
      have key : ∀ (d i : Nat), i + d = e.length → nodesOk (e.drop i) i = false → Ev (fun k => spec_exGood.l0 k e e (e.length : Int) (i : Int)) false := by
        intro d
        induction d with
        | zero => intro i h hn; rw [List.drop_eq_nil_of_le (by omega)] at hn; simp [nodesOk] at hn
        | succ d ihd =>
          intro i h hn
          have hi : i < e.length := by omega
          rw [drop_at _ _ hi] at hn
          simp only [nodesOk, Bool.and_eq_false_iff] at hn
          refine Ev.step (fun k => by rw [spec_exGood.l0]) (Ev.pos (by omega) (Ev.pos (by omega) (Ev.pos (by omega) ?_)))
          rw [rdT_at _ _ hi]
          refine Ev.bindB _ (exNode_ev e[i] i (by omega) (by omega)) ?_
          cases hc : nodeOk e[i] (i : Int) with
          | false => exact Ev.neg (by simp) (Ev.now _)
          | true =>
            rw [next_ok i _ hi (by omega)]
            exact Ev.pos rfl (ihd (i + 1) (by omega) (hn.resolve_left (by rw [hc]; simp)))
      simpa using key e.length 0 (by omega) (by simpa using hk)
theorem isExpr_ev (e : List S54) (hl : e.length ≤ 9223372036854775807) : Ev (fun k => impl_IsExpr.f k e) (good e) := by
  unfold impl_IsExpr.f good
  rw [within_f]
  simp only [Option.bind_some]
  cases hb : inB e.length 1 24 with
  | false => exact Ev.neg (by simp) (Ev.ret (by simp))
  | true =>
    refine Ev.pos rfl ?_
    have hb' : 1 ≤ e.length ∧ e.length ≤ 24 := by simp [inB] at hb; omega
    by_cases hk : nodesOk e 0 = true
    · have key := Ev.loop e.length (fun k i => impl_IsExpr.l0 k e e (e.length : Int) (i : Int)) (fun _ => !((usesOf e).take (e.length - 1)).contains 0) ?_ ?_ 0 (by omega)
      · rw [hk]; simpa using key
      · refine Ev.step (fun k => by rw [impl_IsExpr.l0]) (Ev.neg (by omega) (Ev.bindB _ (uses_ev e (by omega) (nodesOk_parts hk)) ?_))
        rw [wrap_ok (x := (e.length : Int) - 1) (by omega) (by omega), show ((e.length : Int) - 1).toNat = e.length - 1 from by omega]
        exact Ev.pos (by omega) (Ev.pos (by rw [usesOf_len]; omega) (Ev.map (f := fun b => !b) (containsI_ev _ 0 (by rw [List.length_take, usesOf_len]; omega)) rfl))
      · intro i hi ih
        refine Ev.step (fun k => by rw [impl_IsExpr.l0]) (Ev.pos (by omega) (Ev.pos (by omega) (Ev.pos (by omega) ?_)))
        rw [rdT_at _ _ hi]
        refine Ev.bindB _ (isNode_ev e[i] i (by omega) (by omega)) ?_
        have := nodesOk_at e 0 hk i hi
        rw [Nat.zero_add] at this
        rw [this, next_ok i _ hi (by omega)]
        exact Ev.pos rfl ih
    · rw [show nodesOk e 0 = false from by simpa using hk]
      have key : ∀ (d i : Nat), i + d = e.length → nodesOk (e.drop i) i = false → Ev (fun k => impl_IsExpr.l0 k e e (e.length : Int) (i : Int)) false := by
        intro d
        induction d with
        | zero => intro i h hn; rw [List.drop_eq_nil_of_le (by omega)] at hn; simp [nodesOk] at hn
        | succ d ihd =>
          intro i h hn
          have hi : i < e.length := by omega
          rw [drop_at _ _ hi] at hn
          simp only [nodesOk, Bool.and_eq_false_iff] at hn
          refine Ev.step (fun k => by rw [impl_IsExpr.l0]) (Ev.pos (by omega) (Ev.pos (by omega) (Ev.pos (by omega) ?_)))
          rw [rdT_at _ _ hi]
          refine Ev.bindB _ (isNode_ev e[i] i (by omega) (by omega)) ?_
          cases hc : nodeOk e[i] (i : Int) with
          | false => exact Ev.neg (by simp) (Ev.now _)
          | true =>
            rw [next_ok i _ hi (by omega)]
            exact Ev.pos rfl (ihd (i + 1) (by omega) (hn.resolve_left (by rw [hc]; simp)))
      simpa using key e.length 0 (by omega) (by simpa using hk)
end Go.Proofs.Ytlmegefdnkjcbaa.Pa
