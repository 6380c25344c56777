/- A subtree, copied behind other nodes: what the program's copy answers, as long as it does not grow beyond 24 nodes. -/
import Derived.Test.YtohfaccniialmaaPWalk
namespace Go.Proofs.Ytohfaccniialmaa.Am
open Go
set_option linter.unusedVariables false
set_option linter.unusedSimpArgs false

/-- the rounds over the parts, none of which grows beyond the bound -/
theorem grow_parts (e : List Nd) {i : Nat} (hi : i < e.length) (w : Int → Nat → List Nd) (hF : ∀ p ∈ partsOf e[i], ∀ t : List Nd, t.length + (w p t.length).length ≤ 24 → Ew (fun d k => impl_grow.F d k e p t) ((), t ++ w p t.length)) :
    ∀ (r j : Nat) (t : List Nd) (is : List Int), j + r = (partsOf e[i]).length → is.length = j → t.length + (wkP w ((partsOf e[i]).drop j) t.length).1.length + 1 ≤ 24 →
      Ew (fun d k => impl_grow.l0 d k e (partsOf e[i]) ((partsOf e[i]).length : Int) (j : Int) t e[i].1 e[i].2.1 e[i].2.2.1 e[i].2.2.2 (is ++ List.replicate (2 - j) 0)) ((), t ++ (wkP w ((partsOf e[i]).drop j) t.length).1 ++ [putN e[i] (is ++ (wkP w ((partsOf e[i]).drop j) t.length).2)]) := by
  have h2 := parts_le e[i]
  intro r
  induction r with
  | zero =>
    intro j t is hj his ht
    rw [List.drop_eq_nil_of_le (by omega)] at ht ⊢
    have hl2 : (is ++ List.replicate (2 - j) 0).length = 2 := by simp; omega
    have g0 : (is ++ List.replicate (2 - j) (0 : Int))[0]? = some (is.getD 0 0) := by
      match is, j, his with
      | [], 0, _ => rfl
      | a :: q, _, _ => rfl
    have g1 : (is ++ List.replicate (2 - j) (0 : Int))[1]? = some (is.getD 1 0) := by
      match is, j, his with
      | [], 0, _ => rfl
      | [a], 1, _ => rfl
      | a :: b :: q, _, _ => rfl
    refine Ew.step (fun d k => impl_grow.l0_eq d k _ _ _ _ _ _ _ _ _ _) (Ew.neg (by simp; omega) (Ew.pos (by rw [hl2]; decide) (Ew.at g0 (Ew.pos (by rw [hl2]; decide) (Ew.at g1 (Ew.pos (by simp; omega) (Ew.ret ?_)))))))
    simp [wkP, putN]
  | succ r ih =>
    intro j t is hj his ht
    have hlt : j < (partsOf e[i]).length := by omega
    rw [drop_at _ _ hlt] at ht ⊢
    simp only [wkP, List.length_append] at ht ⊢
    have hl2 : (is ++ List.replicate (2 - j) (0 : Int)).length = 2 := by simp; omega
    have hj2 : j < (is ++ List.replicate (2 - j) (0 : Int)).length := by omega
    refine Ew.step (fun d k => impl_grow.l0_eq d k _ _ _ _ _ _ _ _ _ _) (Ew.pos (by simpa using hlt) (Ew.pos (by simp) (Ew.get hlt (Ew.bind (hF _ (List.getElem_mem hlt) t (by omega)) (Ew.neg (by simp; omega) (Ew.pos (by simp) (Ew.pos (by rw [hl2]; simp; omega) (Ew.get hj2 ?_))))))))
    rw [next_ok j _ hlt (by omega), Int.toNat_natCast]
    have hset : (is ++ List.replicate (2 - j) (0 : Int)).set j (IntKind.wrap .i64 (((t ++ w (partsOf e[i])[j] t.length).length : Int) - 1)) = (is ++ [((t.length + (w (partsOf e[i])[j] t.length).length : Nat) : Int) - 1]) ++ List.replicate (2 - (j + 1)) 0 := by
      rw [wrap_ok (by simp; omega) (by simp; omega), List.set_append_right j _ (by omega), show j - is.length = 0 by omega, show 2 - j = (2 - (j + 1)) + 1 by omega, List.replicate_succ, List.set_cons_zero]
      simp
    rw [hset]
    refine Ew.eq (ih (j + 1) (t ++ w (partsOf e[i])[j] t.length) _ (by omega) (by simp; omega) (by rw [List.length_append]; omega)) ?_
    rw [List.length_append]
    simp [List.append_assoc]
theorem grow_fit (e : List Nd) (hn : nodesOk e 0 = true) : ∀ (f i : Nat) (t : List Nd), i < e.length → i < f → t.length + (wk e f i t.length).length ≤ 24 → Ew (fun d k => impl_grow.F d k e (i : Int) t) ((), t ++ wk e f i t.length)
  | 0, i, t, hi, hf, _ => by omega
  | f + 1, i, t, hi, hf, ht => by
    have hin := exParts_in hn hi
    rw [wk_at hi] at ht ⊢
    rw [List.length_append] at ht
    refine Ew.deep (fun d k => impl_grow.eq d k _ _ _) (Ew.pos (by simp) (Ew.get hi (Ew.bind (of_ev e[i]).ew ?_)))
    have := grow_parts e hi (wk e f) (fun p hp t' ht' => by
      obtain ⟨h0, h1⟩ := hin p hp
      obtain ⟨q, rfl⟩ := Int.eq_ofNat_of_zero_le h0
      exact grow_fit e hn f q t' (by omega) (by omega) ht') (partsOf e[i]).length 0 t [] (by omega) rfl (by rw [List.drop_zero]; simpa [Nat.add_assoc] using ht)
    rw [List.drop_zero] at this
    simpa [List.append_assoc] using this
/-- the rounds over the parts, one of which grows beyond the bound -/
theorem grow_parts_over (e : List Nd) {i : Nat} (hi : i < e.length) (w : Int → Nat → List Nd) (hF : ∀ p ∈ partsOf e[i], ∀ t : List Nd, t.length + (w p t.length).length ≤ 24 → Ew (fun d k => impl_grow.F d k e p t) ((), t ++ w p t.length))
    (hO : ∀ p ∈ partsOf e[i], ∀ t : List Nd, t.length ≤ 24 → 24 < t.length + (w p t.length).length → ∃ t', 24 < t'.length ∧ Ew (fun d k => impl_grow.F d k e p t) ((), t')) :
    ∀ (r j : Nat) (t : List Nd) (is : List Int), j + r = (partsOf e[i]).length → is.length = j → t.length ≤ 24 → 24 < t.length + (wkP w ((partsOf e[i]).drop j) t.length).1.length + 1 →
      ∃ t', 24 < t'.length ∧ Ew (fun d k => impl_grow.l0 d k e (partsOf e[i]) ((partsOf e[i]).length : Int) (j : Int) t e[i].1 e[i].2.1 e[i].2.2.1 e[i].2.2.2 (is ++ List.replicate (2 - j) 0)) ((), t') := by
  have h2 := parts_le e[i]
  intro r
  induction r with
  | zero =>
    intro j t is hj his h24 ht
    rw [List.drop_eq_nil_of_le (by omega)] at ht
    simp only [wkP, List.length_nil] at ht
    have hl2 : (is ++ List.replicate (2 - j) 0).length = 2 := by simp; omega
    have g0 : (is ++ List.replicate (2 - j) (0 : Int))[0]? = some (is.getD 0 0) := by
      match is, j, his with
      | [], 0, _ => rfl
      | a :: q, _, _ => rfl
    have g1 : (is ++ List.replicate (2 - j) (0 : Int))[1]? = some (is.getD 1 0) := by
      match is, j, his with
      | [], 0, _ => rfl
      | [a], 1, _ => rfl
      | a :: b :: q, _, _ => rfl
    refine ⟨t ++ [putN e[i] is], by rw [List.length_append]; simp; omega, Ew.step (fun d k => impl_grow.l0_eq d k _ _ _ _ _ _ _ _ _ _) (Ew.neg (by simp; omega) (Ew.pos (by rw [hl2]; decide) (Ew.at g0 (Ew.pos (by rw [hl2]; decide) (Ew.at g1 (Ew.pos (by simp; omega) (Ew.ret ?_)))))))⟩
    simp [putN]
  | succ r ih =>
    intro j t is hj his h24 ht
    have hlt : j < (partsOf e[i]).length := by omega
    rw [drop_at _ _ hlt] at ht
    simp only [wkP, List.length_append] at ht
    have hl2 : (is ++ List.replicate (2 - j) (0 : Int)).length = 2 := by simp; omega
    have hj2 : j < (is ++ List.replicate (2 - j) (0 : Int)).length := by omega
    by_cases hc : t.length + (w (partsOf e[i])[j] t.length).length ≤ 24
    · obtain ⟨t', h1, h3⟩ := ih (j + 1) (t ++ w (partsOf e[i])[j] t.length) (is ++ [((t.length + (w (partsOf e[i])[j] t.length).length : Nat) : Int) - 1]) (by omega) (by simp; omega) (by rw [List.length_append]; exact hc) (by rw [List.length_append]; omega)
      refine ⟨t', h1, Ew.step (fun d k => impl_grow.l0_eq d k _ _ _ _ _ _ _ _ _ _) (Ew.pos (by simpa using hlt) (Ew.pos (by simp) (Ew.get hlt (Ew.bind (hF _ (List.getElem_mem hlt) t hc) (Ew.neg (by simp; omega) (Ew.pos (by simp) (Ew.pos (by rw [hl2]; simp; omega) (Ew.get hj2 ?_))))))))⟩
      rw [next_ok j _ hlt (by omega), Int.toNat_natCast]
      by_cases h0 : (t ++ w (partsOf e[i])[j] t.length).length = 0
      · have hset : (is ++ List.replicate (2 - j) (0 : Int)).set j (IntKind.wrap .i64 (((t ++ w (partsOf e[i])[j] t.length).length : Int) - 1)) = (is ++ [((t.length + (w (partsOf e[i])[j] t.length).length : Nat) : Int) - 1]) ++ List.replicate (2 - (j + 1)) 0 := by
          rw [wrap_ok (by simp; omega) (by simp; omega), List.set_append_right j _ (by omega), show j - is.length = 0 by omega, show 2 - j = (2 - (j + 1)) + 1 by omega, List.replicate_succ, List.set_cons_zero]
          simp
        rw [hset]
        exact h3
      · have hset : (is ++ List.replicate (2 - j) (0 : Int)).set j (IntKind.wrap .i64 (((t ++ w (partsOf e[i])[j] t.length).length : Int) - 1)) = (is ++ [((t.length + (w (partsOf e[i])[j] t.length).length : Nat) : Int) - 1]) ++ List.replicate (2 - (j + 1)) 0 := by
          rw [wrap_ok (by simp; omega) (by simp; omega), List.set_append_right j _ (by omega), show j - is.length = 0 by omega, show 2 - j = (2 - (j + 1)) + 1 by omega, List.replicate_succ, List.set_cons_zero]
          simp
        rw [hset]
        exact h3
    · obtain ⟨t', h1, h3⟩ := hO _ (List.getElem_mem hlt) t h24 (by omega)
      exact ⟨t', h1, Ew.step (fun d k => impl_grow.l0_eq d k _ _ _ _ _ _ _ _ _ _) (Ew.pos (by simpa using hlt) (Ew.pos (by simp) (Ew.get hlt (Ew.bind h3 (Ew.pos (by simp; omega) (Ew.now _))))))⟩
theorem grow_over (e : List Nd) (hn : nodesOk e 0 = true) : ∀ (f i : Nat) (t : List Nd), i < e.length → i < f → t.length ≤ 24 → 24 < t.length + (wk e f i t.length).length → ∃ t', 24 < t'.length ∧ Ew (fun d k => impl_grow.F d k e (i : Int) t) ((), t')
  | 0, i, t, hi, hf, _, _ => by omega
  | f + 1, i, t, hi, hf, h24, ht => by
    have hin := exParts_in hn hi
    rw [wk_at hi, List.length_append] at ht
    obtain ⟨t', h1, h3⟩ := grow_parts_over e hi (wk e f) (fun p hp t' ht' => by
      obtain ⟨h0, h1⟩ := hin p hp
      obtain ⟨q, rfl⟩ := Int.eq_ofNat_of_zero_le h0
      exact grow_fit e hn f q t' (by omega) (by omega) ht') (fun p hp t' h24' ht' => by
      obtain ⟨h0, h1⟩ := hin p hp
      obtain ⟨q, rfl⟩ := Int.eq_ofNat_of_zero_le h0
      exact grow_over e hn f q t' (by omega) (by omega) h24' ht') (partsOf e[i]).length 0 t [] (by omega) rfl h24 (by rw [List.drop_zero]; simpa [Nat.add_assoc] using ht)
    refine ⟨t', h1, Ew.deep (fun d k => impl_grow.eq d k _ _ _) (Ew.pos (by simp) (Ew.get hi (Ew.bind (of_ev e[i]).ew ?_)))⟩
    simpa using h3
/-- the rounds over the parts, none of which grows beyond the bound -/
theorem growN_parts (e : List Nd) {i : Nat} (hi : i < e.length) (w : Int → Nat → List Nd) (hF : ∀ p ∈ partsOf e[i], ∀ t : List Nd, t.length + (w p t.length).length ≤ 24 → Ev (fun k => impl_grow.f k e p t) ((), t ++ w p t.length)) :
    ∀ (r j : Nat) (t : List Nd) (is : List Int), j + r = (partsOf e[i]).length → is.length = j → t.length + (wkP w ((partsOf e[i]).drop j) t.length).1.length + 1 ≤ 24 →
      Ev (fun k => impl_grow_nil.l0 k e (partsOf e[i]) ((partsOf e[i]).length : Int) (j : Int) t e[i].1 e[i].2.1 e[i].2.2.1 e[i].2.2.2 (is ++ List.replicate (2 - j) 0)) (t ++ (wkP w ((partsOf e[i]).drop j) t.length).1 ++ [putN e[i] (is ++ (wkP w ((partsOf e[i]).drop j) t.length).2)], ()) := by
  have h2 := parts_le e[i]
  intro r
  induction r with
  | zero =>
    intro j t is hj his ht
    rw [List.drop_eq_nil_of_le (by omega)] at ht ⊢
    have hl2 : (is ++ List.replicate (2 - j) 0).length = 2 := by simp; omega
    have g0 : (is ++ List.replicate (2 - j) (0 : Int))[0]? = some (is.getD 0 0) := by
      match is, j, his with
      | [], 0, _ => rfl
      | a :: q, _, _ => rfl
    have g1 : (is ++ List.replicate (2 - j) (0 : Int))[1]? = some (is.getD 1 0) := by
      match is, j, his with
      | [], 0, _ => rfl
      | [a], 1, _ => rfl
      | a :: b :: q, _, _ => rfl
    refine Ev.step (fun k => impl_grow_nil.l0_eq k _ _ _ _ _ _ _ _ _ _) (Ev.neg (by simp; omega) (Ev.pos (by rw [hl2]; decide) (Ev.at g0 (Ev.pos (by rw [hl2]; decide) (Ev.at g1 (Ev.pos (by simp; omega) (Ev.ret ?_)))))))
    simp [wkP, putN]
  | succ r ih =>
    intro j t is hj his ht
    have hlt : j < (partsOf e[i]).length := by omega
    rw [drop_at _ _ hlt] at ht ⊢
    simp only [wkP, List.length_append] at ht ⊢
    have hl2 : (is ++ List.replicate (2 - j) (0 : Int)).length = 2 := by simp; omega
    have hj2 : j < (is ++ List.replicate (2 - j) (0 : Int)).length := by omega
    refine Ev.step (fun k => impl_grow_nil.l0_eq k _ _ _ _ _ _ _ _ _ _) (Ev.pos (by simpa using hlt) (Ev.pos (by simp) (Ev.get hlt (Ev.bind (hF _ (List.getElem_mem hlt) t (by omega)) (Ev.neg (by simp; omega) (Ev.pos (by simp) (Ev.pos (by rw [hl2]; simp; omega) (Ev.get hj2 ?_))))))))
    rw [next_ok j _ hlt (by omega), Int.toNat_natCast]
    have hset : (is ++ List.replicate (2 - j) (0 : Int)).set j (IntKind.wrap .i64 (((t ++ w (partsOf e[i])[j] t.length).length : Int) - 1)) = (is ++ [((t.length + (w (partsOf e[i])[j] t.length).length : Nat) : Int) - 1]) ++ List.replicate (2 - (j + 1)) 0 := by
      rw [wrap_ok (by simp; omega) (by simp; omega), List.set_append_right j _ (by omega), show j - is.length = 0 by omega, show 2 - j = (2 - (j + 1)) + 1 by omega, List.replicate_succ, List.set_cons_zero]
      simp
    rw [hset]
    refine Ev.eq (ih (j + 1) (t ++ w (partsOf e[i])[j] t.length) _ (by omega) (by simp; omega) (by rw [List.length_append]; omega)) ?_
    rw [List.length_append]
    simp [List.append_assoc]
/-- the rounds over the parts, one of which grows beyond the bound -/
theorem growN_parts_over (e : List Nd) {i : Nat} (hi : i < e.length) (w : Int → Nat → List Nd) (hF : ∀ p ∈ partsOf e[i], ∀ t : List Nd, t.length + (w p t.length).length ≤ 24 → Ev (fun k => impl_grow.f k e p t) ((), t ++ w p t.length))
    (hO : ∀ p ∈ partsOf e[i], ∀ t : List Nd, t.length ≤ 24 → 24 < t.length + (w p t.length).length → ∃ t', 24 < t'.length ∧ Ev (fun k => impl_grow.f k e p t) ((), t')) :
    ∀ (r j : Nat) (t : List Nd) (is : List Int), j + r = (partsOf e[i]).length → is.length = j → t.length ≤ 24 → 24 < t.length + (wkP w ((partsOf e[i]).drop j) t.length).1.length + 1 →
      ∃ t', 24 < t'.length ∧ Ev (fun k => impl_grow_nil.l0 k e (partsOf e[i]) ((partsOf e[i]).length : Int) (j : Int) t e[i].1 e[i].2.1 e[i].2.2.1 e[i].2.2.2 (is ++ List.replicate (2 - j) 0)) (t', ()) := by
  have h2 := parts_le e[i]
  intro r
  induction r with
  | zero =>
    intro j t is hj his h24 ht
    rw [List.drop_eq_nil_of_le (by omega)] at ht
    simp only [wkP, List.length_nil] at ht
    have hl2 : (is ++ List.replicate (2 - j) 0).length = 2 := by simp; omega
    have g0 : (is ++ List.replicate (2 - j) (0 : Int))[0]? = some (is.getD 0 0) := by
      match is, j, his with
      | [], 0, _ => rfl
      | a :: q, _, _ => rfl
    have g1 : (is ++ List.replicate (2 - j) (0 : Int))[1]? = some (is.getD 1 0) := by
      match is, j, his with
      | [], 0, _ => rfl
      | [a], 1, _ => rfl
      | a :: b :: q, _, _ => rfl
    refine ⟨t ++ [putN e[i] is], by rw [List.length_append]; simp; omega, Ev.step (fun k => impl_grow_nil.l0_eq k _ _ _ _ _ _ _ _ _ _) (Ev.neg (by simp; omega) (Ev.pos (by rw [hl2]; decide) (Ev.at g0 (Ev.pos (by rw [hl2]; decide) (Ev.at g1 (Ev.pos (by simp; omega) (Ev.ret ?_)))))))⟩
    simp [putN]
  | succ r ih =>
    intro j t is hj his h24 ht
    have hlt : j < (partsOf e[i]).length := by omega
    rw [drop_at _ _ hlt] at ht
    simp only [wkP, List.length_append] at ht
    have hl2 : (is ++ List.replicate (2 - j) (0 : Int)).length = 2 := by simp; omega
    have hj2 : j < (is ++ List.replicate (2 - j) (0 : Int)).length := by omega
    by_cases hc : t.length + (w (partsOf e[i])[j] t.length).length ≤ 24
    · obtain ⟨t', h1, h3⟩ := ih (j + 1) (t ++ w (partsOf e[i])[j] t.length) (is ++ [((t.length + (w (partsOf e[i])[j] t.length).length : Nat) : Int) - 1]) (by omega) (by simp; omega) (by rw [List.length_append]; exact hc) (by rw [List.length_append]; omega)
      refine ⟨t', h1, Ev.step (fun k => impl_grow_nil.l0_eq k _ _ _ _ _ _ _ _ _ _) (Ev.pos (by simpa using hlt) (Ev.pos (by simp) (Ev.get hlt (Ev.bind (hF _ (List.getElem_mem hlt) t hc) (Ev.neg (by simp; omega) (Ev.pos (by simp) (Ev.pos (by rw [hl2]; simp; omega) (Ev.get hj2 ?_))))))))⟩
      rw [next_ok j _ hlt (by omega), Int.toNat_natCast]
      by_cases h0 : (t ++ w (partsOf e[i])[j] t.length).length = 0
      · have hset : (is ++ List.replicate (2 - j) (0 : Int)).set j (IntKind.wrap .i64 (((t ++ w (partsOf e[i])[j] t.length).length : Int) - 1)) = (is ++ [((t.length + (w (partsOf e[i])[j] t.length).length : Nat) : Int) - 1]) ++ List.replicate (2 - (j + 1)) 0 := by
          rw [wrap_ok (by simp; omega) (by simp; omega), List.set_append_right j _ (by omega), show j - is.length = 0 by omega, show 2 - j = (2 - (j + 1)) + 1 by omega, List.replicate_succ, List.set_cons_zero]
          simp
        rw [hset]
        exact h3
      · have hset : (is ++ List.replicate (2 - j) (0 : Int)).set j (IntKind.wrap .i64 (((t ++ w (partsOf e[i])[j] t.length).length : Int) - 1)) = (is ++ [((t.length + (w (partsOf e[i])[j] t.length).length : Nat) : Int) - 1]) ++ List.replicate (2 - (j + 1)) 0 := by
          rw [wrap_ok (by simp; omega) (by simp; omega), List.set_append_right j _ (by omega), show j - is.length = 0 by omega, show 2 - j = (2 - (j + 1)) + 1 by omega, List.replicate_succ, List.set_cons_zero]
          simp
        rw [hset]
        exact h3
    · obtain ⟨t', h1, h3⟩ := hO _ (List.getElem_mem hlt) t h24 (by omega)
      exact ⟨t', h1, Ev.step (fun k => impl_grow_nil.l0_eq k _ _ _ _ _ _ _ _ _ _) (Ev.pos (by simpa using hlt) (Ev.pos (by simp) (Ev.get hlt (Ev.bind h3 (Ev.pos (by simp; omega) (Ev.now _))))))⟩
theorem growN_fit (e : List Nd) (hn : nodesOk e 0 = true) {i : Nat} (hi : i < e.length) {g f : Nat} (hg : g = f + 1) (hif : i ≤ f) (ht : (wk e g i 0).length ≤ 24) : Ev (fun k => impl_grow_nil.f k e (i : Int)) (wk e g i 0, ()) := by
  have hin := exParts_in hn hi
  rw [wk_at' hi hg] at ht ⊢
  rw [List.length_append] at ht
  refine Ev.step (fun k => impl_grow_nil.eq k _ _) (Ev.pos (by simp) (Ev.get hi (Ev.bind (of_ev e[i]) ?_)))
  have := growN_parts e hi (wk e f) (fun p hp t' ht' => by
    obtain ⟨h0, h1⟩ := hin p hp
    obtain ⟨q, rfl⟩ := Int.eq_ofNat_of_zero_le h0
    exact (grow_fit e hn f q t' (by omega) (by omega) ht').ev) (partsOf e[i]).length 0 [] [] (by omega) rfl (by rw [List.drop_zero]; simpa using ht)
  rw [List.drop_zero] at this
  simpa using this
theorem growN_over (e : List Nd) (hn : nodesOk e 0 = true) {i : Nat} (hi : i < e.length) {g f : Nat} (hg : g = f + 1) (hif : i ≤ f) (ht : 24 < (wk e g i 0).length) : ∃ t', 24 < t'.length ∧ Ev (fun k => impl_grow_nil.f k e (i : Int)) (t', ()) := by
  have hin := exParts_in hn hi
  rw [wk_at' hi hg, List.length_append] at ht
  obtain ⟨t', h1, h3⟩ := growN_parts_over e hi (wk e f) (fun p hp t' ht' => by
    obtain ⟨h0, h1⟩ := hin p hp
    obtain ⟨q, rfl⟩ := Int.eq_ofNat_of_zero_le h0
    exact (grow_fit e hn f q t' (by omega) (by omega) ht').ev) (fun p hp t' h24' ht' => by
    obtain ⟨h0, h1⟩ := hin p hp
    obtain ⟨q, rfl⟩ := Int.eq_ofNat_of_zero_le h0
    obtain ⟨u, h2, h4⟩ := grow_over e hn f q t' (by omega) (by omega) h24' ht'
    exact ⟨u, h2, h4.ev⟩) (partsOf e[i]).length 0 [] [] (by omega) rfl (by simp) (by rw [List.drop_zero]; simpa using ht)
  refine ⟨t', h1, Ev.step (fun k => impl_grow_nil.eq k _ _) (Ev.pos (by simp) (Ev.get hi (Ev.bind (of_ev e[i]) ?_)))⟩
  simpa using h3
end Go.Proofs.Ytohfaccniialmaa.Am
