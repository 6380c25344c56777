/- A subtree, copied behind other nodes: what the reference's copy answers. -/
import Derived.Test.YtohfaccniialmaaPTree
import Derived.Test.YtohfaccniialmaaEw
namespace Go.Proofs.Ytohfaccniialmaa.Am
open Go
set_option linter.unusedVariables false
set_option linter.unusedSimpArgs false

def putN (n : Nd) (is : List Int) : Nd := (n.1, is.getD 0 0, is.getD 1 0, n.2.2.2)
/-- the parts' copies, one behind the other, and where each one's root stands -/
def wkP (w : Int → Nat → List Nd) : List Int → Nat → List Nd × List Int
  | [], _ => ([], [])
  | p :: r, b => (w p b ++ (wkP w r (b + (w p b).length)).1, (((b + (w p b).length : Nat) : Int) - 1) :: (wkP w r (b + (w p b).length)).2)
/-- what a copy of the subtree at i appends behind b nodes -/
def wk (e : List Nd) : Nat → Int → Nat → List Nd
  | 0, _, _ => []
  | f + 1, i, b => match e[i.toNat]? with
    | some n => (wkP (wk e f) (partsOf n) b).1 ++ [putN n (wkP (wk e f) (partsOf n) b).2]
    | none => []
theorem wkP_len {w : Int → Nat → List Nd} {m : Nat} (hw : ∀ p b, (w p b).length ≤ m) : ∀ (ps : List Int) (b : Nat), (wkP w ps b).1.length ≤ m * ps.length
  | [], b => by simp [wkP]
  | p :: r, b => by
    have h1 := hw p b
    have h2 := wkP_len hw r (b + (w p b).length)
    simp only [wkP, List.length_append, List.length_cons]
    rw [Nat.mul_add, Nat.mul_one]
    omega
theorem wk_len (e : List Nd) : ∀ (f : Nat) (i : Int) (b : Nat), (wk e f i b).length + 1 ≤ 2 ^ f
  | 0, i, b => by simp [wk]
  | f + 1, i, b => by
    have hp : 1 ≤ 2 ^ f := Nat.one_le_two_pow
    simp only [wk]
    split
    · rename_i n hn
      have h1 := wkP_len (w := wk e f) (m := 2 ^ f - 1) (fun p b => by have := wk_len e f p b; omega) (partsOf n) b
      have h2 := parts_le n
      have h3 : (2 ^ f - 1) * (partsOf n).length ≤ (2 ^ f - 1) * 2 := Nat.mul_le_mul_left _ h2
      rw [List.length_append, Nat.pow_succ]
      simp only [List.length_cons, List.length_nil]
      omega
    · rw [Nat.pow_succ]; simp; omega
theorem wk_at {e : List Nd} {i : Nat} (hi : i < e.length) (f b : Nat) : wk e (f + 1) (i : Int) b = (wkP (wk e f) (partsOf e[i]) b).1 ++ [putN e[i] (wkP (wk e f) (partsOf e[i]) b).2] := by
  simp only [wk, Int.toNat_natCast, List.getElem?_eq_getElem hi]
theorem wk_at' {e : List Nd} {i : Nat} (hi : i < e.length) {g f : Nat} (hg : g = f + 1) (b : Nat) : wk e g (i : Int) b = (wkP (wk e f) (partsOf e[i]) b).1 ++ [putN e[i] (wkP (wk e f) (partsOf e[i]) b).2] := by
  subst hg
  exact wk_at hi f b
theorem put_f (n : Nd) (is : List Int) (t : List Nd) (ht : t.length ≤ 1000000000) : spec_ruTree_put.f n is t = some ((t.length : Int), ((), t ++ [putN n is])) := by
  have hw : IntKind.wrap .i64 (t.length : Int) = (t.length : Int) := wrap_ok (by omega) (by omega)
  have hr : t.length + 1 ≤ 35184372088832 / (40 + 1) := by omega
  rw [spec_ruTree_put.eq]
  match is with
  | [] => simp [br, gt, putN, hr, hw]
  | [a] => simp [br, gt, putN, hr, hw]
  | a :: b :: r =>
    have h1 : ((r.length : Int) + 1 + 1 > 0) := by omega
    have h2 : ((r.length : Int) + 1 + 1 > 1) := by omega
    simp [br, gt, putN, hr, hw, h1, h2]
theorem exParts_in {e : List Nd} (hn : nodesOk e 0 = true) {i : Nat} (hi : i < e.length) : ∀ p ∈ partsOf e[i], 0 ≤ p ∧ p < i := by
  have := nodesOk_get e 0 hn i hi
  rw [Nat.zero_add] at this
  exact nodeOk_parts this
/-- the rounds over the parts -/
theorem copied_parts (e : List Nd) {i : Nat} (hi : i < e.length) (w : Int → Nat → List Nd) {m : Nat} (hm : ∀ p b, (w p b).length ≤ m) (hF : ∀ p ∈ partsOf e[i], ∀ t : List Nd, t.length + m * 4 + 4 ≤ 1000000000 → Ew (fun d k => spec_ruTree_copied.F d k e p t) (((t.length + (w p t.length).length : Nat) : Int) - 1, ((), t ++ w p t.length))) :
    ∀ (r j : Nat) (t : List Nd) (is : List Int), j + r = (partsOf e[i]).length → t.length + m * (r + 4) + 4 ≤ 1000000000 → is.length ≤ j →
      Ew (fun d k => spec_ruTree_copied.l0 d k e (i : Int) (partsOf e[i]) ((partsOf e[i]).length : Int) (j : Int) t is) (((t.length + (wkP w ((partsOf e[i]).drop j) t.length).1.length : Nat) : Int), ((), t ++ (wkP w ((partsOf e[i]).drop j) t.length).1 ++ [putN e[i] (is ++ (wkP w ((partsOf e[i]).drop j) t.length).2)])) := by
  intro r
  induction r with
  | zero =>
    intro j t is hj ht his
    rw [List.drop_eq_nil_of_le (by omega)]
    refine Ew.step (fun d k => spec_ruTree_copied.l0_eq d k _ _ _ _ _ _ _) (Ew.neg (by simp; omega) (Ew.pos (by simp) (Ew.get hi (Ew.here (put_f _ _ _ (by omega)) (Ew.ret ?_)))))
    simp [wkP]
  | succ r ih =>
    intro j t is hj ht his
    have hlt : j < (partsOf e[i]).length := by omega
    have h2 := parts_le e[i]
    have hw := hm (partsOf e[i])[j] t.length
    have e1 : m * (r + 1 + 4) = m * (r + 4) + m := by rw [show r + 1 + 4 = (r + 4) + 1 by omega, Nat.mul_add, Nat.mul_one]
    have e2 : m * 4 ≤ m * (r + 1 + 4) := Nat.mul_le_mul_left _ (by omega)
    refine Ew.step (fun d k => spec_ruTree_copied.l0_eq d k _ _ _ _ _ _ _) (Ew.pos (by simpa using hlt) (Ew.pos (by simp) (Ew.get hlt (Ew.bind (hF _ (List.getElem_mem hlt) t (by omega)) (Ew.pos (by simp; omega) ?_)))))
    rw [next_ok j _ hlt (by omega)]
    refine Ew.eq (ih (j + 1) (t ++ w (partsOf e[i])[j] t.length) (is ++ [((t.length + (w (partsOf e[i])[j] t.length).length : Nat) : Int) - 1]) (by omega) (by rw [List.length_append]; omega) (by simp; omega)) ?_
    rw [drop_at _ _ hlt]
    simp only [wkP, List.length_append]
    simp [List.append_assoc, Nat.add_assoc]
theorem copied_ev (e : List Nd) (hn : nodesOk e 0 = true) : ∀ (f : Nat) (i : Nat) (t : List Nd), i < e.length → i < f → f ≤ 25 → t.length + 2 ^ f * 4 ≤ 1000000000 → Ew (fun d k => spec_ruTree_copied.F d k e (i : Int) t) (((t.length + (wk e f i t.length).length : Nat) : Int) - 1, ((), t ++ wk e f i t.length))
  | 0, i, t, hi, hf, _, _ => by omega
  | f + 1, i, t, hi, hf, h25, ht => by
    have hin := exParts_in hn hi
    have h2 := parts_le e[i]
    have hp : 1 ≤ 2 ^ f := Nat.one_le_two_pow
    rw [Nat.pow_succ] at ht
    refine Ew.deep (fun d k => spec_ruTree_copied.eq d k _ _ _) (Ew.pos (by simp) (Ew.get hi (Ew.bind (exParts_ev e[i]).ew ?_)))
    refine Ew.eq (copied_parts e hi (wk e f) (m := 2 ^ f - 1) (fun p b => by have := wk_len e f p b; omega) (fun p hp t' ht' => ?_) (partsOf e[i]).length 0 t [] (by omega) (by
      have : (2 ^ f - 1) * ((partsOf e[i]).length + 4) ≤ (2 ^ f - 1) * 6 := Nat.mul_le_mul_left _ (by omega)
      omega) (by simp)) ?_
    · obtain ⟨h0, h1⟩ := hin p hp
      obtain ⟨q, rfl⟩ := Int.eq_ofNat_of_zero_le h0
      have hq : q < i := by omega
      exact copied_ev e hn f q t' (by omega) (by omega) (by omega) (by omega)
    · rw [List.drop_zero]
      simp only [wk, Int.toNat_natCast, List.getElem?_eq_getElem hi, List.nil_append, List.length_append, List.length_cons, List.length_nil, List.append_assoc]
      simp
      omega
theorem copiedN_parts (e : List Nd) {i : Nat} (hi : i < e.length) (w : Int → Nat → List Nd) {m : Nat} (hm : ∀ p b, (w p b).length ≤ m) (hF : ∀ p ∈ partsOf e[i], ∀ t : List Nd, t.length + m * 4 + 4 ≤ 1000000000 → Ev (fun k => spec_ruTree_copied.f k e p t) (((t.length + (w p t.length).length : Nat) : Int) - 1, ((), t ++ w p t.length))) :
    ∀ (r j : Nat) (t : List Nd) (is : List Int), j + r = (partsOf e[i]).length → t.length + m * (r + 4) + 4 ≤ 1000000000 → is.length ≤ j →
      Ev (fun k => spec_ruTree_copied_nil.l0 k e (i : Int) (partsOf e[i]) ((partsOf e[i]).length : Int) (j : Int) t is) (((t.length + (wkP w ((partsOf e[i]).drop j) t.length).1.length : Nat) : Int), ((), t ++ (wkP w ((partsOf e[i]).drop j) t.length).1 ++ [putN e[i] (is ++ (wkP w ((partsOf e[i]).drop j) t.length).2)])) := by
  intro r
  induction r with
  | zero =>
    intro j t is hj ht his
    rw [List.drop_eq_nil_of_le (by omega)]
    refine Ev.step (fun k => spec_ruTree_copied_nil.l0_eq k _ _ _ _ _ _ _) (Ev.neg (by simp; omega) (Ev.pos (by simp) (Ev.get hi (Ev.here (put_f _ _ _ (by omega)) (Ev.ret ?_)))))
    simp [wkP]
  | succ r ih =>
    intro j t is hj ht his
    have hlt : j < (partsOf e[i]).length := by omega
    have h2 := parts_le e[i]
    have hw := hm (partsOf e[i])[j] t.length
    have e1 : m * (r + 1 + 4) = m * (r + 4) + m := by rw [show r + 1 + 4 = (r + 4) + 1 by omega, Nat.mul_add, Nat.mul_one]
    have e2 : m * 4 ≤ m * (r + 1 + 4) := Nat.mul_le_mul_left _ (by omega)
    refine Ev.step (fun k => spec_ruTree_copied_nil.l0_eq k _ _ _ _ _ _ _) (Ev.pos (by simpa using hlt) (Ev.pos (by simp) (Ev.get hlt (Ev.bind (hF _ (List.getElem_mem hlt) t (by omega)) (Ev.pos (by simp; omega) ?_)))))
    rw [next_ok j _ hlt (by omega)]
    refine Ev.eq (ih (j + 1) (t ++ w (partsOf e[i])[j] t.length) (is ++ [((t.length + (w (partsOf e[i])[j] t.length).length : Nat) : Int) - 1]) (by omega) (by rw [List.length_append]; omega) (by simp; omega)) ?_
    rw [drop_at _ _ hlt]
    simp only [wkP, List.length_append]
    simp [List.append_assoc, Nat.add_assoc]
theorem ruWalk_gen (e : List Nd) (hn : nodesOk e 0 = true) {i : Nat} (hi : i < e.length) {g f : Nat} (hg : g = f + 1) (hif : i ≤ f) (hf : f ≤ 25) (hb : 2 ^ f * 6 ≤ 1000000000) : Ev (fun k => spec_ruWalk.f k e (i : Int)) (wk e g i 0) := by
  refine Ev.step (fun k => spec_ruWalk.eq k e i) (Ev.bind (b := ((((wk e g i 0).length : Nat) : Int) - 1, ((), wk e g i 0))) ?_ (Ev.now _))
  have hin := exParts_in hn hi
  have h2 := parts_le e[i]
  have hp1 : 1 ≤ 2 ^ f := Nat.one_le_two_pow
  refine Ev.step (fun k => spec_ruTree_copied_nil.eq k _ _) (Ev.pos (by simp) (Ev.get hi (Ev.bind (exParts_ev e[i]) ?_)))
  refine Ev.eq (copiedN_parts e hi (wk e f) (m := 2 ^ f - 1) (fun p b => by have := wk_len e f p b; omega) (fun p hp t' ht' => ?_) (partsOf e[i]).length 0 [] [] (by omega) (by
    have : (2 ^ f - 1) * ((partsOf e[i]).length + 4) ≤ (2 ^ f - 1) * 6 := Nat.mul_le_mul_left _ (by omega)
    simp only [List.length_nil]
    omega) (by simp)) ?_
  · obtain ⟨h0, h1⟩ := hin p hp
    obtain ⟨q, rfl⟩ := Int.eq_ofNat_of_zero_le h0
    have hq : q < i := by omega
    exact (copied_ev e hn f q t' (by omega) (by omega) (by omega) (by omega)).ev
  · rw [List.drop_zero]
    rw [wk_at' hi hg 0]
    simp only [List.length_nil, List.nil_append]
    generalize wkP (wk e f) (partsOf e[i]) 0 = q
    simp
theorem ruWalk_ev (e : List Nd) (hn : nodesOk e 0 = true) (h24 : e.length ≤ 24) {i : Nat} (hi : i < e.length) : Ev (fun k => spec_ruWalk.f k e (i : Int)) (wk e 25 i 0) :=
  ruWalk_gen e hn hi (g := 25) (f := 24) rfl (by omega) (by omega) (by decide)
end Go.Proofs.Ytohfaccniialmaa.Am
