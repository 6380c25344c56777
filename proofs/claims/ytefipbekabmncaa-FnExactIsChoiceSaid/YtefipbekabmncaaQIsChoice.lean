/- IsChoice of the program and of the reference answer alike: the plain law. -/
import Derived.Test.YtefipbekabmncaaQLaw
import Derived.Test.YtefipbekabmncaaPa10
import Derived.Test.YtefipbekabmncaaPa4
import Derived.Test.YtefipbekabmncaaPa5
namespace Go.Proofs.Ytefipbekabmncaa.Pa
open Go.RowKit Go.Proofs.YtefipbekabmncaaW.PrintWords Go.Proofs.YtefipbekabmncaaW.PrintLast Go.Proofs.YtefipbekabmncaaW.PrintMore
set_option linter.unusedVariables false
set_option linter.unusedSimpArgs false
/-- a loop that ends with false at the first place where a test fails -/
theorem Ev.allB (n : Nat) (g : Nat → Nat → Option Bool) (c : Nat → Bool) (R : Bool) (hend : Ev (fun k => g k n) R) (hstep : ∀ i, i < n → ∀ v, Ev (fun k => g k (i + 1)) v → Ev (fun k => g k i) (c i && v)) : Ev (fun k => g k 0) ((List.range n).all c && R) := by
  have key : ∀ (d i : Nat), i + d = n → Ev (fun k => g k i) ((List.range' i d).all c && R) := by
    intro d
    induction d with
    | zero => intro i h; obtain rfl : i = n := by omega
              simpa using hend
    | succ d ih =>
      intro i h
      refine Ev.eq (hstep i (by omega) _ (ih (i + 1) (by omega))) ?_
      rw [List.range'_succ, List.all_cons, Bool.and_assoc]
  rw [List.range_eq_range']
  exact key n 0 (by omega)
/-- what the form of an op is -/
def formV (s : ByteArray) : Bool × Bool × Int × Int × Int × ByteArray × Bool := (impl_formOf.f s).getD (false, false, 0, 0, 0, ByteArray.empty, false)
theorem op_cases (s : ByteArray) (Q : Prop) (h : ∀ o ∈ ([[115, 101, 116], [109, 111, 118], [110, 111, 116], [110, 101, 103], [97, 100, 100], [115, 117, 98], [109, 117, 108], [97, 110, 100], [111, 114], [120, 111, 114], [115, 104, 108], [115, 104, 114], [108, 101, 115, 115], [101, 113], [97, 100, 100, 105], [97, 110, 100, 105], [120, 111, 114, 105], [115, 104, 108, 105], [115, 104, 114, 105], [108, 101, 97]] : List (List UInt8)), s.toList = o → Q) (h' : (∀ o ∈ ([[115, 101, 116], [109, 111, 118], [110, 111, 116], [110, 101, 103], [97, 100, 100], [115, 117, 98], [109, 117, 108], [97, 110, 100], [111, 114], [120, 111, 114], [115, 104, 108], [115, 104, 114], [108, 101, 115, 115], [101, 113], [97, 100, 100, 105], [97, 110, 100, 105], [120, 111, 114, 105], [115, 104, 108, 105], [115, 104, 114, 105], [108, 101, 97]] : List (List UInt8)), s.toList ≠ o) → Q) : Q := by
  by_cases c : s.toList ∈ ([[115, 101, 116], [109, 111, 118], [110, 111, 116], [110, 101, 103], [97, 100, 100], [115, 117, 98], [109, 117, 108], [97, 110, 100], [111, 114], [120, 111, 114], [115, 104, 108], [115, 104, 114], [108, 101, 115, 115], [101, 113], [97, 100, 100, 105], [97, 110, 100, 105], [120, 111, 114, 105], [115, 104, 108, 105], [115, 104, 114, 105], [108, 101, 97]] : List (List UInt8))
  · exact h _ c rfl
  · exact h' fun o ho e => c (e ▸ ho)
theorem formOf_f (s : ByteArray) : impl_formOf.f s = some (formV s) := by
  have : ∃ r, impl_formOf.f s = some r := by
    refine op_cases s _ (fun o ho e => ?_) (fun hn => ?_)
    · simp only [List.mem_cons, List.not_mem_nil, or_false] at ho
      rcases ho with rfl | rfl | rfl | rfl | rfl | rfl | rfl | rfl | rfl | rfl | rfl | rfl | rfl | rfl | rfl | rfl | rfl | rfl | rfl | rfl <;> exact ⟨_, by unfold impl_formOf.f; simp [e]; rfl⟩
    · simp only [List.forall_mem_cons, List.not_mem_nil, false_imp_iff, implies_true, and_true] at hn
      exact ⟨_, by unfold impl_formOf.f; simp [hn]; rfl⟩
  obtain ⟨r, h⟩ := this
  unfold formV
  rw [h]; rfl
def known (s : ByteArray) : Bool := (formV s).2.2.2.2.2.2
def fLow (s : ByteArray) : Int := (formV s).2.2.1
def fHigh (s : ByteArray) : Int := (formV s).2.2.2.1
def immB (s : ByteArray) : Bool := known s && decide (fLow s ≤ fHigh s)
def shapeV (s : ByteArray) : Bool × Bool × Bool × Int × Int := (known s, (formV s).1, (formV s).2.1, if fLow s ≤ fHigh s then fLow s else 0, if fLow s ≤ fHigh s then fHigh s else 0)
theorem formV_of {s : ByteArray} {r : Bool × Bool × Int × Int × Int × ByteArray × Bool} (h : impl_formOf.f s = some r) : formV s = r := by unfold formV; rw [h]; rfl
theorem formV_none {s : ByteArray} (h : ∀ o ∈ ([[115, 101, 116], [109, 111, 118], [110, 111, 116], [110, 101, 103], [97, 100, 100], [115, 117, 98], [109, 117, 108], [97, 110, 100], [111, 114], [120, 111, 114], [115, 104, 108], [115, 104, 114], [108, 101, 115, 115], [101, 113], [97, 100, 100, 105], [97, 110, 100, 105], [120, 111, 114, 105], [115, 104, 108, 105], [115, 104, 114, 105], [108, 101, 97]] : List (List UInt8)), s.toList ≠ o) : formV s = (false, false, 0, 0, 0, (⟨#[]⟩ : ByteArray), false) := by
  simp only [List.forall_mem_cons, List.not_mem_nil, false_imp_iff, implies_true, and_true] at h
  exact formV_of (by unfold impl_formOf.f; simp [h])
theorem cdShape_ev (s : ByteArray) : Ev (fun k => spec_cdShape.f k s) (shapeV s) := by
  refine ⟨6, fun k hk => ?_⟩
  obtain ⟨d, rfl⟩ : ∃ d, k = d + 6 := ⟨k - 6, by omega⟩
  refine op_cases s _ (fun o ho e => ?_) (fun hn => ?_)
  · simp only [List.mem_cons, List.not_mem_nil, or_false] at ho
    have hf := formOf_f s
    unfold shapeV known fLow fHigh
    rcases ho with rfl | rfl | rfl | rfl | rfl | rfl | rfl | rfl | rfl | rfl | rfl | rfl | rfl | rfl | rfl | rfl | rfl | rfl | rfl | rfl <;>
      (unfold impl_formOf.f at hf; simp [e] at hf; rw [← hf]; simp [spec_cdShape.f, spec_cdShape.j0, spec_cdShape.j1, spec_cdShape.j2, spec_cdShape.j3, e])
  · unfold shapeV known fLow fHigh
    rw [formV_none hn]
    simp only [List.forall_mem_cons, List.not_mem_nil, false_imp_iff, implies_true, and_true] at hn
    simp [spec_cdShape.f, spec_cdShape.j0, spec_cdShape.j1, spec_cdShape.j2, spec_cdShape.j3, hn]
def immOps : List ByteArray := [(⟨#[115, 101, 116]⟩ : ByteArray), (⟨#[97, 100, 100, 105]⟩ : ByteArray), (⟨#[97, 110, 100, 105]⟩ : ByteArray), (⟨#[120, 111, 114, 105]⟩ : ByteArray), (⟨#[115, 104, 108, 105]⟩ : ByteArray), (⟨#[115, 104, 114, 105]⟩ : ByteArray), (⟨#[108, 101, 97]⟩ : ByteArray)]
theorem immOps_is (s : ByteArray) : isIn immOps s = immB s := by
  refine op_cases s _ (fun o ho e => ?_) (fun hn => ?_)
  · simp only [List.mem_cons, List.not_mem_nil, or_false] at ho
    have hf := formOf_f s
    unfold immB known fLow fHigh isIn immOps
    simp only [List.any_cons, List.any_nil, ByteArray.toList_eq]
    simp only [ByteArray.toList_eq] at e
    rcases ho with rfl | rfl | rfl | rfl | rfl | rfl | rfl | rfl | rfl | rfl | rfl | rfl | rfl | rfl | rfl | rfl | rfl | rfl | rfl | rfl <;>
      (unfold impl_formOf.f at hf; simp [e, ByteArray.toList_eq] at hf; rw [← hf]; simp [e])
  · unfold immB known fLow fHigh
    rw [formV_none hn]
    simp only [List.forall_mem_cons, List.not_mem_nil, false_imp_iff, implies_true, and_true, ByteArray.toList_eq] at hn
    unfold isIn immOps
    simp only [List.any_cons, List.any_nil, ByteArray.toList_eq]
    simp [Ne.symm, hn]
theorem cdImm_ev (s : ByteArray) : Ev (fun k => spec_cdImm.f k s) (immB s) := Ev.map (f := id) (l1HasS_ev immOps s (by decide)) (immOps_is s)
/-- all numbers within bounds -/
def allIn (l : List Int) (lo hi : Int) : Bool := (List.range l.length).all fun j => inB (rd l (j : Int)) lo hi
theorem l1All_ev (l : List Int) (lo hi : Int) (hl : l.length ≤ 9223372036854775000) : Ev (fun k => spec_l1All.f k l lo hi) (allIn l lo hi) := by
  unfold spec_l1All.f
  have key := Ev.allB l.length (fun k i => spec_l1All.l0 k lo hi l (l.length : Int) (i : Int)) (fun j => inB (rd l (j : Int)) lo hi) true ?_ ?_
  · unfold allIn; rw [Bool.and_true] at key; exact key
  · exact Ev.step (fun k => by rw [spec_l1All.l0]) (Ev.neg (by omega) (Ev.now _))
  · intro i hi' v ih
    refine Ev.step (fun k => by rw [spec_l1All.l0]) (Ev.pos (by omega) (Ev.pos (by omega) (Ev.pos (by omega) (Ev.here _ (l1In_f _ _ _) ?_))))
    rw [next_ok i _ hi' hl]
    cases inB (rd l (i : Int)) lo hi with
    | false => exact Ev.neg (by simp) (Ev.now _)
    | true => exact Ev.pos rfl (by simpa using ih)
def diffS (l : List ByteArray) : Bool := (List.range l.length).all fun i => !isIn (l.take i) (rdOf ByteArray.empty l (i : Int))
def diffI (l : List Int) : Bool := (List.range l.length).all fun i => !(l.take i).contains (rd l (i : Int))
theorem areDifferent_string_ev (l : List ByteArray) (hl : l.length ≤ 9223372036854775000) : Ev (fun k => impl_areDifferent_string.f k l) (diffS l) := by
  unfold impl_areDifferent_string.f
  have key := Ev.allB l.length (fun k i => impl_areDifferent_string.l0 k l l (l.length : Int) (i : Int)) (fun i => !isIn (l.take i) (rdOf ByteArray.empty l (i : Int))) true ?_ ?_
  · unfold diffS; rw [Bool.and_true] at key; exact key
  · exact Ev.step (fun k => by rw [impl_areDifferent_string.l0]) (Ev.neg (by omega) (Ev.now _))
  · intro i hi' v ih
    refine Ev.step (fun k => by rw [impl_areDifferent_string.l0]) (Ev.pos (by omega) (Ev.pos (by omega) (Ev.pos (by omega) (Ev.pos (by omega) (Ev.bindB _ (contains_ev _ _ (by rw [List.length_take]; omega)) ?_)))))
    rw [next_ok i _ hi' hl, show ((i : Int)).toNat = i from by omega]
    cases isIn (l.take i) (rdOf ByteArray.empty l (i : Int)) with
    | true => exact Ev.pos rfl (Ev.now _)
    | false => exact Ev.neg (by simp) (by simpa using ih)
theorem areDifferent_int_ev (l : List Int) (hl : l.length ≤ 9223372036854775000) : Ev (fun k => impl_areDifferent_int.f k l) (diffI l) := by
  unfold impl_areDifferent_int.f
  have key := Ev.allB l.length (fun k i => impl_areDifferent_int.l0 k l l (l.length : Int) (i : Int)) (fun i => !(l.take i).contains (rd l (i : Int))) true ?_ ?_
  · unfold diffI; rw [Bool.and_true] at key; exact key
  · exact Ev.step (fun k => by rw [impl_areDifferent_int.l0]) (Ev.neg (by omega) (Ev.now _))
  · intro i hi' v ih
    refine Ev.step (fun k => by rw [impl_areDifferent_int.l0]) (Ev.pos (by omega) (Ev.pos (by omega) (Ev.pos (by omega) (Ev.pos (by omega) (Ev.bindB _ (containsI_ev _ _ (by rw [List.length_take]; omega)) ?_)))))
    rw [next_ok i _ hi' hl, show ((i : Int)).toNat = i from by omega]
    cases (l.take i).contains (rd l (i : Int)) with
    | true => exact Ev.pos rfl (Ev.now _)
    | false => exact Ev.neg (by simp) (by simpa using ih)
def opAt (l : List ByteArray) (i : Nat) : ByteArray := rdOf ByteArray.empty l (i : Int)
/-- may these imms stand with this op -/
def immsFit (s : ByteArray) (l : List Int) : Bool := if immB s = true then allIn l (fLow s) (fHigh s) else true
def specChoiceV (ops : List ByteArray) (imms : List Int) : Bool := inB ops.length 1 4 && (decide (imms.length ≤ 2) && (allIn imms 0 63 && ((List.range ops.length).all (fun i => known (opAt ops i) && (!isIn (ops.take i) (opAt ops i) && immsFit (opAt ops i) imms)) && diffI imms)))
theorem suGood_ev (ops : List ByteArray) (imms : List Int) : Ev (fun k => spec_suGood.f k ops imms) (specChoiceV ops imms) := by
  have hj : Ev (fun k => spec_suGood.j0 k true ops imms) false := Ev.step (fun k => by rw [spec_suGood.j0]) (Ev.pos rfl (Ev.now _))
  unfold spec_suGood.f specChoiceV
  refine Ev.here _ (l1In_f _ _ _) ?_
  cases hb : inB ops.length 1 4 with
  | false => exact Ev.neg (by simp) (Ev.eq hj (by simp))
  | true =>
    have hb' : 1 ≤ ops.length ∧ ops.length ≤ 4 := by simp [inB] at hb; omega
    refine Ev.pos rfl ?_
    by_cases h2 : (imms.length : Int) > 2
    · exact Ev.pos h2 (Ev.eq hj (by simp; omega))
    · refine Ev.neg h2 (Ev.bindB _ (l1All_ev imms 0 63 (by omega)) ?_)
      rw [show decide (imms.length ≤ 2) = true from by simp; omega]
      cases hw : allIn imms 0 63 with
      | false => exact Ev.eq hj (by simp)
      | true =>
        refine Ev.step (fun k => by rw [spec_suGood.j0]) (Ev.neg (by simp) ?_)
        rw [Bool.true_and, Bool.true_and, Bool.true_and]
        refine Ev.allB ops.length (fun k i => spec_suGood.l0 k ops (ops.length : Int) (i : Int) ops imms) _ _ ?_ ?_
        · refine Ev.step (fun k => by rw [spec_suGood.l0]) (Ev.neg (by omega) ?_)
          have key := Ev.allB imms.length (fun k i => spec_suGood.l1 k imms (imms.length : Int) (i : Int) ops imms) (fun i => !(imms.take i).contains (rd imms (i : Int))) true ?_ ?_
          · unfold diffI; rw [Bool.and_true] at key; exact key
          · exact Ev.step (fun k => by rw [spec_suGood.l1]) (Ev.neg (by omega) (Ev.now _))
          · intro i hi' v ih
            refine Ev.step (fun k => by rw [spec_suGood.l1]) (Ev.pos (by omega) (Ev.pos (by omega) (Ev.pos (by omega) (Ev.pos (by omega) (Ev.bindB _ (l1Has_ev _ _ (by rw [List.length_take]; omega)) ?_)))))
            rw [next_ok i _ hi' (by omega), show ((i : Int)).toNat = i from by omega]
            cases (imms.take i).contains (rd imms (i : Int)) with
            | true => exact Ev.pos rfl (Ev.now _)
            | false => exact Ev.neg (by simp) (by simpa using ih)
        · intro i hi' v ih
          refine Ev.step (fun k => by rw [spec_suGood.l0]) (Ev.pos (by omega) (Ev.pos (by omega) (Ev.pos (by omega) (Ev.bindB _ (cdShape_ev _) ?_))))
          rw [next_ok i _ hi' (by omega), show ((i : Int)).toNat = i from by omega]
          show Ev _ ((known (opAt ops i) && (!isIn (ops.take i) (opAt ops i) && immsFit (opAt ops i) imms)) && v)
          cases hk : known (opAt ops i) with
          | false => exact Ev.neg (by unfold shapeV; rw [show known (rdOf ByteArray.empty ops (i : Int)) = false from hk]; simp) (Ev.ret (by simp))
          | true =>
            refine Ev.pos (by unfold shapeV; exact hk) (Ev.pos (by omega) (Ev.bindB _ (l1HasS_ev _ _ (by rw [List.length_take]; omega)) ?_))
            rw [show rdOf ByteArray.empty ops (i : Int) = opAt ops i from rfl]
            cases hd : isIn (ops.take i) (opAt ops i) with
            | true => exact Ev.pos rfl (Ev.ret (by simp))
            | false =>
              refine Ev.neg (by simp) (Ev.bindB _ (cdImm_ev _) ?_)
              unfold immsFit
              cases hm : immB (opAt ops i) with
              | false => exact Ev.neg (by simp) (by simpa using ih)
              | true =>
                have hlh : fLow (opAt ops i) ≤ fHigh (opAt ops i) := by simp [immB] at hm; exact hm.2
                refine Ev.pos rfl (Ev.bindB _ (l1All_ev imms _ _ (by omega)) ?_)
                unfold shapeV
                simp only [if_pos hlh]
                cases allIn imms (fLow (opAt ops i)) (fHigh (opAt ops i)) with
                | true => exact Ev.pos rfl (by simpa using ih)
                | false => exact Ev.neg (by simp) (Ev.ret (by simp))
def immOk (s : ByteArray) (x : Int) : Bool := inB x 0 63 && (if fLow s ≤ fHigh s then inB x (fLow s) (fHigh s) else true)
def implChoiceV (ops : List ByteArray) (imms : List Int) : Bool := inB ops.length 1 4 && (decide (imms.length ≤ 2) && (diffS ops && (diffI imms && (List.range ops.length).all (fun i => known (opAt ops i) && (List.range imms.length).all (fun j => immOk (opAt ops i) (rd imms (j : Int)))))))
theorem implIsChoice_ev (ops : List ByteArray) (imms : List Int) : Ev (fun k => impl_IsChoice.f k ops imms) (implChoiceV ops imms) := by
  have hj : Ev (fun k => impl_IsChoice.j0 k true ops imms) false := Ev.step (fun k => by rw [impl_IsChoice.j0]) (Ev.pos rfl (Ev.now _))
  unfold impl_IsChoice.f implChoiceV
  refine Ev.here _ (within_f _ _ _) ?_
  cases hb : inB ops.length 1 4 with
  | false => exact Ev.neg (by simp) (Ev.eq hj (by simp))
  | true =>
    have hb' : 1 ≤ ops.length ∧ ops.length ≤ 4 := by simp [inB] at hb; omega
    refine Ev.pos rfl ?_
    by_cases h2 : (imms.length : Int) > 2
    · exact Ev.pos h2 (Ev.eq hj (by simp; omega))
    · refine Ev.neg h2 (Ev.bindB _ (areDifferent_string_ev ops (by omega)) ?_)
      rw [show decide (imms.length ≤ 2) = true from by simp; omega]
      cases hd : diffS ops with
      | false => exact Ev.neg (by simp) (Ev.eq hj (by simp))
      | true =>
        refine Ev.pos rfl (Ev.bindB _ (areDifferent_int_ev imms (by omega)) ?_)
        cases hi : diffI imms with
        | false => exact Ev.eq hj (by simp)
        | true =>
          refine Ev.step (fun k => by rw [impl_IsChoice.j0]) (Ev.neg (by simp) ?_)
          rw [Bool.true_and, Bool.true_and, Bool.true_and, Bool.true_and]
          have key := Ev.allB ops.length (fun k i => impl_IsChoice.l0 k ops (ops.length : Int) (i : Int) ops imms) (fun i => known (opAt ops i) && (List.range imms.length).all (fun j => immOk (opAt ops i) (rd imms (j : Int)))) true ?_ ?_
          · rw [Bool.and_true] at key; exact key
          · exact Ev.step (fun k => by rw [impl_IsChoice.l0]) (Ev.neg (by omega) (Ev.now _))
          · intro i hi' v ih
            refine Ev.step (fun k => by rw [impl_IsChoice.l0]) (Ev.pos (by omega) (Ev.pos (by omega) (Ev.pos (by omega) (Ev.here _ (formOf_f _) ?_))))
            show Ev _ ((known (opAt ops i) && (List.range imms.length).all (fun j => immOk (opAt ops i) (rd imms (j : Int)))) && v)
            cases hk : known (opAt ops i) with
            | false => exact Ev.neg (by rw [show (formV (rdOf ByteArray.empty ops (i : Int))).2.2.2.2.2.2 = false from hk]; simp) (Ev.ret (by simp))
            | true =>
              refine Ev.pos hk ?_
              rw [Bool.true_and]
              refine Ev.allB imms.length (fun k j => impl_IsChoice.l1 k ops (ops.length : Int) (i : Int) imms (imms.length : Int) (j : Int) ops imms _ _ _ _ _ _) _ v ?_ ?_
              · refine Ev.step (fun k => by rw [impl_IsChoice.l1]) (Ev.neg (by omega) ?_)
                rw [next_ok i _ hi' (by omega)]
                exact ih
              · intro j hj' u ihj
                refine Ev.step (fun k => by rw [impl_IsChoice.l1]) (Ev.pos (by omega) (Ev.pos (by omega) (Ev.pos (by omega) (Ev.here _ (isWord_f _) ?_))))
                unfold immOk
                cases hw : inB (rd imms (j : Int)) 0 63 with
                | false => exact Ev.neg (by simp) (Ev.ret (by simp))
                | true =>
                  refine Ev.pos rfl (Ev.here (decide (fLow (opAt ops i) ≤ fHigh (opAt ops i))) (by unfold impl_form_imm.f; rfl) ?_)
                  rw [next_ok j _ hj' (by omega)]
                  by_cases hlh : fLow (opAt ops i) ≤ fHigh (opAt ops i)
                  · refine Ev.pos (by simpa using hlh) (Ev.here _ (within_f _ _ _) ?_)
                    rw [if_pos hlh]
                    cases hc : inB (rd imms (j : Int)) (fLow (opAt ops i)) (fHigh (opAt ops i)) with
                    | true => exact Ev.pos hc (by simpa using ihj)
                    | false => exact Ev.neg (by rw [show inB (rd imms (j : Int)) (formV (rdOf ByteArray.empty ops (i : Int))).2.2.1 (formV (rdOf ByteArray.empty ops (i : Int))).2.2.2.1 = false from hc]; simp) (Ev.ret (by simp))
                  · refine Ev.neg (by simpa using hlh) ?_
                    rw [if_neg hlh]
                    simpa using ihj
theorem choice_alike (ops : List ByteArray) (imms : List Int) : implChoiceV ops imms = specChoiceV ops imms := by
  unfold implChoiceV specChoiceV
  cases hb : inB ops.length 1 4 with
  | false => rfl
  | true =>
    have hb' : 1 ≤ ops.length ∧ ops.length ≤ 4 := by simp [inB] at hb; omega
    rw [Bool.true_and, Bool.true_and, Bool.eq_iff_iff]
    simp only [Bool.and_eq_true, diffS, diffI, allIn, List.all_eq_true, List.mem_range, immOk, immsFit, immB]
    constructor
    · rintro ⟨h1, h2, h3, h4⟩
      refine ⟨h1, fun j hj => ((h4 0 (by omega)).2 j hj).1, fun i hi => ⟨(h4 i hi).1, h2 i hi, ?_⟩, h3⟩
      split
      · rename_i hm
        simp only [List.all_eq_true, List.mem_range]
        intro j hj
        have := ((h4 i hi).2 j hj).2
        rwa [if_pos (by simpa using hm.2)] at this
      · rfl
    · rintro ⟨h1, h2, h3, h4⟩
      refine ⟨h1, fun i hi => (h3 i hi).2.1, h4, fun i hi => ⟨(h3 i hi).1, fun j hj => ⟨h2 j hj, ?_⟩⟩⟩
      have := (h3 i hi).2.2
      split
      · rename_i hm
        rw [if_pos ⟨(h3 i hi).1, by simpa using hm⟩] at this
        simp only [List.all_eq_true, List.mem_range] at this
        exact this j hj
      · rfl

/-! ### the law's own functions -/
theorem toStringS_ev (l : List ByteArray) (hl : l.length ≤ 17592186044416) : Ev (fun k => laws_toStringS.f k l) l := by
  unfold laws_toStringS.f
  refine Ev.pos (by omega) (Ev.pos (by omega) ?_)
  have key := Ev.loop l.length (fun k i => laws_toStringS.l0 k l (l.take i ++ List.replicate (l.length - i) (⟨#[]⟩ : ByteArray)) (i : Int)) (fun _ => l) ?_ ?_ 0 (by omega)
  · simpa using key
  · refine Ev.step (fun k => by rw [laws_toStringS.l0]) (Ev.neg (by omega) (Ev.ret ?_))
    rw [List.take_of_length_le (by omega), Nat.sub_self]; simp
  · intro i hi ih
    refine Ev.step (fun k => by rw [laws_toStringS.l0]) (Ev.pos (by omega) (Ev.pos (by omega) (Ev.pos (by simp; omega) ?_)))
    rw [rdOf_at _ _ _ hi, next_ok i _ hi (by omega), show ((i : Int)).toNat = i from by omega, set_step l _ i hi]
    exact ih
theorem toIntS_ev (l : List Int) (hl : l.length ≤ 35184372088832) : Ev (fun k => laws_toIntS.f k l) l := by
  unfold laws_toIntS.f
  refine Ev.pos (by omega) (Ev.pos (by omega) ?_)
  have key := Ev.loop l.length (fun k i => laws_toIntS.l0 k l (l.take i ++ List.replicate (l.length - i) 0) (i : Int)) (fun _ => l) ?_ ?_ 0 (by omega)
  · simpa using key
  · refine Ev.step (fun k => by rw [laws_toIntS.l0]) (Ev.neg (by omega) (Ev.ret ?_))
    rw [List.take_of_length_le (by omega), Nat.sub_self]; simp
  · intro i hi ih
    refine Ev.step (fun k => by rw [laws_toIntS.l0]) (Ev.pos (by omega) (Ev.pos (by omega) (Ev.pos (by simp; omega) ?_)))
    rw [rd_at _ _ hi, next_ok i _ hi (by omega), show ((i : Int)).toNat = i from by omega, set_step l _ i hi]
    exact ih
theorem eqStringS_self (l : List ByteArray) (hl : l.length ≤ 9223372036854775000) : Ev (fun k => laws_eqStringS.f k l l) true := by
  unfold laws_eqStringS.f
  refine Ev.pos rfl ?_
  have key := Ev.loop l.length (fun k i => laws_eqStringS.l0 k l l (i : Int)) (fun _ => true) ?_ ?_ 0 (by omega)
  · simpa using key
  · exact Ev.step (fun k => by rw [laws_eqStringS.l0]) (Ev.neg (by omega) (Ev.now _))
  · intro i hi ih
    refine Ev.step (fun k => by rw [laws_eqStringS.l0]) (Ev.pos (by omega) (Ev.pos (by omega) (Ev.pos (by omega) (Ev.pos rfl ?_))))
    rw [next_ok i _ hi hl]
    exact ih
theorem eqIntS_self (l : List Int) (hl : l.length ≤ 9223372036854775000) : Ev (fun k => laws_eqIntS.f k l l) true := by
  unfold laws_eqIntS.f
  refine Ev.pos rfl ?_
  have key := Ev.loop l.length (fun k i => laws_eqIntS.l0 k l l (i : Int)) (fun _ => true) ?_ ?_ 0 (by omega)
  · simpa using key
  · exact Ev.step (fun k => by rw [laws_eqIntS.l0]) (Ev.neg (by omega) (Ev.now _))
  · intro i hi ih
    refine Ev.step (fun k => by rw [laws_eqIntS.l0]) (Ev.pos (by omega) (Ev.pos (by omega) (Ev.pos (by omega) (Ev.pos rfl ?_))))
    rw [next_ok i _ hi hl]
    exact ih
/-- the weight behind a list of texts -/
theorem szStringS_ev (l : List ByteArray) (a : Int) (h0 : 0 ≤ a) (h1 : a ≤ 1048576) (hl : l.length ≤ maxLen) (hs : ∀ x ∈ l, x.size ≤ maxLen) : ∃ r, Ev (fun k => laws_szStringS.f k l a) r ∧ r ≤ a ∧ (0 ≤ r → l.length ≤ 1048576) := by
  unfold maxLen at hl hs
  unfold laws_szStringS.f
  rw [wrap_ok (x := a - (l.length : Int)) (by omega) (by omega)]
  by_cases h : a - (l.length : Int) < 0
  · exact ⟨-1, Ev.pos h (Ev.now _), by omega, by omega⟩
  · have key : ∀ (d : Nat) (i : Nat) (a : Int), i + d = l.length → 0 ≤ a → a ≤ 1048576 → ∃ r, Ev (fun k => laws_szStringS.l0 k l a (i : Int)) r ∧ r ≤ a := by
      intro d
      induction d with
      | zero => intro i a h h0 h1; exact ⟨a, Ev.step (fun k => by rw [laws_szStringS.l0]) (Ev.neg (by omega) (Ev.now _)), by omega⟩
      | succ d ih =>
        intro i a h h0 h1
        have hi : i < l.length := by omega
        have hx := hs _ (List.getElem_mem hi)
        by_cases hn : a - (l[i].size : Int) < 0
        · refine ⟨-1, Ev.step (fun k => by rw [laws_szStringS.l0]) (Ev.pos (by omega) (Ev.pos (by omega) ?_)), by omega⟩
          rw [rdOf_at _ _ _ hi, wrap_ok (x := a - (l[i].size : Int)) (by omega) (by omega)]
          exact Ev.pos hn (Ev.now _)
        · obtain ⟨q, hq, hqle⟩ := ih (i + 1) (a - (l[i].size : Int)) (by omega) (by omega) (by omega)
          refine ⟨q, Ev.step (fun k => by rw [laws_szStringS.l0]) (Ev.pos (by omega) (Ev.pos (by omega) ?_)), by omega⟩
          rw [rdOf_at _ _ _ hi, wrap_ok (x := a - (l[i].size : Int)) (by omega) (by omega), next_ok i _ hi (by omega)]
          exact Ev.neg hn hq
    obtain ⟨r, hr, hle⟩ := key l.length 0 (a - (l.length : Int)) (by omega) (by omega) (by omega)
    exact ⟨r, Ev.neg h hr, by omega, by omega⟩
theorem szIntS_f (l : List Int) (a : Int) (h0 : 0 ≤ a) (h1 : a ≤ 1048576) (hl : l.length ≤ maxLen) : ∃ r, laws_szIntS.f l a = some r ∧ r ≤ a ∧ (0 ≤ r → l.length ≤ 1048576) := by
  unfold maxLen at hl
  unfold laws_szIntS.f
  rw [wrap_ok (x := a - (l.length : Int)) (by omega) (by omega)]
  by_cases h : a - (l.length : Int) < 0
  · exact ⟨-1, if_pos h, by omega, by omega⟩
  · exact ⟨_, if_neg h, by omega, by omega⟩
theorem szChoice_ev (ops : List ByteArray) (imms : List Int) (a : Int) (h0 : 0 ≤ a) (h1 : a ≤ 1048576) (hl : ops.length ≤ maxLen) (hs : ∀ x ∈ ops, x.size ≤ maxLen) (hl2 : imms.length ≤ maxLen) : ∃ r, Ev (fun k => laws_szChoice.f k ops imms a) r ∧ r ≤ a ∧ (0 ≤ r → ops.length ≤ 1048576 ∧ imms.length ≤ 1048576) := by
  unfold laws_szChoice.f
  obtain ⟨r, hr, hle, hn⟩ := szStringS_ev ops a h0 h1 hl hs
  by_cases c : r < 0
  · exact ⟨-1, Ev.bindB _ hr (Ev.pos c (Ev.now _)), by omega, by omega⟩
  · obtain ⟨q, hq, hqle, hqn⟩ := szIntS_f imms r (by omega) (by omega) hl2
    by_cases c2 : q < 0
    · exact ⟨-1, Ev.bindB _ hr (Ev.neg c (Ev.here _ hq (Ev.pos c2 (Ev.now _)))), by omega, by omega⟩
    · exact ⟨q, Ev.bindB _ hr (Ev.neg c (Ev.here _ hq (Ev.neg c2 (Ev.now _)))), by omega, fun _ => ⟨hn (by omega), hqn (by omega)⟩⟩
theorem toChoice_ev (ops : List ByteArray) (imms : List Int) (h : ops.length ≤ 1048576 ∧ imms.length ≤ 1048576) : Ev (fun k => laws_toChoice.f k ops imms) (ops, imms) :=
  Ev.bindB _ (toStringS_ev ops (by omega)) (Ev.bindB _ (toIntS_ev imms (by omega)) (Ev.now _))
theorem eqChoice_self (ops : List ByteArray) (imms : List Int) (h : ops.length ≤ 1048576 ∧ imms.length ≤ 1048576) : Ev (fun k => laws_eqChoice.f k ops imms ops imms) true :=
  Ev.bindB _ (eqStringS_self ops (by omega)) (Ev.pos rfl (Ev.bindB _ (eqIntS_self imms (by omega)) (Ev.pos rfl (Ev.now _))))
theorem isChoice_pure (ops : List ByteArray) (imms : List Int) (h1 : ops.length ≤ maxLen ∧ ∀ x ∈ ops, x.size ≤ maxLen) (h2 : imms.length ≤ maxLen ∧ ∀ x ∈ imms, (Lit.int .i64 x).wf = true) : ∃ k, laws_FnExactIsChoice.f k ops imms = some true := by
  refine Ev.rounds ?_
  unfold laws_FnExactIsChoice.f
  obtain ⟨r, hr, hle, hlen⟩ := szChoice_ev ops imms 1048576 (by omega) (by omega) h1.1 h1.2 h2.1
  refine Ev.bindB _ hr ?_
  by_cases hn : r < 0
  · exact Ev.pos hn (Ev.now _)
  · have hl := hlen (by omega)
    refine Ev.neg hn (Ev.bindB _ (toChoice_ev ops imms hl) (Ev.bindB _ (Ev.map (f := id) (suGood_ev ops imms) rfl) (Ev.bindB _ (toChoice_ev ops imms hl) (Ev.bindB _ (implIsChoice_ev ops imms) ?_))))
    refine Ev.neg (by rw [choice_alike]; simp) (Ev.bindB _ (toChoice_ev ops imms hl) (Ev.bindB _ (eqChoice_self ops imms hl) (Ev.pos rfl (Ev.now _))))
end Go.Proofs.Ytefipbekabmncaa.Pa
