/- What expressions compute and what code does to the registers; the first input at which they differ. The program's functions and the reference's answer alike. -/
import Derived.Test.YtefipbekabmncaaQCode
import Derived.Laws.BitsLemmas
import Derived.Test.YtefipbekabmncaaPa12
import Derived.Test.YtefipbekabmncaaPa7
import Derived.Test.YtefipbekabmncaaPa8
namespace Go.Proofs.Ytefipbekabmncaa.Pa
open Go.RowKit Go.Proofs.YtefipbekabmncaaW.PrintWords Go.Proofs.YtefipbekabmncaaW.PrintLast Go.Proofs.YtefipbekabmncaaW.PrintMore
set_option linter.unusedVariables false
set_option linter.unusedSimpArgs false
/-! ### ops on words -/
def wordP (n : Int) : Prop := 0 ≤ n ∧ n ≤ 63
theorem and63 (n : Int) : Go.bits .and .i64 n 63 = n % 64 := by
  have h63 : (BitVec.ofInt 64 63).toNat = 2 ^ 6 - 1 := by decide
  have key : (BitVec.ofInt 64 n &&& BitVec.ofInt 64 63).toNat = (n % ((2 ^ 64 : Nat) : Int)).toNat % 2 ^ 6 := by
    rw [BitVec.toNat_and, BitVec.toNat_ofInt, h63, Nat.and_two_pow_sub_one_eq_mod]
  show IntKind.i64.wrap ((BitVec.ofInt 64 n &&& BitVec.ofInt 64 63).toNat : Nat) = n % 64
  rw [key, IntKind.wrap_i64]
  omega
theorem word63 (n : Int) : wordP (Go.bits .and .i64 n 63) := by rw [and63]; unfold wordP; omega
/-- what an op makes of two words -/
def app (s : ByteArray) (x y : Int) : Int := (impl_apply.f s x y).getD 0
/-- it is a word -/
def Wd (o : Option Int) : Prop := ∃ r, o = some r ∧ wordP r
theorem Wd.ite {c : Prop} [Decidable c] {a b : Option Int} (ha : Wd a) (hb : Wd b) : Wd (if c then a else b) := by split <;> assumption
theorem Wd.pos {c : Prop} [Decidable c] {a b : Option Int} (h : c) (ha : Wd a) : Wd (if c then a else b) := by rw [if_pos h]; exact ha
theorem Wd.and (n : Int) : Wd (some (Go.bits .and .i64 n 63)) := ⟨_, rfl, word63 n⟩
theorem bit_f (b : Bool) : impl_bit.f b = some (if b = true then 1 else 0) := by unfold impl_bit.f; cases b <;> rfl
theorem apply_word (s : ByteArray) (x y : Int) (h : 0 ≤ y) : impl_apply.f s x y = some (app s x y) ∧ wordP (app s x y) := by
  have : Wd (impl_apply.f s x y) := by
    unfold impl_apply.f
    simp only [bit_f, Option.bind_some]
    repeat' (first | exact Wd.and _ | refine Wd.pos h ?_ | refine Wd.ite ?_ ?_)
  obtain ⟨r, h, hw⟩ := this
  unfold app
  rw [h]; exact ⟨rfl, hw⟩
theorem apply_f (s : ByteArray) (x y : Int) (h : 0 ≤ y) : impl_apply.f s x y = some (app s x y) := (apply_word s x y h).1
theorem app_word (s : ByteArray) (x y : Int) (h : 0 ≤ y) : wordP (app s x y) := (apply_word s x y h).2
theorem exApply_is (s : ByteArray) (x y : Int) : spec_exApply.f s x y = impl_apply.f s x y := by
  unfold spec_exApply.f impl_apply.f
  simp only [bit_f, Option.bind_some]
  by_cases h1 : x < y <;> by_cases h2 : x = y <;> simp [h1, h2]
theorem exApply_f (s : ByteArray) (x y : Int) (h : 0 ≤ y) : spec_exApply.f s x y = some (app s x y) := by rw [exApply_is, apply_f s x y h]
theorem app_one (s : ByteArray) (x y : Int) (h : isOne s = true) : app s x y = app s x 0 := by
  unfold app impl_apply.f
  rcases isOne_mem h with e | e <;> simp [e]
/-- the op by its bytes alone -/
theorem app_of {s t : ByteArray} (h : s.toList = t.toList) (x y : Int) : app s x y = app t x y := by
  unfold app impl_apply.f
  rw [h]

/-! ### values of an expression -/
/-- the words of the inputs and of the constants -/
theorem nodeOk_in {n : S104} {i : Int} (h : nodeOk n i = true) (c : n.f0.toList = ([105, 110] : List UInt8)) : n.f3 = 0 ∨ n.f3 = 1 := by
  unfold nodeOk at h
  rw [if_pos c] at h
  simp [inB] at h
  omega
theorem nodeOk_const {n : S104} {i : Int} (h : nodeOk n i = true) (c : n.f0.toList = ([99, 111, 110, 115, 116] : List UInt8)) : wordP n.f3 := by
  unfold nodeOk at h
  rw [if_neg (by rw [c]; decide), if_pos c] at h
  simp [inB] at h
  unfold wordP; omega
theorem nodeOk_op {n : S104} {i : Int} (h : nodeOk n i = true) (c : n.f0.toList ≠ ([105, 110] : List UInt8)) (c2 : n.f0.toList ≠ ([99, 111, 110, 115, 116] : List UInt8)) : (isOne n.f0 = true ∧ n.f2 = 0 ∨ isOne n.f0 = false ∧ isTwo n.f0 = true ∧ 0 ≤ n.f2 ∧ n.f2 < i) ∧ 0 ≤ n.f1 ∧ n.f1 < i := by
  unfold nodeOk at h
  rw [if_neg c, if_neg c2] at h
  cases h1 : isOne n.f0 with
  | true => rw [h1] at h; simp [inB] at h; exact ⟨.inl ⟨rfl, by omega⟩, by omega⟩
  | false =>
    rw [h1] at h
    cases h2 : isTwo n.f0 with
    | true => rw [h2] at h; simp [inB] at h; exact ⟨.inr ⟨rfl, rfl, by omega⟩, by omega⟩
    | false => rw [h2] at h; simp at h
/-- the value of a node -/
def nodeVal (a b : Int) (vs : List Int) (n : S104) : Int :=
  if n.f0.toList = ([105, 110] : List UInt8) then (if n.f3 = 0 then a else b)
  else if n.f0.toList = ([99, 111, 110, 115, 116] : List UInt8) then n.f3
  else app n.f0 (rd vs n.f1) (if isOne n.f0 = true then 0 else rd vs n.f2)
def addVal (a b : Int) (vs : List Int) (n : S104) : List Int := vs ++ [nodeVal a b vs n]
def valsOf (e : List S104) (a b : Int) : List Int := e.foldl (addVal a b) []
theorem addVal_len (a b : Int) (vs : List Int) (n : S104) : (addVal a b vs n).length = vs.length + 1 := by simp [addVal]
theorem fold_addVal_len (a b : Int) (l : List S104) (vs : List Int) : (l.foldl (addVal a b) vs).length = vs.length + l.length := by
  induction l generalizing vs with
  | nil => simp
  | cons n l ih => rw [List.foldl_cons, ih, addVal_len]; simp; omega
theorem vals_len (e : List S104) (a b : Int) : (valsOf e a b).length = e.length := by unfold valsOf; rw [fold_addVal_len]; simp
theorem takeVals_len (e : List S104) (a b : Int) (i : Nat) (h : i ≤ e.length) : ((e.take i).foldl (addVal a b) []).length = i := by rw [fold_addVal_len]; simp; omega
def wordsP (l : List Int) : Prop := ∀ x ∈ l, wordP x
theorem rd_word {l : List Int} (h : wordsP l) (j : Int) : wordP (rd l j) := by
  unfold rd
  by_cases c : j.toNat < l.length
  · rw [List.getD_eq_getElem?_getD, List.getElem?_eq_getElem c]; exact h _ (List.getElem_mem c)
  · rw [List.getD_eq_getElem?_getD, List.getElem?_eq_none (by omega)]; unfold wordP; simp
theorem nodeVal_word {a b : Int} (ha : wordP a) (hb : wordP b) {vs : List Int} (hv : wordsP vs) {n : S104} {i : Int} (h : nodeOk n i = true) : wordP (nodeVal a b vs n) := by
  unfold nodeVal
  split
  · split <;> assumption
  · split
    · rename_i c; exact nodeOk_const h c
    · refine app_word _ _ _ ?_
      split
      · omega
      · exact (rd_word hv _).1
theorem takeVals_words {e : List S104} (hk : nodesOk e 0 = true) {a b : Int} (ha : wordP a) (hb : wordP b) : ∀ i, i ≤ e.length → wordsP ((e.take i).foldl (addVal a b) []) := by
  intro i
  induction i with
  | zero => intro _ x hx; simp at hx
  | succ i ih =>
    intro hi x hx
    rw [take_fold _ _ _ i (by omega)] at hx
    unfold addVal at hx
    rcases List.mem_append.1 hx with hx | hx
    · exact ih (by omega) x hx
    · have := nodesOk_at e 0 hk i (by omega)
      simp at hx
      subst hx
      exact nodeVal_word ha hb (ih (by omega)) this
/-- the value of the whole expression -/
def evalE (e : List S104) (a b : Int) : Int := rd (valsOf e a b) ((e.length : Int) - 1)
theorem exValues_ev (e : List S104) (hk : nodesOk e 0 = true) (hl : e.length ≤ 24) (a b : Int) (ha : wordP a) (hb : wordP b) : Ev (fun k => spec_exValues.f k e a b) (valsOf e a b) := by
  unfold spec_exValues.f
  have key := Ev.loop e.length (fun k i => spec_exValues.l0 k a b ((e.take i).foldl (addVal a b) []) e (e.length : Int) (i : Int)) (fun _ => valsOf e a b) ?_ ?_ 0 (by omega)
  · simpa using key
  · exact Ev.step (fun k => by rw [spec_exValues.l0]) (Ev.neg (by omega) (Ev.ret (by rw [List.take_of_length_le (Nat.le_refl _)]; rfl)))
  · intro i hi ih
    have hvl := takeVals_len e a b i (by omega)
    have hvw := takeVals_words hk ha hb i (by omega)
    have hn := nodesOk_at e 0 hk i hi
    rw [Nat.zero_add] at hn
    rw [take_fold _ _ _ i hi] at ih
    generalize (e.take i).foldl (addVal a b) [] = vs at ih hvl hvw ⊢
    refine Ev.step (fun k => by rw [spec_exValues.l0]) (Ev.pos (by omega) (Ev.pos (by omega) (Ev.pos (by omega) ?_)))
    rw [rdT_at _ _ hi, next_ok i _ hi (by omega)]
    have hlen : vs.length < 17592186044416 := by omega
    generalize e[i] = n at hn ih ⊢
    have go : ∀ v, nodeVal a b vs n = v → Ev (fun k => if vs.length < 17592186044416 then spec_exValues.l0 k a b (vs ++ [v]) e (e.length : Int) ((i + 1 : Nat) : Int) else none) (valsOf e a b) := by
      intro v hv
      subst hv
      exact Ev.pos hlen ih
    by_cases c2 : n.f0.toList = ([99, 111, 110, 115, 116] : List UInt8)
    · exact Ev.pos c2 (go _ (by unfold nodeVal; rw [if_neg (by rw [c2]; decide), if_pos c2]))
    · refine Ev.neg c2 ?_
      by_cases c : n.f0.toList = ([105, 110] : List UInt8)
      · refine Ev.pos c (Ev.step (fun k => by rw [spec_exValues.j1]) ?_)
        by_cases c3 : n.f3 = 0
        · exact Ev.pos (by simp [c3]) (by rw [next_ok i _ hi (by omega)]; exact go _ (by unfold nodeVal; rw [if_pos c, if_pos c3]))
        · exact Ev.neg (by simp [c3]) (Ev.pos c (by rw [next_ok i _ hi (by omega)]; exact go _ (by unfold nodeVal; rw [if_pos c, if_neg c3])))
      · refine Ev.neg c (Ev.step (fun k => by rw [spec_exValues.j1]) (Ev.neg (by simp) (Ev.neg c (Ev.here _ (exOne_f _) ?_))))
        obtain ⟨h1, hf0, hf1⟩ := nodeOk_op hn c c2
        rw [next_ok i _ hi (by omega)]
        rcases h1 with ⟨h1, h2⟩ | ⟨h1, h2, h3, h4⟩
        · refine Ev.pos h1 (Ev.pos hf0 (Ev.pos (by omega) (Ev.here _ (exApply_f _ _ _ (by omega)) (go _ ?_))))
          unfold nodeVal; rw [if_neg c, if_neg c2, if_pos h1]
        · refine Ev.neg (by simp [h1]) (Ev.pos hf0 (Ev.pos (by omega) (Ev.pos h3 (Ev.pos (by omega) (Ev.here _ (exApply_f _ _ _ (rd_word hvw _).1) (go _ ?_))))))
          unfold nodeVal; rw [if_neg c, if_neg c2, if_neg (by simp [h1])]
theorem rd_pad (vs : List Int) (m : Nat) (j : Int) (h0 : 0 ≤ j) (h : j < vs.length) : rd (vs ++ List.replicate m 0) j = rd vs j := by
  unfold rd
  rw [List.getD_eq_getElem?_getD, List.getD_eq_getElem?_getD, List.getElem?_append_left (by omega)]
theorem set_pad (vs : List Int) (m : Nat) (v : Int) : (vs ++ List.replicate (m + 1) 0).set vs.length v = (vs ++ [v]) ++ List.replicate m 0 := by
  rw [List.set_append_right _ _ (Nat.le_refl _), Nat.sub_self, List.replicate_succ, List.set_cons_zero, List.append_assoc]; rfl
theorem values_ev (e : List S104) (hk : nodesOk e 0 = true) (hl : e.length ≤ 24) (a b : Int) (ha : wordP a) (hb : wordP b) : Ev (fun k => impl_values.f k e a b) (valsOf e a b) := by
  unfold impl_values.f
  refine Ev.pos (by omega) (Ev.pos (by omega) ?_)
  have key := Ev.loop e.length (fun k i => impl_values.l0 k a b ((e.take i).foldl (addVal a b) [] ++ List.replicate (e.length - i) 0) e (e.length : Int) (i : Int)) (fun _ => valsOf e a b) ?_ ?_ 0 (by omega)
  · simpa using key
  · exact Ev.step (fun k => by rw [impl_values.l0]) (Ev.neg (by omega) (Ev.ret (by rw [List.take_of_length_le (Nat.le_refl _), Nat.sub_self]; simp [valsOf])))
  · intro i hi ih
    have hvl := takeVals_len e a b i (by omega)
    have hvw := takeVals_words hk ha hb i (by omega)
    have hn := nodesOk_at e 0 hk i hi
    rw [Nat.zero_add] at hn
    rw [take_fold _ _ _ i hi] at ih
    generalize (e.take i).foldl (addVal a b) [] = vs at ih hvl hvw ⊢
    refine Ev.step (fun k => by rw [impl_values.l0]) (Ev.pos (by omega) (Ev.pos (by omega) (Ev.pos (by omega) ?_)))
    rw [rdT_at _ _ hi, next_ok i _ hi (by omega)]
    generalize e[i] = n at hn ih ⊢
    have hpl : (vs ++ List.replicate (e.length - i) 0).length = e.length := by simp; omega
    have go : ∀ v, nodeVal a b vs n = v → Ev (fun k => if (i : Int) < ((vs ++ List.replicate (e.length - i) 0).length : Int) then impl_values.l0 k a b ((vs ++ List.replicate (e.length - i) 0).set (i : Int).toNat v) e (e.length : Int) ((i + 1 : Nat) : Int) else none) (valsOf e a b) := by
      intro v hv
      subst hv
      refine Ev.pos (by rw [hpl]; omega) ?_
      rw [show e.length - i = (e.length - (i + 1)) + 1 from by omega, show ((i : Int)).toNat = vs.length from by omega, set_pad]
      exact ih
    by_cases c : n.f0.toList = ([105, 110] : List UInt8)
    · refine Ev.pos c (Ev.here _ rfl ?_)
      have h3 := nodeOk_in hn c
      refine Ev.pos (by omega) (Ev.pos (by simp; omega) (go _ ?_))
      unfold nodeVal
      rw [if_pos c]
      rcases h3 with h3 | h3 <;> rw [h3] <;> rfl
    · refine Ev.neg c ?_
      by_cases c2 : n.f0.toList = ([99, 111, 110, 115, 116] : List UInt8)
      · exact Ev.pos c2 (go _ (by unfold nodeVal; rw [if_neg c, if_pos c2]))
      · obtain ⟨h1, hf0, hf1⟩ := nodeOk_op hn c c2
        have hf2 : 0 ≤ n.f2 ∧ n.f2 < i := by rcases h1 with ⟨_, h2⟩ | ⟨_, _, h3⟩ <;> omega
        refine Ev.neg c2 (Ev.pos hf0 (Ev.pos (by rw [hpl]; omega) (Ev.pos hf2.1 (Ev.pos (by rw [hpl]; omega) ?_))))
        rw [rd_pad _ _ _ hf0 (by omega), rd_pad _ _ _ hf2.1 (by omega)]
        refine Ev.here _ (apply_f _ _ _ (rd_word hvw _).1) (go _ ?_)
        unfold nodeVal
        rw [if_neg c, if_neg c2]
        rcases h1 with ⟨h1, h2⟩ | ⟨h1, h2, h3, h4⟩
        · rw [if_pos h1]; exact (app_one _ _ _ h1).symm
        · rw [if_neg (by simp [h1])]
theorem exAt_ev (e : List S104) (hg : good e = true) (a b : Int) (ha : wordP a) (hb : wordP b) : Ev (fun k => spec_exAt.f k e a b) (evalE e a b) := by
  have hl : 1 ≤ e.length ∧ e.length ≤ 24 := by simp [good, inB] at hg; omega
  have hk : nodesOk e 0 = true := by simp [good] at hg; exact hg.2.1
  unfold spec_exAt.f
  refine Ev.bindB _ (exValues_ev e hk hl.2 a b ha hb) ?_
  rw [wrap_ok (by omega) (by omega)]
  exact Ev.pos (by omega) (Ev.pos (by rw [vals_len]; omega) (Ev.now _))
theorem eval_ev (e : List S104) (hg : good e = true) (a b : Int) (ha : wordP a) (hb : wordP b) : Ev (fun k => impl_eval.f k e a b) (evalE e a b) := by
  have hl : 1 ≤ e.length ∧ e.length ≤ 24 := by simp [good, inB] at hg; omega
  have hk : nodesOk e 0 = true := by simp [good] at hg; exact hg.2.1
  unfold impl_eval.f
  refine Ev.bindB _ (values_ev e hk hl.2 a b ha hb) ?_
  rw [wrap_ok (by omega) (by omega)]
  exact Ev.pos (by omega) (Ev.pos (by rw [vals_len]; omega) (Ev.now _))
end Go.Proofs.Ytefipbekabmncaa.Pa
