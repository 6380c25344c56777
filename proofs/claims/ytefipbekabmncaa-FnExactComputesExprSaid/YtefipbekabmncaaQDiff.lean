/- What code does to the registers, and the first input at which an expression and code differ. The program's functions and the reference's answer alike. -/
import Derived.Test.YtefipbekabmncaaQRun
import Derived.Test.YtefipbekabmncaaPa12
import Derived.Test.YtefipbekabmncaaPa7
import Derived.Test.YtefipbekabmncaaPa8
namespace Go.Proofs.Ytefipbekabmncaa.Pa
open Go.RowKit Go.Proofs.YtefipbekabmncaaW.PrintWords Go.Proofs.YtefipbekabmncaaW.PrintLast Go.Proofs.YtefipbekabmncaaW.PrintMore
set_option linter.unusedVariables false
set_option linter.unusedSimpArgs false
theorem bytesOf {s : ByteArray} {l : List UInt8} (e : s.toList = l) : s = ⟨⟨l⟩⟩ := by
  obtain ⟨⟨m⟩⟩ := s
  simp only [ByteArray.toList_eq] at e
  subst e
  rfl
theorem form_bounds (s : ByteArray) : 0 ≤ fLow s ∧ fHigh s ≤ 63 := by
  unfold fLow fHigh
  refine op_cases s _ (fun o ho e => ?_) (fun hn => ?_)
  · simp only [List.mem_cons, List.not_mem_nil, or_false] at ho
    have hf := formOf_f s
    rcases ho with rfl | rfl | rfl | rfl | rfl | rfl | rfl | rfl | rfl | rfl | rfl | rfl | rfl | rfl | rfl | rfl | rfl | rfl | rfl | rfl <;>
      (unfold impl_formOf.f at hf; simp [e] at hf; rw [← hf]; simp)
  · rw [formV_none hn]; simp
theorem instrOk_imm {n : S80} (h : instrOk n = true) : wordP n.f4 := by
  simp only [instrOk, Bool.and_eq_true] at h
  have := h.2.2.2.2
  have hb := form_bounds n.f0
  unfold immV at this
  unfold wordP
  split at this
  · simp [inB] at this; omega
  · simp at this; omega
/-- the word that an instruction makes -/
def stepVal (r : List Int) (n : S80) : Int :=
  if n.f0.toList = ([115, 101, 116] : List UInt8) then n.f4 else if n.f0.toList = ([109, 111, 118] : List UInt8) then rd r n.f2
  else if n.f0.toList = ([97, 100, 100, 105] : List UInt8) then app (⟨#[97, 100, 100]⟩ : ByteArray) (rd r n.f2) n.f4
  else if n.f0.toList = ([97, 110, 100, 105] : List UInt8) then app (⟨#[97, 110, 100]⟩ : ByteArray) (rd r n.f2) n.f4
  else if n.f0.toList = ([120, 111, 114, 105] : List UInt8) then app (⟨#[120, 111, 114]⟩ : ByteArray) (rd r n.f2) n.f4
  else if n.f0.toList = ([115, 104, 108, 105] : List UInt8) then app (⟨#[115, 104, 108]⟩ : ByteArray) (rd r n.f2) n.f4
  else if n.f0.toList = ([115, 104, 114, 105] : List UInt8) then app (⟨#[115, 104, 114]⟩ : ByteArray) (rd r n.f2) n.f4
  else if n.f0.toList = ([108, 101, 97] : List UInt8) then app (⟨#[97, 100, 100]⟩ : ByteArray) (rd r n.f2) (app (⟨#[115, 104, 108]⟩ : ByteArray) (rd r n.f3) n.f4)
  else app n.f0 (rd r n.f2) (rd r n.f3)
theorem stepVal_word {r : List Int} (hr : wordsP r) {n : S80} (h : instrOk n = true) : wordP (stepVal r n) := by
  have h4 := instrOk_imm h
  have h4' := h4.1
  unfold stepVal
  repeat' (first | exact h4 | exact rd_word hr _ | exact app_word _ _ _ h4' | exact app_word _ _ _ (rd_word hr _).1 | exact app_word _ _ _ (app_word _ _ _ h4').1 | split)
theorem cdValue_f (r : List Int) (hl : r.length = 6) (hr : wordsP r) {n : S80} (h : instrOk n = true) : spec_cdValue.f n.f0 n.f1 n.f2 n.f3 n.f4 r = some (stepVal r n) := by
  obtain ⟨⟨a1, a2⟩, ⟨b1, b2⟩, c1, c2⟩ := instrOk_regs h
  have h4 := (instrOk_imm h).1
  unfold spec_cdValue.f stepVal
  rw [if_pos b1, if_pos (by omega), if_pos c1, if_pos (by omega)]
  simp only [exApply_f _ _ _ h4, exApply_f _ _ _ (rd_word hr _).1, exApply_f _ _ _ (app_word _ _ _ h4).1, Option.bind_some]
  repeat' (first | rfl | split)
theorem word_ev (r : List Int) (hl : r.length = 6) (hr : wordsP r) {n : S80} (h : instrOk n = true) : Ev (fun k => impl_Instr_word.f k n.f0 n.f1 n.f2 n.f3 n.f4 (rd r n.f2) (rd r n.f3)) (stepVal r n) := by
  have h4 := (instrOk_imm h).1
  have hj : ∀ (t : ByteArray), ((n.f0.extract 0 3).toList = t.toList) → 3 ≤ n.f0.size → Ev (fun k => impl_Instr_word.j0 k (rd r n.f2) (rd r n.f3) true n.f0 n.f1 n.f2 n.f3 n.f4) (app t (rd r n.f2) n.f4) := by
    intro t ht h3
    refine Ev.step (fun k => by rw [impl_Instr_word.j0]) (Ev.pos rfl (Ev.pos (by omega) (Ev.pos (by omega) (Ev.here _ (apply_f _ _ _ h4) (Ev.ret (app_of ht _ _))))))
  unfold impl_Instr_word.f stepVal
  by_cases c1 : n.f0.toList = ([115, 101, 116] : List UInt8)
  · exact Ev.pos c1 (Ev.ret (by rw [if_pos c1]))
  refine Ev.neg c1 ?_
  rw [if_neg c1]
  by_cases c2 : n.f0.toList = ([109, 111, 118] : List UInt8)
  · exact Ev.pos c2 (Ev.ret (by rw [if_pos c2]))
  refine Ev.neg c2 ?_
  rw [if_neg c2]
  by_cases c8 : n.f0.toList = ([108, 101, 97] : List UInt8)
  · refine Ev.pos c8 (Ev.here _ (apply_f _ _ _ h4) (Ev.here _ (apply_f _ _ _ (app_word _ _ _ h4).1) (Ev.ret ?_)))
    simp [c8]
  refine Ev.neg c8 ?_
  by_cases c3 : n.f0.toList = ([97, 100, 100, 105] : List UInt8)
  · refine Ev.pos c3 ?_
    rw [if_pos c3, show (n.f0.toList == ([97, 100, 100, 105] : List UInt8)) = true from beq_iff_eq.mpr c3]
    exact hj _ (by rw [bytesOf c3]; rfl) (by rw [bytesOf c3]; decide)
  refine Ev.neg c3 ?_
  rw [if_neg c3]
  by_cases c4 : n.f0.toList = ([97, 110, 100, 105] : List UInt8)
  · refine Ev.pos c4 ?_
    rw [if_pos c4, show (n.f0.toList == ([97, 110, 100, 105] : List UInt8)) = true from beq_iff_eq.mpr c4]
    exact hj _ (by rw [bytesOf c4]; rfl) (by rw [bytesOf c4]; decide)
  refine Ev.neg c4 ?_
  rw [if_neg c4]
  by_cases c5 : n.f0.toList = ([120, 111, 114, 105] : List UInt8)
  · refine Ev.pos c5 ?_
    rw [if_pos c5, show (n.f0.toList == ([120, 111, 114, 105] : List UInt8)) = true from beq_iff_eq.mpr c5]
    exact hj _ (by rw [bytesOf c5]; rfl) (by rw [bytesOf c5]; decide)
  refine Ev.neg c5 ?_
  rw [if_neg c5]
  by_cases c6 : n.f0.toList = ([115, 104, 108, 105] : List UInt8)
  · refine Ev.pos c6 ?_
    rw [if_pos c6, show (n.f0.toList == ([115, 104, 108, 105] : List UInt8)) = true from beq_iff_eq.mpr c6]
    exact hj _ (by rw [bytesOf c6]; rfl) (by rw [bytesOf c6]; decide)
  refine Ev.neg c6 ?_
  rw [if_neg c6]
  by_cases c7 : n.f0.toList = ([115, 104, 114, 105] : List UInt8)
  · rw [if_pos c7, show (n.f0.toList == ([115, 104, 114, 105] : List UInt8)) = true from beq_iff_eq.mpr c7]
    exact hj _ (by rw [bytesOf c7]; rfl) (by rw [bytesOf c7]; decide)
  rw [if_neg c7, show (n.f0.toList == ([115, 104, 114, 105] : List UInt8)) = false from beq_eq_false_iff_ne.mpr c7, if_neg c8]
  exact Ev.step (fun k => by rw [impl_Instr_word.j0]) (Ev.neg (by simp) (Ev.here _ (apply_f _ _ _ (rd_word hr _).1) (Ev.now _)))
/-- the registers behind an instruction, and behind code -/
def stepR (r : List Int) (n : S80) : List Int := r.set n.f1.toNat (stepVal r n)
def startR (a b : Int) : List Int := ((List.replicate 6 0 : List Int).set (0 : Int).toNat a).set (1 : Int).toNat b
def runR (c : List S80) (a b : Int) : List Int := c.foldl stepR (startR a b)
theorem stepR_len (r : List Int) (n : S80) : (stepR r n).length = r.length := by simp [stepR]
theorem fold_stepR_len (l : List S80) (r : List Int) : (l.foldl stepR r).length = r.length := by
  induction l generalizing r with
  | nil => rfl
  | cons p l ih => rw [List.foldl_cons, ih, stepR_len]
theorem startR_len (a b : Int) : (startR a b).length = 6 := by simp [startR]
theorem set_words {r : List Int} (h : wordsP r) {x : Int} (hx : wordP x) (i : Nat) : wordsP (r.set i x) := by
  intro y hy
  rcases List.mem_or_eq_of_mem_set hy with hy | rfl
  · exact h y hy
  · exact hx
theorem startR_words {a b : Int} (ha : wordP a) (hb : wordP b) : wordsP (startR a b) := by
  refine set_words (set_words ?_ ha _) hb _
  intro x hx
  rw [List.mem_replicate] at hx
  rw [hx.2]; unfold wordP; omega
theorem takeR {c : List S80} (hc : codeOk c = true) {r : List Int} (hl : r.length = 6) (hr : wordsP r) : ∀ i, i ≤ c.length → ((c.take i).foldl stepR r).length = 6 ∧ wordsP ((c.take i).foldl stepR r) := by
  intro i
  induction i with
  | zero => intro _; exact ⟨hl, hr⟩
  | succ i ih =>
    intro hi
    obtain ⟨h1, h2⟩ := ih (by omega)
    rw [take_fold _ _ _ i (by omega)]
    exact ⟨by rw [stepR_len]; exact h1, set_words h2 (stepVal_word h2 (codeOk_at hc i (by omega))) _⟩
theorem l1Own_f (l : List Int) (h : l.length < 17592186044416) : spec_l1Own.f l = some l := by
  unfold spec_l1Own.f
  simp only [Option.bind_some]
  rw [if_pos (by simpa using h)]; rfl
theorem cdStep_f (r : List Int) (hl : r.length = 6) (hr : wordsP r) {n : S80} (h : instrOk n = true) : spec_cdStep.f n.f0 n.f1 n.f2 n.f3 n.f4 r = some (stepR r n) := by
  obtain ⟨⟨a1, a2⟩, _⟩ := instrOk_regs h
  unfold spec_cdStep.f
  rw [l1Own_f r (by omega), Option.bind_some, cdValue_f r hl hr h, Option.bind_some, if_pos a1, if_pos (by omega)]; rfl
theorem cdRun_ev (c : List S80) (hc : codeOk c = true) (a b : Int) (ha : wordP a) (hb : wordP b) : Ev (fun k => spec_cdRun.f k c (startR a b)) (runR c a b) := by
  have hcl := codeOk_len hc
  unfold spec_cdRun.f
  refine Ev.here _ (l1Own_f _ (by rw [startR_len]; omega)) ?_
  have key := Ev.loop c.length (fun k i => spec_cdRun.l0 k ((c.take i).foldl stepR (startR a b)) c (c.length : Int) (i : Int)) (fun _ => runR c a b) ?_ ?_ 0 (by omega)
  · simpa using key
  · exact Ev.step (fun k => by rw [spec_cdRun.l0]) (Ev.neg (by omega) (Ev.ret (by rw [List.take_of_length_le (Nat.le_refl _)]; rfl)))
  · intro i hi ih
    obtain ⟨h1, h2⟩ := takeR hc (startR_len a b) (startR_words ha hb) i (by omega)
    rw [take_fold _ _ _ i hi] at ih
    refine Ev.step (fun k => by rw [spec_cdRun.l0]) (Ev.pos (by omega) (Ev.pos (by omega) (Ev.pos (by omega) ?_)))
    rw [rdI_at _ _ hi, next_ok i _ hi (by omega)]
    exact Ev.here _ (cdStep_f _ h1 h2 (codeOk_at hc i hi)) ih
theorem run_ev (c : List S80) (hc : codeOk c = true) (a b : Int) (ha : wordP a) (hb : wordP b) : Ev (fun k => impl_run.f k c (startR a b)) (runR c a b) := by
  have hcl := codeOk_len hc
  unfold impl_run.f
  have key := Ev.loop c.length (fun k i => impl_run.l0 k ((c.take i).foldl stepR (startR a b)) c (c.length : Int) (i : Int)) (fun _ => runR c a b) ?_ ?_ 0 (by omega)
  · simpa using key
  · exact Ev.step (fun k => by rw [impl_run.l0]) (Ev.neg (by omega) (Ev.ret (by rw [List.take_of_length_le (Nat.le_refl _)]; rfl)))
  · intro i hi ih
    obtain ⟨h1, h2⟩ := takeR hc (startR_len a b) (startR_words ha hb) i (by omega)
    rw [take_fold _ _ _ i hi] at ih
    have hk := codeOk_at hc i hi
    obtain ⟨⟨a1, a2⟩, ⟨b1, b2⟩, c1, c2⟩ := instrOk_regs hk
    refine Ev.step (fun k => by rw [impl_run.l0]) (Ev.pos (by omega) (Ev.pos (by omega) (Ev.pos (by omega) ?_)))
    rw [rdI_at _ _ hi, next_ok i _ hi (by omega)]
    exact Ev.pos b1 (Ev.pos (by rw [h1]; omega) (Ev.pos c1 (Ev.pos (by rw [h1]; omega) (Ev.bindB _ (word_ev _ h1 h2 hk) (Ev.pos a1 (Ev.pos (by rw [h1]; omega) ih))))))
theorem cdStart_f (a b : Int) : spec_cdStart.f a b = some (startR a b) := by unfold spec_cdStart.f; rfl
theorem result_ev (c : List S80) (hc : codeOk c = true) (a b : Int) (ha : wordP a) (hb : wordP b) : Ev (fun k => impl_result.f k c a b) (runR c a b) := by
  unfold impl_result.f
  exact Ev.pos (by omega) (Ev.here _ rfl (Ev.pos (by simp) (Ev.pos (by simp) (Ev.map (f := id) (run_ev c hc a b ha hb) rfl))))

/-! ### the first difference -/
/-- do they differ at this input -/
def differ (e : List S104) (c : List S80) (r a b : Int) : Bool := evalE e a b != rd (runR c a b) r
def firstFrom (e : List S104) (c : List S80) (r : Int) : Nat → Nat → Int × Int × Bool
  | 0, _ => (0, 0, false)
  | d + 1, j => if differ e c r ((j / 64 : Nat) : Int) ((j % 64 : Nat) : Int) = true then (((j / 64 : Nat) : Int), ((j % 64 : Nat) : Int), true) else firstFrom e c r d (j + 1)
def askedB (e : List S104) (c : List S80) (r : Int) : Bool := good e && (codeOk c && regB r)
def diffV (e : List S104) (c : List S80) (r : Int) : Int × Int × Bool := if askedB e c r = true then firstFrom e c r 4096 0 else (0, 0, false)
theorem seAsked_ev (e : List S104) (c : List S80) (r : Int) (hl : e.length ≤ 9223372036854775807) (hl2 : c.length ≤ 9223372036854775000) : Ev (fun k => spec_seAsked.f k e c r) (askedB e c r) := by
  unfold spec_seAsked.f askedB
  refine Ev.bindB _ (exGood_ev e hl) ?_
  cases good e with
  | false => exact Ev.neg (by simp) (Ev.ret (by simp))
  | true =>
    refine Ev.pos rfl (Ev.bindB _ (cdCode_ev c hl2) ?_)
    cases codeOk c with
    | false => exact Ev.neg (by simp) (Ev.ret (by simp))
    | true => exact Ev.pos rfl (Ev.here _ (cdReg_f _) (Ev.ret (by simp)))
theorem implLoop (e : List S104) (c : List S80) (r : Int) (hg : good e = true) (hc : codeOk c = true) (hr : 0 ≤ r ∧ r < 6) : ∀ (d j : Nat), j + d = 4096 → Ev (fun k => impl_DifferenceOf.l0 k e c r (j : Int)) (firstFrom e c r d j) := by
  intro d
  induction d with
  | zero =>
    intro j h
    refine Ev.step (fun k => by rw [impl_DifferenceOf.l0]) (Ev.neg ?_ (Ev.ret (r := (0, 0, false)) rfl))
    omega
  | succ d ih =>
    intro j h
    have hin : impl_inputsAt.f (j : Int) = some (((j / 64 : Nat) : Int), ((j % 64 : Nat) : Int)) := by
      unfold impl_inputsAt.f
      rw [Int.tdiv_eq_ediv_of_nonneg (by omega), Int.tmod_eq_emod_of_nonneg (by omega), wrap_ok (by omega) (by omega)]
      rfl
    have ha : wordP ((j / 64 : Nat) : Int) := by unfold wordP; omega
    have hb : wordP ((j % 64 : Nat) : Int) := by unfold wordP; omega
    have hrl : (runR c ((j / 64 : Nat) : Int) ((j % 64 : Nat) : Int)).length = 6 := by unfold runR; rw [fold_stepR_len, startR_len]
    have hrr := hr.2
    rw [show (6 : Int) = ((6 : Nat) : Int) from rfl, ← hrl] at hrr
    refine Ev.step (fun k => by rw [impl_DifferenceOf.l0]) (Ev.pos (by omega) (Ev.here _ hin (Ev.bindB _ (eval_ev e hg _ _ ha hb) (Ev.bindB _ (result_ev c hc _ _ ha hb) (Ev.pos hr.1 (Ev.pos hrr ?_))))))
    unfold firstFrom
    by_cases hd : evalE e ((j / 64 : Nat) : Int) ((j % 64 : Nat) : Int) = rd (runR c ((j / 64 : Nat) : Int) ((j % 64 : Nat) : Int)) r
    · refine Ev.pos hd ?_
      rw [if_neg (by unfold differ; rw [hd]; simp), next_ok j 4096 (by omega) (by omega)]
      exact ih (j + 1) (by omega)
    · exact Ev.neg hd (Ev.ret (by rw [if_pos (by unfold differ; simpa using hd)]))
theorem implDifference_ev (e : List S104) (c : List S80) (r : Int) (hl : e.length ≤ 9223372036854775807) (hl2 : c.length ≤ 9223372036854775000) : Ev (fun k => impl_DifferenceOf.f k e c r) (diffV e c r) := by
  have hj : Ev (fun k => impl_DifferenceOf.j0 k e c r true) (0, 0, false) := Ev.step (fun k => by rw [impl_DifferenceOf.j0]) (Ev.pos rfl (Ev.now _))
  unfold impl_DifferenceOf.f diffV askedB
  refine Ev.bindB _ (isExpr_ev e hl) ?_
  cases hg : good e with
  | false => exact Ev.neg (by simp) (Ev.eq hj (by simp))
  | true =>
    refine Ev.pos rfl (Ev.bindB _ (isCode_ev c hl2) ?_)
    cases hc : codeOk c with
    | false => exact Ev.neg (by simp) (Ev.eq hj (by simp))
    | true =>
      refine Ev.pos rfl (Ev.here _ (isRegister_f _) ?_)
      cases hr : regB r with
      | false => exact Ev.eq hj (by simp)
      | true =>
        have hr' : 0 ≤ r ∧ r < 6 := by simp [regB, inB] at hr; omega
        refine Ev.step (fun k => by rw [impl_DifferenceOf.j0]) (Ev.neg (by simp) ?_)
        rw [if_pos (by simp)]
        exact implLoop e c r hg hc hr' 4096 0 (by omega)
theorem specLoop1 (e : List S104) (c : List S80) (r : Int) (hg : good e = true) (hc : codeOk c = true) (hr : 0 ≤ r ∧ r < 6) (i : Nat) (hi : i < 64)
    (hend : Ev (fun k => spec_seDifference.l0 k e c r ((i + 1 : Nat) : Int)) (firstFrom e c r (4096 - 64 * (i + 1)) (64 * (i + 1)))) :
    ∀ (d j : Nat), j + d = 64 → Ev (fun k => spec_seDifference.l1 k e c r (i : Int) (j : Int)) (firstFrom e c r (4096 - (64 * i + j)) (64 * i + j)) := by
  intro d
  induction d with
  | zero =>
    intro j h
    obtain rfl : j = 64 := by omega
    refine Ev.step (fun k => by rw [spec_seDifference.l1]) (Ev.neg (by omega) ?_)
    rw [next_ok i 64 hi (by omega), show 64 * i + 64 = 64 * (i + 1) from by omega]
    exact hend
  | succ d ih =>
    intro j h
    have ha : wordP (i : Int) := by unfold wordP; omega
    have hb : wordP (j : Int) := by unfold wordP; omega
    have hrl : (runR c (i : Int) (j : Int)).length = 6 := by unfold runR; rw [fold_stepR_len, startR_len]
    have hrr := hr.2
    rw [show (6 : Int) = ((6 : Nat) : Int) from rfl, ← hrl] at hrr
    refine Ev.step (fun k => by rw [spec_seDifference.l1]) (Ev.pos (by omega) (Ev.here _ (cdStart_f _ _) (Ev.bindB _ (cdRun_ev c hc _ _ ha hb) (Ev.pos hr.1 (Ev.pos hrr (Ev.bindB _ (exAt_ev e hg _ _ ha hb) ?_))))))
    have e1 : (64 * i + j) / 64 = i := by omega
    have e2 : (64 * i + j) % 64 = j := by omega
    rw [show 4096 - (64 * i + j) = (4096 - (64 * i + (j + 1))) + 1 from by omega]
    unfold firstFrom
    rw [e1, e2]
    by_cases hd : rd (runR c (i : Int) (j : Int)) r = evalE e (i : Int) (j : Int)
    · refine Ev.pos hd ?_
      rw [if_neg (by unfold differ; rw [hd]; simp), next_ok j 64 (by omega) (by omega)]
      exact ih (j + 1) (by omega)
    · exact Ev.neg hd (Ev.ret (by rw [if_pos (by unfold differ; simpa using fun z => hd z.symm)]))
theorem specLoop0 (e : List S104) (c : List S80) (r : Int) (hg : good e = true) (hc : codeOk c = true) (hr : 0 ≤ r ∧ r < 6) : ∀ (d i : Nat), i + d = 64 → Ev (fun k => spec_seDifference.l0 k e c r (i : Int)) (firstFrom e c r (4096 - 64 * i) (64 * i)) := by
  intro d
  induction d with
  | zero =>
    intro i h
    obtain rfl : i = 64 := by omega
    refine Ev.step (fun k => by rw [spec_seDifference.l0]) (Ev.neg ?_ (Ev.ret (r := (0, 0, false)) rfl))
    omega
  | succ d ih =>
    intro i h
    refine Ev.step (fun k => by rw [spec_seDifference.l0]) (Ev.pos ?_ ?_)
    · omega
    · exact specLoop1 e c r hg hc hr i (by omega) (ih (i + 1) (by omega)) 64 0 (by omega)
theorem seDifference_ev (e : List S104) (c : List S80) (r : Int) (h : askedB e c r = true) : Ev (fun k => spec_seDifference.f k e c r) (firstFrom e c r 4096 0) := by
  simp only [askedB, Bool.and_eq_true] at h
  have hr' : 0 ≤ r ∧ r < 6 := by have := h.2.2; simp [regB, inB] at this; omega
  exact specLoop0 e c r h.1 h.2.1 hr' 64 0 (by omega)
theorem specDifference_ev (e : List S104) (c : List S80) (r : Int) (hl : e.length ≤ 9223372036854775807) (hl2 : c.length ≤ 9223372036854775000) : Ev (fun k => spec_DifferenceOf.f k e c r) (diffV e c r) := by
  unfold spec_DifferenceOf.f diffV
  refine Ev.bindB _ (seAsked_ev e c r hl hl2) ?_
  by_cases h : askedB e c r = true
  · exact Ev.pos h (Ev.map (seDifference_ev e c r h) (by rw [if_pos h]))
  · exact Ev.neg h (Ev.ret (by rw [if_neg h]))
end Go.Proofs.Ytefipbekabmncaa.Pa
