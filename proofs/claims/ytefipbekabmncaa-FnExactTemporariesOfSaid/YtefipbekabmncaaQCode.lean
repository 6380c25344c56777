/- Instructions and code: which are well made, what they do to the registers; expressions: what they compute. The program's functions and the reference's answer alike. -/
import Derived.Test.YtefipbekabmncaaQOps
import Derived.Test.YtefipbekabmncaaPa6
import Derived.Test.YtefipbekabmncaaPa8
namespace Go.Proofs.Ytefipbekabmncaa.Pa
open Go.RowKit Go.Proofs.YtefipbekabmncaaW.PrintWords Go.Proofs.YtefipbekabmncaaW.PrintLast Go.Proofs.YtefipbekabmncaaW.PrintMore
set_option linter.unusedVariables false
set_option linter.unusedSimpArgs false
/-! ### code -/
def regB (n : Int) : Bool := inB n 0 5
theorem cdReg_f (n : Int) : spec_cdReg.f n = some (regB n) := by unfold spec_cdReg.f; rw [l1In_f]; rfl
theorem isRegister_f (n : Int) : impl_isRegister.f n = some (regB n) := by unfold impl_isRegister.f; rw [within_f]; rfl
def usedB (b : Bool) (n : Int) : Bool := if b = true then regB n else n == 0
theorem isUsed_f (b : Bool) (n : Int) : impl_isUsed.f b n = some (usedB b n) := by
  unfold impl_isUsed.f usedB
  rw [isRegister_f]
  cases b with
  | false => simp
  | true =>
    simp only [if_true, Option.bind_some]
    cases h : regB n with
    | true => simp
    | false =>
      have : n ≠ 0 := by intro e; subst e; revert h; decide
      simp [this]
def immV (n : S80) : Bool := if fLow n.f0 ≤ fHigh n.f0 then inB n.f4 (fLow n.f0) (fHigh n.f0) else n.f4 == 0
def instrOk (n : S80) : Bool := known n.f0 && (regB n.f1 && (usedB (formV n.f0).1 n.f2 && (usedB (formV n.f0).2.1 n.f3 && immV n)))
theorem isInstr_ev (n : S80) : Ev (fun k => impl_IsInstr.f k n.f0 n.f1 n.f2 n.f3 n.f4) (instrOk n) := by
  have hj : ∀ c b : Bool, c = known n.f0 → Ev (fun k => impl_IsInstr.j0 k c b n.f0 n.f1 n.f2 n.f3 n.f4 (formV n.f0).1 (formV n.f0).2.1 (formV n.f0).2.2.1 (formV n.f0).2.2.2.1 (formV n.f0).2.2.2.2.1 (formV n.f0).2.2.2.2.2.1) (known n.f0 && (regB n.f1 && (usedB (formV n.f0).1 n.f2 && (usedB (formV n.f0).2.1 n.f3 && b)))) := by
    intro c b hc
    subst hc
    refine Ev.step (fun k => by rw [impl_IsInstr.j0]) ?_
    cases known n.f0 with
    | false => exact Ev.neg (by simp) (Ev.ret (by simp))
    | true =>
      refine Ev.pos rfl (Ev.here _ (isRegister_f _) ?_)
      cases regB n.f1 with
      | false => exact Ev.neg (by simp) (Ev.ret (by simp))
      | true =>
        refine Ev.pos rfl (Ev.here _ (isUsed_f _ _) ?_)
        cases usedB (formV n.f0).1 n.f2 with
        | false => exact Ev.neg (by simp) (Ev.ret (by simp))
        | true =>
          refine Ev.pos rfl (Ev.here _ (isUsed_f _ _) ?_)
          cases usedB (formV n.f0).2.1 n.f3 with
          | false => exact Ev.neg (by simp) (Ev.ret (by simp))
          | true => exact Ev.pos rfl (Ev.ret (by simp))
  have himm : impl_form_imm.f (formV n.f0).1 (formV n.f0).2.1 (formV n.f0).2.2.1 (formV n.f0).2.2.2.1 (formV n.f0).2.2.2.2.1 (formV n.f0).2.2.2.2.2.1 = some (decide (fLow n.f0 ≤ fHigh n.f0)) := by unfold impl_form_imm.f; rfl
  unfold impl_IsInstr.f
  refine Ev.here _ (formOf_f _) (Ev.here _ himm ?_)
  unfold instrOk immV
  by_cases h : fLow n.f0 ≤ fHigh n.f0
  · refine Ev.pos (by simpa using h) (Ev.here _ (within_f _ _ _) ?_)
    rw [if_pos h]
    cases hb : inB n.f4 (fLow n.f0) (fHigh n.f0) with
    | true => exact Ev.pos hb (hj _ true rfl)
    | false => exact Ev.neg (by rw [show inB n.f4 (formV n.f0).2.2.1 (formV n.f0).2.2.2.1 = false from hb]; simp) (Ev.here _ himm (Ev.pos (by simpa using h) (hj _ false rfl)))
  · refine Ev.neg (by simpa using h) (Ev.here _ himm (Ev.neg (by simpa using h) ?_))
    rw [if_neg h]
    exact hj _ _ rfl
theorem cdGood_ev (n : S80) : Ev (fun k => spec_cdGood.f k n.f0 n.f1 n.f2 n.f3 n.f4) (instrOk n) := by
  unfold spec_cdGood.f instrOk
  refine Ev.bindB _ (cdShape_ev _) ?_
  simp only [cdReg_f, l1In_f, Option.bind_some]
  unfold shapeV immV usedB
  have hreg : ∀ m : Int, regB m = false → m ≠ 0 := by intro m hm e; subst e; revert hm; decide
  have hz : (if fLow n.f0 ≤ fHigh n.f0 then inB n.f4 (fLow n.f0) (fHigh n.f0) else n.f4 == 0) = inB n.f4 (if fLow n.f0 ≤ fHigh n.f0 then fLow n.f0 else 0) (if fLow n.f0 ≤ fHigh n.f0 then fHigh n.f0 else 0) := by
    split
    · rfl
    · unfold inB; rw [beq_dec, Bool.eq_iff_iff]; simp; omega
  rw [hz]
  cases known n.f0 with
  | false => exact Ev.neg (by simp) (Ev.ret (by simp))
  | true =>
    refine Ev.pos rfl ?_
    cases h1 : regB n.f1 with
    | false => exact Ev.neg (by simp) (Ev.ret (by simp))
    | true =>
      refine Ev.pos rfl ?_
      cases h2 : regB n.f2 with
      | false => exact Ev.neg (by simp) (Ev.ret (by simp [hreg _ h2]))
      | true =>
        refine Ev.pos rfl ?_
        cases h3 : regB n.f3 with
        | false => exact Ev.neg (by simp) (Ev.ret (by simp [hreg _ h3]))
        | true =>
          refine Ev.pos rfl ?_
          cases inB n.f4 (if fLow n.f0 ≤ fHigh n.f0 then fLow n.f0 else 0) (if fLow n.f0 ≤ fHigh n.f0 then fHigh n.f0 else 0) with
          | false => exact Ev.neg (by simp) (Ev.ret (by simp))
          | true =>
            refine Ev.pos rfl ?_
            cases (formV n.f0).1 with
            | true =>
              refine Ev.pos rfl ?_
              cases (formV n.f0).2.1 with
              | true => exact Ev.pos rfl (Ev.ret (by simp))
              | false => exact Ev.neg (by simp) (Ev.ret (by simp))
            | false =>
              refine Ev.neg (by simp) ?_
              by_cases e : n.f2 = 0
              · refine Ev.pos e ?_
                cases (formV n.f0).2.1 with
                | true => exact Ev.pos rfl (Ev.ret (by simp [e]))
                | false => exact Ev.neg (by simp) (Ev.ret (by simp [e]))
              · exact Ev.neg e (Ev.ret (by simp [e]))
theorem rdI_at (l : List S80) (i : Nat) (h : i < l.length) : rd_T80 l (i : Int) = l[i] := by
  unfold rd_T80
  simp [List.getD_eq_getElem?_getD, List.getElem?_eq_getElem h]
def codeOk (l : List S80) : Bool := decide (l.length ≤ 40) && (List.range l.length).all fun i => instrOk (rd_T80 l (i : Int))
theorem cdCode_ev (l : List S80) (hl : l.length ≤ 9223372036854775000) : Ev (fun k => spec_cdCode.f k l) (codeOk l) := by
  unfold spec_cdCode.f codeOk
  by_cases h : (l.length : Int) > 40
  · exact Ev.pos h (Ev.ret (by simp; omega))
  · refine Ev.neg h ?_
    rw [show decide (l.length ≤ 40) = true from by simp; omega, Bool.true_and]
    have key := Ev.allB l.length (fun k i => spec_cdCode.l0 k l (l.length : Int) (i : Int)) (fun i => instrOk (rd_T80 l (i : Int))) true ?_ ?_
    · rw [Bool.and_true] at key; exact key
    · exact Ev.step (fun k => by rw [spec_cdCode.l0]) (Ev.neg (by omega) (Ev.now _))
    · intro i hi v ih
      refine Ev.step (fun k => by rw [spec_cdCode.l0]) (Ev.pos (by omega) (Ev.pos (by omega) (Ev.pos (by omega) (Ev.bindB _ (cdGood_ev _) ?_))))
      rw [next_ok i _ hi hl]
      cases instrOk (rd_T80 l (i : Int)) with
      | false => exact Ev.neg (by simp) (Ev.ret (by simp))
      | true => exact Ev.pos rfl (by simpa using ih)
theorem indexBad_loop (l : List S80) (hl : l.length ≤ 9223372036854775000) : ∀ (d : Nat) (i : Nat), i + d = l.length →
    ∃ r : Int, Ev (fun k => slices_IndexFunc_impl_Instr_impl_Instr__impl_IsCode_1.l0 k l (l.length : Int) (i : Int)) r ∧ (0 ≤ r ↔ ((List.range' i d).all fun i => instrOk (rd_T80 l (i : Int))) = false) := by
  intro d
  induction d with
  | zero =>
    intro i h
    exact ⟨-1, Ev.step (fun k => by rw [slices_IndexFunc_impl_Instr_impl_Instr__impl_IsCode_1.l0]) (Ev.neg (by omega) (Ev.now _)), by simp⟩
  | succ d ih =>
    intro i h
    have hi : i < l.length := by omega
    have hc : Ev (fun k => impl_IsCode_1.f k (rd_T80 l (i : Int)).f0 (rd_T80 l (i : Int)).f1 (rd_T80 l (i : Int)).f2 (rd_T80 l (i : Int)).f3 (rd_T80 l (i : Int)).f4) (!instrOk (rd_T80 l (i : Int))) := Ev.map (f := fun b => !b) (isInstr_ev _) rfl
    cases c : instrOk (rd_T80 l (i : Int)) with
    | false =>
      rw [c] at hc
      refine ⟨i, Ev.step (fun k => by rw [slices_IndexFunc_impl_Instr_impl_Instr__impl_IsCode_1.l0]) (Ev.pos (by omega) (Ev.pos (by omega) (Ev.pos (by omega) (Ev.bindB _ hc (Ev.pos rfl (Ev.now _)))))), ?_⟩
      rw [List.range'_succ, List.all_cons, c]; simp
    | true =>
      obtain ⟨r, hev, hiff⟩ := ih (i + 1) (by omega)
      rw [c] at hc
      refine ⟨r, Ev.step (fun k => by rw [slices_IndexFunc_impl_Instr_impl_Instr__impl_IsCode_1.l0]) (Ev.pos (by omega) (Ev.pos (by omega) (Ev.pos (by omega) (Ev.bindB _ hc (Ev.neg ?_ ?_))))), ?_⟩
      · simp
      · rw [next_ok i _ hi hl]; exact hev
      rw [hiff, List.range'_succ, List.all_cons, c, Bool.true_and]
theorem isCode_ev (l : List S80) (hl : l.length ≤ 9223372036854775000) : Ev (fun k => impl_IsCode.f k l) (codeOk l) := by
  unfold impl_IsCode.f codeOk
  by_cases h : (l.length : Int) ≤ 40
  · refine Ev.pos h ?_
    rw [show decide (l.length ≤ 40) = true from by simp; omega, Bool.true_and, List.range_eq_range']
    obtain ⟨r, hev, hiff⟩ := indexBad_loop l hl l.length 0 (by omega)
    refine Ev.map (f := fun b => !b) (a := decide (r ≥ 0)) (Ev.map (f := fun r : Int => decide (r ≥ 0)) hev rfl) ?_
    cases hb : ((List.range' 0 l.length).all fun i => instrOk (rd_T80 l (i : Int))) with
    | false => simp [hiff.2 hb]
    | true =>
      have : ¬ 0 ≤ r := fun z => by rw [hiff.1 z] at hb; simp at hb
      simp [this]
  · exact Ev.neg h (Ev.ret (by simp; omega))
theorem codeOk_len {l : List S80} (h : codeOk l = true) : l.length ≤ 40 := by
  simp [codeOk] at h
  exact h.1
theorem codeOk_at {l : List S80} (h : codeOk l = true) (i : Nat) (hi : i < l.length) : instrOk l[i] = true := by
  simp only [codeOk, Bool.and_eq_true, List.all_eq_true, List.mem_range] at h
  rw [← rdI_at l i hi]
  exact h.2 i hi
/-- the registers of a well made instruction -/
theorem usedB_reg {b : Bool} {n : Int} (h : usedB b n = true) : 0 ≤ n ∧ n < 6 := by
  unfold usedB at h
  cases b with
  | true => simp [regB, inB] at h; omega
  | false => simp at h; omega
theorem instrOk_regs {n : S80} (h : instrOk n = true) : (0 ≤ n.f1 ∧ n.f1 < 6) ∧ (0 ≤ n.f2 ∧ n.f2 < 6) ∧ (0 ≤ n.f3 ∧ n.f3 < 6) := by
  simp only [instrOk, Bool.and_eq_true] at h
  exact ⟨usedB_reg (b := true) (by simpa [usedB] using h.2.1), usedB_reg h.2.2.1, usedB_reg h.2.2.2.1⟩

/-! ### the law's own functions -/
def okLI (x : S78) : Prop := (x.f0.size ≤ maxLen) ∧ ((Lit.int .i64 x.f1).wf = true) ∧ ((Lit.int .i64 x.f2).wf = true) ∧ ((Lit.int .i64 x.f3).wf = true) ∧ ((Lit.int .i64 x.f4).wf = true)
def okInstrs (l : List S78) : Prop := l.length ≤ maxLen ∧ ∀ x ∈ l, okLI x
def convI (l : List S78) : List S80 := l.map fun n => ⟨n.f0, n.f1, n.f2, n.f3, n.f4⟩
theorem convI_len (l : List S78) : (convI l).length = l.length := by simp [convI]
theorem rdLI_at (l : List S78) (i : Nat) (h : i < l.length) : rd_T78 l (i : Int) = l[i] := by
  unfold rd_T78
  simp [List.getD_eq_getElem?_getD, List.getElem?_eq_getElem h]
theorem toInstrS_ev (l : List S78) (hl : l.length ≤ 5864062014805) : Ev (fun k => laws_toInstrS.f k l) (convI l) := by
  unfold laws_toInstrS.f
  refine Ev.pos (by omega) (Ev.pos (by omega) ?_)
  have key := Ev.loop l.length (fun k i => laws_toInstrS.l0 k l ((convI l).take i ++ List.replicate ((convI l).length - i) z80) (i : Int)) (fun _ => convI l) ?_ ?_ 0 (by omega)
  · simpa [convI_len] using key
  · refine Ev.step (fun k => by rw [laws_toInstrS.l0]) (Ev.neg (by omega) (Ev.ret ?_))
    rw [List.take_of_length_le (by rw [convI_len]; omega), convI_len, Nat.sub_self]; simp
  · intro i hi ih
    refine Ev.step (fun k => by rw [laws_toInstrS.l0]) (Ev.pos (by omega) (Ev.pos (by omega) ?_))
    rw [rdLI_at _ _ hi]
    refine Ev.here _ rfl (Ev.pos ?_ ?_)
    · simp [convI_len]; omega
    · rw [next_ok i _ hi (by omega)]
      have hs := set_step (convI l) z80 i (by rw [convI_len]; exact hi)
      rw [show ((i : Int)).toNat = i from by omega]
      have he : (convI l)[i]'(by rw [convI_len]; exact hi) = ⟨l[i].f0, l[i].f1, l[i].f2, l[i].f3, l[i].f4⟩ := by simp [convI]
      rw [he] at hs
      rw [hs]
      exact ih
theorem eqInstr_self (n : S80) : laws_eqInstr.f n.f0 n.f1 n.f2 n.f3 n.f4 n.f0 n.f1 n.f2 n.f3 n.f4 = some true := by unfold laws_eqInstr.f; simp
theorem eqInstrS_self (e : List S80) (hl : e.length ≤ 9223372036854775000) : Ev (fun k => laws_eqInstrS.f k e e) true := by
  unfold laws_eqInstrS.f
  refine Ev.pos rfl ?_
  have key := Ev.loop e.length (fun k i => laws_eqInstrS.l0 k e e (i : Int)) (fun _ => true) ?_ ?_ 0 (by omega)
  · simpa using key
  · exact Ev.step (fun k => by rw [laws_eqInstrS.l0]) (Ev.neg (by omega) (Ev.now _))
  · intro i hi ih
    refine Ev.step (fun k => by rw [laws_eqInstrS.l0]) (Ev.pos (by omega) (Ev.pos (by omega) (Ev.pos (by omega) ?_)))
    rw [rdI_at _ _ hi]
    refine Ev.here true (eqInstr_self _) ?_
    rw [next_ok i _ hi hl]
    exact Ev.pos rfl ih
theorem szInstr_f (n : S78) (a : Int) (h0 : 0 ≤ a) (h1 : a ≤ 1048576) (hs : n.f0.size ≤ maxLen) : ∃ r, laws_szInstr.f n.f0 n.f1 n.f2 n.f3 n.f4 a = some r ∧ r ≤ a := by
  unfold maxLen at hs
  unfold laws_szInstr.f
  rw [wrap_ok (by omega) (by omega)]
  by_cases h : a - (n.f0.size : Int) < 0
  · exact ⟨-1, if_pos h, by omega⟩
  · exact ⟨_, if_neg h, by omega⟩
theorem szInstrS_loop (l : List S78) (hl : l.length ≤ 1048576) (hs : ∀ n ∈ l, n.f0.size ≤ maxLen) : ∀ (d : Nat) (i : Nat) (a : Int), i + d = l.length → 0 ≤ a → a ≤ 1048576 → ∃ r, Ev (fun k => laws_szInstrS.l0 k l a (i : Int)) r ∧ r ≤ a := by
  intro d
  induction d with
  | zero => intro i a h h0 h1; exact ⟨a, Ev.step (fun k => by rw [laws_szInstrS.l0]) (Ev.neg (by omega) (Ev.now _)), by omega⟩
  | succ d ih =>
    intro i a h h0 h1
    have hi : i < l.length := by omega
    obtain ⟨r, hr, hle⟩ := szInstr_f l[i] a h0 h1 (hs _ (List.getElem_mem hi))
    by_cases hn : r < 0
    · refine ⟨-1, Ev.step (fun k => by rw [laws_szInstrS.l0]) (Ev.pos (by omega) (Ev.pos (by omega) ?_)), by omega⟩
      rw [rdLI_at _ _ hi]
      exact Ev.here r hr (Ev.pos hn (Ev.now _))
    · obtain ⟨q, hq, hqle⟩ := ih (i + 1) r (by omega) (by omega) (by omega)
      refine ⟨q, Ev.step (fun k => by rw [laws_szInstrS.l0]) (Ev.pos (by omega) (Ev.pos (by omega) ?_)), by omega⟩
      rw [rdLI_at _ _ hi]
      refine Ev.here r hr (Ev.neg hn ?_)
      rw [next_ok i _ hi (by omega)]
      exact hq
theorem szInstrS_ev (l : List S78) (a : Int) (h0 : 0 ≤ a) (h1 : a ≤ 1048576) (hok : okInstrs l) : ∃ r, Ev (fun k => laws_szInstrS.f k l a) r ∧ r ≤ a ∧ (0 ≤ r → l.length ≤ 1048576) := by
  obtain ⟨hl, hs'⟩ := hok
  have hs : ∀ n ∈ l, n.f0.size ≤ maxLen := fun n hn => (hs' n hn).1
  unfold maxLen at hl
  unfold laws_szInstrS.f
  rw [wrap_ok (x := a - (l.length : Int)) (by omega) (by omega)]
  by_cases h : a - (l.length : Int) < 0
  · exact ⟨-1, Ev.pos h (Ev.now _), by omega, by omega⟩
  · obtain ⟨r, hr, hle⟩ := szInstrS_loop l (by omega) hs l.length 0 (a - (l.length : Int)) (by omega) (by omega) (by omega)
    exact ⟨r, Ev.neg h hr, by omega, by omega⟩
end Go.Proofs.Ytefipbekabmncaa.Pa
