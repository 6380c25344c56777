/- TemporariesOf of the program and of the reference answer alike: the plain law. -/
import Derived.Test.YtefipbekabmncaaQCode
import Derived.Test.YtefipbekabmncaaPa13
import Derived.Test.YtefipbekabmncaaPa8
namespace Go.Proofs.Ytefipbekabmncaa.Pa
open Go.RowKit Go.Proofs.YtefipbekabmncaaW.PrintWords Go.Proofs.YtefipbekabmncaaW.PrintLast Go.Proofs.YtefipbekabmncaaW.PrintMore
set_option linter.unusedVariables false
set_option linter.unusedSimpArgs false
/-- is this register written -/
def hasDst (c : List S80) (x : Int) : Bool := c.any fun n => n.f1 == x
/-- the temporaries, in order -/
def temps (b2 b3 b4 b5 : Bool) : List Int := (if b2 = true then [2] else []) ++ ((if b3 = true then [3] else []) ++ ((if b4 = true then [4] else []) ++ (if b5 = true then [5] else [])))
theorem l1Put_temps (b2 b3 b4 b5 : Bool) (r : Int) (h : r = 2 ∨ r = 3 ∨ r = 4 ∨ r = 5) : Ev (fun k => spec_l1Put.f k (temps b2 b3 b4 b5) r) (temps (b2 || r == 2) (b3 || r == 3) (b4 || r == 4) (b5 || r == 5)) := by
  refine ⟨6, fun k hk => ?_⟩
  obtain ⟨d, rfl⟩ : ∃ d, k = d + 6 := ⟨k - 6, by omega⟩
  rcases h with rfl | rfl | rfl | rfl <;> cases b2 <;> cases b3 <;> cases b4 <;> cases b5 <;> kernel_rfl
def tempsOf (c : List S80) : List Int := temps (hasDst c 2) (hasDst c 3) (hasDst c 4) (hasDst c 5)
theorem hasDst_take (c : List S80) (i : Nat) (h : i < c.length) (x : Int) : hasDst (c.take (i + 1)) x = (hasDst (c.take i) x || c[i].f1 == x) := by
  unfold hasDst
  rw [List.take_succ_eq_append_getElem h, List.any_append]
  simp
def tempsV (c : List S80) : Int × Bool := if codeOk c = true then (((tempsOf c).length : Int), true) else (0, false)
theorem specTemporaries_ev (c : List S80) (hl : c.length ≤ 9223372036854775000) : Ev (fun k => spec_TemporariesOf.f k c) (tempsV c) := by
  unfold spec_TemporariesOf.f tempsV
  refine Ev.bindB _ (cdCode_ev c hl) ?_
  by_cases h : codeOk c = true
  · refine Ev.pos h ?_
    rw [if_pos h]
    have key := Ev.loop c.length (fun k i => spec_TemporariesOf.l0 k (tempsOf (c.take i)) c (c.length : Int) (i : Int)) (fun _ => (((tempsOf c).length : Int), true)) ?_ ?_ 0 (by omega)
    · exact key
    · exact Ev.step (fun k => by rw [spec_TemporariesOf.l0]) (Ev.neg (by omega) (Ev.ret (by rw [List.take_of_length_le (Nat.le_refl _)])))
    · intro i hi ih
      obtain ⟨⟨a1, a2⟩, _⟩ := instrOk_regs (codeOk_at h i hi)
      refine Ev.step (fun k => by rw [spec_TemporariesOf.l0]) (Ev.pos (by omega) (Ev.pos (by omega) (Ev.pos (by omega) ?_)))
      rw [rdI_at _ _ hi, next_ok i _ hi hl]
      have ht : tempsOf (c.take (i + 1)) = temps (hasDst (c.take i) 2 || c[i].f1 == 2) (hasDst (c.take i) 3 || c[i].f1 == 3) (hasDst (c.take i) 4 || c[i].f1 == 4) (hasDst (c.take i) 5 || c[i].f1 == 5) := by
        unfold tempsOf
        rw [hasDst_take c i hi, hasDst_take c i hi, hasDst_take c i hi, hasDst_take c i hi]
      by_cases g : c[i].f1 > 1
      · refine Ev.pos g (Ev.bindB _ (l1Put_temps _ _ _ _ _ (by omega)) ?_)
        rw [ht] at ih
        exact ih
      · refine Ev.neg g ?_
        rw [ht, show (c[i].f1 == 2) = false from by rw [beq_dec]; simp; omega, show (c[i].f1 == 3) = false from by rw [beq_dec]; simp; omega, show (c[i].f1 == 4) = false from by rw [beq_dec]; simp; omega, show (c[i].f1 == 5) = false from by rw [beq_dec]; simp; omega, Bool.or_false, Bool.or_false, Bool.or_false, Bool.or_false] at ih
        exact ih
  · exact Ev.neg h (Ev.ret (by rw [if_neg h]))
theorem indexDst_loop (l : List S80) (x : Int) (hl : l.length ≤ 9223372036854775000) : ∀ (d : Nat) (i : Nat), i + d = l.length →
    ∃ r : Int, Ev (fun k => slices_IndexFunc_impl_Instr_impl_Instr__impl_TemporariesOf_1.l0 k x l (l.length : Int) (i : Int)) r ∧ (0 ≤ r ↔ hasDst (l.drop i) x = true) := by
  intro d
  induction d with
  | zero =>
    intro i h
    refine ⟨-1, Ev.step (fun k => by rw [slices_IndexFunc_impl_Instr_impl_Instr__impl_TemporariesOf_1.l0]) (Ev.neg (by omega) (Ev.now _)), ?_⟩
    rw [List.drop_eq_nil_of_le (by omega)]; simp [hasDst]
  | succ d ih =>
    intro i h
    have hi : i < l.length := by omega
    have hc : Ev (fun k => impl_TemporariesOf_1.f (rd_T80 l (i : Int)).f0 (rd_T80 l (i : Int)).f1 (rd_T80 l (i : Int)).f2 (rd_T80 l (i : Int)).f3 (rd_T80 l (i : Int)).f4 x) (l[i].f1 == x) := by rw [rdI_at _ _ hi]; exact Ev.now _
    cases c : (l[i].f1 == x) with
    | true =>
      rw [c] at hc
      refine ⟨i, Ev.step (fun k => by rw [slices_IndexFunc_impl_Instr_impl_Instr__impl_TemporariesOf_1.l0]) (Ev.pos (by omega) (Ev.pos (by omega) (Ev.pos (by omega) (Ev.bindB _ hc (Ev.pos rfl (Ev.now _)))))), ?_⟩
      rw [drop_at _ _ hi]; unfold hasDst; rw [List.any_cons, c]; simp
    | false =>
      rw [c] at hc
      obtain ⟨r, hev, hiff⟩ := ih (i + 1) (by omega)
      refine ⟨r, Ev.step (fun k => by rw [slices_IndexFunc_impl_Instr_impl_Instr__impl_TemporariesOf_1.l0]) (Ev.pos (by omega) (Ev.pos (by omega) (Ev.pos (by omega) (Ev.bindB _ hc (Ev.neg ?_ ?_))))), ?_⟩
      · simp
      · rw [next_ok i _ hi hl]; exact hev
      · rw [hiff, drop_at _ _ hi]; unfold hasDst; rw [List.any_cons, c, Bool.false_or]
theorem containsDst_ev (l : List S80) (x : Int) (hl : l.length ≤ 9223372036854775000) : Ev (fun k => slices_ContainsFunc_impl_Instr_impl_Instr__impl_TemporariesOf_1.f k x l) (hasDst l x) := by
  obtain ⟨r, hev, hiff⟩ := indexDst_loop l x hl l.length 0 (by omega)
  refine Ev.map (f := fun r : Int => decide (r ≥ 0)) (a := r) hev ?_
  rw [Bool.eq_iff_iff, decide_eq_true_iff]
  exact hiff
theorem bitN_f (b : Bool) : impl_bit.f b = some (if b = true then 1 else 0) := by unfold impl_bit.f; cases b <;> rfl
theorem implTemporaries_ev (c : List S80) (hl : c.length ≤ 9223372036854775000) : Ev (fun k => impl_TemporariesOf.f k c) (tempsV c) := by
  unfold impl_TemporariesOf.f tempsV
  refine Ev.bindB _ (isCode_ev c hl) ?_
  by_cases h : codeOk c = true
  · refine Ev.pos h ?_
    rw [if_pos h]
    have step : ∀ (m x x' : Int) (v : Int × Bool), x < 6 → wrap64 (x + 1) = x' → Ev (fun k => impl_TemporariesOf.l0 k c (wrap64 (m + (if hasDst c x = true then 1 else 0))) x') v → Ev (fun k => impl_TemporariesOf.l0 k c m x) v := by
      intro m x x' v hx hx' ih
      subst hx'
      exact Ev.step (fun k => by rw [impl_TemporariesOf.l0]) (Ev.pos hx (Ev.bindB _ (containsDst_ev c x hl) (Ev.here _ (bitN_f _) ih)))
    have last : ∀ m : Int, Ev (fun k => impl_TemporariesOf.l0 k c m 6) (m, true) := fun m => Ev.step (fun k => by rw [impl_TemporariesOf.l0]) (Ev.neg (by omega) (Ev.now _))
    refine Ev.eq (step 0 2 3 _ (by omega) (by kernel_rfl) (step _ 3 4 _ (by omega) (by kernel_rfl) (step _ 4 5 _ (by omega) (by kernel_rfl) (step _ 5 6 _ (by omega) (by kernel_rfl) (last _))))) ?_
    unfold tempsOf
    cases hasDst c 2 <;> cases hasDst c 3 <;> cases hasDst c 4 <;> cases hasDst c 5 <;> kernel_rfl
  · exact Ev.neg h (Ev.ret (by rw [if_neg h]))
theorem temporariesOf_pure (l : List S78) (h : okInstrs l) : ∃ k, laws_FnExactTemporariesOf.f k l = some true := by
  refine Ev.rounds ?_
  unfold laws_FnExactTemporariesOf.f
  obtain ⟨x, hx, hxle, hxlen⟩ := szInstrS_ev l 1048576 (by omega) (by omega) h
  refine Ev.bindB _ hx ?_
  by_cases hn : x < 0
  · exact Ev.pos hn (Ev.now _)
  · have hl := hxlen (by omega)
    have hc := convI_len l
    refine Ev.neg hn (Ev.bindB _ (toInstrS_ev l (by omega)) (Ev.bindB _ (specTemporaries_ev _ (by omega)) (Ev.bindB _ (toInstrS_ev l (by omega)) (Ev.bindB _ (implTemporaries_ev _ (by omega)) (Ev.pos rfl ?_)))))
    rw [show ((tempsV (convI l)).2 != (tempsV (convI l)).2) = false from by simp]
    refine Ev.step (fun k => by rw [laws_FnExactTemporariesOf.j0]) (Ev.neg (by simp) (Ev.bindB _ (toInstrS_ev l (by omega)) (Ev.bindB _ (eqInstrS_self (convI l) (by omega)) (Ev.pos rfl (Ev.now _)))))
end Go.Proofs.Ytefipbekabmncaa.Pa
