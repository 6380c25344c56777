/- What the machine of values answers, the program answers: text by text. -/
import Derived.Test.YtohfaccniialmaaAmH
namespace Go.Proofs.Ytohfaccniialmaa.Am
open Go
set_option linter.constructorNameAsVariable false
set_option linter.unusedVariables false
set_option linter.unusedSimpArgs false
section
variable {P : Program} {B : Base} {c : Cx} {w : World} {N : Nat} {st st' : St} {a : Act} {T : Table} {M : FuncId → List Bool} {R : Type}

theorem get_upd (l : List (Nat × AV)) (ob : List (Nat × AO)) (k : Nat) (x : AV) (t : Nat) : St.get ⟨upd l k x, ob⟩ t = if t = k then x else St.get ⟨l, ob⟩ t := by
  unfold St.get
  simp only [look_upd]
  by_cases h : t = k <;> simp [h]
theorem put_get (a : Act) (k : Nat) (v : Value) (t : Nat) (h : k < a.tmps.size) : (a.put (some k) v).tmps.getD t undef = if t = k then v else a.tmps.getD t undef := by
  by_cases e : t = k
  · subst e
    rw [if_pos rfl]
    simp only [Act.put, Array.getD_eq_getD_getElem?]
    rw [Array.getElem?_setIfInBounds_self_of_lt h]
    rfl
  · rw [if_neg e]
    simp only [Act.put, Array.getD_eq_getD_getElem?]
    rw [Array.getElem?_setIfInBounds_ne fun h => e h.symm]
theorem put_size (a : Act) (k : Option Nat) (v : Value) : (a.put k v).tmps.size = a.tmps.size := by
  cases k <;> simp [Act.put]

theorem app_ok (hr : RelS B N c st a w) {c' : Cx} {w' : World} {d : Delta} {dst : Option Nat} {v : Value} (hm : Mem B c' (fup (look st.ob) d.ow) w') (he : Ext c w c' w') (hv : V c' w' d.v v) (hd : ∀ t, dst = some t → t < N) : RelS B N c' (st.app dst d) (a.put dst v) w' := by
  refine ⟨by show Mem B c' (look (upds st.ob d.ow)) w'; rw [look_upds]; exact hm, fun t => ?_, by rw [put_size]; exact hr.sz, by cases dst <;> exact hr.dfs, fun o i i' hI hi' hv => ?_, hr.Ib⟩
  case refine_2 =>
    cases h0 : c.inf o with
    | none => rw [he.nw o (hr.Ib o i hI) h0] at hi'; cases hi'
    | some i1 =>
      obtain ⟨i2, k1, k2, k3⟩ := he.inf o i1 h0
      rw [hi'] at k1
      cases k1
      have := k3 (by omega)
      subst this
      exact hr.pas o i _ hI h0 hv
  cases dst with
  | none => exact (hr.tms t).ext he
  | some k =>
    have hk : k < a.tmps.size := Nat.lt_of_lt_of_le (hd k rfl) hr.sz
    rw [put_get a k v t hk]
    have : (st.app (some k) d).get t = if t = k then d.v else st.get t := get_upd st.tm _ k d.v t
    rw [this]
    by_cases e : t = k
    · rw [if_pos e, if_pos e]; exact hv
    · rw [if_neg e, if_neg e]; exact (hr.tms t).ext he
theorem rel_same (hr : RelS B N c st a w) {g : Nat} {x : AV} (h : st.get g = x) : RelS B N c { st with tm := upd st.tm g x } a w := by
  refine ⟨hr.mem, fun t => ?_, hr.sz, hr.dfs, hr.pas, hr.Ib⟩
  have : St.get { st with tm := upd st.tm g x } t = if t = g then x else st.get t := get_upd st.tm _ g x t
  rw [this]
  by_cases e : t = g
  · rw [if_pos e, ← h, e]; exact hr.tms g
  · rw [if_neg e]; exact hr.tms t
theorem ev_ok (hr : RelS B N c st a w) (x : Operand) : V c w (st.ev x) (a.eval x) := by
  cases x with
  | tmp t => exact hr.tms t
  | const v => exact constV_ok v
  | global g => exact .bad _
  | func f => exact .fn f [] #[] rfl (by simp)

theorem oper_ok (hT : TS P T) (hr : RelS B N c st a w) {o : Oper} {d : Delta} (h : run T (opA P M st.ev (look st.ob) o) = some d) (hd : ∀ t, o.dst = some t → t < N) {K : Act → World → Prop} {Q : Exit → Act → World → Prop}
    (hK : ∀ a' w' c', RelS B N c' (st.app o.dst d) a' w' → K a' w') : o.wp P a w K Q := by
  unfold Oper.wp
  rcases opA_ok (ρ := a.eval) hr.mem hT (ev_ok hr) (fun _ => rfl) h with ⟨v, w', c', hrun, hm, he, hv⟩ | ⟨f, vs, hrun, hc⟩
  · rcases hrun with hrun | ⟨hrun, rfl⟩
    · rw [hrun, Oper.upon_value]
      exact hK _ _ c' (app_ok hr hm he hv hd)
    · rw [hrun, Oper.upon_skip]
      exact hK _ _ c' (app_ok hr hm he hv hd)
  · rw [hrun, Oper.upon_enter]
    exact hc.mono fun e w' ⟨v, c', he, hm, hx, hv⟩ => by subst he; exact hK _ _ c' (app_ok hr hm hx hv hd)

theorem V.inv_und {v : Value} (h : V c w .und v) : v = undef := by cases h; rfl
theorem stepA_ok (hT : TS P T) (hr : RelS B N c st a w) {ops : Array Oper} {o : Oper} (h : run T (stepA P M ops st o) = some st') (hd : ∀ t, o.dst = some t → t < N) {K : Act → World → Prop} {Q : Exit → Act → World → Prop}
    (hK : ∀ a' w' c', RelS B N c' st' a' w' → K a' w') : if Region.wanted o (yielded ops a.tmps) = true then o.wp P a w K Q else K (a.put o.dst undef) w := by
  have skip : ∀ (st0 : St), RelS B N c st0 a w → st0.app o.dst ⟨.und, [], []⟩ = st' → K (a.put o.dst undef) w := fun st0 h0 e => by
    subst e
    exact hK _ _ c (app_ok h0 (d := ⟨.und, [], []⟩) h0.mem (.refl c w) .und hd)
  unfold stepA at h
  split at h
  · rename_i hg
    obtain ⟨d, h1, h2⟩ := run_bind T _ _ _ h
    have h2 := run_ret h2
    subst h2
    have hw : Region.wanted o (yielded ops a.tmps) = true := by simp [Region.wanted, hg]
    rw [if_pos hw]
    exact oper_ok hT hr h1 hd hK
  · rename_i j want hg
    split at h
    · exact (run_fail h).elim
    rename_i g hgd
    have hy : ∀ x, a.tmps.getD g undef = .bool x → yielded ops a.tmps j = some x := fun x e => by
      have hlt : g < a.tmps.size := by
        rcases Nat.lt_or_ge g a.tmps.size with h | h
        · exact h
        · rw [Array.getD_eq_getD_getElem?, Array.getElem?_eq_none h] at e; cases e
      rw [Array.getD_eq_getD_getElem?, Array.getElem?_eq_getElem hlt] at e
      simp only [Option.getD_some] at e
      simp only [yielded, hgd, Option.bind_some, Array.getElem?_eq_getElem hlt, e]
    have hyn : a.tmps.getD g undef = undef → yielded ops a.tmps j = none := fun e => by
      simp only [yielded, hgd, Option.bind_some]
      rcases Nat.lt_or_ge g a.tmps.size with h | h
      · rw [Array.getD_eq_getD_getElem?, Array.getElem?_eq_getElem h] at e
        simp only [Option.getD_some] at e
        rw [Array.getElem?_eq_getElem h, e]
        rfl
      · rw [Array.getElem?_eq_none h]
    have htm := hr.tms g
    split at h
    · rename_i hu
      rw [hu] at htm
      have hw : ¬ Region.wanted o (yielded ops a.tmps) = true := by simp [Region.wanted, hg, hyn (V.inv_und htm)]
      rw [if_neg hw]
      exact skip st hr (run_ret h)
    · rename_i x hx
      rw [hx] at htm
      have hyx := hy x (V.inv_b htm)
      have yes : x = want → run T ((opA P M (St.ev { st with tm := upd st.tm g (.b want) }) (look st.ob) o).bind fun d => .ret (St.app { st with tm := upd st.tm g (.b want) } o.dst d)) = some st' → if Region.wanted o (yielded ops a.tmps) = true then o.wp P a w K Q else K (a.put o.dst undef) w := fun e h => by
        subst e
        obtain ⟨d, h1, h2⟩ := run_bind T _ _ _ h
        have h2 := run_ret h2
        subst h2
        have hw : Region.wanted o (yielded ops a.tmps) = true := by simp [Region.wanted, hg, hyx]
        rw [if_pos hw]
        exact oper_ok hT (rel_same hr hx) h1 hd hK
      have no : x ≠ want → run T (.ret (St.app { st with tm := upd st.tm g (.b (!want)) } o.dst ⟨.und, [], []⟩) : Tree St) = some st' → if Region.wanted o (yielded ops a.tmps) = true then o.wp P a w K Q else K (a.put o.dst undef) w := fun e h => by
        have hxw : x = !want := by cases x <;> cases want <;> first | rfl | exact absurd rfl e
        have hw : ¬ Region.wanted o (yielded ops a.tmps) = true := by
          unfold Region.wanted
          rw [hg]
          simp only [hyx]
          cases x <;> cases want <;> first | exact absurd rfl e | exact Bool.false_ne_true
        rw [if_neg hw]
        exact skip _ (rel_same hr (by rw [hx, hxw])) (run_ret h)
      cases want with
      | true =>
        cases x with
        | true => exact yes rfl h
        | false => exact no (by simp) h
      | false =>
        cases x with
        | true => exact no (by simp) h
        | false => exact yes rfl h
    · exact (run_fail h).elim

theorem dstsOk_get : ∀ (l : List Oper), dstsOk N l = true → ∀ (i : Nat) (o : Oper), l[i]? = some o → ∀ t, o.dst = some t → t < N
  | [], _, i, o, h, _, _ => by simp at h
  | x :: r, hd, i, o, h, t, ht => by
    simp only [dstsOk] at hd
    cases i with
    | zero =>
      simp at h
      subst h
      rw [ht] at hd
      simp only at hd
      split at hd
      · rename_i e
        exact Nat.lt_of_lt_of_le (Nat.lt_succ_self _) (Nat.le_of_ble_eq_true e)
      · cases hd
    | succ i =>
      have hr : dstsOk N r = true := by
        split at hd
        · split at hd
          · exact hd
          · cases hd
        · exact hd
      exact dstsOk_get r hr i o (by simpa using h) t ht

/-- a region, in its text's order -/
theorem regA_ok (hT : TS P T) {ops : Array Oper} (hd : dstsOk N ops.toList = true) {Q : Exit → Act → World → Prop} {st' : St} (hQ : ∀ a' w' c', RelS B N c' st' a' w' → Q .normal a' w') : ∀ (l : List Oper) (i : Nat) (st : St) (c : Cx) (a : Act) (w : World), (∀ j, l[j]? = ops[i + j]?) → RelS B N c st a w → run T (regA P M ops l st) = some st' →
    wpOps P ops Q (List.range' i l.length) a w
  | [], i, st, c, a, w, hl, hr, h => by
    have := run_ret h
    subst this
    exact hQ a w c hr
  | o :: r, i, st, c, a, w, hl, hr, h => by
    obtain ⟨st1, h1, h2⟩ := run_bind T _ _ _ h
    have h0 : ops[i]? = some o := by simpa using (hl 0).symm
    simp only [List.length_cons, List.range'_succ]
    rw [wpOps_cons]
    unfold wpOp
    simp only [h0]
    have hdst : ∀ t, o.dst = some t → t < N := dstsOk_get ops.toList hd i o (by simpa using h0)
    have key := stepA_ok (Q := Q) (K := wpOps P ops Q (List.range' (i + 1) r.length)) hT hr h1 hdst fun a' w' c' hr' => regA_ok hT hd hQ r (i + 1) st1 c' a' w' (fun j => by
      have := hl (j + 1)
      simpa [Nat.add_assoc, Nat.add_comm 1 j] using this) hr' h2
    split at key
    · rename_i hw
      rw [if_pos hw]
      exact .inl key
    · rename_i hw
      rw [if_neg hw]
      exact key

end
end Go.Proofs.Ytohfaccniialmaa.Am
