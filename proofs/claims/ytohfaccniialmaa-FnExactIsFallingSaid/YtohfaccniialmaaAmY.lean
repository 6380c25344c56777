/- What the machine of values does at an operation, the program does: elements, lengths, cuts. -/
import Derived.Test.YtohfaccniialmaaAmW
namespace Go.Proofs.Ytohfaccniialmaa.Am
open Go
set_option linter.constructorNameAsVariable false
set_option linter.unusedVariables false
set_option linter.unusedSimpArgs false
section
variable {P : Program} {B : Base} {c : Cx} {ob : Nat → Option AO} {w : World} {s : Sem Next} {d : Delta}

/-- a row that can be read -/
def Rd (c : Cx) (w : World) (t : Ty) (xs : List t.D) (v : Value) : Prop :=
  ∃ (A : Option Addr) (cp : Nat) (g : Nat → Value), v = .slice A xs.length cp ∧ xs.length ≤ cp ∧
    (0 < xs.length → ∃ a, A = some a ∧ ∀ j, j < xs.length * t.sz → w.cell? (a.add j) = some (g j) ∧ (g j).oneCell' = true) ∧
    ∀ j x, xs[j]? = some x → ∀ q y, (view t x)[q]? = some y → V c w y (g (j * t.sz + q))
theorem Rd.ofLst {t : Ty} {xs : List t.D} {v : Value} (h : V c w (.lst t xs) v) : Rd c w t xs v := by
  obtain ⟨A, cp, g, rfl, hn, ha, hv⟩ := h.inv_lst
  refine ⟨A, cp, g, rfl, hn, fun h0 => ?_, hv⟩
  obtain ⟨a, e, _, k⟩ := ha h0
  exact ⟨a, e, k⟩
theorem Rd.ofRow {i : Inf} {t : Ty} {xs : List t.D} {p : Prop} (hl : i.len = xs.length) (hs : i.sz = t.sz) (hB : RowB c w i t xs p) {lo n : Nat} {v : Value} (hn : lo + n ≤ xs.length) (h : Hd i lo n v) : Rd c w t ((xs.drop lo).take n) v := by
  let c' : Cx := c.frz (fun b => i.blk = some b)
  have e : Ext c w c' w := ⟨fun _ h => .inl h, fun _ i h => ⟨i, h, Nat.le_refl _, fun _ => rfl⟩, fun _ _ => rfl, fun _ _ h => h⟩
  obtain ⟨A, cp, rfl, h1, h2, h3⟩ := h
  have hlen : ((xs.drop lo).take n).length = n := by rw [List.length_take, List.length_drop]; omega
  rcases hB with ⟨hb0, hc0⟩ | ⟨b, arr, el, hb, hh, hsz, hc, hF⟩
  · have hn0 : n = 0 := by omega
    subst hn0
    exact ⟨A, cp, fun _ => undef, by rw [hlen], by rw [hlen]; exact h1, fun h0 => by rw [hlen] at h0; omega, fun j x hx => by simp at hx⟩
  · refine ⟨A, cp, fun j => arr.getD (i.off + (lo * t.sz + j)) undef, by rw [hlen], by rw [hlen]; exact h1, fun h0 => ?_, fun j x hx q y hy => ?_⟩
    · rw [hlen] at h0
      obtain ⟨b', hb', rfl⟩ := h3 (by omega)
      rw [hb] at hb'; cases hb'
      refine ⟨_, rfl, fun j hj => ?_⟩
      rw [hlen] at hj
      have hts : 0 < t.sz := Nat.pos_of_ne_zero fun e => by rw [e] at hj; simp at hj
      have hjn : j / t.sz < n := (Nat.div_lt_iff_lt_mul hts).2 hj
      have hx := List.getElem?_eq_getElem (l := xs) (i := lo + j / t.sz) (by omega)
      have hq : j % t.sz < (view t xs[lo + j / t.sz]).length := by rw [view_len]; exact Nat.mod_lt _ hts
      have hcc := hc (lo + j / t.sz) _ hx (j % t.sz) _ (List.getElem?_eq_getElem hq)
      have hidx : i.off + ((lo + j / t.sz) * t.sz + j % t.sz) = i.off + (lo * t.sz + j) := by
        rw [Nat.add_mul]
        have := Nat.div_add_mod j t.sz
        rw [Nat.mul_comm] at this
        omega
      rw [hidx] at hcc
      have hlt : i.off + (lo * t.sz + j) < arr.size := by
        have h5 : lo * t.sz + j < (lo + n) * t.sz := by rw [Nat.add_mul]; omega
        have h6 : (lo + n) * t.sz ≤ i.cap * t.sz := Nat.mul_le_mul_right _ (by omega)
        omega
      refine ⟨?_, hcc.2⟩
      rw [add_mid', hs, Nat.add_assoc]
      exact cell_in hh hlt
    · have hx2 : xs[lo + j]? = some x := by
        rw [List.getElem?_take] at hx
        split at hx
        · rw [List.getElem?_drop] at hx; exact hx
        · cases hx
      have := (hc (lo + j) x hx2 q y hy).1
      rwa [show i.off + ((lo + j) * t.sz + q) = i.off + (lo * t.sz + (j * t.sz + q)) by rw [Nat.add_mul]; omega] at this

/-- a row's object -/
theorem rowObj (hm : Mem B c ob w) {o v : Nat} {t : Ty} {xs : List t.D} (h : ob o = some (.row v t xs) ∨ ob o = some (.fro v t xs)) : ∃ i p, c.inf o = some i ∧ i.ver = v ∧ i.len = xs.length ∧ i.sz = t.sz ∧ xs.length ≤ i.cap ∧ RowB c w i t xs p := by
  rcases h with h | h
  · obtain ⟨i, h1⟩ := hm.obj o _ h
    exact ⟨i, _, h1⟩
  · obtain ⟨i, h1⟩ := hm.obj o _ h
    exact ⟨i, _, h1⟩
theorem rowOf_own {o v : Nat} {q : Option Ty} {r : RV} (h : rowOf ob q (.own o v) = some r) : (ob o = some (.row v r.t r.xs) ∨ ob o = some (.fro v r.t r.xs)) ∧ r.rd = [o] := by
  simp only [rowOf] at h
  split at h
  · rename_i v' t xs ho
    split at h
    · rename_i hv
      have := beq_true hv
      simp only [Option.some.injEq] at h
      subst h this
      exact ⟨.inl ho, rfl⟩
    · cases h
  · rename_i v' t xs ho
    split at h
    · rename_i hv
      have := beq_true hv
      simp only [Option.some.injEq] at h
      subst h this
      exact ⟨.inr ho, rfl⟩
    · cases h
  · cases h
theorem own_head (hm : Mem B c ob w) {o v : Nat} {t : Ty} {xs : List t.D} {x : Value} (h : ob o = some (.row v t xs) ∨ ob o = some (.fro v t xs)) (hv : V c w (.own o v) x) :
    ∃ i p, c.inf o = some i ∧ i.ver = v ∧ i.len = xs.length ∧ i.sz = t.sz ∧ xs.length ≤ i.cap ∧ RowB c w i t xs p ∧ Hd i 0 xs.length x := by
  obtain ⟨i, p, h1, h2, h3, h4, h5, h6⟩ := rowObj hm h
  obtain ⟨A, n, cp, i', e, k1, k2, k3⟩ := hv.inv_own
  rw [h1] at k1
  cases k1
  exact ⟨i, p, h1, h2, h3, h4, h5, h6, h3 ▸ k3 h2.symm⟩
theorem sub_head (hm : Mem B c ob w) {o v lo n : Nat} {t : Ty} {xs : List t.D} {x : Value} (h : ob o = some (.row v t xs) ∨ ob o = some (.fro v t xs)) (hv : V c w (.sub o v lo n) x) :
    ∃ i p, c.inf o = some i ∧ i.ver = v ∧ i.len = xs.length ∧ i.sz = t.sz ∧ xs.length ≤ i.cap ∧ RowB c w i t xs p ∧ lo + n ≤ xs.length ∧ Hd i lo n x := by
  obtain ⟨i, p, h1, h2, h3, h4, h5, h6⟩ := rowObj hm h
  obtain ⟨A, n, cp, i', e, k1, k2, k3⟩ := hv.inv_sub
  rw [h1] at k1
  cases k1
  have := k3 h2.symm
  exact ⟨i, p, h1, h2, h3, h4, h5, h6, h3 ▸ this.1, this.2⟩
theorem rowOf_rd (hm : Mem B c ob w) {a : AV} {x : Value} (hv : V c w a x) {q : Option Ty} {r : RV} (h : rowOf ob q a = some r) : Rd c w r.t r.xs x := by
  cases a <;> simp only [rowOf, reduceCtorEq] at h
  case own o v =>
    have h' : rowOf ob q (.own o v) = some r := by simpa only [rowOf] using h
    obtain ⟨i, p, h1, h2, h3, h4, h5, h6, h7⟩ := own_head hm (rowOf_own h').1 hv
    have := Rd.ofRow h3 h4 h6 (lo := 0) (n := r.xs.length) (by omega) h7
    simpa using this
  case sub o v lo n =>
    split at h
    · rename_i v' t xs ho
      split at h
      · rename_i hvv
        have := beq_true hvv
        simp only [Option.some.injEq] at h
        subst h this
        obtain ⟨i, p, h1, h2, h3, h4, h5, h6, h7, h8⟩ := sub_head hm (.inl ho) hv
        exact Rd.ofRow h3 h4 h6 h7 h8
      · cases h
    · rename_i v' t xs ho
      split at h
      · rename_i hvv
        have := beq_true hvv
        simp only [Option.some.injEq] at h
        subst h this
        obtain ⟨i, p, h1, h2, h3, h4, h5, h6, h7, h8⟩ := sub_head hm (.inr ho) hv
        exact Rd.ofRow h3 h4 h6 h7 h8
      · cases h
    · cases h
  case lst t xs =>
    simp only [Option.some.injEq] at h
    subst h
    exact .ofLst hv
  case nils =>
    split at h
    · rename_i t
      simp only [Option.some.injEq] at h
      subst h
      obtain ⟨A, rfl⟩ := hv.inv_nils
      exact ⟨A, 0, fun _ => undef, rfl, Nat.le_refl _, fun h0 => by simp at h0, fun j x hx => by simp at hx⟩
    · cases h
  all_goals cases h

/-! ### builtins -/
theorem call_builtin {ρ : Operand → Value} {o : Oper} {cl : Call} {b : Builtin} (ho : o.op = .call cl) (hb : cl.callee = .builtin b) :
    execOp ρ o = builtin b cl.argTypes o.type (cl.args.map fun | .const _ => true | _ => false) (cl.args.map ρ) := by
  unfold execOp
  simp only [ho]
  simp only [resolve, hb]
  rfl
theorem args_of {c : Call} {l : List Operand} (h : c.args.toList = l) : c.args = l.toArray := by rw [← h]
theorem len_ok (hm : Mem B c ob w) {T : Table} {x : Operand} {ρ : Operand → Value} {a : AV} (ha : V c w a (ρ x)) {o : Oper} {cl : Call} (ho : o.op = .call cl) (hb : cl.callee = .builtin .len) (hargs : cl.args.toList = [x])
    (h : run T (lenB P ob cl.argTypes.toList a) = some d) : Eff P B c ob w (execOp ρ o) d := by
  unfold lenB at h
  split at h
  case h_2 => exact (run_fail h).elim
  rename_i t ts hts
  have h1 : cl.argTypes[0]? = some t := by
    have : cl.argTypes.toList[0]? = some t := by rw [hts]; rfl
    simpa using this
  split at h
  · rename_i hu
    split at h
    · rename_i b
      refine .now hm h (v := .int .i64 b.size) ?_ (.i _ _)
      rw [call_builtin ho hb, args_of hargs]
      simp [builtin, Builtin.len_, h1, run_underlying hu, V.inv_s ha, goInt]
    · exact (run_fail h).elim
  · rename_i e hu
    have go : ∀ (A : Option Addr) (l cp : Nat), ρ x = .slice A l cp → (execOp ρ o).run P w = .ok (.value (.int .i64 l)) w := fun A l cp e => by
      rw [call_builtin ho hb, args_of hargs]
      simp [builtin, Builtin.len_, h1, run_underlying hu, e, goInt]
    have h' : run T (opt (lenA ob a) fun n => .ret ⟨.i .i64 n.1, [], n.2⟩) = some d := by
      split at h
      · exact (run_fail h).elim
      · exact h
    obtain ⟨⟨n, rd⟩, hn, h2⟩ := run_opt h'
    clear h h'
    have hd := run_ret h2
    clear h2
    subst hd
    cases a <;> simp only [lenA, reduceCtorEq] at hn
    case own q v =>
      split at hn
      · rename_i r hr
        simp only [Option.some.injEq, Prod.mk.injEq] at hn
        obtain ⟨rfl, rfl⟩ := hn
        obtain ⟨A, cp, g, e, _⟩ := rowOf_rd hm ha hr
        exact .pure hm (go _ _ _ e) (.i _ _) rfl
      · cases hn
    case sub q v lo m =>
      split at hn
      · rename_i r hr
        simp only [Option.some.injEq, Prod.mk.injEq] at hn
        obtain ⟨rfl, rfl⟩ := hn
        obtain ⟨A, l, cp, i, e, _⟩ := ha.inv_sub
        have hl : l = m := by
          simp only [rowOf] at hr
          split at hr
          · rename_i v' t xs hq
            split at hr
            · rename_i hvv
              have := beq_true hvv
              subst this
              obtain ⟨i, p, _, _, _, _, _, _, _, A', cp', e', _⟩ := sub_head hm (.inl hq) ha
              rw [e] at e'
              cases e'
              rfl
            · cases hr
          · rename_i v' t xs hq
            split at hr
            · rename_i hvv
              have := beq_true hvv
              subst this
              obtain ⟨i, p, _, _, _, _, _, _, _, A', cp', e', _⟩ := sub_head hm (.inr hq) ha
              rw [e] at e'
              cases e'
              rfl
            · cases hr
          · cases hr
        subst hl
        exact .pure hm (go _ _ _ e) (.i _ _) rfl
      · cases hn
    case lst t xs =>
      simp only [Option.some.injEq, Prod.mk.injEq] at hn
      obtain ⟨rfl, rfl⟩ := hn
      obtain ⟨A, cp, g, e, _⟩ := ha.inv_lst
      exact .pure hm (go _ _ _ e) (.i _ _) rfl
    case nils =>
      simp only [Option.some.injEq, Prod.mk.injEq] at hn
      obtain ⟨rfl, rfl⟩ := hn
      obtain ⟨A, e⟩ := ha.inv_nils
      exact .pure hm (go _ _ _ e) (.i _ _) rfl
  · exact (run_fail h).elim
end
end Go.Proofs.Ytohfaccniialmaa.Am
