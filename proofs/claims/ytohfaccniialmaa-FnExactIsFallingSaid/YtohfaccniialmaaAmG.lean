/- What the machine of values does at an operation, the program does: all operations. -/
import Derived.Test.YtohfaccniialmaaAmN
namespace Go.Proofs.Ytohfaccniialmaa.Am
open Go
set_option linter.constructorNameAsVariable false
set_option linter.unusedVariables false
set_option linter.unusedSimpArgs false
section
variable {P : Program} {B : Base} {c : Cx} {ob : Nat → Option AO} {w : World} {s : Sem Next} {d : Delta}

def CallEff (P : Program) (B : Base) (c : Cx) (ob : Nat → Option AO) (w : World) (s : Sem Next) (d : Delta) : Prop :=
  ∃ f vs, s.run P w = .ok (.enter f vs) w ∧ Calls P f vs w fun e w' => ∃ v c', e = .returned v ∧ Mem B c' (fup ob d.ow) w' ∧ Ext c w c' w' ∧ V c' w' d.v v

theorem getD_append_left {a b : Array Value} {j : Nat} (h : j < a.size) : (a ++ b).getD j undef = a.getD j undef := by
  simp only [Array.getD_eq_getD_getElem?]
  rw [Array.getElem?_append_left h]
theorem getD_append_right {a b : Array Value} {j : Nat} (h : a.size ≤ j) : (a ++ b).getD j undef = b.getD (j - a.size) undef := by
  simp only [Array.getD_eq_getD_getElem?]
  rw [Array.getElem?_append_right h]

theorem callV_ok (hm : Mem B c ob w) {T : Table} (hT : TS P T) {M : FuncId → List Bool} {k : Nat} {f : Operand} {ρ : Operand → Value} {ev : Operand → AV} (hev : ∀ x, V c w (ev x) (ρ x)) {o : Oper} {cl : Call} (ho : o.op = .call cl) (hb : cl.callee = .value f)
    (h : run T (match ev f with | .fn g cs => callA M k ob g (cl.args.toList.map ev ++ cs) | _ => .fail) = some d) : CallEff P B c ob w (execOp ρ o) d := by
  have hf := hev f
  cases ef : ev f <;> rw [ef] at h hf <;> simp only at h
  case fn g cs =>
    obtain ⟨vs, ex, hs, hv⟩ := hf.inv_fn
    have hsz : (cl.args.map ρ ++ vs).size = (cl.args.toList.map ev ++ cs).length := by simp [hs]
    obtain ⟨⟨fn, k1, k2, k3⟩, hc⟩ := callA_ok (P := P) (vs := cl.args.map ρ ++ vs) hm hT hsz (fun j a ha => by
      rw [List.getElem?_append] at ha
      split at ha
      · rename_i hj
        rw [List.length_map] at hj
        have hj' : j < cl.args.size := by simpa using hj
        rw [List.getElem?_map] at ha
        obtain ⟨z, hz, rfl⟩ := Option.map_eq_some_iff.1 ha
        have hzz : cl.args[j] = z := by
          have := (List.getElem?_eq_some_iff.1 hz).2
          simpa using this
        rw [getD_append_left (by simpa using hj')]
        have : (cl.args.map ρ).getD j undef = ρ z := by simp [hj', hzz]
        rw [this]
        exact hev z
      · rename_i hj
        rw [List.length_map] at hj ha
        have hj' : cl.args.size ≤ j := by simpa using hj
        rw [getD_append_right (by simpa using hj')]
        have := hv _ a ha
        simpa using this) h
    refine ⟨g, cl.args.map ρ ++ vs, ?_, hc⟩
    unfold execOp
    simp only [ho]
    simp only [resolve, hb, Deferred.ofValue, ex, Sem.run_bind, Sem.run_pure, Result.andThen_ok, invoke, callFunc, run_program, k1]
    rw [if_neg (by simp [k2])]
    rw [if_neg (by cases hbd : fn.body <;> simp [hbd] at k3 ⊢)]
    simp
  all_goals exact (run_fail h).elim

theorem builtinA_ok (hm : Mem B c ob w) {T : Table} {k : Nat} {ρ : Operand → Value} {ev : Operand → AV} (hev : ∀ x, V c w (ev x) (ρ x)) {o : Oper} {cl : Call} {b : Builtin} (ho : o.op = .call cl) (hb : cl.callee = .builtin b)
    (h : run T (builtinA P k ob b cl.argTypes.toList (cl.args.toList.map ev)) = some d) : Eff P B c ob w (execOp ρ o) d := by
  have args1 : ∀ x, cl.args.toList.map ev = [x] → ∃ p, cl.args.toList = [p] ∧ ev p = x := fun x e => by
    cases e2 : cl.args.toList with
    | nil => rw [e2] at e; cases e
    | cons p r =>
      rw [e2] at e
      cases r with
      | nil => simp at e; exact ⟨p, rfl, e⟩
      | cons q r => simp at e
  have args2 : ∀ x y, cl.args.toList.map ev = [x, y] → ∃ p q, cl.args.toList = [p, q] ∧ ev p = x ∧ ev q = y := fun x y e => by
    cases e2 : cl.args.toList with
    | nil => rw [e2] at e; cases e
    | cons p r =>
      rw [e2] at e
      cases r with
      | nil => simp at e
      | cons q r =>
        cases r with
        | nil => simp at e; exact ⟨p, q, rfl, e.1, e.2⟩
        | cons z r => simp at e
  unfold builtinA at h
  split at h
  · rename_i x hx
    obtain ⟨p, hp, rfl⟩ := args1 x hx
    exact len_ok hm (hev p) ho hb hp h
  · rename_i sx x hx
    obtain ⟨p, q, hpq, rfl, rfl⟩ := args2 sx x hx
    unfold appendA at h
    split at h
    case h_2 => exact (run_fail h).elim
    rename_i t tx hts
    split at h
    case h_2 => exact (run_fail h).elim
    rename_i e e' ht htx
    obtain ⟨u, hu, h1⟩ := run_opt h
    clear h
    obtain ⟨by_, hby, h2⟩ := run_opt h1
    clear h1
    obtain ⟨z, hz, h3⟩ := run_opt h2
    clear h2
    split at h3
    case h_2 => exact (run_fail h3).elim
    rename_i hck
    rw [Bool.and_eq_true] at hck
    obtain ⟨r, hr, h4⟩ := run_opt h3
    clear h3
    obtain ⟨ys, hys, h5⟩ := run_opt h4
    clear h4
    obtain ⟨i, zv, hi, hzv, hl, hc⟩ := zeroC_ok hz
    obtain ⟨i2, hi2, hbs⟩ := bytesT_eq ht hby
    rw [hi] at hi2
    cases hi2
    exact appendB_ok hm (hev p) (Rd.cast hys (rowOf_rd hm (hev q) hr)) ho hb hpq hts ht htx hi hzv hbs (szIs_eq hck.1 hi) (hl.trans (beq_true hck.2)) h5
  · rename_i x y hx
    obtain ⟨p, q, hpq, rfl, rfl⟩ := args2 x y hx
    split at h
    · rename_i t ts hts
      split at h
      · rename_i e ht
        exact copy_ok hm (hev p) (hev q) ho hb hpq hts ht h
      · exact (run_fail h).elim
    · exact (run_fail h).elim
  · rename_i x hx
    obtain ⟨p, hp, rfl⟩ := args1 x hx
    split at h
    · rename_i t ts hts
      split at h
      · rename_i e ht
        exact clear_ok hm (hev p) ho hb hp hts ht h
      · exact (run_fail h).elim
    · exact (run_fail h).elim
  · rename_i kk n r hx
    cases e2 : cl.args.toList with
    | nil => rw [e2] at hx; cases hx
    | cons p l =>
      rw [e2] at hx
      simp only [List.map_cons, List.cons.injEq] at hx
      obtain ⟨hx1, rfl⟩ := hx
      exact min_ok hm hev ho hb e2 hx1 h
  · rename_i kk n r hx
    cases e2 : cl.args.toList with
    | nil => rw [e2] at hx; cases hx
    | cons p l =>
      rw [e2] at hx
      simp only [List.map_cons, List.cons.injEq] at hx
      obtain ⟨hx1, rfl⟩ := hx
      exact max_ok hm hev ho hb e2 hx1 h
  · exact (run_fail h).elim

theorem opA_ok (hm : Mem B c ob w) {T : Table} (hT : TS P T) {M : FuncId → List Bool} {ρ : Operand → Value} {ev : Operand → AV} (hev : ∀ x, V c w (ev x) (ρ x)) (hρ : ∀ v, ρ (.const v) = v) {o : Oper} (h : run T (opA P M ev ob o) = some d) :
    Eff P B c ob w (execOp ρ o) d ∨ CallEff P B c ob w (execOp ρ o) d := by
  unfold opA at h
  simp only at h
  split at h
  case h_1 x ho => exact .inl (.now hm h (v := ρ x) (by unfold execOp; simp only [ho]; rfl) (hev x))
  case h_2 x ho => exact .inl (.now hm h (v := ρ x) (by unfold execOp; simp only [ho]; rfl) (hev x))
  case h_3 x y z ho => exact .inl (pick_ok hm (hev x) (hev y) (hev z) ho h)
  case h_4 t ho => exact .inl (alloc_ok hm ho (fun _ => newId_big _ _) h)
  case h_5 t x ho => exact .inl (box_ok hm (hev x) ho (fun _ => newId_big _ _) h)
  case h_6 t ps ho => exact .inl (build_ok hm hev ho h)
  case h_7 t n ps ho => exact .inl (buildSlice_ok hm (newId_big _ _) hev ho h)
  case h_8 t x ho =>
    obtain ⟨n, hn, h⟩ := run_opt h
    exact .inl (loadA_ok hm hn (hev x) h ho)
  case h_9 t p x ho =>
    obtain ⟨n, hn, h⟩ := run_opt h
    exact .inl (storeA_ok hm hn (hev p) (hev x) h ho)
  case h_10 x ho => exact .inl (nilCheck_ok hm (hev x) ho h)
  case h_11 op t x y yt ho =>
    split at h
    · rename_i hn
      exact .inl (nilA_ok hm (hev x) (by rw [isNilC_ok hn, hρ]) h ho)
    · exact .inl (binA_ok hm (hev x) (hev y) h ho)
  case h_12 op t x ho => exact .inl (unA_ok hm (hev x) h ho)
  case h_13 f a cs ho => exact .inl (makeFunc_ok hm hev ho h)
  case h_14 t l cp ho => exact .inl (makeSlice_ok hm (newId_big _ _) (hev l) (hev cp) ho h)
  case h_15 t x lo hi mx ho => exact .inl (slice_ok hm hev ho h)
  case h_16 t x f ho => exact .inl (fieldAddr_ok hm (hev x) ho h)
  case h_17 t x f ho => exact .inl (field_ok hm (hev x) ho h)
  case h_18 t x i ho => exact .inl (indexAddr_ok hm (hev x) (hev i) ho h)
  case h_19 t x i ho => exact .inl (index_ok hm (hev x) (hev i) ho h)
  case h_20 x i ho => exact .inl (extract_ok hm (hev x) ho h)
  case h_21 s t x ho => exact .inl (conv_ok hm (hev x) ho h)
  case h_22 cl ho =>
    split at h
    · rename_i b hb
      exact .inl (builtinA_ok hm hev ho hb h)
    · rename_i f hf
      exact .inr (callV_ok hm hT hev ho hf h)
    · exact (run_fail h).elim
  case h_23 => exact (run_fail h).elim
end
end Go.Proofs.Ytohfaccniialmaa.Am
