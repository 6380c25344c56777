/- What the machine of values does at an operation, the program does: places, parts, rows that are written out. -/
import Derived.Test.YtohfaccniialmaaAmS
namespace Go.Proofs.Ytohfaccniialmaa.Am
open Go
set_option linter.constructorNameAsVariable false
set_option linter.unusedVariables false
set_option linter.unusedSimpArgs false
section
variable {P : Program} {B : Base} {c : Cx} {ob : Nat → Option AO} {w : World} {s : Sem Next} {d : Delta}

theorem add_add' (a : Addr) (i j : Nat) : (a.add i).add j = a.add (i + j) := by
  unfold Addr.add
  split <;> split <;> split <;> simp_all <;> omega
theorem fieldsOf_eq {t : TypeId} {fs : List Field} (h : fieldsOf P t = some fs) : ∃ a : Array Field, P.underlying t = some (.struct a) ∧ a.toList = fs := by
  unfold fieldsOf at h
  split at h
  · exact ⟨_, ‹_›, by simpa using h⟩
  · cases h
theorem placeF_eq {fs : List Field} {f : Nat} {pl : Nat × Nat} (h : placeF P fs f = some pl) : ∃ fd, fs[f]? = some fd ∧ szOf P fd.type = some pl.2 ∧ pl.1 = fd.offset := by
  unfold placeF at h
  split at h
  · rename_i fd hfd
    split at h
    · rename_i n hn
      simp only [Option.some.injEq] at h
      subst h
      exact ⟨fd, hfd, hn, rfl⟩
    · cases h
  · cases h

theorem fieldAddr_ok (hm : Mem B c ob w) {T : Table} {t : TypeId} {f : Nat} {x : Operand} {ρ : Operand → Value} {a : AV} (ha : V c w a (ρ x)) {o : Oper} (ho : o.op = .fieldAddr t x f)
    (h : run T (opt (fieldsOf P t) fun fs => opt (placeF P fs f) fun pl => match pl.2 with
      | 0 => .fail
      | _ => match a with
        | .ptr o off => now (.ptr o (off + pl.1))
        | .eptr o v j off => now (.eptr o v j (off + pl.1))
        | .rp cs => now (.rp (cs.drop pl.1))
        | _ => .fail) = some d) : Eff P B c ob w (execOp ρ o) d := by
  obtain ⟨fs, hfs, h1⟩ := run_opt h
  clear h
  obtain ⟨pl, hpl, h⟩ := run_opt h1
  clear h1
  obtain ⟨fa, hu, hfa⟩ := fieldsOf_eq hfs
  obtain ⟨fd, hfd, hsz, hoff⟩ := placeF_eq hpl
  have hne : pl.2 = 0 → False := fun e => by
    simp only [e] at h
    exact run_fail h
  have h2 : run T (match a with
        | .ptr o off => now (.ptr o (off + pl.1))
        | .eptr o v j off => now (.eptr o v j (off + pl.1))
        | .rp cs => now (.rp (cs.drop pl.1))
        | _ => .fail) = some d := by
    cases e : pl.2 with
    | zero => exact (hne e).elim
    | succ n => simpa only [e] using h
  clear h
  have h := h2
  clear h2
  have hfd' : fa[f]? = some fd := by rw [← hfd, ← hfa]; simp
  have go : ∀ ad, ρ x = .pointer (some ad) → (execOp ρ o).run P w = .ok (.value (.pointer (some (ad.add pl.1)))) w := fun ad e => by
    unfold execOp
    simp only [ho]
    have hz : ¬ pl.2 = 0 := fun e => hne e
    simp [Instr.fieldAt, run_underlying hu, hfd', Instr.sureAddr, e, fieldPlace, run_sizeOf' hsz, hz, hoff]
  cases a <;> simp only at h
  case ptr q off =>
    obtain ⟨ad, i, e, hi, hp⟩ := ha.inv_ptr
    refine .now hm h (go ad e) (.ptr q _ _ i hi fun h0 => ?_)
    obtain ⟨b, hb, rfl⟩ := hp h0
    exact ⟨b, hb, add_mid' b off pl.1⟩
  case eptr q v j off =>
    obtain ⟨ad, i, e, hi, hv, hp⟩ := ha.inv_eptr
    refine .now hm h (go ad e) (.eptr q v j _ _ i hi hv fun h0 => ?_)
    obtain ⟨hj, b, hb, rfl⟩ := hp h0
    exact ⟨hj, b, hb, by rw [add_mid', Nat.add_assoc]⟩
  case rp cs =>
    obtain ⟨ad, g, e, hF, hc, hv⟩ := ha.inv_rp
    refine .now hm h (go ad e) (.rp _ _ (fun j => g (pl.1 + j)) (by rw [add_block']; exact hF) (fun j hj => ?_) (fun j y hy => ?_))
    · rw [List.length_drop] at hj
      rw [add_add']
      exact hc _ (by omega)
    · rw [List.getElem?_drop] at hy
      exact hv _ y hy
  all_goals exact (run_fail h).elim

/-- a part of a value -/
theorem part_ok {t : TypeId} {n off : Nat} (hsz : szOf P t = some n) {cs l : List AV} (hl : cut cs off n = some l) {x : AV} (hx : mkA P t l = some x) {vs : Array Value} (hc : Cl c w cs vs) : ∃ v, (part t vs off).run P w = .ok v w ∧ V c w x v := by
  obtain ⟨hll, hlg⟩ := cut_eq hl
  have hlt : ∀ j, j < n → off + j < cs.length := fun j hj => by
    have hcs : (cs[off + j]?).isSome = true := by rw [← hlg j hj]; simp [hll, hj]
    simpa using hcs
  unfold mkA at hx
  split at hx
  · rename_i e
    simp only [Option.some.injEq] at hx
    subst hx
    have hsize : (vs.extract off (off + n)).size = n := by
      rw [Array.size_extract]
      cases n with
      | zero => omega
      | succ m => have := hlt m (by omega); have := hc.1; omega
    have hget : ∀ j, j < n → (vs.extract off (off + n)).getD j undef = vs.getD (off + j) undef := fun j hj => by
      have h1 := hlt j hj
      have h2 : off + j < vs.size := by rw [hc.1]; exact h1
      have h3 : j < (vs.extract off (off + n)).size := by rw [hsize]; exact hj
      rw [Array.getD_eq_getD_getElem?, Array.getD_eq_getD_getElem?, Array.getElem?_eq_getElem h3, Array.getElem?_eq_getElem h2, Array.getElem_extract]
    refine ⟨.agg (vs.extract off (off + n)), by simp [part, run_isAgg' e, run_sizeOf' hsz], .agg _ _ (by rw [hsize, hll]) (fun j hj => ?_) (fun j y hy => ?_)⟩
    · rw [hll] at hj
      rw [hget j hj]
      exact hc.2.1 _ (hlt j hj)
    · have hj : j < n := by have := (List.getElem?_eq_some_iff.1 hy).1; omega
      rw [hget j hj]
      rw [hlg j hj] at hy
      exact hc.2.2 _ y hy
  · rename_i e
    split at hx
    · rename_i y
      simp only [Option.some.injEq] at hx
      subst hx
      have hn : n = 1 := by simpa using hll.symm
      subst hn
      have h0 := hlt 0 (by omega)
      have hy0 : cs[off]? = some y := by have := hlg 0 (by omega); simpa using this.symm
      have hlt2 : off < vs.size := by rw [hc.1]; simpa using h0
      refine ⟨vs.getD off undef, ?_, hc.2.2 off y hy0⟩
      simp [part, run_isAgg' e, hlt2]
    · cases hx
  · cases hx

theorem field_ok (hm : Mem B c ob w) {T : Table} {t : TypeId} {f : Nat} {x : Operand} {ρ : Operand → Value} {a : AV} (ha : V c w a (ρ x)) {o : Oper} (ho : o.op = .field t x f)
    (h : run T (opt (fieldsOf P t) fun fs => opt (fs[f]?) fun fd => opt (szOf P fd.type) fun n => match a with
      | .agg cs => opt (cut cs fd.offset n) fun l => opt (mkA P fd.type l) now
      | _ => .fail) = some d) : Eff P B c ob w (execOp ρ o) d := by
  obtain ⟨fs, hfs, h1⟩ := run_opt h
  clear h
  obtain ⟨fd, hfd, h2⟩ := run_opt h1
  clear h1
  obtain ⟨n, hsz, h⟩ := run_opt h2
  clear h2
  obtain ⟨fa, hu, hfa⟩ := fieldsOf_eq hfs
  have hfd' : fa[f]? = some fd := by rw [← hfd, ← hfa]; simp
  cases a <;> simp only at h
  case agg cs =>
    obtain ⟨l, hl, h⟩ := run_opt h
    obtain ⟨y, hy, h⟩ := run_opt h
    obtain ⟨vs, e, hc⟩ := ha.inv_agg
    obtain ⟨v, h1, h2⟩ := part_ok hsz hl hy hc
    refine .now hm h (v := v) ?_ h2
    unfold execOp
    simp only [ho]
    simp [Instr.field, run_underlying hu, hfd', e, asAgg, h1]
  all_goals exact (run_fail h).elim

theorem extract_ok (hm : Mem B c ob w) {T : Table} {i : Nat} {x : Operand} {ρ : Operand → Value} {a : AV} (ha : V c w a (ρ x)) {o : Oper} (ho : o.op = .extract x i)
    (h : run T (match a with | .tup vs => opt (vs[i]?) now | _ => .fail) = some d) : Eff P B c ob w (execOp ρ o) d := by
  cases a <;> simp only at h
  case tup cs =>
    obtain ⟨y, hy, h⟩ := run_opt h
    obtain ⟨vs, e, hs, hv⟩ := ha.inv_tup
    have hlt : i < vs.size := by rw [hs]; exact (List.getElem?_eq_some_iff.1 hy).1
    refine .now hm h (v := vs.getD i undef) ?_ (hv i y hy)
    unfold execOp
    simp only [ho]
    simp [Instr.extract, e, hlt]
  all_goals exact (run_fail h).elim

theorem nilCheck_ok (hm : Mem B c ob w) {T : Table} {x : Operand} {ρ : Operand → Value} {a : AV} (ha : V c w a (ρ x)) {o : Oper} (ho : o.op = .nilCheck x)
    (h : run T (match a with
      | .ptr o off => now (.ptr o off)
      | .eptr o v j off => now (.eptr o v j off)
      | .rp cs => now (.rp cs)
      | .fn f cs => now (.fn f cs)
      | _ => .fail) = some d) : Eff P B c ob w (execOp ρ o) d := by
  have go : ∀ v, ρ x = v → (∃ ad, v = .pointer (some ad)) ∨ (∃ f vs, v = .func (.func f) #[] vs) → (execOp ρ o).run P w = .ok (.value v) w := fun v e k => by
    unfold execOp
    simp only [ho]
    rcases k with ⟨ad, rfl⟩ | ⟨f, vs, rfl⟩ <;> simp [e]
  cases a <;> simp only at h
  case ptr q off =>
    obtain ⟨ad, i, e, _⟩ := ha.inv_ptr
    exact .now hm h (go _ rfl (.inl ⟨ad, e⟩)) ha
  case eptr q v j off =>
    obtain ⟨ad, i, e, _⟩ := ha.inv_eptr
    exact .now hm h (go _ rfl (.inl ⟨ad, e⟩)) ha
  case rp cs =>
    obtain ⟨ad, g, e, _⟩ := ha.inv_rp
    exact .now hm h (go _ rfl (.inl ⟨ad, e⟩)) ha
  case fn f cs =>
    obtain ⟨vs, e, _⟩ := ha.inv_fn
    exact .now hm h (go _ rfl (.inr ⟨f, vs, e⟩)) ha
  all_goals exact (run_fail h).elim

theorem makeFunc_ok (hm : Mem B c ob w) {T : Table} {f : FuncId} {a cs : Array Operand} {ρ : Operand → Value} {ev : Operand → AV} (hev : ∀ x, V c w (ev x) (ρ x)) {o : Oper} (ho : o.op = .makeFunc (.func f) a cs)
    (h : run T (match a.size with | 0 => now (.fn f (cs.toList.map ev)) | _ => .fail) = some d) : Eff P B c ob w (execOp ρ o) d := by
  split at h
  · rename_i h0
    have ha : a = #[] := by simpa using h0
    subst ha
    refine .now hm h (v := .func (.func f) #[] (cs.map ρ)) ?_ (.fn f _ _ (by simp) fun j y hy => ?_)
    · unfold execOp
      simp only [ho]
      simp [Instr.makeFunc]
    · rw [List.getElem?_map] at hy
      obtain ⟨z, hz, rfl⟩ := Option.map_eq_some_iff.1 hy
      have hlt : j < cs.size := by simpa using (List.getElem?_eq_some_iff.1 hz).1
      have hz' : cs[j] = z := by
        have := (List.getElem?_eq_some_iff.1 hz).2
        simpa using this
      have : (cs.map ρ).getD j undef = ρ z := by simp [hlt, hz']
      rw [this]
      exact hev z
  · exact (run_fail h).elim

theorem pick_ok (hm : Mem B c ob w) {T : Table} {x y z : Operand} {ρ : Operand → Value} {a b e : AV} (ha : V c w a (ρ x)) (hb : V c w b (ρ y)) (he : V c w e (ρ z)) {o : Oper} (ho : o.op = .pick x y z)
    (h : run T (match a, b, e with
      | .b x, .b p, .b q => now (.b (match x with | true => p | false => q))
      | .b x, p, q => .br x (now p) (now q)
      | _, _, _ => .fail) = some d) : Eff P B c ob w (execOp ρ o) d := by
  cases a
  case b x1 =>
    have ex := V.inv_b ha
    have gen : run T (.br x1 (now b) (now e)) = some d → Eff P B c ob w (execOp ρ o) d := fun h => by
      cases x1 with
      | true => exact .now hm (T := T) (a := b) h (v := ρ y) (by unfold execOp; simp only [ho]; simp [ex, asBool]) hb
      | false => exact .now hm (T := T) (a := e) h (v := ρ z) (by unfold execOp; simp only [ho]; simp [ex, asBool]) he
    have h' : run T (.br x1 (now b) (now e)) = some d := by
      cases b <;> cases e <;> first | exact h | (cases x1 <;> exact h)
    exact gen h'
  all_goals
    simp only at h
    exact (run_fail h).elim
end
end Go.Proofs.Ytohfaccniialmaa.Am
