/- What the machine of values does at an operation, the program does: stores. -/
import Derived.Test.YtohfaccniialmaaAmQ
namespace Go.Proofs.Ytohfaccniialmaa.Am
open Go
set_option linter.constructorNameAsVariable false
set_option linter.unusedVariables false
set_option linter.unusedSimpArgs false
section
variable {P : Program} {B : Base} {c : Cx} {ob : Nat → Option AO} {w : World} {s : Sem Next} {d : Delta}

theorem setRow_other (w : World) (g : Nat) (cs : Array Value) {b : Nat} (h : b ≠ g) : (w.setRow g cs).heap[b]? = w.heap[b]? := by
  unfold World.setRow
  simp only [Array.getElem?_modify]
  rw [if_neg fun e => h e.symm]
theorem setRow_size (w : World) (g : Nat) (cs : Array Value) : (w.setRow g cs).heap.size = w.heap.size := by
  unfold World.setRow
  simp
theorem has_mem : ∀ (l : List Nat) (n : Nat), has l n = false → ¬ n ∈ l
  | [], n, _ => by simp
  | k :: l, n, h => by
    simp only [has] at h
    split at h
    · cases h
    · rename_i e
      have := Nat.ne_of_beq_eq_false e
      simp only [List.mem_cons, not_or]
      exact ⟨fun e => this e.symm, has_mem l n h⟩
theorem fup_not : ∀ (fs : List (Nat × AO)) (ob : Nat → Option AO) (o : Nat), ¬ o ∈ fs.map (·.1) → fup ob fs o = ob o
  | [], ob, o, _ => rfl
  | (k, x) :: r, ob, o, h => by
    simp only [List.map_cons, List.mem_cons, not_or] at h
    simp only [fup]
    rw [fup_not r _ o h.2, if_neg h.1]

/-- cells that are put into others -/
def spl (arr : Array Value) (p : Nat) (vs : List Value) : Array Value := (arr.toList.take p ++ vs ++ arr.toList.drop (p + vs.length)).toArray
theorem spl_size {arr : Array Value} {p : Nat} {vs : List Value} (h : p + vs.length ≤ arr.size) : (spl arr p vs).size = arr.size := by
  have : arr.toList.length = arr.size := by simp
  simp only [spl, List.size_toArray, List.length_append, List.length_take, List.length_drop]
  omega
theorem spl_get {arr : Array Value} {p : Nat} {vs : List Value} (h : p + vs.length ≤ arr.size) (j : Nat) : (spl arr p vs).getD j undef = if p ≤ j ∧ j < p + vs.length then vs.getD (j - p) undef else arr.getD j undef := by
  have hl : arr.toList.length = arr.size := by simp
  have ht : (arr.toList.take p).length = p := by rw [List.length_take]; omega
  have e : ∀ (a : Array Value) j, a.getD j undef = a.toList.getD j undef := fun a j => by simp [Array.getD_eq_getD_getElem?, List.getD_eq_getElem?_getD]
  rw [e, e]
  simp only [spl, List.getD_eq_getElem?_getD, List.getElem?_append, ht, List.length_append]
  by_cases h1 : j < p
  · rw [if_pos (by omega), if_pos h1, if_neg (by omega), List.getElem?_take, if_pos h1]
  · by_cases h2 : j < p + vs.length
    · rw [if_pos h2, if_neg h1, if_pos ⟨by omega, h2⟩]
    · rw [if_neg h2, if_neg (by omega), List.getElem?_drop]
      congr 2
      omega

theorem cl_get {cs : List AV} {vs : Array Value} (h : Cl c w cs vs) (j : Nat) (hj : j < cs.length) : vs.getD j undef = vs.toList.getD j undef := by
  simp [Array.getD_eq_getD_getElem?, List.getD_eq_getElem?_getD]
theorem splice_get {cs new : List AV} {off : Nat} (h : off + new.length ≤ cs.length) (j : Nat) : (splice cs off new)[j]? = if off ≤ j ∧ j < off + new.length then new[j - off]? else cs[j]? := by
  have ht : (cs.take off).length = off := by rw [List.length_take]; omega
  simp only [splice, List.getElem?_append, ht, List.length_append]
  by_cases h1 : j < off
  · rw [if_pos (by omega), if_pos h1, if_neg (by omega), List.getElem?_take, if_pos h1]
  · by_cases h2 : j < off + new.length
    · rw [if_pos h2, if_neg h1, if_pos ⟨by omega, h2⟩]
    · rw [if_neg h2, if_neg (by omega), List.getElem?_drop]
      congr 1
      omega
theorem splice_len {cs new : List AV} {off : Nat} (h : off + new.length ≤ cs.length) : (splice cs off new).length = cs.length := by
  simp only [splice, List.length_append, List.length_take, List.length_drop]
  omega
theorem Cl.spl {cs new : List AV} {arr vs : Array Value} {off : Nat} (h : Cl c w cs arr) (k : Cl c w new vs) (hf : off + new.length ≤ cs.length) : Cl c w (splice cs off new) (spl arr off vs.toList) := by
  have hvl : vs.toList.length = new.length := by simp [k.1]
  have hfa : off + vs.toList.length ≤ arr.size := by rw [hvl, h.1]; exact hf
  refine ⟨by rw [spl_size hfa, splice_len hf, h.1], fun j hj => ?_, fun j y hy => ?_⟩
  · rw [splice_len hf] at hj
    rw [spl_get hfa, hvl]
    split
    · rename_i hc
      rw [← cl_get k _ (by omega)]
      exact k.2.1 _ (by omega)
    · exact h.2.1 j hj
  · rw [splice_get hf] at hy
    rw [spl_get hfa, hvl]
    split
    · rename_i hc
      rw [if_pos hc] at hy
      rw [← cl_get k _ (by omega)]
      exact k.2.2 _ y hy
    · rename_i hc
      rw [if_neg hc] at hy
      exact h.2.2 j y hy

theorem run_storeVar_at {t : TypeId} {n : Nat} (hsz : szOf P t = some n) {b p : Nat} {arr : Array Value} {e : TypeId} (hb : w.heap[b]? = some (.cells arr e (0, 0))) {v : Value} (hv : v.cells.size = n) (hf : p + n ≤ arr.size) (h1 : ∀ j, j < n → (v.cells.getD j undef).oneCell' = true) :
    (storeVar t ⟨b, p, none⟩ v).run P w = .ok () (w.setRow b (spl arr p v.cells.toList)) := by
  have hone : ∀ u ∈ v.cells.toList, u.oneCell' = true := fun u hu => by
    obtain ⟨j, hj, rfl⟩ := List.getElem_of_mem hu
    have hj' : j < n := by simpa [hv] using hj
    have := h1 j hj'
    simpa [Array.getD_eq_getD_getElem?, hv, hj'] using this
  have hst := run_storeCells_at (P := P) b p e v.cells.toList 0 arr w hb (by simp [hv]; omega) hone
  simp only [Nat.add_zero] at hst
  simp only [storeVar, Sem.run_bind, run_sizeOf' hsz, Result.andThen_ok]
  rw [if_neg (by simp [hv])]
  exact hst

/-- a store into a block of one's own -/
theorem Mem.write (hm : Mem B c ob w) {k : Nat} {x x' : AO} {i : Inf} {b : Nat} {arr' : Array Value} (hx : ob k = some x) (hl : live x = true) (hi : c.inf k = some i) (hb : i.blk = some b)
    (hor : Ext c w (c.set k i) (w.setRow b arr') → OR (c.set k i) (w.setRow b arr') k x') :
    Mem B (c.set k i) (fup ob [(k, x')]) (w.setRow b arr') ∧ Ext c w (c.set k i) (w.setRow b arr') := by
  refine hm.put k x' i _ rfl rfl rfl (by rw [setRow_size]; exact Nat.le_refl _) (fun b' hb' hB => setRow_other w b arr' fun e => hB ⟨x, i, hx, hl, hi, by rw [e]; exact hb⟩) (fun j hj => ?_) hor (fun b' _ hb' => .inl ⟨x, i, hx, hl, hi, hb'⟩)
  rw [hi] at hj
  cases hj
  exact ⟨Nat.le_refl _, fun _ => rfl⟩

theorem beq_true {a b : Nat} (h : Nat.beq a b = true) : a = b := Nat.eq_of_beq_eq_true h
theorem ble_true {a b : Nat} (h : Nat.ble a b = true) : a ≤ b := Nat.le_of_ble_eq_true h

theorem storeA_ok (hm : Mem B c ob w) {T : Table} {t : TypeId} {n : Nat} (hsz : szOf P t = some n) {p x : Operand} {ρ : Operand → Value} {a z : AV} (ha : V c w a (ρ p)) (hz : V c w z (ρ x)) (h : run T (storeA ob n a z) = some d) {o : Oper} (ho : o.op = .store t p x) :
    Eff P B c ob w (execOp ρ o) d := by
  unfold execOp
  simp only [ho]
  have fin : ∀ (xc : List AV), cellsA z = some xc → xc.length = n → ∀ (b q : Nat) (arr : Array Value) (e : TypeId), ρ p = .pointer (some ⟨b, q, none⟩) → w.heap[b]? = some (.cells arr e (0, 0)) → q + n ≤ arr.size →
      ((do (Instr.storeAt t (ρ p) (ρ x)); pure Next.skip : Sem Next).run P w = .ok .skip (w.setRow b (spl arr q (ρ x).cells.toList))) := fun xc hxc hxl b q arr e e1 e2 e3 => by
    have hcl := hz.cells hxc
    have hvs : (ρ x).cells.size = n := hcl.1.trans hxl
    simp only [Sem.run_bind, Instr.storeAt, Instr.sureAddr, e1, Sem.run_pure, Result.andThen_ok, run_storeVar_at hsz e2 hvs e3 (fun j hj => hcl.2.1 j (by omega))]
  cases a
  case ptr q off =>
    simp only [storeA] at h
    obtain ⟨xc, hxc, h⟩ := run_opt h
    split at h
    case h_1 => exact (run_fail h).elim
    rename_i hxl
    have hxl := beq_true hxl
    have hcl := hz.cells hxc
    have hvs : (ρ x).cells.size = n := hcl.1.trans hxl
    split at h
    · rename_i cs hq
      split at h
      · rename_i hle
        have hle := ble_true hle
        have hd := run_ret h
        subst hd
        obtain ⟨i, b, arr, el, h1, h2, h3, h4, h5, h6⟩ := hm.obj q _ hq
        obtain ⟨ad, i', e1, hi', hp⟩ := ha.inv_ptr
        rw [h1] at hi'; cases hi'
        obtain ⟨b', hb', rfl⟩ := hp h2
        rw [h3] at hb'; cases hb'
        obtain ⟨k1, k2⟩ := hm.write (x' := .box (splice cs off xc)) (arr' := spl arr off (ρ x).cells.toList) hq rfl h1 h3 fun ext =>
          ⟨i, b, _, el, Cx.set_eq _ _ _, h2, h3, setRow_heap w b arr _ el (0, 0) h4, (h5.spl hcl (by omega)).ext ext, h6⟩
        exact ⟨_, _, _, .inr ⟨fin xc hxc hxl b off arr el e1 h4 (by rw [h5.1]; omega), rfl⟩, k1, k2, .und⟩
      · exact (run_fail h).elim
    · exact (run_fail h).elim
  case eptr q v j off =>
    simp only [storeA] at h
    obtain ⟨xc, hxc, h⟩ := run_opt h
    split at h
    case h_1 => exact (run_fail h).elim
    rename_i hxl
    have hxl := beq_true hxl
    have hcl := hz.cells hxc
    have hvs : (ρ x).cells.size = n := hcl.1.trans hxl
    split at h
    · rename_i v' u xs hq
      split at h
      · rename_i hv
        have hv := beq_true hv
        subst hv
        obtain ⟨⟨l, fs⟩, hfz, h⟩ := run_opt h
        simp only [run] at h
        split at h
        case h_2 => cases h
        rename_i y hy
        split at h
        case h_2 => exact (run_fail h).elim
        rename_i hle hnot
        have hle := ble_true hle
        have hnot := has_mem _ _ hnot
        obtain ⟨zz, hzz, h⟩ := run_opt h
        have hd := run_ret h
        subst hd
        obtain ⟨c1, m1, m2, m3, m4, m5⟩ := frz_ok xc l fs hfz c ob hm (.refl ob) (fun j => (ρ x).cells.getD j undef) (fun j y hy => hcl.2.2 j y hy)
        have hq1 : fup ob fs q = some (.row v' u xs) := by rw [fup_not fs ob q hnot]; exact hq
        have ha1 := ha.ext m3
        obtain ⟨i, h1, h2, h3, h4, h5, h6⟩ := m1.obj q _ hq1
        obtain ⟨ad, i', e1, hi', hvle, hp⟩ := ha1.inv_eptr
        rw [h1] at hi'; cases hi'
        obtain ⟨hjl, b, hb, rfl⟩ := hp h2.symm
        rcases h6 with ⟨h6, h7⟩ | ⟨b', arr, el, k1, k2, k3, k4, k5⟩
        · rw [hb] at h6; cases h6
        rw [hb] at k1; cases k1
        have hjx : j < xs.length := (List.getElem?_eq_some_iff.1 hy).1
        have hxs : xs.length * u.sz ≤ i.cap * u.sz := Nat.mul_le_mul_right _ h5
        have hj1 : (j + 1) * u.sz ≤ xs.length * u.sz := Nat.mul_le_mul_right _ hjx
        rw [Nat.add_mul, Nat.one_mul] at hj1
        have hvl : (ρ x).cells.toList.length = n := by simp [hvs]
        have hfit : i.off + j * u.sz + off + n ≤ arr.size := by omega
        have hfit' : i.off + j * u.sz + off + (ρ x).cells.toList.length ≤ arr.size := by rw [hvl]; exact hfit
        have hcells : Ext c1 w (c1.set q i) (w.setRow b (spl arr (i.off + j * u.sz + off) (ρ x).cells.toList)) → Cells (c1.set q i) (w.setRow b (spl arr (i.off + j * u.sz + off) (ρ x).cells.toList)) (spl arr (i.off + j * u.sz + off) (ρ x).cells.toList) i.off u (xs.set j zz) := by
          intro ext jj xx hxx q' yy hyy
          obtain ⟨hul, huv⟩ := unview_ok u _ zz hzz
          have hlen : off + l.length ≤ (view u y).length := by rw [view_len, m4]; omega
          have hq' : q' < u.sz := by rw [← view_len u xx]; exact (List.getElem?_eq_some_iff.1 hyy).1
          by_cases hjj : jj = j
          · subst hjj
            have hxz : xx = zz := by
              have : (xs.set jj zz)[jj]? = some zz := by simp [hjx]
              rw [this] at hxx
              exact (Option.some.inj hxx).symm
            subst hxz
            have key : ∀ r yv, (splice (view u y) off l)[r]? = some yv → V c1 w yv ((spl arr (i.off + jj * u.sz + off) (ρ x).cells.toList).getD (i.off + (jj * u.sz + r)) undef) ∧ ((spl arr (i.off + jj * u.sz + off) (ρ x).cells.toList).getD (i.off + (jj * u.sz + r)) undef).oneCell' = true := by
              intro r yv hr
              rw [splice_get hlen] at hr
              rw [spl_get hfit', hvl]
              by_cases hin : off ≤ r ∧ r < off + l.length
              · rw [if_pos hin] at hr
                rw [if_pos (by omega)]
                rw [show i.off + (jj * u.sz + r) - (i.off + jj * u.sz + off) = r - off by omega, ← cl_get hcl _ (by omega)]
                exact ⟨m5 _ yv hr, hcl.2.1 _ (by omega)⟩
              · rw [if_neg hin] at hr
                have hru : r < u.sz := by rw [← view_len u y]; exact (List.getElem?_eq_some_iff.1 hr).1
                rw [if_neg (by omega)]
                exact k4 jj y hy r yv hr
            refine ⟨(huv c1 w _ (fun r yv hr => (key r yv hr).1) q' yy hyy).ext ext, ?_⟩
            have hq2 : q' < (splice (view u y) off l).length := by rw [splice_len hlen, view_len]; exact hq'
            exact (key q' _ (List.getElem?_eq_getElem hq2)).2
          · have hxx2 : xs[jj]? = some xx := by rwa [List.getElem?_set_ne (fun e => hjj e.symm)] at hxx
            have hjj1 : jj < xs.length := (List.getElem?_eq_some_iff.1 hxx2).1
            rw [spl_get hfit', hvl, if_neg ?_]
            · exact ⟨(k4 jj xx hxx2 q' yy hyy).1.ext ext, (k4 jj xx hxx2 q' yy hyy).2⟩
            · rintro ⟨hA, hB⟩
              rcases Nat.lt_or_gt_of_ne hjj with hlt | hgt
              · have := Nat.mul_le_mul_right u.sz (show jj + 1 ≤ j by omega)
                rw [Nat.add_mul, Nat.one_mul] at this
                omega
              · have := Nat.mul_le_mul_right u.sz (show j + 1 ≤ jj by omega)
                rw [Nat.add_mul, Nat.one_mul] at this
                omega
        obtain ⟨r1, r2⟩ := m1.write (x' := .row v' u (xs.set j zz)) (arr' := spl arr (i.off + j * u.sz + off) (ρ x).cells.toList) hq1 rfl h1 hb fun ext =>
          ⟨i, Cx.set_eq _ _ _, h2, by simpa using h3, h4, by simpa using h5, .inr ⟨b, _, el, hb, setRow_heap w b arr _ el (0, 0) k2, by rw [spl_size hfit']; exact k3, hcells ext, k5⟩⟩
        exact ⟨_, _, _, .inr ⟨fin xc hxc hxl b _ arr el (by rw [e1, h4]) k2 hfit, rfl⟩, by rw [fup_append]; exact r1, m3.trans r2, .und⟩
      · exact (run_fail h).elim
    · exact (run_fail h).elim
  all_goals
    simp only [storeA] at h
    obtain ⟨xc, hxc, h⟩ := run_opt h
    split at h <;> exact (run_fail h).elim
end
end Go.Proofs.Ytohfaccniialmaa.Am
