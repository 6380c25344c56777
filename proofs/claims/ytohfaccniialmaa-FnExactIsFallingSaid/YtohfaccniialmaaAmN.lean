/- What the machine of values does at an operation, the program does: copy, clear. -/
import Derived.Test.YtohfaccniialmaaAmL
import Derived.Laws.BytesArg
namespace Go.Proofs.Ytohfaccniialmaa.Am
open Go
set_option linter.constructorNameAsVariable false
set_option linter.unusedVariables false
set_option linter.unusedSimpArgs false
section
variable {P : Program} {B : Base} {c : Cx} {ob : Nat → Option AO} {w : World} {s : Sem Next} {d : Delta}

theorem partA_ok (hm : Mem B c ob w) {a : AV} {x : Value} (ha : V c w a x) {o v lo n : Nat} (h : partA ob a = some (o, v, lo, n)) {t : Ty} {xs : List t.D} {v' : Nat} (ho : ob o = some (.row v' t xs)) :
    v' = v ∧ ∃ i, c.inf o = some i ∧ i.ver = v ∧ i.len = xs.length ∧ i.sz = t.sz ∧ xs.length ≤ i.cap ∧ RowB c w i t xs False ∧ lo + n ≤ xs.length ∧ Hd i lo n x := by
  cases a <;> simp only [partA, reduceCtorEq] at h
  case own q ver =>
    split at h
    · rename_i v2 t2 xs2 hq
      split at h
      · rename_i hv
        have hv := beq_true hv
        simp only [Option.some.injEq, Prod.mk.injEq] at h
        obtain ⟨rfl, rfl, rfl, rfl⟩ := h
        rw [ho] at hq
        cases hq
        subst hv
        obtain ⟨i, p, h1, h2, h3, h4, h5, h6, h7⟩ := own_head hm (.inl ho) ha
        obtain ⟨i', k1, k2, k3, k4, k5, k6⟩ := hm.obj _ _ ho
        rw [h1] at k1
        cases k1
        exact ⟨rfl, i, h1, h2, h3, h4, h5, k6, by omega, h7⟩
      · cases h
    · cases h
  case sub q ver l m =>
    split at h
    · rename_i v2 t2 xs2 hq
      split at h
      · rename_i hv
        have hv := beq_true hv
        simp only [Option.some.injEq, Prod.mk.injEq] at h
        obtain ⟨rfl, rfl, rfl, rfl⟩ := h
        rw [ho] at hq
        cases hq
        subst hv
        obtain ⟨i, p, h1, h2, h3, h4, h5, h6, h7, h8⟩ := sub_head hm (.inl ho) ha
        obtain ⟨i', k1, k2, k3, k4, k5, k6⟩ := hm.obj _ _ ho
        rw [h1] at k1
        cases k1
        exact ⟨rfl, i, h1, h2, h3, h4, h5, k6, h7, h8⟩
      · cases h
    · cases h

/-- elements that are written over others -/
theorem row_write (hm : Mem B c ob w) {q v : Nat} {t : Ty} {xs zs : List t.D} (hq : ob q = some (.row v t xs)) {i : Inf} {b : Nat} {arr : Array Value} {el : TypeId} (hi : c.inf q = some i) (hv : i.ver = v) (hl : i.len = xs.length) (hs : i.sz = t.sz) (hcap : xs.length ≤ i.cap) (hb : i.blk = some b) (hh : w.heap[b]? = some (.cells arr el (0, 0)))
    (hsz : i.off + i.cap * t.sz ≤ arr.size) (hc : Cells c w arr i.off t xs) (hF : ¬ c.F b) {lo : Nat} (hfit : lo + zs.length ≤ xs.length) {vs : List Value} (hvl : vs.length = zs.length * t.sz) (h1 : ∀ u ∈ vs, u.oneCell' = true) (hz : ∀ j x, zs[j]? = some x → ∀ p y, (view t x)[p]? = some y → V c w y (vs.getD (j * t.sz + p) undef)) :
    Mem B (c.set q i) (fup ob [(q, .row v t (xs.take lo ++ zs ++ xs.drop (lo + zs.length)))]) (w.setRow b (spl arr (i.off + lo * t.sz) vs)) ∧ Ext c w (c.set q i) (w.setRow b (spl arr (i.off + lo * t.sz) vs)) := by
  have hlen : (xs.take lo ++ zs ++ xs.drop (lo + zs.length)).length = xs.length := by
    simp only [List.length_append, List.length_take, List.length_drop]
    omega
  have h9 := Nat.mul_le_mul_right t.sz (show lo + zs.length ≤ i.cap by omega)
  rw [Nat.add_mul] at h9
  have hfa : i.off + lo * t.sz + vs.length ≤ arr.size := by omega
  refine hm.write (x' := .row v t (xs.take lo ++ zs ++ xs.drop (lo + zs.length))) hq rfl hi hb fun ext => ⟨i, Cx.set_eq _ _ _, hv, by rw [hlen]; exact hl, hs, by rw [hlen]; exact hcap, .inr ⟨b, _, el, hb, setRow_heap w b arr _ el (0, 0) hh, by rw [spl_size hfa]; exact hsz, ?_, ⟨fun h => hF h, False.elim⟩⟩⟩
  intro j x hx p y hy
  have hp : p < t.sz := by rw [← view_len t x]; exact (List.getElem?_eq_some_iff.1 hy).1
  have htl : (xs.take lo).length = lo := by rw [List.length_take]; omega
  rw [spl_get hfa]
  rw [List.append_assoc, List.getElem?_append, htl] at hx
  have old : xs[j]? = some x → ¬ (i.off + lo * t.sz ≤ i.off + (j * t.sz + p) ∧ i.off + (j * t.sz + p) < i.off + lo * t.sz + vs.length) → V (c.set q i) (w.setRow b (spl arr (i.off + lo * t.sz) vs)) y (if i.off + lo * t.sz ≤ i.off + (j * t.sz + p) ∧ i.off + (j * t.sz + p) < i.off + lo * t.sz + vs.length then vs.getD (i.off + (j * t.sz + p) - (i.off + lo * t.sz)) undef else arr.getD (i.off + (j * t.sz + p)) undef) ∧ (if i.off + lo * t.sz ≤ i.off + (j * t.sz + p) ∧ i.off + (j * t.sz + p) < i.off + lo * t.sz + vs.length then vs.getD (i.off + (j * t.sz + p) - (i.off + lo * t.sz)) undef else arr.getD (i.off + (j * t.sz + p)) undef).oneCell' = true := fun e hn => by
    rw [if_neg hn]
    exact ⟨(hc j x e p y hy).1.ext ext, (hc j x e p y hy).2⟩
  split at hx
  · rename_i hj
    rw [List.getElem?_take, if_pos hj] at hx
    refine old hx ?_
    have := Nat.mul_le_mul_right t.sz (show j + 1 ≤ lo from hj)
    rw [Nat.add_mul, Nat.one_mul] at this
    omega
  · rename_i hj
    rw [List.getElem?_append] at hx
    split at hx
    · rename_i hj2
      have g1 := Nat.mul_le_mul_right t.sz (show j - lo + 1 ≤ zs.length from hj2)
      rw [Nat.add_mul, Nat.one_mul] at g1
      have g2 := Nat.mul_le_mul_right t.sz (show lo ≤ j by omega)
      have g3 : (j - lo) * t.sz = j * t.sz - lo * t.sz := Nat.sub_mul _ _ _
      rw [if_pos (by omega)]
      rw [show i.off + (j * t.sz + p) - (i.off + lo * t.sz) = (j - lo) * t.sz + p by omega]
      have hlt : (j - lo) * t.sz + p < vs.length := by omega
      refine ⟨(hz _ x hx p y hy).ext ext, h1 _ ?_⟩
      rw [List.getD_eq_getElem?_getD, List.getElem?_eq_getElem hlt]
      exact List.getElem_mem hlt
    · rename_i hj2
      rw [List.getElem?_drop] at hx
      rw [show lo + zs.length + (j - lo - zs.length) = j by omega] at hx
      refine old hx ?_
      have g1 := Nat.mul_le_mul_right t.sz (show lo + zs.length ≤ j by omega)
      rw [Nat.add_mul] at g1
      omega

theorem fup_same {q : Nat} {x : AO} (h : ob q = some x) : fup ob [(q, x)] = ob := by
  rw [fup_one]
  funext o
  split
  · rename_i e; rw [e, h]
  · rfl

theorem run_store_part {b p : Nat} {arr : Array Value} {e : TypeId} (hb : w.heap[b]? = some (.cells arr e (0, 0))) {vs : List Value} (hf : p + vs.length ≤ arr.size) (h1 : ∀ v ∈ vs, v.oneCell' = true) : (storeCells ⟨b, p, none⟩ vs 0).run P w = .ok () (w.setRow b (spl arr p vs)) := by
  have := run_storeCells_at (P := P) b p e vs 0 arr w hb (by omega) h1
  simpa [spl] using this

theorem copy_ok (hm : Mem B c ob w) {T : Table} {t e : TypeId} {ts : List TypeId} {x y : Operand} {ρ : Operand → Value} {a z : AV} (ha : V c w a (ρ x)) (hz : V c w z (ρ y)) {o : Oper} {cl : Call} (ho : o.op = .call cl) (hb : cl.callee = .builtin .copy) (hargs : cl.args.toList = [x, y])
    (hts : cl.argTypes.toList = t :: ts) (ht : P.underlying t = some (.slice e)) (h : run T (copyA P ob e a z) = some d) : Eff P B c ob w (execOp ρ o) d := by
  unfold copyA at h
  obtain ⟨sz, hsz, h1⟩ := run_opt h
  clear h
  obtain ⟨⟨q, v, lo, n⟩, hp, h2⟩ := run_opt h1
  clear h1
  simp only at h2
  split at h2
  case h_2 => exact (run_fail h2).elim
  rename_i v' u xs hq
  split at h2
  case h_2 => exact (run_fail h2).elim
  rename_i hs
  have hs := beq_true hs
  subst hs
  obtain ⟨r, hr, h3⟩ := run_opt h2
  clear h2
  obtain ⟨ys, hys, h4⟩ := run_opt h3
  clear h3
  have hd := run_ret h4
  clear h4
  subst hd
  obtain ⟨rfl, i, k1, k2, k3, k4, k5, k6, k7, A, cp, ex, k8, k9, k10⟩ := partA_ok hm ha hp hq
  have hrd := Rd.cast hys (rowOf_rd hm hz hr)
  obtain ⟨A', cp', g, ey, m1, m2, m3⟩ := hrd
  have hts' : cl.argTypes[0]? = some t := by
    have : cl.argTypes.toList[0]? = some t := by rw [hts]; rfl
    simpa using this
  have hex : ∀ w', (Builtin.copy_ cl.argTypes o.type #[ρ x, ρ y]).run P w = .ok (goInt ((min ys.length n : Nat))) w' → (execOp ρ o).run P w = .ok (.value (.int .i64 ((min ys.length n : Nat) : Int))) w' := fun w' e => by
    rw [call_builtin ho hb, args_of hargs]
    simp [builtin, e, goInt]
  have htk : (ys.take n).length = min ys.length n := by rw [List.length_take, Nat.min_comm]
  by_cases h0 : min ys.length n = 0
  · have hnil : ys.take n = [] := List.length_eq_zero_iff.1 (by rw [htk]; exact h0)
    have hsame : xs.take lo ++ ys.take n ++ xs.drop (lo + min ys.length n) = xs := by rw [hnil, h0]; simp
    have hob : fup ob [(q, .row v' u (xs.take lo ++ ys.take n ++ xs.drop (lo + min ys.length n)))] = ob := by rw [hsame]; exact fup_same hq
    refine ⟨_, w, c, .inl (hex w ?_), by rw [hob]; exact hm, .refl c w, .i _ _⟩
    rw [ex, ey]
    have hmin : Nat.min ys.length n = 0 := h0
    have hfc : (Builtin.firstCells u.sz 0 (.slice A' ys.length cp')).run P w = .ok #[] w := by
      cases A' with
      | none => rfl
      | some a' => simpa using run_firstCells_some (P := P) w u.sz 0 a' ys.length cp' [] (by simp) (by simp)
    cases A <;> simp [Builtin.copy_, hts', run_underlying ht, Builtin.lenOf, hmin, run_sizeOf' hsz, hfc, storeCells, goInt, h0]
  · have hn0 : 0 < ys.length ∧ 0 < n := by omega
    obtain ⟨b, hblk, rfl⟩ := k10 (by omega)
    obtain ⟨a', rfl, hcells⟩ := m2 hn0.1
    rcases k6 with ⟨k6, _⟩ | ⟨b', arr, el, q1, q2, q3, q4, q5⟩
    · rw [hblk] at k6; cases k6
    rw [hblk] at q1
    cases q1
    let news : List Value := (List.range (min ys.length n * u.sz)).map g
    have hnl : news.length = min ys.length n * u.sz := by simp [news]
    have hle : min ys.length n * u.sz ≤ ys.length * u.sz := Nat.mul_le_mul_right _ (Nat.min_le_left _ _)
    have hone : ∀ v ∈ news, v.oneCell' = true := fun v hv => by
      obtain ⟨j, hj, rfl⟩ := List.mem_map.1 hv
      exact (hcells j (by have := List.mem_range.1 hj; omega)).2
    have hfc := run_firstCells_some (P := P) w u.sz (min ys.length n) a' ys.length cp' news hnl (fun j v hv => by
      rw [List.getElem?_map] at hv
      obtain ⟨p, hp, rfl⟩ := Option.map_eq_some_iff.1 hv
      obtain ⟨p1, p2⟩ := List.getElem?_eq_some_iff.1 hp
      simp at p1 p2
      subst p2
      exact (hcells j (by omega)).1)
    have h9 := Nat.mul_le_mul_right u.sz (show lo + min ys.length n ≤ i.cap by omega)
    rw [Nat.add_mul] at h9
    have hst := run_store_part (P := P) (p := i.off + lo * u.sz) q2 (vs := news) (by rw [hnl]; omega) hone
    have hrun : (Builtin.copy_ cl.argTypes o.type #[ρ x, ρ y]).run P w = .ok (goInt ((min ys.length n : Nat))) (w.setRow b (spl arr (i.off + lo * u.sz) news)) := by
      rw [ex, ey]
      have hmin : Nat.min ys.length n = min ys.length n := rfl
      simp [Builtin.copy_, hts', run_underlying ht, Builtin.lenOf, hmin, run_sizeOf' hsz, hfc, k4, hst]
    obtain ⟨r1, r2⟩ := row_write hm hq k1 k2 k3 k4 k5 hblk q2 q3 q4 (fun h => q5.1 h) (zs := ys.take n) (lo := lo) (by rw [htk]; omega) (vs := news) (by rw [hnl, htk]) hone (fun j x' hx' p y' hy' => by
      have hxy : ys[j]? = some x' := by
        rw [List.getElem?_take] at hx'
        split at hx'
        · exact hx'
        · cases hx'
      have hjn : j < min ys.length n := by rw [← htk]; exact (List.getElem?_eq_some_iff.1 hx').1
      have hp : p < u.sz := by rw [← view_len u x']; exact (List.getElem?_eq_some_iff.1 hy').1
      have g1 := Nat.mul_le_mul_right u.sz (show j + 1 ≤ min ys.length n from hjn)
      rw [Nat.add_mul, Nat.one_mul] at g1
      have : news.getD (j * u.sz + p) undef = g (j * u.sz + p) := by
        have hlt : j * u.sz + p < min ys.length n * u.sz := by omega
        simp [news, List.getD_eq_getElem?_getD, hlt]
      rw [this]
      exact m3 j x' hxy p y' hy')
    rw [htk] at r1
    exact ⟨_, _, _, .inl (hex _ hrun), r1, r2, .i _ _⟩

theorem clear_ok (hm : Mem B c ob w) {T : Table} {t e : TypeId} {ts : List TypeId} {x : Operand} {ρ : Operand → Value} {a : AV} (ha : V c w a (ρ x)) {o : Oper} {cl : Call} (ho : o.op = .call cl) (hb : cl.callee = .builtin .clear) (hargs : cl.args.toList = [x])
    (hts : cl.argTypes.toList = t :: ts) (ht : P.underlying t = some (.slice e)) (h : run T (clearA P ob e a) = some d) : Eff P B c ob w (execOp ρ o) d := by
  unfold clearA at h
  obtain ⟨z, hz, h1⟩ := run_opt h
  clear h
  obtain ⟨⟨q, v, lo, n⟩, hp, h2⟩ := run_opt h1
  clear h1
  simp only at h2
  split at h2
  case h_2 => exact (run_fail h2).elim
  rename_i v' u xs hq
  split at h2
  case h_2 => exact (run_fail h2).elim
  rename_i hs
  have hs := beq_true hs
  obtain ⟨yv, hyv, h3⟩ := run_opt h2
  clear h2
  have hd := run_ret h3
  clear h3
  subst hd
  obtain ⟨rfl, i, k1, k2, k3, k4, k5, k6, k7, A, cp, ex, k8, k9, k10⟩ := partA_ok hm ha hp hq
  obtain ⟨ti, zv, hi, hzv, hl, hc⟩ := zeroC_ok hz
  obtain ⟨hul, huv⟩ := unview_ok u z yv hyv
  have hts' : cl.argTypes[0]? = some t := by
    have : cl.argTypes.toList[0]? = some t := by rw [hts]; rfl
    simpa using this
  have hex : ∀ w', (Builtin.clear_ cl.argTypes o.type #[ρ x]).run P w = .ok (.tuple #[]) w' → (execOp ρ o).run P w = .ok (.value (.tuple #[])) w' := fun w' e => by
    rw [call_builtin ho hb, args_of hargs]
    simp [builtin, e]
  by_cases h0 : n = 0
  · subst h0
    have hsame : xs.take lo ++ List.replicate 0 yv ++ xs.drop (lo + 0) = xs := by simp
    have hob : fup ob [(q, .row v' u (xs.take lo ++ List.replicate 0 yv ++ xs.drop (lo + 0)))] = ob := by rw [hsame]; exact fup_same hq
    refine ⟨_, w, c, .inl (hex w ?_), by rw [hob]; exact hm, .refl c w, .bad _⟩
    rw [ex]
    cases A <;> simp [Builtin.clear_, hts', run_underlying ht]
  · obtain ⟨b, hblk, rfl⟩ := k10 (by omega)
    rcases k6 with ⟨k6, _⟩ | ⟨b', arr, el, q1, q2, q3, q4, q5⟩
    · rw [hblk] at k6; cases k6
    rw [hblk] at q1
    cases q1
    have hzs : zv.cells.size = u.sz := by rw [hl, hs]
    have hcl := hc c w
    have hnl : (Builtin.zeroCells zv.cells n).toList.length = n * u.sz := by simp [size_zeroCells, hzs]
    have hget : ∀ j p, j < n → p < u.sz → (Builtin.zeroCells zv.cells n).toList.getD (j * u.sz + p) undef = zv.cells.getD p undef := fun j p hj hp => by
      have g1 := Nat.mul_le_mul_right u.sz (show j + 1 ≤ n from hj)
      rw [Nat.add_mul, Nat.one_mul] at g1
      have hlt : j * u.sz + p < n * u.sz := by omega
      have hps : p < zv.cells.size := by omega
      simp only [Builtin.zeroCells, hzs, List.getD_eq_getElem?_getD, Array.getElem?_toList, Array.getElem?_map]
      simp [hlt, Nat.mul_add_mod_of_lt' hp]
      rw [getElem!_pos zv.cells p hps]
      simp [hps]
    have hone : ∀ v ∈ (Builtin.zeroCells zv.cells n).toList, v.oneCell' = true := fun v hv => by
      obtain ⟨j, hj, rfl⟩ := List.getElem_of_mem hv
      rw [hnl] at hj
      have hsp : 0 < u.sz := Nat.pos_of_ne_zero fun e => by rw [e] at hj; simp at hj
      have hjd : j / u.sz < n := (Nat.div_lt_iff_lt_mul hsp).2 hj
      have hm' := Nat.mod_lt j hsp
      have := hget (j / u.sz) (j % u.sz) hjd hm'
      rw [Nat.mul_comm, Nat.div_add_mod] at this
      rw [List.getD_eq_getElem?_getD, List.getElem?_eq_getElem (by rw [hnl]; exact hj)] at this
      simp only [Option.getD_some] at this
      rw [this]
      exact hcl.2.1 _ (by omega)
    have h9 := Nat.mul_le_mul_right u.sz (show lo + n ≤ i.cap by omega)
    rw [Nat.add_mul] at h9
    have hst := run_store_part (P := P) (p := i.off + lo * u.sz) q2 (vs := (Builtin.zeroCells zv.cells n).toList) (by rw [hnl]; omega) hone
    have hrun : (Builtin.clear_ cl.argTypes o.type #[ρ x]).run P w = .ok (.tuple #[]) (w.setRow b (spl arr (i.off + lo * u.sz) (Builtin.zeroCells zv.cells n).toList)) := by
      rw [ex]
      cases n with
      | zero => exact absurd rfl h0
      | succ n => simp [Builtin.clear_, hts', run_underlying ht, run_zeroValue' hi hzv, k4, hst]
    obtain ⟨r1, r2⟩ := row_write hm hq k1 k2 k3 k4 k5 hblk q2 q3 q4 (fun h => q5.1 h) (zs := List.replicate n yv) (lo := lo) (by simpa using k7) (vs := (Builtin.zeroCells zv.cells n).toList) (by rw [hnl]; simp) hone (fun j x' hx' p y' hy' => by
      have hj : j < n := by have := (List.getElem?_eq_some_iff.1 hx').1; simpa using this
      have hxy : x' = yv := by
        have := (List.getElem?_eq_some_iff.1 hx').2
        simpa using this.symm
      subst hxy
      have hp : p < u.sz := by rw [← view_len u x']; exact (List.getElem?_eq_some_iff.1 hy').1
      rw [hget j p hj hp]
      exact huv c w (fun p => zv.cells.getD p undef) (fun p y hy => hcl.2.2 p y hy) p y' hy')
    rw [List.length_replicate] at r1
    exact ⟨_, _, _, .inl (hex _ hrun), r1, r2, .bad _⟩
theorem conv_ok (hm : Mem B c ob w) {T : Table} {st tt : TypeId} {x : Operand} {ρ : Operand → Value} {a : AV} (ha : V c w a (ρ x)) {o : Oper} (ho : o.op = .convert st tt x) (h : run T (convA P ob st tt a) = some d) : Eff P B c ob w (execOp ρ o) d := by
  unfold execOp
  simp only [ho]
  unfold convA at h
  split at h
  case h_3 => exact (run_fail h).elim
  case h_1 u k hs ht =>
    cases a <;> simp only at h
    case i k' n =>
      rw [V.inv_i ha]
      exact .now hm h (v := .int k (k.wrap n)) (by simp [convert, run_underlying hs, run_underlying ht, Conv.intToInt]) (.i _ _)
    all_goals exact (run_fail h).elim
  case h_2 e hs ht =>
    split at h
    case h_2 => exact (run_fail h).elim
    rename_i he
    obtain ⟨r, hr, h1⟩ := run_opt h
    clear h
    obtain ⟨ys, hys, h2⟩ := run_opt h1
    clear h1
    obtain ⟨A, cp, g, e1, e2, e3, e4⟩ := Rd.cast hys (rowOf_rd hm ha hr)
    rw [e1]
    refine .pure hm (v := .string (strOf ys)) ?_ (.s _) (run_ret h2).symm
    have key : (convert st tt (.slice A ys.length cp)).run P w = .ok (.string (strOf ys)) w := by
      cases A with
      | none =>
        have h0 : ys = [] := by
          cases ys with
          | nil => rfl
          | cons y q => obtain ⟨b, hb, _⟩ := e3 (by simp); cases hb
        subst h0
        rw [run_convert_bytes_nil w st e hs he _ _ tt ht]
        rfl
      | some b =>
        have hl : (loadCells b ys.length).run P w = .ok (ys.map (Value.int .u8)).toArray w := by
          have := run_loadCells_list (P := P) w b (ys.map (Value.int .u8)) (fun j v hj => by
            rw [List.getElem?_map] at hj
            obtain ⟨y, hy, rfl⟩ := Option.map_eq_some_iff.1 hj
            have hlt : j < ys.length := (List.getElem?_eq_some_iff.1 hy).1
            obtain ⟨b', hb', k⟩ := e3 (by omega)
            cases hb'
            have := V.inv_i (e4 j y hy 0 (.i .u8 y) rfl)
            have hsz : Ty.sz (.i .u8) = 1 := rfl
            rw [hsz] at k this
            rw [(k j (by omega)).1]
            rw [show j * 1 + 0 = j by omega] at this
            rw [this])
          simpa using this
        rw [run_convert_bytes_string w st tt e _ ys.length cp hs he ht, run_bytesToString w _ ys.length cp ys hl, foldl_push_bytes]
        simp [strOf, ByteArray.empty, ByteArray.emptyWithCapacity]
        rfl
    simp only [Sem.run_bind, key, Result.andThen_ok, Sem.run_pure]
end
end Go.Proofs.Ytohfaccniialmaa.Am
