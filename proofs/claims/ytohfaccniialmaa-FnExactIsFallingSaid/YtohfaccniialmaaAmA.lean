/- What the machine of values does at an operation, the program does: append. -/
import Derived.Test.YtohfaccniialmaaAmX
import Derived.Deep.Upon
namespace Go.Proofs.Ytohfaccniialmaa.Am
open Go
set_option linter.constructorNameAsVariable false
set_option linter.unusedVariables false
set_option linter.unusedSimpArgs false
section
variable {P : Program} {B : Base} {c : Cx} {ob : Nat → Option AO} {w : World} {s : Sem Next} {d : Delta}

/-- what is appended -/
theorem Rd.src {t : Ty} {xs : List t.D} {v : Value} (h : Rd c w t xs v) {tx e : TypeId} (hu : P.underlying tx = some (.slice e)) :
    ∃ (news : List Value), Src P t.sz tx v xs.length news w ∧ ∀ j x, xs[j]? = some x → ∀ q y, (view t x)[q]? = some y → V c w y (news.getD (j * t.sz + q) undef) := by
  obtain ⟨A, cp, g, rfl, hn, hA, hv⟩ := h
  refine ⟨(List.range (xs.length * t.sz)).map g, ?_, fun j x hx q y hy => ?_⟩
  · cases A with
    | none =>
      have h0 : xs.length = 0 := by
        rcases Nat.eq_zero_or_pos xs.length with h | h
        · exact h
        · obtain ⟨a, e, _⟩ := hA h
          cases e
      rw [h0]
      simpa using Src.ofNil (P := P) w (size := t.sz) hu cp
    | some a =>
      refine Src.ofSlice w hu a xs.length cp _ (by simp) (fun j u hj => ?_) (fun u hu => ?_)
      · rw [List.getElem?_map] at hj
        obtain ⟨q, hq, rfl⟩ := Option.map_eq_some_iff.1 hj
        obtain ⟨h1, h2⟩ := List.getElem?_eq_some_iff.1 hq
        simp at h1 h2
        subst h2
        have hp : 0 < xs.length := Nat.pos_of_ne_zero fun e => by rw [e] at h1; simp at h1
        obtain ⟨a', e, hc⟩ := hA hp
        cases e
        exact (hc j h1).1
      · obtain ⟨j, hj, rfl⟩ := List.mem_map.1 hu
        have hj := List.mem_range.1 hj
        have hp : 0 < xs.length := Nat.pos_of_ne_zero fun e => by rw [e] at hj; simp at hj
        obtain ⟨a', e, hc⟩ := hA hp
        exact (hc j hj).2
  · have hq : q < t.sz := by rw [← view_len t x]; exact (List.getElem?_eq_some_iff.1 hy).1
    have hj : j < xs.length := (List.getElem?_eq_some_iff.1 hx).1
    have h9 := Nat.mul_le_mul_right t.sz (show j + 1 ≤ xs.length from hj)
    rw [Nat.add_mul, Nat.one_mul] at h9
    have hlt : j * t.sz + q < xs.length * t.sz := by omega
    simp [List.getD_eq_getElem?_getD, hlt]
    exact hv j x hx q y hy

theorem setCells_spl {b p : Nat} {arr : Array Value} {e : TypeId} (hb : w.heap[b]? = some (.cells arr e (0, 0))) {vs : List Value} (hf : p + vs.length ≤ arr.size) (h1 : ∀ v ∈ vs, v.oneCell' = true) : w.setCells b p vs = w.setRow b (spl arr p vs) := by
  have k1 := run_storeCells_at (P := default) b p e vs 0 arr w hb (by omega) h1
  have k2 := run_storeCells_cells (P := default) b p vs 0 w (fun j hj => by rw [cell_in hb (by omega)]; rfl) (fun j hj => by simp [World.frozen?, hb]) h1
  rw [k1] at k2
  simp only [Nat.add_zero, Result.ok.injEq, true_and] at k2
  exact k2.symm
theorem castR_eq {t : Ty} {r : RV} {xs : List t.D} (h : castR t r = some xs) : ∃ e : r.t = t, e ▸ r.xs = xs := by
  unfold castR at h
  split at h
  · rename_i e
    exact ⟨e, by simpa using h⟩
  · cases h
theorem Rd.cast {t : Ty} {r : RV} {xs : List t.D} {v : Value} (h : castR t r = some xs) (hr : Rd c w r.t r.xs v) : Rd c w t xs v := by
  obtain ⟨e, k⟩ := castR_eq h
  subst e
  subst k
  exact hr
theorem szIs_eq {t : TypeId} {n : Nat} (h : szIs P t n = true) {i : TypeInfo} (hi : P.info? t = some i) : i.size = n := by
  unfold szIs at h
  split at h
  · rename_i q hq
    obtain ⟨i3, hi3, rfl⟩ := szOf_info hq
    rw [hi] at hi3
    cases hi3
    exact beq_true h
  · cases h

/-- a row in a new block -/
theorem Mem.rowNew (hm : Mem B c ob w) (k : Nat) (ver : Nat) {u : Ty} {xs : List u.D} {arr : Array Value} {cap : Nat} {e : TypeId} {w1 : World} (h1 : w1 = w.drew.alloc (.cells arr e)) (hc : Cells c w arr 0 u xs) (hl : xs.length ≤ cap) (hs : cap * u.sz ≤ arr.size)
    (hk : ∀ i, c.inf k = some i → i.ver < ver) (hnw : c.inf k = none → 1000 ≤ k := by first | assumption | exact fun _ => newId_big _ _ | (intro hnone; simp_all; done)) :
    ∃ c', Mem B c' (fup ob [(k, .row ver u xs)]) w1 ∧ Ext c w c' w1 ∧ V c' w1 (.own k ver) (.slice (some ⟨w.heap.size, 0, none⟩) xs.length cap) := by
  subst h1
  obtain ⟨d1, d2⟩ := hm.drew (w.drawn + 1)
  have d1' : Mem B c ob w.drew := d1
  have d2' : Ext c w c w.drew := d2
  obtain ⟨k1, k2⟩ := d1'.put k (.row ver u xs) ⟨some w.heap.size, 0, cap, xs.length, ver, u.sz⟩ (w.drew.alloc (.cells arr e)) rfl rfl rfl (by show w.heap.size ≤ (w.heap.push _).size; simp) (fun b hb _ => heap_alloc_old w.drew _ _ hb)
    (fun i hi => by have := hk i hi; exact ⟨by show i.ver ≤ ver; omega, fun e => by have e' : ver = i.ver := e; omega⟩)
    (fun ext => ⟨_, Cx.set_eq _ _ _, rfl, rfl, rfl, hl, .inr ⟨w.heap.size, arr, e, rfl, heap_alloc_new w.drew _, by simpa using hs, (hc.ext d2').ext ext, ⟨fun hF => absurd (hm.F _ hF) (Nat.lt_irrefl _), False.elim⟩⟩⟩)
    (fun b _ hb => .inr (by simp at hb; show w.heap.size ≤ b; omega))
  exact ⟨_, k1, d2'.trans k2, .own k ver _ _ _ _ (Cx.set_eq _ _ _) (Nat.le_refl _) fun _ => ⟨_, cap, rfl, hl, by simp, fun _ => ⟨_, rfl, by simp⟩⟩⟩

theorem news_cells {t : Ty} {xs ys : List t.D} {olds news rest : List Value} (h1 : olds.length = xs.length * t.sz) (h2 : news.length = ys.length * t.sz) (o1 : ∀ u ∈ olds, u.oneCell' = true) (o2 : ∀ u ∈ news, u.oneCell' = true)
    (k1 : ∀ j x, xs[j]? = some x → ∀ q y, (view t x)[q]? = some y → V c w y (olds.getD (j * t.sz + q) undef)) (k2 : ∀ j x, ys[j]? = some x → ∀ q y, (view t x)[q]? = some y → V c w y (news.getD (j * t.sz + q) undef)) (arr : Array Value) (ha : arr.toList = olds ++ news ++ rest) : Cells c w arr 0 t (xs ++ ys) := by
  intro j x hx q y hy
  have hq : q < t.sz := by rw [← view_len t x]; exact (List.getElem?_eq_some_iff.1 hy).1
  have e : ∀ n, arr.getD n undef = (olds ++ news ++ rest).getD n undef := fun n => by rw [← ha]; simp [Array.getD_eq_getD_getElem?, List.getD_eq_getElem?_getD]
  rw [e, Nat.zero_add]
  rw [List.getElem?_append] at hx
  split at hx
  · rename_i hj
    have h9 := Nat.mul_le_mul_right t.sz (show j + 1 ≤ xs.length from hj)
    rw [Nat.add_mul, Nat.one_mul] at h9
    have hlt : j * t.sz + q < olds.length := by omega
    have : (olds ++ news ++ rest).getD (j * t.sz + q) undef = olds.getD (j * t.sz + q) undef := by
      simp only [List.getD_eq_getElem?_getD, List.append_assoc]
      rw [List.getElem?_append_left hlt]
    rw [this]
    refine ⟨k1 j x hx q y hy, o1 _ ?_⟩
    rw [List.getD_eq_getElem?_getD, List.getElem?_eq_getElem hlt]
    exact List.getElem_mem hlt
  · rename_i hj
    have hjl : j - xs.length < ys.length := (List.getElem?_eq_some_iff.1 hx).1
    have h9 := Nat.mul_le_mul_right t.sz (show j - xs.length + 1 ≤ ys.length from hjl)
    rw [Nat.add_mul, Nat.one_mul] at h9
    have hlt : (j - xs.length) * t.sz + q < news.length := by omega
    have hge : olds.length ≤ j * t.sz + q := by
      have := Nat.mul_le_mul_right t.sz (show xs.length ≤ j by omega)
      omega
    have hsub : j * t.sz + q - olds.length = (j - xs.length) * t.sz + q := by
      rw [Nat.sub_mul, h1]
      have := Nat.mul_le_mul_right t.sz (show xs.length ≤ j by omega)
      omega
    have : (olds ++ news ++ rest).getD (j * t.sz + q) undef = news.getD ((j - xs.length) * t.sz + q) undef := by
      simp only [List.getD_eq_getElem?_getD, List.append_assoc]
      rw [List.getElem?_append_right hge, hsub, List.getElem?_append_left hlt]
    rw [this]
    refine ⟨k2 _ x hx q y hy, o2 _ ?_⟩
    rw [List.getD_eq_getElem?_getD, List.getElem?_eq_getElem hlt]
    exact List.getElem_mem hlt

theorem appendB_ok (hm : Mem B c ob w) {T : Table} {t tx e e' : TypeId} {x y : Operand} {ρ : Operand → Value} {a : AV} {k by_ : Nat} {rd : List Nat} {u : Ty} {ys : List u.D} {i : TypeInfo} {z : Value} (ha : V c w a (ρ x)) (hy : Rd c w u ys (ρ y)) {o : Oper} {cl : Call} (ho : o.op = .call cl) (hb : cl.callee = .builtin .append) (hargs : cl.args.toList = [x, y])
    (hts : cl.argTypes.toList = [t, tx]) (ht : P.underlying t = some (.slice e)) (htx : P.underlying tx = some (.slice e')) (hi : P.info? e = some i) (hz : i.zero = some z) (hby : i.bytes = by_) (hsz : i.size = u.sz) (hzs : z.cells.size = u.sz)
    (h : run T (appendB k ob u by_ rd ys a) = some d) : Eff P B c ob w (execOp ρ o) d := by
  obtain ⟨news, hsrc, hnews⟩ := hy.src htx
  have hrun : ∀ v w', (Builtin.append_ #[t, tx] o.type #[ρ x, ρ y]).run P w = .ok v w' → (execOp ρ o).run P w = .ok (.value v) w' := fun v w' e => by
    have hts' : cl.argTypes = #[t, tx] := by rw [← hts]
    rw [call_builtin ho hb, args_of hargs, hts']
    simp [builtin, e]
  have hsrc' : Src P i.size tx (ρ y) ys.length news w := by rw [hsz]; exact hsrc
  have nothing : ∀ A n cp, ρ x = .slice A n cp → n ≤ cp → ys.length = 0 → (execOp ρ o).run P w = .ok (.value (ρ x)) w := fun A n cp ex hle h0 => by
    refine hrun _ _ ?_
    rw [ex]
    refine run_append_nothing w t tx o.type e i ht hi A n cp hle (ρ y) ?_
    have hn : news = [] := by
      have := hsrc.newsLen
      rw [h0] at this
      simpa using this
    rw [hn, h0] at hsrc'
    exact hsrc'
  have grow : ∀ (A : Option Addr) (zs : List u.D) (cp : Nat), ρ x = .slice A zs.length cp → Rd c w u zs (ρ x) → cp < zs.length + ys.length → zs.length + ys.length ≤ room by_ →
      ∃ arr cap, (execOp ρ o).run P w = .ok (.value (.slice (some ⟨w.heap.size, 0, none⟩) (zs ++ ys).length cap)) (w.drew.alloc (.cells arr e)) ∧ Cells c w arr 0 u (zs ++ ys) ∧ (zs ++ ys).length ≤ cap ∧ cap * u.sz ≤ arr.size := fun A zs cp ex hr hlt hroom => by
    obtain ⟨olds, hold, holds⟩ := hr.src htx
    have hr2 := room_le hroom
    have h := run_append_grow_src (P := P) w t tx o.type e i z ht hi hz A zs.length cp olds (by have := hold.cellsD; rw [ex] at this; rw [hsz]; exact this) (ρ y) ys.length news hsrc' hlt (by omega) (growslice_fits hlt (by rw [hby]; omega))
    refine ⟨_, _, hrun _ _ (by rw [ex, List.length_append]; exact h), ?_, ?_, ?_⟩
    · exact news_cells hold.newsLen hsrc.newsLen hold.one hsrc.one holds hnews _ (rest := (Builtin.zeroCells z.cells (grownCap w (zs.length + ys.length) cp e - (zs.length + ys.length))).toList) (by simp)
    · rw [List.length_append]; exact grownCap_ge _ _ _ _
    · have hge := grownCap_ge w (zs.length + ys.length) cp e
      simp only [Array.size_append, List.size_toArray, size_zeroCells, hzs, List.length_append, hold.newsLen, hsrc.newsLen, ← Nat.add_mul]
      exact Nat.mul_le_mul_right _ (by omega)
  cases a <;> simp only [appendB] at h
  case nils =>
    obtain ⟨h1, h2⟩ := run_grd h
    clear h
    have h1 : ys.length ≤ room by_ := by simpa using h1
    obtain ⟨hk, h3⟩ := run_fresh h2
    clear h2
    have hd := run_ret h3
    subst hd
    obtain ⟨A, ex⟩ := ha.inv_nils
    by_cases h0 : ys.length = 0
    · have hys : ys = [] := List.length_eq_zero_iff.1 h0
      obtain ⟨k1, k2⟩ := hm.put (newId k 0) (.row 0 u ys) ⟨none, 0, 0, 0, 0, u.sz⟩ w rfl rfl rfl (Nat.le_refl _) (fun _ _ _ => rfl) (fun j hj => by rw [hm.inf_none hk] at hj; cases hj)
        (fun ext => ⟨_, Cx.set_eq _ _ _, rfl, by simp [h0], rfl, by simp [h0], .inl ⟨rfl, rfl⟩⟩) (fun b _ hb => by cases hb)
      exact ⟨_, _, _, .inl (nothing A 0 0 ex (Nat.le_refl _) h0), k1, k2, by rw [ex]; exact .own _ 0 A 0 0 _ (Cx.set_eq _ _ _) (Nat.le_refl _) fun _ => ⟨A, 0, rfl, Nat.le_refl _, rfl, fun h => by omega⟩⟩
    · obtain ⟨arr, cap, r1, r2, r3, r4⟩ := grow A [] 0 ex ⟨A, 0, fun _ => undef, ex, Nat.le_refl _, fun h => by simp at h, fun j x hx => by simp at hx⟩ (by simp; omega) (by simpa using h1)
      simp only [List.nil_append] at r1 r2 r3
      obtain ⟨c', k1, k2, k3⟩ := hm.rowNew (newId k 0) 0 rfl r2 r3 r4 (fun i hi => by rw [hm.inf_none hk] at hi; cases hi) (e := e)
      exact ⟨_, _, c', .inl r1, k1, k2, k3⟩
  case own q v =>
    split at h
    case h_2 => exact (run_fail h).elim
    rename_i v' t' xs hq
    split at h
    case h_2 => exact (run_fail h).elim
    rename_i hv
    have hv := beq_true hv
    subst hv
    obtain ⟨zs, hzs', h2⟩ := run_opt h
    clear h
    obtain ⟨et, ezs⟩ := castR_eq hzs'
    simp only at et
    subst et
    simp only at ezs
    subst ezs
    obtain ⟨h1, h3⟩ := run_grd h2
    clear h2
    have h1 : xs.length + ys.length ≤ room by_ := by simpa using h1
    have hd := run_ret h3
    subst hd
    obtain ⟨ii, p, k1, k2, k3, k4, k5, k6, A, cp, ex, k7, k8, k9⟩ := own_head hm (.inl hq) ha
    have hver : ∀ j, c.inf q = some j → j.ver < v' + 1 := fun j hj => by rw [k1] at hj; cases hj; omega
    by_cases h0 : ys.length = 0
    · have hys : ys = [] := List.length_eq_zero_iff.1 h0
      obtain ⟨i2, m1, m2, m3, m4, m5, m6⟩ := hm.obj q _ hq
      rw [k1] at m1
      cases m1
      obtain ⟨r1, r2⟩ := hm.put q (.row (v' + 1) t' (xs ++ ys)) { ii with ver := v' + 1 } w rfl rfl rfl (Nat.le_refl _) (fun _ _ _ => rfl) (fun j hj => by have := hver j hj; exact ⟨by show j.ver ≤ v' + 1; omega, fun e => by have e' : v' + 1 = j.ver := e; omega⟩)
        (fun ext => ⟨_, Cx.set_eq _ _ _, rfl, by simp [hys, k3], k4, by simpa [hys] using k5, by
          rw [hys, List.append_nil]
          have := m6.ext ext (fun b hb _ => ⟨rfl, Iff.rfl⟩)
          exact this⟩) (fun b _ hb => .inl ⟨_, ii, hq, rfl, k1, hb⟩)
      refine ⟨_, _, _, .inl (nothing A _ cp ex k7 h0), r1, r2, ?_⟩
      rw [ex]
      exact .own q (v' + 1) A _ cp _ (Cx.set_eq _ _ _) (Nat.le_refl _) fun _ => ⟨A, cp, by simp [k3], by simpa [k3] using k7, k8, fun h => k9 h⟩
    · by_cases hfit : xs.length + ys.length ≤ cp
      · obtain ⟨b, hb, rfl⟩ := k9 (by omega)
        obtain ⟨i2, m1, m2, m3, m4, m5, m6⟩ := hm.obj q _ hq
        rw [k1] at m1
        cases m1
        rcases m6 with ⟨m6, _⟩ | ⟨b', arr, el, n1, n2, n3, n4, n5⟩
        · rw [hb] at m6; cases m6
        rw [hb] at n1
        cases n1
        rw [Nat.zero_mul, Nat.add_zero] at ex
        have hcap : cp = ii.cap := by omega
        have hnl := hsrc.newsLen
        have hfa : ii.off + xs.length * t'.sz + news.length ≤ arr.size := by
          have h9 := Nat.mul_le_mul_right t'.sz (show xs.length + ys.length ≤ ii.cap by omega)
          rw [Nat.add_mul] at h9
          omega
        have hr := run_append_room_src (P := P) w t tx o.type e i ht hi b ii.off xs.length cp (ρ y) ys.length news hsrc' hfit (fun j hj => by rw [cell_in n2 (by rw [hsz]; omega)]; rfl) (fun j hj => by simp [World.frozen?, n2])
        rw [hsz, setCells_spl n2 hfa hsrc.one] at hr
        obtain ⟨r1, r2⟩ := hm.put q (.row (v' + 1) t' (xs ++ ys)) { ii with ver := v' + 1, len := xs.length + ys.length } (w.setRow b (spl arr (ii.off + xs.length * t'.sz) news)) rfl rfl rfl (by rw [setRow_size]; exact Nat.le_refl _)
          (fun b2 hb2 hB => setRow_other w b _ fun e => hB ⟨_, ii, hq, rfl, k1, by rw [e]; exact hb⟩) (fun j hj => by have := hver j hj; exact ⟨by show j.ver ≤ v' + 1; omega, fun e => by have e' : v' + 1 = j.ver := e; omega⟩)
          (fun ext => ⟨_, Cx.set_eq _ _ _, rfl, by simp, k4, by simp; omega, .inr ⟨b, _, el, hb, setRow_heap w b arr _ el (0, 0) n2, by rw [spl_size hfa]; exact n3, by
            intro j x hx qq y hy
            have hqq : qq < t'.sz := by rw [← view_len t' x]; exact (List.getElem?_eq_some_iff.1 hy).1
            rw [spl_get hfa]
            rw [List.getElem?_append] at hx
            split at hx
            · rename_i hj
              have h9 := Nat.mul_le_mul_right t'.sz (show j + 1 ≤ xs.length from hj)
              rw [Nat.add_mul, Nat.one_mul] at h9
              rw [if_neg (by show ¬ (ii.off + xs.length * t'.sz ≤ ii.off + (j * t'.sz + qq) ∧ _); omega)]
              exact ⟨(n4 j x hx qq y hy).1.ext ext, (n4 j x hx qq y hy).2⟩
            · rename_i hj
              have hjl : j - xs.length < ys.length := (List.getElem?_eq_some_iff.1 hx).1
              have h9 := Nat.mul_le_mul_right t'.sz (show j - xs.length + 1 ≤ ys.length from hjl)
              rw [Nat.add_mul, Nat.one_mul] at h9
              have h8 := Nat.mul_le_mul_right t'.sz (show xs.length ≤ j by omega)
              have hsub : ii.off + (j * t'.sz + qq) - (ii.off + xs.length * t'.sz) = (j - xs.length) * t'.sz + qq := by
                rw [Nat.sub_mul]
                omega
              have h7 : (j - xs.length) * t'.sz = j * t'.sz - xs.length * t'.sz := Nat.sub_mul _ _ _
              rw [if_pos (by show ii.off + xs.length * t'.sz ≤ ii.off + (j * t'.sz + qq) ∧ ii.off + (j * t'.sz + qq) < _; omega)]
              show V _ _ y (news.getD (ii.off + (j * t'.sz + qq) - (ii.off + xs.length * t'.sz)) undef) ∧ (news.getD (ii.off + (j * t'.sz + qq) - (ii.off + xs.length * t'.sz)) undef).oneCell' = true
              rw [hsub]
              have hlt : (j - xs.length) * t'.sz + qq < news.length := by omega
              refine ⟨(hnews _ x hx qq y hy).ext ext, hsrc.one _ ?_⟩
              rw [List.getD_eq_getElem?_getD, List.getElem?_eq_getElem hlt]
              exact List.getElem_mem hlt, n5⟩⟩)
          (fun b2 _ hb2 => .inl ⟨_, ii, hq, rfl, k1, hb2⟩)
        refine ⟨_, _, _, .inl (hrun _ _ (by rw [ex]; exact hr)), r1, r2, ?_⟩
        exact .own q (v' + 1) _ _ cp _ (Cx.set_eq _ _ _) (Nat.le_refl _) fun _ => ⟨_, cp, rfl, hfit, by omega, fun _ => ⟨b, hb, by simp⟩⟩
      · obtain ⟨arr, cap, r1, r2, r3, r4⟩ := grow A xs cp ex (by
          have := Rd.ofRow k3 k4 k6 (lo := 0) (n := xs.length) (by omega) ⟨A, cp, ex, k7, k8, k9⟩
          simpa using this) (by omega) h1
        obtain ⟨c', m1, m2, m3⟩ := hm.rowNew q (v' + 1) rfl r2 r3 r4 hver (e := e)
        exact ⟨_, _, c', .inl r1, m1, m2, m3⟩
  all_goals exact (run_fail h).elim
end
end Go.Proofs.Ytohfaccniialmaa.Am
